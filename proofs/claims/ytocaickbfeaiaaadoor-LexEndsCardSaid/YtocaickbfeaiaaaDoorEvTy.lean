/-
  EV: the sizes of the translation's types (written by a program).
-/
import Derived.Test.YtocaickbfeaiaaaDoorEvSym
import Derived.Test.YtocaickbfeaiaaaDoorRows
namespace Go.Proofs.YtocaickbfeaiaaaDoor
@[simp] theorem szOf_1 : szOf Tryd.prog 1 = some 1 := by kernel_rfl
@[simp] theorem bytesOf_1 : bytesOf Tryd.prog 1 = some 8 := by kernel_rfl
@[simp] theorem zeroOf_1 : ((Tryd.prog.info? 1).bind fun x => x.zero) = some .nilFunc := by kernel_rfl
@[simp] theorem szOf_2 : szOf Tryd.prog 2 = some 1 := by kernel_rfl
@[simp] theorem bytesOf_2 : bytesOf Tryd.prog 2 = some 8 := by kernel_rfl
@[simp] theorem zeroOf_2 : ((Tryd.prog.info? 2).bind fun x => x.zero) = some (.int .i64 0) := by kernel_rfl
@[simp] theorem szOf_3 : szOf Tryd.prog 3 = some 1 := by kernel_rfl
@[simp] theorem bytesOf_3 : bytesOf Tryd.prog 3 = some 8 := by kernel_rfl
@[simp] theorem zeroOf_3 : ((Tryd.prog.info? 3).bind fun x => x.zero) = some (.int .i64 0) := by kernel_rfl
@[simp] theorem szOf_4 : szOf Tryd.prog 4 = some 1 := by kernel_rfl
@[simp] theorem bytesOf_4 : bytesOf Tryd.prog 4 = some 1 := by kernel_rfl
@[simp] theorem zeroOf_4 : ((Tryd.prog.info? 4).bind fun x => x.zero) = some (.bool false) := by kernel_rfl
@[simp] theorem szOf_5 : szOf Tryd.prog 5 = some 1 := by kernel_rfl
@[simp] theorem bytesOf_5 : bytesOf Tryd.prog 5 = some 1 := by kernel_rfl
@[simp] theorem zeroOf_5 : ((Tryd.prog.info? 5).bind fun x => x.zero) = some (.int .u8 0) := by kernel_rfl
@[simp] theorem szOf_6 : szOf Tryd.prog 6 = some 1 := by kernel_rfl
@[simp] theorem bytesOf_6 : bytesOf Tryd.prog 6 = some 1 := by kernel_rfl
@[simp] theorem zeroOf_6 : ((Tryd.prog.info? 6).bind fun x => x.zero) = some (.int .u8 0) := by kernel_rfl
@[simp] theorem szOf_7 : szOf Tryd.prog 7 = some 4 := by kernel_rfl
@[simp] theorem bytesOf_7 : bytesOf Tryd.prog 7 = some 24 := by kernel_rfl
@[simp] theorem zeroOf_7 : ((Tryd.prog.info? 7).bind fun x => x.zero) = some (.agg #[(.int .i64 0), (.int .i64 0), (.bool false), (.int .u8 0)]) := by kernel_rfl
@[simp] theorem szOf_8 : szOf Tryd.prog 8 = some 4 := by kernel_rfl
@[simp] theorem bytesOf_8 : bytesOf Tryd.prog 8 = some 24 := by kernel_rfl
@[simp] theorem zeroOf_8 : ((Tryd.prog.info? 8).bind fun x => x.zero) = some (.agg #[(.int .i64 0), (.int .i64 0), (.bool false), (.int .u8 0)]) := by kernel_rfl
@[simp] theorem szOf_9 : szOf Tryd.prog 9 = some 1 := by kernel_rfl
@[simp] theorem bytesOf_9 : bytesOf Tryd.prog 9 = some 16 := by kernel_rfl
@[simp] theorem zeroOf_9 : ((Tryd.prog.info? 9).bind fun x => x.zero) = some (.string ⟨#[]⟩) := by kernel_rfl
@[simp] theorem szOf_10 : szOf Tryd.prog 10 = some 1 := by kernel_rfl
@[simp] theorem bytesOf_10 : bytesOf Tryd.prog 10 = some 16 := by kernel_rfl
@[simp] theorem zeroOf_10 : ((Tryd.prog.info? 10).bind fun x => x.zero) = some (.string ⟨#[]⟩) := by kernel_rfl
@[simp] theorem szOf_11 : szOf Tryd.prog 11 = some 1 := by kernel_rfl
@[simp] theorem bytesOf_11 : bytesOf Tryd.prog 11 = some 16 := by kernel_rfl
@[simp] theorem zeroOf_11 : ((Tryd.prog.info? 11).bind fun x => x.zero) = some (.string ⟨#[]⟩) := by kernel_rfl
@[simp] theorem szOf_12 : szOf Tryd.prog 12 = some 1 := by kernel_rfl
@[simp] theorem bytesOf_12 : bytesOf Tryd.prog 12 = some 8 := by kernel_rfl
@[simp] theorem zeroOf_12 : ((Tryd.prog.info? 12).bind fun x => x.zero) = some (.int .u64 0) := by kernel_rfl
@[simp] theorem szOf_13 : szOf Tryd.prog 13 = some 2 := by kernel_rfl
@[simp] theorem bytesOf_13 : bytesOf Tryd.prog 13 = some 24 := by kernel_rfl
@[simp] theorem zeroOf_13 : ((Tryd.prog.info? 13).bind fun x => x.zero) = some (.agg #[(.string ⟨#[]⟩), (.int .u64 0)]) := by kernel_rfl
@[simp] theorem szOf_14 : szOf Tryd.prog 14 = some 2 := by kernel_rfl
@[simp] theorem bytesOf_14 : bytesOf Tryd.prog 14 = some 24 := by kernel_rfl
@[simp] theorem zeroOf_14 : ((Tryd.prog.info? 14).bind fun x => x.zero) = some (.agg #[(.string ⟨#[]⟩), (.int .u64 0)]) := by kernel_rfl
@[simp] theorem szOf_15 : szOf Tryd.prog 15 = some 1 := by kernel_rfl
@[simp] theorem bytesOf_15 : bytesOf Tryd.prog 15 = some 8 := by kernel_rfl
@[simp] theorem zeroOf_15 : ((Tryd.prog.info? 15).bind fun x => x.zero) = some (.pointer none) := by kernel_rfl
@[simp] theorem szOf_16 : szOf Tryd.prog 16 = some 1 := by kernel_rfl
@[simp] theorem bytesOf_16 : bytesOf Tryd.prog 16 = some 8 := by kernel_rfl
@[simp] theorem zeroOf_16 : ((Tryd.prog.info? 16).bind fun x => x.zero) = some (.pointer none) := by kernel_rfl
@[simp] theorem szOf_17 : szOf Tryd.prog 17 = some 1 := by kernel_rfl
@[simp] theorem bytesOf_17 : bytesOf Tryd.prog 17 = some 8 := by kernel_rfl
@[simp] theorem zeroOf_17 : ((Tryd.prog.info? 17).bind fun x => x.zero) = some (.pointer none) := by kernel_rfl
@[simp] theorem szOf_18 : szOf Tryd.prog 18 = some 1 := by kernel_rfl
@[simp] theorem bytesOf_18 : bytesOf Tryd.prog 18 = some 8 := by kernel_rfl
@[simp] theorem zeroOf_18 : ((Tryd.prog.info? 18).bind fun x => x.zero) = some (.agg #[(.pointer none)]) := by kernel_rfl
@[simp] theorem szOf_19 : szOf Tryd.prog 19 = some 1 := by kernel_rfl
@[simp] theorem bytesOf_19 : bytesOf Tryd.prog 19 = some 8 := by kernel_rfl
@[simp] theorem zeroOf_19 : ((Tryd.prog.info? 19).bind fun x => x.zero) = some (.agg #[(.pointer none)]) := by kernel_rfl
@[simp] theorem szOf_20 : szOf Tryd.prog 20 = some 1 := by kernel_rfl
@[simp] theorem bytesOf_20 : bytesOf Tryd.prog 20 = some 16 := by kernel_rfl
@[simp] theorem zeroOf_20 : ((Tryd.prog.info? 20).bind fun x => x.zero) = some .nilIface := by kernel_rfl
@[simp] theorem szOf_21 : szOf Tryd.prog 21 = some 1 := by kernel_rfl
@[simp] theorem bytesOf_21 : bytesOf Tryd.prog 21 = some 4 := by kernel_rfl
@[simp] theorem zeroOf_21 : ((Tryd.prog.info? 21).bind fun x => x.zero) = some (.int .i32 0) := by kernel_rfl
@[simp] theorem szOf_22 : szOf Tryd.prog 22 = some 1 := by kernel_rfl
@[simp] theorem bytesOf_22 : bytesOf Tryd.prog 22 = some 24 := by kernel_rfl
@[simp] theorem zeroOf_22 : ((Tryd.prog.info? 22).bind fun x => x.zero) = some (.slice none 0 0) := by kernel_rfl
@[simp] theorem szOf_23 : szOf Tryd.prog 23 = some 1 := by kernel_rfl
@[simp] theorem bytesOf_23 : bytesOf Tryd.prog 23 = some 8 := by kernel_rfl
@[simp] theorem zeroOf_23 : ((Tryd.prog.info? 23).bind fun x => x.zero) = some .nilFunc := by kernel_rfl
@[simp] theorem szOf_24 : szOf Tryd.prog 24 = some 1 := by kernel_rfl
@[simp] theorem bytesOf_24 : bytesOf Tryd.prog 24 = some 8 := by kernel_rfl
@[simp] theorem zeroOf_24 : ((Tryd.prog.info? 24).bind fun x => x.zero) = some .nilFunc := by kernel_rfl
@[simp] theorem szOf_25 : szOf Tryd.prog 25 = some 1 := by kernel_rfl
@[simp] theorem bytesOf_25 : bytesOf Tryd.prog 25 = some 24 := by kernel_rfl
@[simp] theorem zeroOf_25 : ((Tryd.prog.info? 25).bind fun x => x.zero) = some (.slice none 0 0) := by kernel_rfl
@[simp] theorem szOf_26 : szOf Tryd.prog 26 = some 1 := by kernel_rfl
@[simp] theorem bytesOf_26 : bytesOf Tryd.prog 26 = some 8 := by kernel_rfl
@[simp] theorem zeroOf_26 : ((Tryd.prog.info? 26).bind fun x => x.zero) = some .nilFunc := by kernel_rfl
@[simp] theorem szOf_27 : szOf Tryd.prog 27 = some 1 := by kernel_rfl
@[simp] theorem bytesOf_27 : bytesOf Tryd.prog 27 = some 24 := by kernel_rfl
@[simp] theorem zeroOf_27 : ((Tryd.prog.info? 27).bind fun x => x.zero) = some (.slice none 0 0) := by kernel_rfl
@[simp] theorem szOf_28 : szOf Tryd.prog 28 = some 1 := by kernel_rfl
@[simp] theorem bytesOf_28 : bytesOf Tryd.prog 28 = some 8 := by kernel_rfl
@[simp] theorem zeroOf_28 : ((Tryd.prog.info? 28).bind fun x => x.zero) = some (.int .i64 0) := by kernel_rfl
@[simp] theorem szOf_30 : szOf Tryd.prog 30 = some 1 := by kernel_rfl
@[simp] theorem bytesOf_30 : bytesOf Tryd.prog 30 = some 8 := by kernel_rfl
@[simp] theorem zeroOf_30 : ((Tryd.prog.info? 30).bind fun x => x.zero) = some .nilFunc := by kernel_rfl
@[simp] theorem szOf_31 : szOf Tryd.prog 31 = some 1 := by kernel_rfl
@[simp] theorem bytesOf_31 : bytesOf Tryd.prog 31 = some 8 := by kernel_rfl
@[simp] theorem zeroOf_31 : ((Tryd.prog.info? 31).bind fun x => x.zero) = some .nilFunc := by kernel_rfl
@[simp] theorem szOf_32 : szOf Tryd.prog 32 = some 1 := by kernel_rfl
@[simp] theorem bytesOf_32 : bytesOf Tryd.prog 32 = some 8 := by kernel_rfl
@[simp] theorem zeroOf_32 : ((Tryd.prog.info? 32).bind fun x => x.zero) = some .nilFunc := by kernel_rfl
@[simp] theorem szOf_33 : szOf Tryd.prog 33 = some 1 := by kernel_rfl
@[simp] theorem bytesOf_33 : bytesOf Tryd.prog 33 = some 8 := by kernel_rfl
@[simp] theorem zeroOf_33 : ((Tryd.prog.info? 33).bind fun x => x.zero) = some .nilFunc := by kernel_rfl
@[simp] theorem szOf_34 : szOf Tryd.prog 34 = some 4 := by kernel_rfl
@[simp] theorem bytesOf_34 : bytesOf Tryd.prog 34 = some 56 := by kernel_rfl
@[simp] theorem zeroOf_34 : ((Tryd.prog.info? 34).bind fun x => x.zero) = some (.agg #[(.string ⟨#[]⟩), (.slice none 0 0), (.bool false), (.int .i64 0)]) := by kernel_rfl
@[simp] theorem szOf_35 : szOf Tryd.prog 35 = some 4 := by kernel_rfl
@[simp] theorem bytesOf_35 : bytesOf Tryd.prog 35 = some 56 := by kernel_rfl
@[simp] theorem zeroOf_35 : ((Tryd.prog.info? 35).bind fun x => x.zero) = some (.agg #[(.string ⟨#[]⟩), (.slice none 0 0), (.bool false), (.int .i64 0)]) := by kernel_rfl
@[simp] theorem szOf_36 : szOf Tryd.prog 36 = some 1 := by kernel_rfl
@[simp] theorem bytesOf_36 : bytesOf Tryd.prog 36 = some 8 := by kernel_rfl
@[simp] theorem zeroOf_36 : ((Tryd.prog.info? 36).bind fun x => x.zero) = some .nilFunc := by kernel_rfl
@[simp] theorem szOf_37 : szOf Tryd.prog 37 = some 1 := by kernel_rfl
@[simp] theorem bytesOf_37 : bytesOf Tryd.prog 37 = some 24 := by kernel_rfl
@[simp] theorem zeroOf_37 : ((Tryd.prog.info? 37).bind fun x => x.zero) = some (.slice none 0 0) := by kernel_rfl
@[simp] theorem szOf_39 : szOf Tryd.prog 39 = some 1 := by kernel_rfl
@[simp] theorem bytesOf_39 : bytesOf Tryd.prog 39 = some 8 := by kernel_rfl
@[simp] theorem zeroOf_39 : ((Tryd.prog.info? 39).bind fun x => x.zero) = some .nilFunc := by kernel_rfl
@[simp] theorem szOf_40 : szOf Tryd.prog 40 = some 1 := by kernel_rfl
@[simp] theorem bytesOf_40 : bytesOf Tryd.prog 40 = some 8 := by kernel_rfl
@[simp] theorem zeroOf_40 : ((Tryd.prog.info? 40).bind fun x => x.zero) = some .nilFunc := by kernel_rfl
@[simp] theorem szOf_41 : szOf Tryd.prog 41 = some 1 := by kernel_rfl
@[simp] theorem bytesOf_41 : bytesOf Tryd.prog 41 = some 8 := by kernel_rfl
@[simp] theorem zeroOf_41 : ((Tryd.prog.info? 41).bind fun x => x.zero) = some .nilFunc := by kernel_rfl
@[simp] theorem szOf_42 : szOf Tryd.prog 42 = some 1 := by kernel_rfl
@[simp] theorem bytesOf_42 : bytesOf Tryd.prog 42 = some 8 := by kernel_rfl
@[simp] theorem zeroOf_42 : ((Tryd.prog.info? 42).bind fun x => x.zero) = some (.pointer none) := by kernel_rfl
@[simp] theorem szOf_43 : szOf Tryd.prog 43 = some 2 := by kernel_rfl
@[simp] theorem bytesOf_43 : bytesOf Tryd.prog 43 = some 32 := by kernel_rfl
@[simp] theorem zeroOf_43 : ((Tryd.prog.info? 43).bind fun x => x.zero) = some (.agg #[(.pointer none), (.slice none 0 0)]) := by kernel_rfl
@[simp] theorem szOf_44 : szOf Tryd.prog 44 = some 2 := by kernel_rfl
@[simp] theorem bytesOf_44 : bytesOf Tryd.prog 44 = some 32 := by kernel_rfl
@[simp] theorem zeroOf_44 : ((Tryd.prog.info? 44).bind fun x => x.zero) = some (.agg #[(.pointer none), (.slice none 0 0)]) := by kernel_rfl
@[simp] theorem szOf_45 : szOf Tryd.prog 45 = some 1 := by kernel_rfl
@[simp] theorem bytesOf_45 : bytesOf Tryd.prog 45 = some 8 := by kernel_rfl
@[simp] theorem zeroOf_45 : ((Tryd.prog.info? 45).bind fun x => x.zero) = some .nilFunc := by kernel_rfl
@[simp] theorem szOf_46 : szOf Tryd.prog 46 = some 1 := by kernel_rfl
@[simp] theorem bytesOf_46 : bytesOf Tryd.prog 46 = some 16 := by kernel_rfl
@[simp] theorem zeroOf_46 : ((Tryd.prog.info? 46).bind fun x => x.zero) = some .nilIface := by kernel_rfl
@[simp] theorem szOf_47 : szOf Tryd.prog 47 = some 1 := by kernel_rfl
@[simp] theorem bytesOf_47 : bytesOf Tryd.prog 47 = some 16 := by kernel_rfl
@[simp] theorem zeroOf_47 : ((Tryd.prog.info? 47).bind fun x => x.zero) = some .nilIface := by kernel_rfl
@[simp] theorem szOf_49 : szOf Tryd.prog 49 = some 1 := by kernel_rfl
@[simp] theorem bytesOf_49 : bytesOf Tryd.prog 49 = some 8 := by kernel_rfl
@[simp] theorem zeroOf_49 : ((Tryd.prog.info? 49).bind fun x => x.zero) = some .nilFunc := by kernel_rfl
@[simp] theorem szOf_51 : szOf Tryd.prog 51 = some 1 := by kernel_rfl
@[simp] theorem bytesOf_51 : bytesOf Tryd.prog 51 = some 8 := by kernel_rfl
@[simp] theorem zeroOf_51 : ((Tryd.prog.info? 51).bind fun x => x.zero) = some .nilFunc := by kernel_rfl
@[simp] theorem szOf_52 : szOf Tryd.prog 52 = some 1 := by kernel_rfl
@[simp] theorem bytesOf_52 : bytesOf Tryd.prog 52 = some 8 := by kernel_rfl
@[simp] theorem zeroOf_52 : ((Tryd.prog.info? 52).bind fun x => x.zero) = some .nilFunc := by kernel_rfl
@[simp] theorem szOf_53 : szOf Tryd.prog 53 = some 1 := by kernel_rfl
@[simp] theorem bytesOf_53 : bytesOf Tryd.prog 53 = some 8 := by kernel_rfl
@[simp] theorem zeroOf_53 : ((Tryd.prog.info? 53).bind fun x => x.zero) = some (.int .u64 0) := by kernel_rfl
@[simp] theorem szOf_55 : szOf Tryd.prog 55 = some 1 := by kernel_rfl
@[simp] theorem bytesOf_55 : bytesOf Tryd.prog 55 = some 8 := by kernel_rfl
@[simp] theorem zeroOf_55 : ((Tryd.prog.info? 55).bind fun x => x.zero) = some .nilFunc := by kernel_rfl
@[simp] theorem szOf_56 : szOf Tryd.prog 56 = some 1 := by kernel_rfl
@[simp] theorem bytesOf_56 : bytesOf Tryd.prog 56 = some 8 := by kernel_rfl
@[simp] theorem zeroOf_56 : ((Tryd.prog.info? 56).bind fun x => x.zero) = some .nilFunc := by kernel_rfl
@[simp] theorem szOf_57 : szOf Tryd.prog 57 = some 1 := by kernel_rfl
@[simp] theorem bytesOf_57 : bytesOf Tryd.prog 57 = some 8 := by kernel_rfl
@[simp] theorem zeroOf_57 : ((Tryd.prog.info? 57).bind fun x => x.zero) = some .nilFunc := by kernel_rfl
@[simp] theorem szOf_58 : szOf Tryd.prog 58 = some 2 := by kernel_rfl
@[simp] theorem bytesOf_58 : bytesOf Tryd.prog 58 = some 16 := by kernel_rfl
@[simp] theorem zeroOf_58 : ((Tryd.prog.info? 58).bind fun x => x.zero) = some (.agg #[(.int .i64 0), (.int .i64 0)]) := by kernel_rfl
@[simp] theorem szOf_59 : szOf Tryd.prog 59 = some 2 := by kernel_rfl
@[simp] theorem bytesOf_59 : bytesOf Tryd.prog 59 = some 16 := by kernel_rfl
@[simp] theorem zeroOf_59 : ((Tryd.prog.info? 59).bind fun x => x.zero) = some (.agg #[(.int .i64 0), (.int .i64 0)]) := by kernel_rfl
@[simp] theorem szOf_61 : szOf Tryd.prog 61 = some 1 := by kernel_rfl
@[simp] theorem bytesOf_61 : bytesOf Tryd.prog 61 = some 8 := by kernel_rfl
@[simp] theorem zeroOf_61 : ((Tryd.prog.info? 61).bind fun x => x.zero) = some (.pointer none) := by kernel_rfl
@[simp] theorem szOf_62 : szOf Tryd.prog 62 = some 2 := by kernel_rfl
@[simp] theorem bytesOf_62 : bytesOf Tryd.prog 62 = some 24 := by kernel_rfl
@[simp] theorem zeroOf_62 : ((Tryd.prog.info? 62).bind fun x => x.zero) = some (.agg #[(.string ⟨#[]⟩), (.int .i64 0)]) := by kernel_rfl
@[simp] theorem szOf_63 : szOf Tryd.prog 63 = some 2 := by kernel_rfl
@[simp] theorem bytesOf_63 : bytesOf Tryd.prog 63 = some 24 := by kernel_rfl
@[simp] theorem zeroOf_63 : ((Tryd.prog.info? 63).bind fun x => x.zero) = some (.agg #[(.string ⟨#[]⟩), (.int .i64 0)]) := by kernel_rfl
@[simp] theorem szOf_64 : szOf Tryd.prog 64 = some 3 := by kernel_rfl
@[simp] theorem bytesOf_64 : bytesOf Tryd.prog 64 = some 32 := by kernel_rfl
@[simp] theorem zeroOf_64 : ((Tryd.prog.info? 64).bind fun x => x.zero) = some (.agg #[(.string ⟨#[]⟩), (.int .i64 0), (.int .i64 0)]) := by kernel_rfl
@[simp] theorem szOf_65 : szOf Tryd.prog 65 = some 3 := by kernel_rfl
@[simp] theorem bytesOf_65 : bytesOf Tryd.prog 65 = some 32 := by kernel_rfl
@[simp] theorem zeroOf_65 : ((Tryd.prog.info? 65).bind fun x => x.zero) = some (.agg #[(.string ⟨#[]⟩), (.int .i64 0), (.int .i64 0)]) := by kernel_rfl
@[simp] theorem szOf_66 : szOf Tryd.prog 66 = some 1 := by kernel_rfl
@[simp] theorem bytesOf_66 : bytesOf Tryd.prog 66 = some 8 := by kernel_rfl
@[simp] theorem zeroOf_66 : ((Tryd.prog.info? 66).bind fun x => x.zero) = some .nilFunc := by kernel_rfl
@[simp] theorem szOf_67 : szOf Tryd.prog 67 = some 1 := by kernel_rfl
@[simp] theorem bytesOf_67 : bytesOf Tryd.prog 67 = some 8 := by kernel_rfl
@[simp] theorem zeroOf_67 : ((Tryd.prog.info? 67).bind fun x => x.zero) = some .nilFunc := by kernel_rfl
@[simp] theorem szOf_68 : szOf Tryd.prog 68 = some 2 := by kernel_rfl
@[simp] theorem bytesOf_68 : bytesOf Tryd.prog 68 = some 32 := by kernel_rfl
@[simp] theorem zeroOf_68 : ((Tryd.prog.info? 68).bind fun x => x.zero) = some (.agg #[(.pointer none), (.slice none 0 0)]) := by kernel_rfl
@[simp] theorem szOf_69 : szOf Tryd.prog 69 = some 2 := by kernel_rfl
@[simp] theorem bytesOf_69 : bytesOf Tryd.prog 69 = some 32 := by kernel_rfl
@[simp] theorem zeroOf_69 : ((Tryd.prog.info? 69).bind fun x => x.zero) = some (.agg #[(.pointer none), (.slice none 0 0)]) := by kernel_rfl
@[simp] theorem szOf_70 : szOf Tryd.prog 70 = some 1 := by kernel_rfl
@[simp] theorem bytesOf_70 : bytesOf Tryd.prog 70 = some 8 := by kernel_rfl
@[simp] theorem zeroOf_70 : ((Tryd.prog.info? 70).bind fun x => x.zero) = some .nilFunc := by kernel_rfl
@[simp] theorem szOf_71 : szOf Tryd.prog 71 = some 1 := by kernel_rfl
@[simp] theorem bytesOf_71 : bytesOf Tryd.prog 71 = some 8 := by kernel_rfl
@[simp] theorem zeroOf_71 : ((Tryd.prog.info? 71).bind fun x => x.zero) = some .nilFunc := by kernel_rfl
@[simp] theorem szOf_72 : szOf Tryd.prog 72 = some 1 := by kernel_rfl
@[simp] theorem bytesOf_72 : bytesOf Tryd.prog 72 = some 8 := by kernel_rfl
@[simp] theorem zeroOf_72 : ((Tryd.prog.info? 72).bind fun x => x.zero) = some .nilFunc := by kernel_rfl
@[simp] theorem szOf_73 : szOf Tryd.prog 73 = some 1 := by kernel_rfl
@[simp] theorem bytesOf_73 : bytesOf Tryd.prog 73 = some 8 := by kernel_rfl
@[simp] theorem zeroOf_73 : ((Tryd.prog.info? 73).bind fun x => x.zero) = some .nilFunc := by kernel_rfl
@[simp] theorem szOf_74 : szOf Tryd.prog 74 = some 1 := by kernel_rfl
@[simp] theorem bytesOf_74 : bytesOf Tryd.prog 74 = some 8 := by kernel_rfl
@[simp] theorem zeroOf_74 : ((Tryd.prog.info? 74).bind fun x => x.zero) = some .nilFunc := by kernel_rfl
@[simp] theorem szOf_75 : szOf Tryd.prog 75 = some 1 := by kernel_rfl
@[simp] theorem bytesOf_75 : bytesOf Tryd.prog 75 = some 8 := by kernel_rfl
@[simp] theorem zeroOf_75 : ((Tryd.prog.info? 75).bind fun x => x.zero) = some (.pointer none) := by kernel_rfl
@[simp] theorem szOf_76 : szOf Tryd.prog 76 = some 1 := by kernel_rfl
@[simp] theorem bytesOf_76 : bytesOf Tryd.prog 76 = some 24 := by kernel_rfl
@[simp] theorem zeroOf_76 : ((Tryd.prog.info? 76).bind fun x => x.zero) = some (.slice none 0 0) := by kernel_rfl
@[simp] theorem szOf_77 : szOf Tryd.prog 77 = some 1 := by kernel_rfl
@[simp] theorem bytesOf_77 : bytesOf Tryd.prog 77 = some 24 := by kernel_rfl
@[simp] theorem zeroOf_77 : ((Tryd.prog.info? 77).bind fun x => x.zero) = some (.slice none 0 0) := by kernel_rfl
@[simp] theorem szOf_78 : szOf Tryd.prog 78 = some 2 := by kernel_rfl
@[simp] theorem bytesOf_78 : bytesOf Tryd.prog 78 = some 48 := by kernel_rfl
@[simp] theorem zeroOf_78 : ((Tryd.prog.info? 78).bind fun x => x.zero) = some (.agg #[(.slice none 0 0), (.slice none 0 0)]) := by kernel_rfl
@[simp] theorem szOf_79 : szOf Tryd.prog 79 = some 2 := by kernel_rfl
@[simp] theorem bytesOf_79 : bytesOf Tryd.prog 79 = some 48 := by kernel_rfl
@[simp] theorem zeroOf_79 : ((Tryd.prog.info? 79).bind fun x => x.zero) = some (.agg #[(.slice none 0 0), (.slice none 0 0)]) := by kernel_rfl
@[simp] theorem szOf_80 : szOf Tryd.prog 80 = some 1 := by kernel_rfl
@[simp] theorem bytesOf_80 : bytesOf Tryd.prog 80 = some 8 := by kernel_rfl
@[simp] theorem zeroOf_80 : ((Tryd.prog.info? 80).bind fun x => x.zero) = some .nilFunc := by kernel_rfl
@[simp] theorem szOf_81 : szOf Tryd.prog 81 = some 1 := by kernel_rfl
@[simp] theorem bytesOf_81 : bytesOf Tryd.prog 81 = some 8 := by kernel_rfl
@[simp] theorem zeroOf_81 : ((Tryd.prog.info? 81).bind fun x => x.zero) = some .nilFunc := by kernel_rfl
@[simp] theorem szOf_82 : szOf Tryd.prog 82 = some 4 := by kernel_rfl
@[simp] theorem bytesOf_82 : bytesOf Tryd.prog 82 = some 56 := by kernel_rfl
@[simp] theorem zeroOf_82 : ((Tryd.prog.info? 82).bind fun x => x.zero) = some (.agg #[(.string ⟨#[]⟩), (.slice none 0 0), (.bool false), (.int .i64 0)]) := by kernel_rfl
@[simp] theorem szOf_83 : szOf Tryd.prog 83 = some 4 := by kernel_rfl
@[simp] theorem bytesOf_83 : bytesOf Tryd.prog 83 = some 56 := by kernel_rfl
@[simp] theorem zeroOf_83 : ((Tryd.prog.info? 83).bind fun x => x.zero) = some (.agg #[(.string ⟨#[]⟩), (.slice none 0 0), (.bool false), (.int .i64 0)]) := by kernel_rfl
@[simp] theorem szOf_84 : szOf Tryd.prog 84 = some 1 := by kernel_rfl
@[simp] theorem bytesOf_84 : bytesOf Tryd.prog 84 = some 8 := by kernel_rfl
@[simp] theorem zeroOf_84 : ((Tryd.prog.info? 84).bind fun x => x.zero) = some .nilFunc := by kernel_rfl
@[simp] theorem szOf_85 : szOf Tryd.prog 85 = some 1 := by kernel_rfl
@[simp] theorem bytesOf_85 : bytesOf Tryd.prog 85 = some 8 := by kernel_rfl
@[simp] theorem zeroOf_85 : ((Tryd.prog.info? 85).bind fun x => x.zero) = some .nilFunc := by kernel_rfl
@[simp] theorem szOf_86 : szOf Tryd.prog 86 = some 1 := by kernel_rfl
@[simp] theorem bytesOf_86 : bytesOf Tryd.prog 86 = some 8 := by kernel_rfl
@[simp] theorem zeroOf_86 : ((Tryd.prog.info? 86).bind fun x => x.zero) = some (.pointer none) := by kernel_rfl
@[simp] theorem szOf_87 : szOf Tryd.prog 87 = some 1 := by kernel_rfl
@[simp] theorem bytesOf_87 : bytesOf Tryd.prog 87 = some 4 := by kernel_rfl
@[simp] theorem zeroOf_87 : ((Tryd.prog.info? 87).bind fun x => x.zero) = some (.int .u32 0) := by kernel_rfl
@[simp] theorem szOf_89 : szOf Tryd.prog 89 = some 1 := by kernel_rfl
@[simp] theorem bytesOf_89 : bytesOf Tryd.prog 89 = some 8 := by kernel_rfl
@[simp] theorem zeroOf_89 : ((Tryd.prog.info? 89).bind fun x => x.zero) = some .nilFunc := by kernel_rfl
@[simp] theorem szOf_90 : szOf Tryd.prog 90 = some 1 := by kernel_rfl
@[simp] theorem bytesOf_90 : bytesOf Tryd.prog 90 = some 8 := by kernel_rfl
@[simp] theorem zeroOf_90 : ((Tryd.prog.info? 90).bind fun x => x.zero) = some (.int .u64 0) := by kernel_rfl
@[simp] theorem szOf_92 : szOf Tryd.prog 92 = some 1 := by kernel_rfl
@[simp] theorem bytesOf_92 : bytesOf Tryd.prog 92 = some 8 := by kernel_rfl
@[simp] theorem zeroOf_92 : ((Tryd.prog.info? 92).bind fun x => x.zero) = some .nilFunc := by kernel_rfl
@[simp] theorem szOf_93 : szOf Tryd.prog 93 = some 1 := by kernel_rfl
@[simp] theorem bytesOf_93 : bytesOf Tryd.prog 93 = some 8 := by kernel_rfl
@[simp] theorem zeroOf_93 : ((Tryd.prog.info? 93).bind fun x => x.zero) = some .nilFunc := by kernel_rfl
@[simp] theorem szOf_94 : szOf Tryd.prog 94 = some 1 := by kernel_rfl
@[simp] theorem bytesOf_94 : bytesOf Tryd.prog 94 = some 8 := by kernel_rfl
@[simp] theorem zeroOf_94 : ((Tryd.prog.info? 94).bind fun x => x.zero) = some .nilFunc := by kernel_rfl
@[simp] theorem szOf_95 : szOf Tryd.prog 95 = some 1 := by kernel_rfl
@[simp] theorem bytesOf_95 : bytesOf Tryd.prog 95 = some 8 := by kernel_rfl
@[simp] theorem zeroOf_95 : ((Tryd.prog.info? 95).bind fun x => x.zero) = some (.pointer none) := by kernel_rfl
@[simp] theorem szOf_96 : szOf Tryd.prog 96 = some 1 := by kernel_rfl
@[simp] theorem bytesOf_96 : bytesOf Tryd.prog 96 = some 8 := by kernel_rfl
@[simp] theorem zeroOf_96 : ((Tryd.prog.info? 96).bind fun x => x.zero) = some (.pointer none) := by kernel_rfl
@[simp] theorem szOf_97 : szOf Tryd.prog 97 = some 1 := by kernel_rfl
@[simp] theorem bytesOf_97 : bytesOf Tryd.prog 97 = some 8 := by kernel_rfl
@[simp] theorem zeroOf_97 : ((Tryd.prog.info? 97).bind fun x => x.zero) = some .nilFunc := by kernel_rfl
@[simp] theorem szOf_98 : szOf Tryd.prog 98 = some 1 := by kernel_rfl
@[simp] theorem bytesOf_98 : bytesOf Tryd.prog 98 = some 8 := by kernel_rfl
@[simp] theorem zeroOf_98 : ((Tryd.prog.info? 98).bind fun x => x.zero) = some (.pointer none) := by kernel_rfl
@[simp] theorem szOf_99 : szOf Tryd.prog 99 = some 1 := by kernel_rfl
@[simp] theorem bytesOf_99 : bytesOf Tryd.prog 99 = some 8 := by kernel_rfl
@[simp] theorem zeroOf_99 : ((Tryd.prog.info? 99).bind fun x => x.zero) = some .nilFunc := by kernel_rfl
@[simp] theorem szOf_100 : szOf Tryd.prog 100 = some 1 := by kernel_rfl
@[simp] theorem bytesOf_100 : bytesOf Tryd.prog 100 = some 8 := by kernel_rfl
@[simp] theorem zeroOf_100 : ((Tryd.prog.info? 100).bind fun x => x.zero) = some .nilFunc := by kernel_rfl
@[simp] theorem szOf_101 : szOf Tryd.prog 101 = some 1 := by kernel_rfl
@[simp] theorem bytesOf_101 : bytesOf Tryd.prog 101 = some 8 := by kernel_rfl
@[simp] theorem zeroOf_101 : ((Tryd.prog.info? 101).bind fun x => x.zero) = some .nilFunc := by kernel_rfl
@[simp] theorem szOf_102 : szOf Tryd.prog 102 = some 256 := by kernel_rfl
@[simp] theorem bytesOf_102 : bytesOf Tryd.prog 102 = some 256 := by kernel_rfl
@[simp] theorem szOf_103 : szOf Tryd.prog 103 = some 2 := by kernel_rfl
@[simp] theorem bytesOf_103 : bytesOf Tryd.prog 103 = some 2 := by kernel_rfl
@[simp] theorem zeroOf_103 : ((Tryd.prog.info? 103).bind fun x => x.zero) = some (.agg #[(.int .u8 0), (.int .u8 0)]) := by kernel_rfl
@[simp] theorem szOf_104 : szOf Tryd.prog 104 = some 2 := by kernel_rfl
@[simp] theorem bytesOf_104 : bytesOf Tryd.prog 104 = some 2 := by kernel_rfl
@[simp] theorem zeroOf_104 : ((Tryd.prog.info? 104).bind fun x => x.zero) = some (.agg #[(.int .u8 0), (.int .u8 0)]) := by kernel_rfl
@[simp] theorem szOf_105 : szOf Tryd.prog 105 = some 32 := by kernel_rfl
@[simp] theorem bytesOf_105 : bytesOf Tryd.prog 105 = some 32 := by kernel_rfl
@[simp] theorem zeroOf_105 : ((Tryd.prog.info? 105).bind fun x => x.zero) = some (.agg #[(.int .u8 0), (.int .u8 0), (.int .u8 0), (.int .u8 0), (.int .u8 0), (.int .u8 0), (.int .u8 0), (.int .u8 0), (.int .u8 0), (.int .u8 0), (.int .u8 0), (.int .u8 0), (.int .u8 0), (.int .u8 0), (.int .u8 0), (.int .u8 0), (.int .u8 0), (.int .u8 0), (.int .u8 0), (.int .u8 0), (.int .u8 0), (.int .u8 0), (.int .u8 0), (.int .u8 0), (.int .u8 0), (.int .u8 0), (.int .u8 0), (.int .u8 0), (.int .u8 0), (.int .u8 0), (.int .u8 0), (.int .u8 0)]) := by kernel_rfl
@[simp] theorem szOf_106 : szOf Tryd.prog 106 = some 1 := by kernel_rfl
@[simp] theorem bytesOf_106 : bytesOf Tryd.prog 106 = some 8 := by kernel_rfl
@[simp] theorem zeroOf_106 : ((Tryd.prog.info? 106).bind fun x => x.zero) = some .nilFunc := by kernel_rfl
@[simp] theorem szOf_107 : szOf Tryd.prog 107 = some 4 := by kernel_rfl
@[simp] theorem bytesOf_107 : bytesOf Tryd.prog 107 = some 40 := by kernel_rfl
@[simp] theorem zeroOf_107 : ((Tryd.prog.info? 107).bind fun x => x.zero) = some (.agg #[(.pointer none), (.pointer none), (.pointer none), (.string ⟨#[]⟩)]) := by kernel_rfl
@[simp] theorem szOf_108 : szOf Tryd.prog 108 = some 4 := by kernel_rfl
@[simp] theorem bytesOf_108 : bytesOf Tryd.prog 108 = some 40 := by kernel_rfl
@[simp] theorem zeroOf_108 : ((Tryd.prog.info? 108).bind fun x => x.zero) = some (.agg #[(.pointer none), (.pointer none), (.pointer none), (.string ⟨#[]⟩)]) := by kernel_rfl
@[simp] theorem szOf_109 : szOf Tryd.prog 109 = some 0 := by kernel_rfl
@[simp] theorem bytesOf_109 : bytesOf Tryd.prog 109 = some 0 := by kernel_rfl
@[simp] theorem zeroOf_109 : ((Tryd.prog.info? 109).bind fun x => x.zero) = some (.agg #[]) := by kernel_rfl
@[simp] theorem szOf_110 : szOf Tryd.prog 110 = some 0 := by kernel_rfl
@[simp] theorem bytesOf_110 : bytesOf Tryd.prog 110 = some 0 := by kernel_rfl
@[simp] theorem zeroOf_110 : ((Tryd.prog.info? 110).bind fun x => x.zero) = some (.agg #[]) := by kernel_rfl
@[simp] theorem szOf_111 : szOf Tryd.prog 111 = some 0 := by kernel_rfl
@[simp] theorem bytesOf_111 : bytesOf Tryd.prog 111 = some 0 := by kernel_rfl
@[simp] theorem zeroOf_111 : ((Tryd.prog.info? 111).bind fun x => x.zero) = some (.agg #[]) := by kernel_rfl
@[simp] theorem szOf_112 : szOf Tryd.prog 112 = some 1 := by kernel_rfl
@[simp] theorem bytesOf_112 : bytesOf Tryd.prog 112 = some 1 := by kernel_rfl
@[simp] theorem zeroOf_112 : ((Tryd.prog.info? 112).bind fun x => x.zero) = some (.int .u8 0) := by kernel_rfl
@[simp] theorem szOf_113 : szOf Tryd.prog 113 = some 1 := by kernel_rfl
@[simp] theorem bytesOf_113 : bytesOf Tryd.prog 113 = some 1 := by kernel_rfl
@[simp] theorem zeroOf_113 : ((Tryd.prog.info? 113).bind fun x => x.zero) = some (.int .u8 0) := by kernel_rfl
@[simp] theorem szOf_114 : szOf Tryd.prog 114 = some 1 := by kernel_rfl
@[simp] theorem bytesOf_114 : bytesOf Tryd.prog 114 = some 8 := by kernel_rfl
@[simp] theorem zeroOf_114 : ((Tryd.prog.info? 114).bind fun x => x.zero) = some .nilFunc := by kernel_rfl
@[simp] theorem szOf_115 : szOf Tryd.prog 115 = some 1 := by kernel_rfl
@[simp] theorem bytesOf_115 : bytesOf Tryd.prog 115 = some 4 := by kernel_rfl
@[simp] theorem zeroOf_115 : ((Tryd.prog.info? 115).bind fun x => x.zero) = some (.int .i32 0) := by kernel_rfl
@[simp] theorem szOf_116 : szOf Tryd.prog 116 = some 1 := by kernel_rfl
@[simp] theorem bytesOf_116 : bytesOf Tryd.prog 116 = some 4 := by kernel_rfl
@[simp] theorem zeroOf_116 : ((Tryd.prog.info? 116).bind fun x => x.zero) = some (.int .i32 0) := by kernel_rfl
@[simp] theorem szOf_117 : szOf Tryd.prog 117 = some 11 := by kernel_rfl
@[simp] theorem bytesOf_117 : bytesOf Tryd.prog 117 = some 48 := by kernel_rfl
@[simp] theorem zeroOf_117 : ((Tryd.prog.info? 117).bind fun x => x.zero) = some (.agg #[(.int .u64 0), (.int .u64 0), (.int .u32 0), (.int .u8 0), (.int .u8 0), (.int .u8 0), (.int .u8 0), .nilFunc, (.pointer none), (.int .i32 0), (.int .i32 0)]) := by kernel_rfl
@[simp] theorem szOf_118 : szOf Tryd.prog 118 = some 11 := by kernel_rfl
@[simp] theorem bytesOf_118 : bytesOf Tryd.prog 118 = some 48 := by kernel_rfl
@[simp] theorem zeroOf_118 : ((Tryd.prog.info? 118).bind fun x => x.zero) = some (.agg #[(.int .u64 0), (.int .u64 0), (.int .u32 0), (.int .u8 0), (.int .u8 0), (.int .u8 0), (.int .u8 0), .nilFunc, (.pointer none), (.int .i32 0), (.int .i32 0)]) := by kernel_rfl
end Go.Proofs.YtocaickbfeaiaaaDoor
