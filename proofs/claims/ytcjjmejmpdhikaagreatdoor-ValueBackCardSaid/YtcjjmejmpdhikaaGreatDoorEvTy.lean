/-
  EV: the sizes of the translation's types (written by a program).
-/
import Derived.Test.YtcjjmejmpdhikaaGreatDoorEvSym
import Derived.Test.YtcjjmejmpdhikaaGreatDoorRows
namespace Go.Proofs.YtcjjmejmpdhikaaGreatDoor
@[simp] theorem szOf_1 : szOf Tryz.prog 1 = some 1 := by kernel_rfl
@[simp] theorem bytesOf_1 : bytesOf Tryz.prog 1 = some 8 := by kernel_rfl
@[simp] theorem zeroOf_1 : ((Tryz.prog.info? 1).bind fun x => x.zero) = some .nilFunc := by kernel_rfl
@[simp] theorem szOf_2 : szOf Tryz.prog 2 = some 1 := by kernel_rfl
@[simp] theorem bytesOf_2 : bytesOf Tryz.prog 2 = some 8 := by kernel_rfl
@[simp] theorem zeroOf_2 : ((Tryz.prog.info? 2).bind fun x => x.zero) = some (.int .i64 0) := by kernel_rfl
@[simp] theorem szOf_3 : szOf Tryz.prog 3 = some 1 := by kernel_rfl
@[simp] theorem bytesOf_3 : bytesOf Tryz.prog 3 = some 8 := by kernel_rfl
@[simp] theorem zeroOf_3 : ((Tryz.prog.info? 3).bind fun x => x.zero) = some (.int .i64 0) := by kernel_rfl
@[simp] theorem szOf_4 : szOf Tryz.prog 4 = some 1 := by kernel_rfl
@[simp] theorem bytesOf_4 : bytesOf Tryz.prog 4 = some 1 := by kernel_rfl
@[simp] theorem zeroOf_4 : ((Tryz.prog.info? 4).bind fun x => x.zero) = some (.bool false) := by kernel_rfl
@[simp] theorem szOf_5 : szOf Tryz.prog 5 = some 1 := by kernel_rfl
@[simp] theorem bytesOf_5 : bytesOf Tryz.prog 5 = some 1 := by kernel_rfl
@[simp] theorem zeroOf_5 : ((Tryz.prog.info? 5).bind fun x => x.zero) = some (.int .u8 0) := by kernel_rfl
@[simp] theorem szOf_6 : szOf Tryz.prog 6 = some 1 := by kernel_rfl
@[simp] theorem bytesOf_6 : bytesOf Tryz.prog 6 = some 1 := by kernel_rfl
@[simp] theorem zeroOf_6 : ((Tryz.prog.info? 6).bind fun x => x.zero) = some (.int .u8 0) := by kernel_rfl
@[simp] theorem szOf_7 : szOf Tryz.prog 7 = some 4 := by kernel_rfl
@[simp] theorem bytesOf_7 : bytesOf Tryz.prog 7 = some 24 := by kernel_rfl
@[simp] theorem zeroOf_7 : ((Tryz.prog.info? 7).bind fun x => x.zero) = some (.agg #[(.int .i64 0), (.int .i64 0), (.bool false), (.int .u8 0)]) := by kernel_rfl
@[simp] theorem szOf_8 : szOf Tryz.prog 8 = some 4 := by kernel_rfl
@[simp] theorem bytesOf_8 : bytesOf Tryz.prog 8 = some 24 := by kernel_rfl
@[simp] theorem zeroOf_8 : ((Tryz.prog.info? 8).bind fun x => x.zero) = some (.agg #[(.int .i64 0), (.int .i64 0), (.bool false), (.int .u8 0)]) := by kernel_rfl
@[simp] theorem szOf_9 : szOf Tryz.prog 9 = some 1 := by kernel_rfl
@[simp] theorem bytesOf_9 : bytesOf Tryz.prog 9 = some 16 := by kernel_rfl
@[simp] theorem zeroOf_9 : ((Tryz.prog.info? 9).bind fun x => x.zero) = some (.string ⟨#[]⟩) := by kernel_rfl
@[simp] theorem szOf_10 : szOf Tryz.prog 10 = some 1 := by kernel_rfl
@[simp] theorem bytesOf_10 : bytesOf Tryz.prog 10 = some 16 := by kernel_rfl
@[simp] theorem zeroOf_10 : ((Tryz.prog.info? 10).bind fun x => x.zero) = some (.string ⟨#[]⟩) := by kernel_rfl
@[simp] theorem szOf_11 : szOf Tryz.prog 11 = some 1 := by kernel_rfl
@[simp] theorem bytesOf_11 : bytesOf Tryz.prog 11 = some 16 := by kernel_rfl
@[simp] theorem zeroOf_11 : ((Tryz.prog.info? 11).bind fun x => x.zero) = some (.string ⟨#[]⟩) := by kernel_rfl
@[simp] theorem szOf_12 : szOf Tryz.prog 12 = some 1 := by kernel_rfl
@[simp] theorem bytesOf_12 : bytesOf Tryz.prog 12 = some 8 := by kernel_rfl
@[simp] theorem zeroOf_12 : ((Tryz.prog.info? 12).bind fun x => x.zero) = some (.int .u64 0) := by kernel_rfl
@[simp] theorem szOf_13 : szOf Tryz.prog 13 = some 2 := by kernel_rfl
@[simp] theorem bytesOf_13 : bytesOf Tryz.prog 13 = some 24 := by kernel_rfl
@[simp] theorem zeroOf_13 : ((Tryz.prog.info? 13).bind fun x => x.zero) = some (.agg #[(.string ⟨#[]⟩), (.int .u64 0)]) := by kernel_rfl
@[simp] theorem szOf_14 : szOf Tryz.prog 14 = some 2 := by kernel_rfl
@[simp] theorem bytesOf_14 : bytesOf Tryz.prog 14 = some 24 := by kernel_rfl
@[simp] theorem zeroOf_14 : ((Tryz.prog.info? 14).bind fun x => x.zero) = some (.agg #[(.string ⟨#[]⟩), (.int .u64 0)]) := by kernel_rfl
@[simp] theorem szOf_15 : szOf Tryz.prog 15 = some 1 := by kernel_rfl
@[simp] theorem bytesOf_15 : bytesOf Tryz.prog 15 = some 8 := by kernel_rfl
@[simp] theorem zeroOf_15 : ((Tryz.prog.info? 15).bind fun x => x.zero) = some (.pointer none) := by kernel_rfl
@[simp] theorem szOf_16 : szOf Tryz.prog 16 = some 1 := by kernel_rfl
@[simp] theorem bytesOf_16 : bytesOf Tryz.prog 16 = some 8 := by kernel_rfl
@[simp] theorem zeroOf_16 : ((Tryz.prog.info? 16).bind fun x => x.zero) = some (.pointer none) := by kernel_rfl
@[simp] theorem szOf_17 : szOf Tryz.prog 17 = some 1 := by kernel_rfl
@[simp] theorem bytesOf_17 : bytesOf Tryz.prog 17 = some 8 := by kernel_rfl
@[simp] theorem zeroOf_17 : ((Tryz.prog.info? 17).bind fun x => x.zero) = some (.pointer none) := by kernel_rfl
@[simp] theorem szOf_18 : szOf Tryz.prog 18 = some 1 := by kernel_rfl
@[simp] theorem bytesOf_18 : bytesOf Tryz.prog 18 = some 8 := by kernel_rfl
@[simp] theorem zeroOf_18 : ((Tryz.prog.info? 18).bind fun x => x.zero) = some (.agg #[(.pointer none)]) := by kernel_rfl
@[simp] theorem szOf_19 : szOf Tryz.prog 19 = some 1 := by kernel_rfl
@[simp] theorem bytesOf_19 : bytesOf Tryz.prog 19 = some 8 := by kernel_rfl
@[simp] theorem zeroOf_19 : ((Tryz.prog.info? 19).bind fun x => x.zero) = some (.agg #[(.pointer none)]) := by kernel_rfl
@[simp] theorem szOf_20 : szOf Tryz.prog 20 = some 1 := by kernel_rfl
@[simp] theorem bytesOf_20 : bytesOf Tryz.prog 20 = some 16 := by kernel_rfl
@[simp] theorem zeroOf_20 : ((Tryz.prog.info? 20).bind fun x => x.zero) = some .nilIface := by kernel_rfl
@[simp] theorem szOf_21 : szOf Tryz.prog 21 = some 1 := by kernel_rfl
@[simp] theorem bytesOf_21 : bytesOf Tryz.prog 21 = some 4 := by kernel_rfl
@[simp] theorem zeroOf_21 : ((Tryz.prog.info? 21).bind fun x => x.zero) = some (.int .i32 0) := by kernel_rfl
@[simp] theorem szOf_22 : szOf Tryz.prog 22 = some 1 := by kernel_rfl
@[simp] theorem bytesOf_22 : bytesOf Tryz.prog 22 = some 8 := by kernel_rfl
@[simp] theorem zeroOf_22 : ((Tryz.prog.info? 22).bind fun x => x.zero) = some .nilFunc := by kernel_rfl
@[simp] theorem szOf_23 : szOf Tryz.prog 23 = some 1 := by kernel_rfl
@[simp] theorem bytesOf_23 : bytesOf Tryz.prog 23 = some 24 := by kernel_rfl
@[simp] theorem zeroOf_23 : ((Tryz.prog.info? 23).bind fun x => x.zero) = some (.slice none 0 0) := by kernel_rfl
@[simp] theorem szOf_24 : szOf Tryz.prog 24 = some 2 := by kernel_rfl
@[simp] theorem bytesOf_24 : bytesOf Tryz.prog 24 = some 40 := by kernel_rfl
@[simp] theorem zeroOf_24 : ((Tryz.prog.info? 24).bind fun x => x.zero) = some (.agg #[(.string ⟨#[]⟩), (.slice none 0 0)]) := by kernel_rfl
@[simp] theorem szOf_25 : szOf Tryz.prog 25 = some 2 := by kernel_rfl
@[simp] theorem bytesOf_25 : bytesOf Tryz.prog 25 = some 40 := by kernel_rfl
@[simp] theorem zeroOf_25 : ((Tryz.prog.info? 25).bind fun x => x.zero) = some (.agg #[(.string ⟨#[]⟩), (.slice none 0 0)]) := by kernel_rfl
@[simp] theorem szOf_26 : szOf Tryz.prog 26 = some 1 := by kernel_rfl
@[simp] theorem bytesOf_26 : bytesOf Tryz.prog 26 = some 24 := by kernel_rfl
@[simp] theorem zeroOf_26 : ((Tryz.prog.info? 26).bind fun x => x.zero) = some (.slice none 0 0) := by kernel_rfl
@[simp] theorem szOf_27 : szOf Tryz.prog 27 = some 2 := by kernel_rfl
@[simp] theorem bytesOf_27 : bytesOf Tryz.prog 27 = some 40 := by kernel_rfl
@[simp] theorem zeroOf_27 : ((Tryz.prog.info? 27).bind fun x => x.zero) = some (.agg #[(.string ⟨#[]⟩), (.slice none 0 0)]) := by kernel_rfl
@[simp] theorem szOf_28 : szOf Tryz.prog 28 = some 2 := by kernel_rfl
@[simp] theorem bytesOf_28 : bytesOf Tryz.prog 28 = some 40 := by kernel_rfl
@[simp] theorem zeroOf_28 : ((Tryz.prog.info? 28).bind fun x => x.zero) = some (.agg #[(.string ⟨#[]⟩), (.slice none 0 0)]) := by kernel_rfl
@[simp] theorem szOf_29 : szOf Tryz.prog 29 = some 1 := by kernel_rfl
@[simp] theorem bytesOf_29 : bytesOf Tryz.prog 29 = some 24 := by kernel_rfl
@[simp] theorem zeroOf_29 : ((Tryz.prog.info? 29).bind fun x => x.zero) = some (.slice none 0 0) := by kernel_rfl
@[simp] theorem szOf_30 : szOf Tryz.prog 30 = some 1 := by kernel_rfl
@[simp] theorem bytesOf_30 : bytesOf Tryz.prog 30 = some 8 := by kernel_rfl
@[simp] theorem zeroOf_30 : ((Tryz.prog.info? 30).bind fun x => x.zero) = some .nilFunc := by kernel_rfl
@[simp] theorem szOf_31 : szOf Tryz.prog 31 = some 1 := by kernel_rfl
@[simp] theorem bytesOf_31 : bytesOf Tryz.prog 31 = some 1 := by kernel_rfl
@[simp] theorem zeroOf_31 : ((Tryz.prog.info? 31).bind fun x => x.zero) = some (.int .u8 0) := by kernel_rfl
@[simp] theorem szOf_32 : szOf Tryz.prog 32 = some 1 := by kernel_rfl
@[simp] theorem bytesOf_32 : bytesOf Tryz.prog 32 = some 24 := by kernel_rfl
@[simp] theorem zeroOf_32 : ((Tryz.prog.info? 32).bind fun x => x.zero) = some (.slice none 0 0) := by kernel_rfl
@[simp] theorem szOf_33 : szOf Tryz.prog 33 = some 2 := by kernel_rfl
@[simp] theorem bytesOf_33 : bytesOf Tryz.prog 33 = some 32 := by kernel_rfl
@[simp] theorem zeroOf_33 : ((Tryz.prog.info? 33).bind fun x => x.zero) = some (.agg #[(.bool false), (.slice none 0 0)]) := by kernel_rfl
@[simp] theorem szOf_34 : szOf Tryz.prog 34 = some 2 := by kernel_rfl
@[simp] theorem bytesOf_34 : bytesOf Tryz.prog 34 = some 32 := by kernel_rfl
@[simp] theorem zeroOf_34 : ((Tryz.prog.info? 34).bind fun x => x.zero) = some (.agg #[(.bool false), (.slice none 0 0)]) := by kernel_rfl
@[simp] theorem szOf_35 : szOf Tryz.prog 35 = some 1 := by kernel_rfl
@[simp] theorem bytesOf_35 : bytesOf Tryz.prog 35 = some 24 := by kernel_rfl
@[simp] theorem zeroOf_35 : ((Tryz.prog.info? 35).bind fun x => x.zero) = some (.slice none 0 0) := by kernel_rfl
@[simp] theorem szOf_36 : szOf Tryz.prog 36 = some 6 := by kernel_rfl
@[simp] theorem bytesOf_36 : bytesOf Tryz.prog 36 = some 88 := by kernel_rfl
@[simp] theorem zeroOf_36 : ((Tryz.prog.info? 36).bind fun x => x.zero) = some (.agg #[(.int .u8 0), (.bool false), (.slice none 0 0), (.bool false), (.string ⟨#[]⟩), (.slice none 0 0)]) := by kernel_rfl
@[simp] theorem szOf_37 : szOf Tryz.prog 37 = some 6 := by kernel_rfl
@[simp] theorem bytesOf_37 : bytesOf Tryz.prog 37 = some 88 := by kernel_rfl
@[simp] theorem zeroOf_37 : ((Tryz.prog.info? 37).bind fun x => x.zero) = some (.agg #[(.int .u8 0), (.bool false), (.slice none 0 0), (.bool false), (.string ⟨#[]⟩), (.slice none 0 0)]) := by kernel_rfl
@[simp] theorem szOf_38 : szOf Tryz.prog 38 = some 1 := by kernel_rfl
@[simp] theorem bytesOf_38 : bytesOf Tryz.prog 38 = some 8 := by kernel_rfl
@[simp] theorem zeroOf_38 : ((Tryz.prog.info? 38).bind fun x => x.zero) = some .nilFunc := by kernel_rfl
@[simp] theorem szOf_39 : szOf Tryz.prog 39 = some 1 := by kernel_rfl
@[simp] theorem bytesOf_39 : bytesOf Tryz.prog 39 = some 8 := by kernel_rfl
@[simp] theorem zeroOf_39 : ((Tryz.prog.info? 39).bind fun x => x.zero) = some .nilFunc := by kernel_rfl
@[simp] theorem szOf_40 : szOf Tryz.prog 40 = some 1 := by kernel_rfl
@[simp] theorem bytesOf_40 : bytesOf Tryz.prog 40 = some 8 := by kernel_rfl
@[simp] theorem zeroOf_40 : ((Tryz.prog.info? 40).bind fun x => x.zero) = some .nilFunc := by kernel_rfl
@[simp] theorem szOf_41 : szOf Tryz.prog 41 = some 1 := by kernel_rfl
@[simp] theorem bytesOf_41 : bytesOf Tryz.prog 41 = some 8 := by kernel_rfl
@[simp] theorem zeroOf_41 : ((Tryz.prog.info? 41).bind fun x => x.zero) = some .nilFunc := by kernel_rfl
@[simp] theorem szOf_42 : szOf Tryz.prog 42 = some 1 := by kernel_rfl
@[simp] theorem bytesOf_42 : bytesOf Tryz.prog 42 = some 8 := by kernel_rfl
@[simp] theorem zeroOf_42 : ((Tryz.prog.info? 42).bind fun x => x.zero) = some .nilFunc := by kernel_rfl
@[simp] theorem szOf_43 : szOf Tryz.prog 43 = some 1 := by kernel_rfl
@[simp] theorem bytesOf_43 : bytesOf Tryz.prog 43 = some 8 := by kernel_rfl
@[simp] theorem zeroOf_43 : ((Tryz.prog.info? 43).bind fun x => x.zero) = some .nilFunc := by kernel_rfl
@[simp] theorem szOf_45 : szOf Tryz.prog 45 = some 1 := by kernel_rfl
@[simp] theorem bytesOf_45 : bytesOf Tryz.prog 45 = some 8 := by kernel_rfl
@[simp] theorem zeroOf_45 : ((Tryz.prog.info? 45).bind fun x => x.zero) = some .nilFunc := by kernel_rfl
@[simp] theorem szOf_46 : szOf Tryz.prog 46 = some 1 := by kernel_rfl
@[simp] theorem bytesOf_46 : bytesOf Tryz.prog 46 = some 8 := by kernel_rfl
@[simp] theorem zeroOf_46 : ((Tryz.prog.info? 46).bind fun x => x.zero) = some .nilFunc := by kernel_rfl
@[simp] theorem szOf_47 : szOf Tryz.prog 47 = some 1 := by kernel_rfl
@[simp] theorem bytesOf_47 : bytesOf Tryz.prog 47 = some 8 := by kernel_rfl
@[simp] theorem zeroOf_47 : ((Tryz.prog.info? 47).bind fun x => x.zero) = some .nilFunc := by kernel_rfl
@[simp] theorem szOf_48 : szOf Tryz.prog 48 = some 1 := by kernel_rfl
@[simp] theorem bytesOf_48 : bytesOf Tryz.prog 48 = some 8 := by kernel_rfl
@[simp] theorem zeroOf_48 : ((Tryz.prog.info? 48).bind fun x => x.zero) = some .nilFunc := by kernel_rfl
@[simp] theorem szOf_49 : szOf Tryz.prog 49 = some 1 := by kernel_rfl
@[simp] theorem bytesOf_49 : bytesOf Tryz.prog 49 = some 8 := by kernel_rfl
@[simp] theorem zeroOf_49 : ((Tryz.prog.info? 49).bind fun x => x.zero) = some .nilFunc := by kernel_rfl
@[simp] theorem szOf_50 : szOf Tryz.prog 50 = some 1 := by kernel_rfl
@[simp] theorem bytesOf_50 : bytesOf Tryz.prog 50 = some 8 := by kernel_rfl
@[simp] theorem zeroOf_50 : ((Tryz.prog.info? 50).bind fun x => x.zero) = some .nilFunc := by kernel_rfl
@[simp] theorem szOf_51 : szOf Tryz.prog 51 = some 1 := by kernel_rfl
@[simp] theorem bytesOf_51 : bytesOf Tryz.prog 51 = some 8 := by kernel_rfl
@[simp] theorem zeroOf_51 : ((Tryz.prog.info? 51).bind fun x => x.zero) = some .nilFunc := by kernel_rfl
@[simp] theorem szOf_52 : szOf Tryz.prog 52 = some 1 := by kernel_rfl
@[simp] theorem bytesOf_52 : bytesOf Tryz.prog 52 = some 8 := by kernel_rfl
@[simp] theorem zeroOf_52 : ((Tryz.prog.info? 52).bind fun x => x.zero) = some .nilFunc := by kernel_rfl
@[simp] theorem szOf_53 : szOf Tryz.prog 53 = some 1 := by kernel_rfl
@[simp] theorem bytesOf_53 : bytesOf Tryz.prog 53 = some 8 := by kernel_rfl
@[simp] theorem zeroOf_53 : ((Tryz.prog.info? 53).bind fun x => x.zero) = some .nilFunc := by kernel_rfl
@[simp] theorem szOf_54 : szOf Tryz.prog 54 = some 1 := by kernel_rfl
@[simp] theorem bytesOf_54 : bytesOf Tryz.prog 54 = some 24 := by kernel_rfl
@[simp] theorem zeroOf_54 : ((Tryz.prog.info? 54).bind fun x => x.zero) = some (.slice none 0 0) := by kernel_rfl
@[simp] theorem szOf_55 : szOf Tryz.prog 55 = some 1 := by kernel_rfl
@[simp] theorem bytesOf_55 : bytesOf Tryz.prog 55 = some 8 := by kernel_rfl
@[simp] theorem zeroOf_55 : ((Tryz.prog.info? 55).bind fun x => x.zero) = some .nilFunc := by kernel_rfl
@[simp] theorem szOf_56 : szOf Tryz.prog 56 = some 1 := by kernel_rfl
@[simp] theorem bytesOf_56 : bytesOf Tryz.prog 56 = some 8 := by kernel_rfl
@[simp] theorem zeroOf_56 : ((Tryz.prog.info? 56).bind fun x => x.zero) = some .nilFunc := by kernel_rfl
@[simp] theorem szOf_57 : szOf Tryz.prog 57 = some 1 := by kernel_rfl
@[simp] theorem bytesOf_57 : bytesOf Tryz.prog 57 = some 8 := by kernel_rfl
@[simp] theorem zeroOf_57 : ((Tryz.prog.info? 57).bind fun x => x.zero) = some .nilFunc := by kernel_rfl
@[simp] theorem szOf_58 : szOf Tryz.prog 58 = some 1 := by kernel_rfl
@[simp] theorem bytesOf_58 : bytesOf Tryz.prog 58 = some 8 := by kernel_rfl
@[simp] theorem zeroOf_58 : ((Tryz.prog.info? 58).bind fun x => x.zero) = some .nilFunc := by kernel_rfl
@[simp] theorem szOf_59 : szOf Tryz.prog 59 = some 1 := by kernel_rfl
@[simp] theorem bytesOf_59 : bytesOf Tryz.prog 59 = some 24 := by kernel_rfl
@[simp] theorem zeroOf_59 : ((Tryz.prog.info? 59).bind fun x => x.zero) = some (.slice none 0 0) := by kernel_rfl
@[simp] theorem szOf_60 : szOf Tryz.prog 60 = some 1 := by kernel_rfl
@[simp] theorem bytesOf_60 : bytesOf Tryz.prog 60 = some 8 := by kernel_rfl
@[simp] theorem zeroOf_60 : ((Tryz.prog.info? 60).bind fun x => x.zero) = some (.int .i64 0) := by kernel_rfl
@[simp] theorem szOf_62 : szOf Tryz.prog 62 = some 1 := by kernel_rfl
@[simp] theorem bytesOf_62 : bytesOf Tryz.prog 62 = some 8 := by kernel_rfl
@[simp] theorem zeroOf_62 : ((Tryz.prog.info? 62).bind fun x => x.zero) = some .nilFunc := by kernel_rfl
@[simp] theorem szOf_63 : szOf Tryz.prog 63 = some 4 := by kernel_rfl
@[simp] theorem bytesOf_63 : bytesOf Tryz.prog 63 = some 56 := by kernel_rfl
@[simp] theorem zeroOf_63 : ((Tryz.prog.info? 63).bind fun x => x.zero) = some (.agg #[(.string ⟨#[]⟩), (.slice none 0 0), (.bool false), (.int .i64 0)]) := by kernel_rfl
@[simp] theorem szOf_64 : szOf Tryz.prog 64 = some 4 := by kernel_rfl
@[simp] theorem bytesOf_64 : bytesOf Tryz.prog 64 = some 56 := by kernel_rfl
@[simp] theorem zeroOf_64 : ((Tryz.prog.info? 64).bind fun x => x.zero) = some (.agg #[(.string ⟨#[]⟩), (.slice none 0 0), (.bool false), (.int .i64 0)]) := by kernel_rfl
@[simp] theorem szOf_65 : szOf Tryz.prog 65 = some 5 := by kernel_rfl
@[simp] theorem bytesOf_65 : bytesOf Tryz.prog 65 = some 80 := by kernel_rfl
@[simp] theorem zeroOf_65 : ((Tryz.prog.info? 65).bind fun x => x.zero) = some (.agg #[(.string ⟨#[]⟩), (.slice none 0 0), (.bool false), (.int .i64 0), (.slice none 0 0)]) := by kernel_rfl
@[simp] theorem szOf_66 : szOf Tryz.prog 66 = some 5 := by kernel_rfl
@[simp] theorem bytesOf_66 : bytesOf Tryz.prog 66 = some 80 := by kernel_rfl
@[simp] theorem zeroOf_66 : ((Tryz.prog.info? 66).bind fun x => x.zero) = some (.agg #[(.string ⟨#[]⟩), (.slice none 0 0), (.bool false), (.int .i64 0), (.slice none 0 0)]) := by kernel_rfl
@[simp] theorem szOf_67 : szOf Tryz.prog 67 = some 1 := by kernel_rfl
@[simp] theorem bytesOf_67 : bytesOf Tryz.prog 67 = some 8 := by kernel_rfl
@[simp] theorem zeroOf_67 : ((Tryz.prog.info? 67).bind fun x => x.zero) = some .nilFunc := by kernel_rfl
@[simp] theorem szOf_68 : szOf Tryz.prog 68 = some 1 := by kernel_rfl
@[simp] theorem bytesOf_68 : bytesOf Tryz.prog 68 = some 8 := by kernel_rfl
@[simp] theorem zeroOf_68 : ((Tryz.prog.info? 68).bind fun x => x.zero) = some .nilFunc := by kernel_rfl
@[simp] theorem szOf_69 : szOf Tryz.prog 69 = some 1 := by kernel_rfl
@[simp] theorem bytesOf_69 : bytesOf Tryz.prog 69 = some 8 := by kernel_rfl
@[simp] theorem zeroOf_69 : ((Tryz.prog.info? 69).bind fun x => x.zero) = some .nilFunc := by kernel_rfl
@[simp] theorem szOf_70 : szOf Tryz.prog 70 = some 1 := by kernel_rfl
@[simp] theorem bytesOf_70 : bytesOf Tryz.prog 70 = some 24 := by kernel_rfl
@[simp] theorem zeroOf_70 : ((Tryz.prog.info? 70).bind fun x => x.zero) = some (.agg #[(.slice none 0 0)]) := by kernel_rfl
@[simp] theorem szOf_71 : szOf Tryz.prog 71 = some 1 := by kernel_rfl
@[simp] theorem bytesOf_71 : bytesOf Tryz.prog 71 = some 24 := by kernel_rfl
@[simp] theorem zeroOf_71 : ((Tryz.prog.info? 71).bind fun x => x.zero) = some (.agg #[(.slice none 0 0)]) := by kernel_rfl
@[simp] theorem szOf_72 : szOf Tryz.prog 72 = some 2 := by kernel_rfl
@[simp] theorem bytesOf_72 : bytesOf Tryz.prog 72 = some 32 := by kernel_rfl
@[simp] theorem zeroOf_72 : ((Tryz.prog.info? 72).bind fun x => x.zero) = some (.agg #[(.slice none 0 0), (.bool false)]) := by kernel_rfl
@[simp] theorem szOf_73 : szOf Tryz.prog 73 = some 2 := by kernel_rfl
@[simp] theorem bytesOf_73 : bytesOf Tryz.prog 73 = some 32 := by kernel_rfl
@[simp] theorem zeroOf_73 : ((Tryz.prog.info? 73).bind fun x => x.zero) = some (.agg #[(.slice none 0 0), (.bool false)]) := by kernel_rfl
@[simp] theorem szOf_74 : szOf Tryz.prog 74 = some 1 := by kernel_rfl
@[simp] theorem bytesOf_74 : bytesOf Tryz.prog 74 = some 8 := by kernel_rfl
@[simp] theorem zeroOf_74 : ((Tryz.prog.info? 74).bind fun x => x.zero) = some .nilFunc := by kernel_rfl
@[simp] theorem szOf_75 : szOf Tryz.prog 75 = some 1 := by kernel_rfl
@[simp] theorem bytesOf_75 : bytesOf Tryz.prog 75 = some 8 := by kernel_rfl
@[simp] theorem zeroOf_75 : ((Tryz.prog.info? 75).bind fun x => x.zero) = some (.int .u64 0) := by kernel_rfl
@[simp] theorem szOf_76 : szOf Tryz.prog 76 = some 1 := by kernel_rfl
@[simp] theorem bytesOf_76 : bytesOf Tryz.prog 76 = some 8 := by kernel_rfl
@[simp] theorem zeroOf_76 : ((Tryz.prog.info? 76).bind fun x => x.zero) = some .nilFunc := by kernel_rfl
@[simp] theorem szOf_77 : szOf Tryz.prog 77 = some 1 := by kernel_rfl
@[simp] theorem bytesOf_77 : bytesOf Tryz.prog 77 = some 8 := by kernel_rfl
@[simp] theorem zeroOf_77 : ((Tryz.prog.info? 77).bind fun x => x.zero) = some .nilFunc := by kernel_rfl
@[simp] theorem szOf_78 : szOf Tryz.prog 78 = some 1 := by kernel_rfl
@[simp] theorem bytesOf_78 : bytesOf Tryz.prog 78 = some 8 := by kernel_rfl
@[simp] theorem zeroOf_78 : ((Tryz.prog.info? 78).bind fun x => x.zero) = some .nilFunc := by kernel_rfl
@[simp] theorem szOf_79 : szOf Tryz.prog 79 = some 1 := by kernel_rfl
@[simp] theorem bytesOf_79 : bytesOf Tryz.prog 79 = some 24 := by kernel_rfl
@[simp] theorem zeroOf_79 : ((Tryz.prog.info? 79).bind fun x => x.zero) = some (.slice none 0 0) := by kernel_rfl
@[simp] theorem szOf_81 : szOf Tryz.prog 81 = some 1 := by kernel_rfl
@[simp] theorem bytesOf_81 : bytesOf Tryz.prog 81 = some 8 := by kernel_rfl
@[simp] theorem zeroOf_81 : ((Tryz.prog.info? 81).bind fun x => x.zero) = some .nilFunc := by kernel_rfl
@[simp] theorem szOf_82 : szOf Tryz.prog 82 = some 1 := by kernel_rfl
@[simp] theorem bytesOf_82 : bytesOf Tryz.prog 82 = some 8 := by kernel_rfl
@[simp] theorem zeroOf_82 : ((Tryz.prog.info? 82).bind fun x => x.zero) = some .nilFunc := by kernel_rfl
@[simp] theorem szOf_83 : szOf Tryz.prog 83 = some 4 := by kernel_rfl
@[simp] theorem bytesOf_83 : bytesOf Tryz.prog 83 = some 56 := by kernel_rfl
@[simp] theorem zeroOf_83 : ((Tryz.prog.info? 83).bind fun x => x.zero) = some (.agg #[(.string ⟨#[]⟩), (.slice none 0 0), (.bool false), (.int .i64 0)]) := by kernel_rfl
@[simp] theorem szOf_84 : szOf Tryz.prog 84 = some 4 := by kernel_rfl
@[simp] theorem bytesOf_84 : bytesOf Tryz.prog 84 = some 56 := by kernel_rfl
@[simp] theorem zeroOf_84 : ((Tryz.prog.info? 84).bind fun x => x.zero) = some (.agg #[(.string ⟨#[]⟩), (.slice none 0 0), (.bool false), (.int .i64 0)]) := by kernel_rfl
@[simp] theorem szOf_85 : szOf Tryz.prog 85 = some 1 := by kernel_rfl
@[simp] theorem bytesOf_85 : bytesOf Tryz.prog 85 = some 8 := by kernel_rfl
@[simp] theorem zeroOf_85 : ((Tryz.prog.info? 85).bind fun x => x.zero) = some .nilFunc := by kernel_rfl
@[simp] theorem szOf_86 : szOf Tryz.prog 86 = some 1 := by kernel_rfl
@[simp] theorem bytesOf_86 : bytesOf Tryz.prog 86 = some 8 := by kernel_rfl
@[simp] theorem zeroOf_86 : ((Tryz.prog.info? 86).bind fun x => x.zero) = some .nilFunc := by kernel_rfl
@[simp] theorem szOf_87 : szOf Tryz.prog 87 = some 2 := by kernel_rfl
@[simp] theorem bytesOf_87 : bytesOf Tryz.prog 87 = some 16 := by kernel_rfl
@[simp] theorem zeroOf_87 : ((Tryz.prog.info? 87).bind fun x => x.zero) = some (.agg #[(.int .i64 0), (.int .i64 0)]) := by kernel_rfl
@[simp] theorem szOf_88 : szOf Tryz.prog 88 = some 2 := by kernel_rfl
@[simp] theorem bytesOf_88 : bytesOf Tryz.prog 88 = some 16 := by kernel_rfl
@[simp] theorem zeroOf_88 : ((Tryz.prog.info? 88).bind fun x => x.zero) = some (.agg #[(.int .i64 0), (.int .i64 0)]) := by kernel_rfl
@[simp] theorem szOf_90 : szOf Tryz.prog 90 = some 1 := by kernel_rfl
@[simp] theorem bytesOf_90 : bytesOf Tryz.prog 90 = some 8 := by kernel_rfl
@[simp] theorem zeroOf_90 : ((Tryz.prog.info? 90).bind fun x => x.zero) = some .nilFunc := by kernel_rfl
@[simp] theorem szOf_91 : szOf Tryz.prog 91 = some 1 := by kernel_rfl
@[simp] theorem bytesOf_91 : bytesOf Tryz.prog 91 = some 8 := by kernel_rfl
@[simp] theorem zeroOf_91 : ((Tryz.prog.info? 91).bind fun x => x.zero) = some .nilFunc := by kernel_rfl
@[simp] theorem szOf_92 : szOf Tryz.prog 92 = some 1 := by kernel_rfl
@[simp] theorem bytesOf_92 : bytesOf Tryz.prog 92 = some 8 := by kernel_rfl
@[simp] theorem zeroOf_92 : ((Tryz.prog.info? 92).bind fun x => x.zero) = some .nilFunc := by kernel_rfl
@[simp] theorem szOf_93 : szOf Tryz.prog 93 = some 1 := by kernel_rfl
@[simp] theorem bytesOf_93 : bytesOf Tryz.prog 93 = some 8 := by kernel_rfl
@[simp] theorem zeroOf_93 : ((Tryz.prog.info? 93).bind fun x => x.zero) = some .nilFunc := by kernel_rfl
@[simp] theorem szOf_94 : szOf Tryz.prog 94 = some 1 := by kernel_rfl
@[simp] theorem bytesOf_94 : bytesOf Tryz.prog 94 = some 8 := by kernel_rfl
@[simp] theorem zeroOf_94 : ((Tryz.prog.info? 94).bind fun x => x.zero) = some (.pointer none) := by kernel_rfl
@[simp] theorem szOf_95 : szOf Tryz.prog 95 = some 1 := by kernel_rfl
@[simp] theorem bytesOf_95 : bytesOf Tryz.prog 95 = some 24 := by kernel_rfl
@[simp] theorem zeroOf_95 : ((Tryz.prog.info? 95).bind fun x => x.zero) = some (.slice none 0 0) := by kernel_rfl
@[simp] theorem szOf_96 : szOf Tryz.prog 96 = some 2 := by kernel_rfl
@[simp] theorem bytesOf_96 : bytesOf Tryz.prog 96 = some 32 := by kernel_rfl
@[simp] theorem zeroOf_96 : ((Tryz.prog.info? 96).bind fun x => x.zero) = some (.agg #[(.pointer none), (.slice none 0 0)]) := by kernel_rfl
@[simp] theorem szOf_97 : szOf Tryz.prog 97 = some 2 := by kernel_rfl
@[simp] theorem bytesOf_97 : bytesOf Tryz.prog 97 = some 32 := by kernel_rfl
@[simp] theorem zeroOf_97 : ((Tryz.prog.info? 97).bind fun x => x.zero) = some (.agg #[(.pointer none), (.slice none 0 0)]) := by kernel_rfl
@[simp] theorem szOf_98 : szOf Tryz.prog 98 = some 1 := by kernel_rfl
@[simp] theorem bytesOf_98 : bytesOf Tryz.prog 98 = some 8 := by kernel_rfl
@[simp] theorem zeroOf_98 : ((Tryz.prog.info? 98).bind fun x => x.zero) = some .nilFunc := by kernel_rfl
@[simp] theorem szOf_99 : szOf Tryz.prog 99 = some 1 := by kernel_rfl
@[simp] theorem bytesOf_99 : bytesOf Tryz.prog 99 = some 16 := by kernel_rfl
@[simp] theorem zeroOf_99 : ((Tryz.prog.info? 99).bind fun x => x.zero) = some .nilIface := by kernel_rfl
@[simp] theorem szOf_100 : szOf Tryz.prog 100 = some 1 := by kernel_rfl
@[simp] theorem bytesOf_100 : bytesOf Tryz.prog 100 = some 16 := by kernel_rfl
@[simp] theorem zeroOf_100 : ((Tryz.prog.info? 100).bind fun x => x.zero) = some .nilIface := by kernel_rfl
@[simp] theorem szOf_102 : szOf Tryz.prog 102 = some 1 := by kernel_rfl
@[simp] theorem bytesOf_102 : bytesOf Tryz.prog 102 = some 8 := by kernel_rfl
@[simp] theorem zeroOf_102 : ((Tryz.prog.info? 102).bind fun x => x.zero) = some .nilFunc := by kernel_rfl
@[simp] theorem szOf_103 : szOf Tryz.prog 103 = some 1 := by kernel_rfl
@[simp] theorem bytesOf_103 : bytesOf Tryz.prog 103 = some 8 := by kernel_rfl
@[simp] theorem zeroOf_103 : ((Tryz.prog.info? 103).bind fun x => x.zero) = some .nilFunc := by kernel_rfl
@[simp] theorem szOf_104 : szOf Tryz.prog 104 = some 2 := by kernel_rfl
@[simp] theorem bytesOf_104 : bytesOf Tryz.prog 104 = some 16 := by kernel_rfl
@[simp] theorem zeroOf_104 : ((Tryz.prog.info? 104).bind fun x => x.zero) = some (.agg #[(.int .i64 0), (.int .i64 0)]) := by kernel_rfl
@[simp] theorem szOf_105 : szOf Tryz.prog 105 = some 2 := by kernel_rfl
@[simp] theorem bytesOf_105 : bytesOf Tryz.prog 105 = some 16 := by kernel_rfl
@[simp] theorem zeroOf_105 : ((Tryz.prog.info? 105).bind fun x => x.zero) = some (.agg #[(.int .i64 0), (.int .i64 0)]) := by kernel_rfl
@[simp] theorem szOf_107 : szOf Tryz.prog 107 = some 1 := by kernel_rfl
@[simp] theorem bytesOf_107 : bytesOf Tryz.prog 107 = some 8 := by kernel_rfl
@[simp] theorem zeroOf_107 : ((Tryz.prog.info? 107).bind fun x => x.zero) = some (.pointer none) := by kernel_rfl
@[simp] theorem szOf_108 : szOf Tryz.prog 108 = some 2 := by kernel_rfl
@[simp] theorem bytesOf_108 : bytesOf Tryz.prog 108 = some 24 := by kernel_rfl
@[simp] theorem zeroOf_108 : ((Tryz.prog.info? 108).bind fun x => x.zero) = some (.agg #[(.string ⟨#[]⟩), (.int .i64 0)]) := by kernel_rfl
@[simp] theorem szOf_109 : szOf Tryz.prog 109 = some 2 := by kernel_rfl
@[simp] theorem bytesOf_109 : bytesOf Tryz.prog 109 = some 24 := by kernel_rfl
@[simp] theorem zeroOf_109 : ((Tryz.prog.info? 109).bind fun x => x.zero) = some (.agg #[(.string ⟨#[]⟩), (.int .i64 0)]) := by kernel_rfl
@[simp] theorem szOf_110 : szOf Tryz.prog 110 = some 3 := by kernel_rfl
@[simp] theorem bytesOf_110 : bytesOf Tryz.prog 110 = some 32 := by kernel_rfl
@[simp] theorem zeroOf_110 : ((Tryz.prog.info? 110).bind fun x => x.zero) = some (.agg #[(.string ⟨#[]⟩), (.int .i64 0), (.int .i64 0)]) := by kernel_rfl
@[simp] theorem szOf_111 : szOf Tryz.prog 111 = some 3 := by kernel_rfl
@[simp] theorem bytesOf_111 : bytesOf Tryz.prog 111 = some 32 := by kernel_rfl
@[simp] theorem zeroOf_111 : ((Tryz.prog.info? 111).bind fun x => x.zero) = some (.agg #[(.string ⟨#[]⟩), (.int .i64 0), (.int .i64 0)]) := by kernel_rfl
@[simp] theorem szOf_112 : szOf Tryz.prog 112 = some 1 := by kernel_rfl
@[simp] theorem bytesOf_112 : bytesOf Tryz.prog 112 = some 8 := by kernel_rfl
@[simp] theorem zeroOf_112 : ((Tryz.prog.info? 112).bind fun x => x.zero) = some .nilFunc := by kernel_rfl
@[simp] theorem szOf_113 : szOf Tryz.prog 113 = some 1 := by kernel_rfl
@[simp] theorem bytesOf_113 : bytesOf Tryz.prog 113 = some 8 := by kernel_rfl
@[simp] theorem zeroOf_113 : ((Tryz.prog.info? 113).bind fun x => x.zero) = some .nilFunc := by kernel_rfl
@[simp] theorem szOf_114 : szOf Tryz.prog 114 = some 1 := by kernel_rfl
@[simp] theorem bytesOf_114 : bytesOf Tryz.prog 114 = some 8 := by kernel_rfl
@[simp] theorem zeroOf_114 : ((Tryz.prog.info? 114).bind fun x => x.zero) = some .nilFunc := by kernel_rfl
@[simp] theorem szOf_115 : szOf Tryz.prog 115 = some 1 := by kernel_rfl
@[simp] theorem bytesOf_115 : bytesOf Tryz.prog 115 = some 4 := by kernel_rfl
@[simp] theorem zeroOf_115 : ((Tryz.prog.info? 115).bind fun x => x.zero) = some (.int .u32 0) := by kernel_rfl
@[simp] theorem szOf_116 : szOf Tryz.prog 116 = some 1 := by kernel_rfl
@[simp] theorem bytesOf_116 : bytesOf Tryz.prog 116 = some 8 := by kernel_rfl
@[simp] theorem zeroOf_116 : ((Tryz.prog.info? 116).bind fun x => x.zero) = some .nilFunc := by kernel_rfl
@[simp] theorem szOf_117 : szOf Tryz.prog 117 = some 1 := by kernel_rfl
@[simp] theorem bytesOf_117 : bytesOf Tryz.prog 117 = some 8 := by kernel_rfl
@[simp] theorem zeroOf_117 : ((Tryz.prog.info? 117).bind fun x => x.zero) = some .nilFunc := by kernel_rfl
@[simp] theorem szOf_118 : szOf Tryz.prog 118 = some 1 := by kernel_rfl
@[simp] theorem bytesOf_118 : bytesOf Tryz.prog 118 = some 8 := by kernel_rfl
@[simp] theorem zeroOf_118 : ((Tryz.prog.info? 118).bind fun x => x.zero) = some .nilFunc := by kernel_rfl
@[simp] theorem szOf_119 : szOf Tryz.prog 119 = some 1 := by kernel_rfl
@[simp] theorem bytesOf_119 : bytesOf Tryz.prog 119 = some 8 := by kernel_rfl
@[simp] theorem zeroOf_119 : ((Tryz.prog.info? 119).bind fun x => x.zero) = some (.pointer none) := by kernel_rfl
@[simp] theorem szOf_120 : szOf Tryz.prog 120 = some 1 := by kernel_rfl
@[simp] theorem bytesOf_120 : bytesOf Tryz.prog 120 = some 24 := by kernel_rfl
@[simp] theorem zeroOf_120 : ((Tryz.prog.info? 120).bind fun x => x.zero) = some (.slice none 0 0) := by kernel_rfl
@[simp] theorem szOf_121 : szOf Tryz.prog 121 = some 1 := by kernel_rfl
@[simp] theorem bytesOf_121 : bytesOf Tryz.prog 121 = some 24 := by kernel_rfl
@[simp] theorem zeroOf_121 : ((Tryz.prog.info? 121).bind fun x => x.zero) = some (.slice none 0 0) := by kernel_rfl
@[simp] theorem szOf_122 : szOf Tryz.prog 122 = some 2 := by kernel_rfl
@[simp] theorem bytesOf_122 : bytesOf Tryz.prog 122 = some 48 := by kernel_rfl
@[simp] theorem zeroOf_122 : ((Tryz.prog.info? 122).bind fun x => x.zero) = some (.agg #[(.slice none 0 0), (.slice none 0 0)]) := by kernel_rfl
@[simp] theorem szOf_123 : szOf Tryz.prog 123 = some 2 := by kernel_rfl
@[simp] theorem bytesOf_123 : bytesOf Tryz.prog 123 = some 48 := by kernel_rfl
@[simp] theorem zeroOf_123 : ((Tryz.prog.info? 123).bind fun x => x.zero) = some (.agg #[(.slice none 0 0), (.slice none 0 0)]) := by kernel_rfl
@[simp] theorem szOf_124 : szOf Tryz.prog 124 = some 1 := by kernel_rfl
@[simp] theorem bytesOf_124 : bytesOf Tryz.prog 124 = some 8 := by kernel_rfl
@[simp] theorem zeroOf_124 : ((Tryz.prog.info? 124).bind fun x => x.zero) = some .nilFunc := by kernel_rfl
@[simp] theorem szOf_125 : szOf Tryz.prog 125 = some 1 := by kernel_rfl
@[simp] theorem bytesOf_125 : bytesOf Tryz.prog 125 = some 8 := by kernel_rfl
@[simp] theorem zeroOf_125 : ((Tryz.prog.info? 125).bind fun x => x.zero) = some .nilFunc := by kernel_rfl
@[simp] theorem szOf_127 : szOf Tryz.prog 127 = some 1 := by kernel_rfl
@[simp] theorem bytesOf_127 : bytesOf Tryz.prog 127 = some 8 := by kernel_rfl
@[simp] theorem zeroOf_127 : ((Tryz.prog.info? 127).bind fun x => x.zero) = some .nilFunc := by kernel_rfl
@[simp] theorem szOf_129 : szOf Tryz.prog 129 = some 1 := by kernel_rfl
@[simp] theorem bytesOf_129 : bytesOf Tryz.prog 129 = some 8 := by kernel_rfl
@[simp] theorem zeroOf_129 : ((Tryz.prog.info? 129).bind fun x => x.zero) = some .nilFunc := by kernel_rfl
@[simp] theorem szOf_130 : szOf Tryz.prog 130 = some 1 := by kernel_rfl
@[simp] theorem bytesOf_130 : bytesOf Tryz.prog 130 = some 8 := by kernel_rfl
@[simp] theorem zeroOf_130 : ((Tryz.prog.info? 130).bind fun x => x.zero) = some .nilFunc := by kernel_rfl
@[simp] theorem szOf_131 : szOf Tryz.prog 131 = some 1 := by kernel_rfl
@[simp] theorem bytesOf_131 : bytesOf Tryz.prog 131 = some 8 := by kernel_rfl
@[simp] theorem zeroOf_131 : ((Tryz.prog.info? 131).bind fun x => x.zero) = some .nilFunc := by kernel_rfl
@[simp] theorem szOf_132 : szOf Tryz.prog 132 = some 1 := by kernel_rfl
@[simp] theorem bytesOf_132 : bytesOf Tryz.prog 132 = some 8 := by kernel_rfl
@[simp] theorem zeroOf_132 : ((Tryz.prog.info? 132).bind fun x => x.zero) = some .nilFunc := by kernel_rfl
@[simp] theorem szOf_133 : szOf Tryz.prog 133 = some 1 := by kernel_rfl
@[simp] theorem bytesOf_133 : bytesOf Tryz.prog 133 = some 8 := by kernel_rfl
@[simp] theorem zeroOf_133 : ((Tryz.prog.info? 133).bind fun x => x.zero) = some .nilFunc := by kernel_rfl
@[simp] theorem szOf_134 : szOf Tryz.prog 134 = some 1 := by kernel_rfl
@[simp] theorem bytesOf_134 : bytesOf Tryz.prog 134 = some 8 := by kernel_rfl
@[simp] theorem zeroOf_134 : ((Tryz.prog.info? 134).bind fun x => x.zero) = some .nilFunc := by kernel_rfl
@[simp] theorem szOf_135 : szOf Tryz.prog 135 = some 1 := by kernel_rfl
@[simp] theorem bytesOf_135 : bytesOf Tryz.prog 135 = some 8 := by kernel_rfl
@[simp] theorem zeroOf_135 : ((Tryz.prog.info? 135).bind fun x => x.zero) = some .nilFunc := by kernel_rfl
@[simp] theorem szOf_136 : szOf Tryz.prog 136 = some 1 := by kernel_rfl
@[simp] theorem bytesOf_136 : bytesOf Tryz.prog 136 = some 24 := by kernel_rfl
@[simp] theorem zeroOf_136 : ((Tryz.prog.info? 136).bind fun x => x.zero) = some (.slice none 0 0) := by kernel_rfl
@[simp] theorem szOf_137 : szOf Tryz.prog 137 = some 1 := by kernel_rfl
@[simp] theorem bytesOf_137 : bytesOf Tryz.prog 137 = some 24 := by kernel_rfl
@[simp] theorem zeroOf_137 : ((Tryz.prog.info? 137).bind fun x => x.zero) = some (.slice none 0 0) := by kernel_rfl
@[simp] theorem szOf_138 : szOf Tryz.prog 138 = some 1 := by kernel_rfl
@[simp] theorem bytesOf_138 : bytesOf Tryz.prog 138 = some 24 := by kernel_rfl
@[simp] theorem zeroOf_138 : ((Tryz.prog.info? 138).bind fun x => x.zero) = some (.agg #[(.slice none 0 0)]) := by kernel_rfl
@[simp] theorem szOf_139 : szOf Tryz.prog 139 = some 1 := by kernel_rfl
@[simp] theorem bytesOf_139 : bytesOf Tryz.prog 139 = some 24 := by kernel_rfl
@[simp] theorem zeroOf_139 : ((Tryz.prog.info? 139).bind fun x => x.zero) = some (.agg #[(.slice none 0 0)]) := by kernel_rfl
@[simp] theorem szOf_140 : szOf Tryz.prog 140 = some 1 := by kernel_rfl
@[simp] theorem bytesOf_140 : bytesOf Tryz.prog 140 = some 8 := by kernel_rfl
@[simp] theorem zeroOf_140 : ((Tryz.prog.info? 140).bind fun x => x.zero) = some .nilFunc := by kernel_rfl
@[simp] theorem szOf_141 : szOf Tryz.prog 141 = some 1 := by kernel_rfl
@[simp] theorem bytesOf_141 : bytesOf Tryz.prog 141 = some 8 := by kernel_rfl
@[simp] theorem zeroOf_141 : ((Tryz.prog.info? 141).bind fun x => x.zero) = some .nilFunc := by kernel_rfl
@[simp] theorem szOf_142 : szOf Tryz.prog 142 = some 1 := by kernel_rfl
@[simp] theorem bytesOf_142 : bytesOf Tryz.prog 142 = some 8 := by kernel_rfl
@[simp] theorem zeroOf_142 : ((Tryz.prog.info? 142).bind fun x => x.zero) = some .nilFunc := by kernel_rfl
@[simp] theorem szOf_143 : szOf Tryz.prog 143 = some 1 := by kernel_rfl
@[simp] theorem bytesOf_143 : bytesOf Tryz.prog 143 = some 8 := by kernel_rfl
@[simp] theorem zeroOf_143 : ((Tryz.prog.info? 143).bind fun x => x.zero) = some .nilFunc := by kernel_rfl
@[simp] theorem szOf_144 : szOf Tryz.prog 144 = some 1 := by kernel_rfl
@[simp] theorem bytesOf_144 : bytesOf Tryz.prog 144 = some 8 := by kernel_rfl
@[simp] theorem zeroOf_144 : ((Tryz.prog.info? 144).bind fun x => x.zero) = some .nilFunc := by kernel_rfl
@[simp] theorem szOf_145 : szOf Tryz.prog 145 = some 1 := by kernel_rfl
@[simp] theorem bytesOf_145 : bytesOf Tryz.prog 145 = some 8 := by kernel_rfl
@[simp] theorem zeroOf_145 : ((Tryz.prog.info? 145).bind fun x => x.zero) = some (.pointer none) := by kernel_rfl
@[simp] theorem szOf_146 : szOf Tryz.prog 146 = some 1 := by kernel_rfl
@[simp] theorem bytesOf_146 : bytesOf Tryz.prog 146 = some 8 := by kernel_rfl
@[simp] theorem zeroOf_146 : ((Tryz.prog.info? 146).bind fun x => x.zero) = some .nilFunc := by kernel_rfl
@[simp] theorem szOf_147 : szOf Tryz.prog 147 = some 1 := by kernel_rfl
@[simp] theorem bytesOf_147 : bytesOf Tryz.prog 147 = some 8 := by kernel_rfl
@[simp] theorem zeroOf_147 : ((Tryz.prog.info? 147).bind fun x => x.zero) = some .nilFunc := by kernel_rfl
@[simp] theorem szOf_148 : szOf Tryz.prog 148 = some 1 := by kernel_rfl
@[simp] theorem bytesOf_148 : bytesOf Tryz.prog 148 = some 8 := by kernel_rfl
@[simp] theorem zeroOf_148 : ((Tryz.prog.info? 148).bind fun x => x.zero) = some (.pointer none) := by kernel_rfl
@[simp] theorem szOf_149 : szOf Tryz.prog 149 = some 1 := by kernel_rfl
@[simp] theorem bytesOf_149 : bytesOf Tryz.prog 149 = some 8 := by kernel_rfl
@[simp] theorem zeroOf_149 : ((Tryz.prog.info? 149).bind fun x => x.zero) = some .nilFunc := by kernel_rfl
@[simp] theorem szOf_150 : szOf Tryz.prog 150 = some 1 := by kernel_rfl
@[simp] theorem bytesOf_150 : bytesOf Tryz.prog 150 = some 8 := by kernel_rfl
@[simp] theorem zeroOf_150 : ((Tryz.prog.info? 150).bind fun x => x.zero) = some .nilFunc := by kernel_rfl
@[simp] theorem szOf_151 : szOf Tryz.prog 151 = some 1 := by kernel_rfl
@[simp] theorem bytesOf_151 : bytesOf Tryz.prog 151 = some 8 := by kernel_rfl
@[simp] theorem zeroOf_151 : ((Tryz.prog.info? 151).bind fun x => x.zero) = some .nilFunc := by kernel_rfl
@[simp] theorem szOf_152 : szOf Tryz.prog 152 = some 1 := by kernel_rfl
@[simp] theorem bytesOf_152 : bytesOf Tryz.prog 152 = some 8 := by kernel_rfl
@[simp] theorem zeroOf_152 : ((Tryz.prog.info? 152).bind fun x => x.zero) = some .nilFunc := by kernel_rfl
@[simp] theorem szOf_154 : szOf Tryz.prog 154 = some 1 := by kernel_rfl
@[simp] theorem bytesOf_154 : bytesOf Tryz.prog 154 = some 8 := by kernel_rfl
@[simp] theorem zeroOf_154 : ((Tryz.prog.info? 154).bind fun x => x.zero) = some .nilFunc := by kernel_rfl
@[simp] theorem szOf_155 : szOf Tryz.prog 155 = some 1 := by kernel_rfl
@[simp] theorem bytesOf_155 : bytesOf Tryz.prog 155 = some 8 := by kernel_rfl
@[simp] theorem zeroOf_155 : ((Tryz.prog.info? 155).bind fun x => x.zero) = some .nilFunc := by kernel_rfl
@[simp] theorem szOf_156 : szOf Tryz.prog 156 = some 1 := by kernel_rfl
@[simp] theorem bytesOf_156 : bytesOf Tryz.prog 156 = some 24 := by kernel_rfl
@[simp] theorem zeroOf_156 : ((Tryz.prog.info? 156).bind fun x => x.zero) = some (.slice none 0 0) := by kernel_rfl
@[simp] theorem szOf_157 : szOf Tryz.prog 157 = some 1 := by kernel_rfl
@[simp] theorem bytesOf_157 : bytesOf Tryz.prog 157 = some 8 := by kernel_rfl
@[simp] theorem zeroOf_157 : ((Tryz.prog.info? 157).bind fun x => x.zero) = some .nilFunc := by kernel_rfl
@[simp] theorem szOf_158 : szOf Tryz.prog 158 = some 1 := by kernel_rfl
@[simp] theorem bytesOf_158 : bytesOf Tryz.prog 158 = some 8 := by kernel_rfl
@[simp] theorem zeroOf_158 : ((Tryz.prog.info? 158).bind fun x => x.zero) = some .nilFunc := by kernel_rfl
@[simp] theorem szOf_159 : szOf Tryz.prog 159 = some 1 := by kernel_rfl
@[simp] theorem bytesOf_159 : bytesOf Tryz.prog 159 = some 8 := by kernel_rfl
@[simp] theorem zeroOf_159 : ((Tryz.prog.info? 159).bind fun x => x.zero) = some .nilFunc := by kernel_rfl
@[simp] theorem szOf_160 : szOf Tryz.prog 160 = some 1 := by kernel_rfl
@[simp] theorem bytesOf_160 : bytesOf Tryz.prog 160 = some 8 := by kernel_rfl
@[simp] theorem zeroOf_160 : ((Tryz.prog.info? 160).bind fun x => x.zero) = some (.int .u64 0) := by kernel_rfl
@[simp] theorem szOf_162 : szOf Tryz.prog 162 = some 1 := by kernel_rfl
@[simp] theorem bytesOf_162 : bytesOf Tryz.prog 162 = some 8 := by kernel_rfl
@[simp] theorem zeroOf_162 : ((Tryz.prog.info? 162).bind fun x => x.zero) = some .nilFunc := by kernel_rfl
@[simp] theorem szOf_163 : szOf Tryz.prog 163 = some 1 := by kernel_rfl
@[simp] theorem bytesOf_163 : bytesOf Tryz.prog 163 = some 8 := by kernel_rfl
@[simp] theorem zeroOf_163 : ((Tryz.prog.info? 163).bind fun x => x.zero) = some .nilFunc := by kernel_rfl
@[simp] theorem szOf_164 : szOf Tryz.prog 164 = some 1 := by kernel_rfl
@[simp] theorem bytesOf_164 : bytesOf Tryz.prog 164 = some 8 := by kernel_rfl
@[simp] theorem zeroOf_164 : ((Tryz.prog.info? 164).bind fun x => x.zero) = some .nilFunc := by kernel_rfl
@[simp] theorem szOf_165 : szOf Tryz.prog 165 = some 1 := by kernel_rfl
@[simp] theorem bytesOf_165 : bytesOf Tryz.prog 165 = some 8 := by kernel_rfl
@[simp] theorem zeroOf_165 : ((Tryz.prog.info? 165).bind fun x => x.zero) = some (.pointer none) := by kernel_rfl
@[simp] theorem szOf_166 : szOf Tryz.prog 166 = some 1 := by kernel_rfl
@[simp] theorem bytesOf_166 : bytesOf Tryz.prog 166 = some 8 := by kernel_rfl
@[simp] theorem zeroOf_166 : ((Tryz.prog.info? 166).bind fun x => x.zero) = some .nilFunc := by kernel_rfl
@[simp] theorem szOf_167 : szOf Tryz.prog 167 = some 1 := by kernel_rfl
@[simp] theorem bytesOf_167 : bytesOf Tryz.prog 167 = some 8 := by kernel_rfl
@[simp] theorem zeroOf_167 : ((Tryz.prog.info? 167).bind fun x => x.zero) = some .nilFunc := by kernel_rfl
@[simp] theorem szOf_169 : szOf Tryz.prog 169 = some 1 := by kernel_rfl
@[simp] theorem bytesOf_169 : bytesOf Tryz.prog 169 = some 8 := by kernel_rfl
@[simp] theorem zeroOf_169 : ((Tryz.prog.info? 169).bind fun x => x.zero) = some .nilFunc := by kernel_rfl
@[simp] theorem szOf_170 : szOf Tryz.prog 170 = some 1 := by kernel_rfl
@[simp] theorem bytesOf_170 : bytesOf Tryz.prog 170 = some 8 := by kernel_rfl
@[simp] theorem zeroOf_170 : ((Tryz.prog.info? 170).bind fun x => x.zero) = some .nilFunc := by kernel_rfl
@[simp] theorem szOf_171 : szOf Tryz.prog 171 = some 1 := by kernel_rfl
@[simp] theorem bytesOf_171 : bytesOf Tryz.prog 171 = some 8 := by kernel_rfl
@[simp] theorem zeroOf_171 : ((Tryz.prog.info? 171).bind fun x => x.zero) = some .nilFunc := by kernel_rfl
@[simp] theorem szOf_172 : szOf Tryz.prog 172 = some 1 := by kernel_rfl
@[simp] theorem bytesOf_172 : bytesOf Tryz.prog 172 = some 8 := by kernel_rfl
@[simp] theorem zeroOf_172 : ((Tryz.prog.info? 172).bind fun x => x.zero) = some .nilFunc := by kernel_rfl
@[simp] theorem szOf_173 : szOf Tryz.prog 173 = some 1 := by kernel_rfl
@[simp] theorem bytesOf_173 : bytesOf Tryz.prog 173 = some 8 := by kernel_rfl
@[simp] theorem zeroOf_173 : ((Tryz.prog.info? 173).bind fun x => x.zero) = some .nilFunc := by kernel_rfl
@[simp] theorem szOf_174 : szOf Tryz.prog 174 = some 1 := by kernel_rfl
@[simp] theorem bytesOf_174 : bytesOf Tryz.prog 174 = some 8 := by kernel_rfl
@[simp] theorem zeroOf_174 : ((Tryz.prog.info? 174).bind fun x => x.zero) = some .nilFunc := by kernel_rfl
@[simp] theorem szOf_175 : szOf Tryz.prog 175 = some 1 := by kernel_rfl
@[simp] theorem bytesOf_175 : bytesOf Tryz.prog 175 = some 8 := by kernel_rfl
@[simp] theorem zeroOf_175 : ((Tryz.prog.info? 175).bind fun x => x.zero) = some .nilFunc := by kernel_rfl
@[simp] theorem szOf_176 : szOf Tryz.prog 176 = some 24 := by kernel_rfl
@[simp] theorem bytesOf_176 : bytesOf Tryz.prog 176 = some 24 := by kernel_rfl
@[simp] theorem zeroOf_176 : ((Tryz.prog.info? 176).bind fun x => x.zero) = some (.agg #[(.int .u8 0), (.int .u8 0), (.int .u8 0), (.int .u8 0), (.int .u8 0), (.int .u8 0), (.int .u8 0), (.int .u8 0), (.int .u8 0), (.int .u8 0), (.int .u8 0), (.int .u8 0), (.int .u8 0), (.int .u8 0), (.int .u8 0), (.int .u8 0), (.int .u8 0), (.int .u8 0), (.int .u8 0), (.int .u8 0), (.int .u8 0), (.int .u8 0), (.int .u8 0), (.int .u8 0)]) := by kernel_rfl
@[simp] theorem szOf_177 : szOf Tryz.prog 177 = some 1 := by kernel_rfl
@[simp] theorem bytesOf_177 : bytesOf Tryz.prog 177 = some 8 := by kernel_rfl
@[simp] theorem zeroOf_177 : ((Tryz.prog.info? 177).bind fun x => x.zero) = some .nilFunc := by kernel_rfl
@[simp] theorem szOf_178 : szOf Tryz.prog 178 = some 1 := by kernel_rfl
@[simp] theorem bytesOf_178 : bytesOf Tryz.prog 178 = some 8 := by kernel_rfl
@[simp] theorem zeroOf_178 : ((Tryz.prog.info? 178).bind fun x => x.zero) = some .nilFunc := by kernel_rfl
@[simp] theorem szOf_180 : szOf Tryz.prog 180 = some 1 := by kernel_rfl
@[simp] theorem bytesOf_180 : bytesOf Tryz.prog 180 = some 8 := by kernel_rfl
@[simp] theorem zeroOf_180 : ((Tryz.prog.info? 180).bind fun x => x.zero) = some .nilFunc := by kernel_rfl
@[simp] theorem szOf_182 : szOf Tryz.prog 182 = some 1 := by kernel_rfl
@[simp] theorem bytesOf_182 : bytesOf Tryz.prog 182 = some 8 := by kernel_rfl
@[simp] theorem zeroOf_182 : ((Tryz.prog.info? 182).bind fun x => x.zero) = some .nilFunc := by kernel_rfl
@[simp] theorem szOf_184 : szOf Tryz.prog 184 = some 1 := by kernel_rfl
@[simp] theorem bytesOf_184 : bytesOf Tryz.prog 184 = some 8 := by kernel_rfl
@[simp] theorem zeroOf_184 : ((Tryz.prog.info? 184).bind fun x => x.zero) = some .nilFunc := by kernel_rfl
@[simp] theorem szOf_185 : szOf Tryz.prog 185 = some 1 := by kernel_rfl
@[simp] theorem bytesOf_185 : bytesOf Tryz.prog 185 = some 8 := by kernel_rfl
@[simp] theorem zeroOf_185 : ((Tryz.prog.info? 185).bind fun x => x.zero) = some .nilFunc := by kernel_rfl
@[simp] theorem szOf_187 : szOf Tryz.prog 187 = some 1 := by kernel_rfl
@[simp] theorem bytesOf_187 : bytesOf Tryz.prog 187 = some 8 := by kernel_rfl
@[simp] theorem zeroOf_187 : ((Tryz.prog.info? 187).bind fun x => x.zero) = some .nilFunc := by kernel_rfl
@[simp] theorem szOf_188 : szOf Tryz.prog 188 = some 1 := by kernel_rfl
@[simp] theorem bytesOf_188 : bytesOf Tryz.prog 188 = some 8 := by kernel_rfl
@[simp] theorem zeroOf_188 : ((Tryz.prog.info? 188).bind fun x => x.zero) = some .nilFunc := by kernel_rfl
@[simp] theorem szOf_189 : szOf Tryz.prog 189 = some 1 := by kernel_rfl
@[simp] theorem bytesOf_189 : bytesOf Tryz.prog 189 = some 8 := by kernel_rfl
@[simp] theorem zeroOf_189 : ((Tryz.prog.info? 189).bind fun x => x.zero) = some .nilFunc := by kernel_rfl
@[simp] theorem szOf_190 : szOf Tryz.prog 190 = some 20 := by kernel_rfl
@[simp] theorem bytesOf_190 : bytesOf Tryz.prog 190 = some 160 := by kernel_rfl
@[simp] theorem zeroOf_190 : ((Tryz.prog.info? 190).bind fun x => x.zero) = some (.agg #[(.int .u64 0), (.int .u64 0), (.int .u64 0), (.int .u64 0), (.int .u64 0), (.int .u64 0), (.int .u64 0), (.int .u64 0), (.int .u64 0), (.int .u64 0), (.int .u64 0), (.int .u64 0), (.int .u64 0), (.int .u64 0), (.int .u64 0), (.int .u64 0), (.int .u64 0), (.int .u64 0), (.int .u64 0), (.int .u64 0)]) := by kernel_rfl
@[simp] theorem szOf_191 : szOf Tryz.prog 191 = some 65 := by kernel_rfl
@[simp] theorem bytesOf_191 : bytesOf Tryz.prog 191 = some 65 := by kernel_rfl
@[simp] theorem zeroOf_191 : ((Tryz.prog.info? 191).bind fun x => x.zero) = some (.agg #[(.int .u8 0), (.int .u8 0), (.int .u8 0), (.int .u8 0), (.int .u8 0), (.int .u8 0), (.int .u8 0), (.int .u8 0), (.int .u8 0), (.int .u8 0), (.int .u8 0), (.int .u8 0), (.int .u8 0), (.int .u8 0), (.int .u8 0), (.int .u8 0), (.int .u8 0), (.int .u8 0), (.int .u8 0), (.int .u8 0), (.int .u8 0), (.int .u8 0), (.int .u8 0), (.int .u8 0), (.int .u8 0), (.int .u8 0), (.int .u8 0), (.int .u8 0), (.int .u8 0), (.int .u8 0), (.int .u8 0), (.int .u8 0), (.int .u8 0), (.int .u8 0), (.int .u8 0), (.int .u8 0), (.int .u8 0), (.int .u8 0), (.int .u8 0), (.int .u8 0), (.int .u8 0), (.int .u8 0), (.int .u8 0), (.int .u8 0), (.int .u8 0), (.int .u8 0), (.int .u8 0), (.int .u8 0), (.int .u8 0), (.int .u8 0), (.int .u8 0), (.int .u8 0), (.int .u8 0), (.int .u8 0), (.int .u8 0), (.int .u8 0), (.int .u8 0), (.int .u8 0), (.int .u8 0), (.int .u8 0), (.int .u8 0), (.int .u8 0), (.int .u8 0), (.int .u8 0), (.int .u8 0)]) := by kernel_rfl
@[simp] theorem szOf_192 : szOf Tryz.prog 192 = some 1 := by kernel_rfl
@[simp] theorem bytesOf_192 : bytesOf Tryz.prog 192 = some 8 := by kernel_rfl
@[simp] theorem zeroOf_192 : ((Tryz.prog.info? 192).bind fun x => x.zero) = some .nilFunc := by kernel_rfl
@[simp] theorem szOf_193 : szOf Tryz.prog 193 = some 1 := by kernel_rfl
@[simp] theorem bytesOf_193 : bytesOf Tryz.prog 193 = some 8 := by kernel_rfl
@[simp] theorem zeroOf_193 : ((Tryz.prog.info? 193).bind fun x => x.zero) = some .nilFunc := by kernel_rfl
@[simp] theorem szOf_194 : szOf Tryz.prog 194 = some 1 := by kernel_rfl
@[simp] theorem bytesOf_194 : bytesOf Tryz.prog 194 = some 8 := by kernel_rfl
@[simp] theorem zeroOf_194 : ((Tryz.prog.info? 194).bind fun x => x.zero) = some .nilFunc := by kernel_rfl
@[simp] theorem szOf_195 : szOf Tryz.prog 195 = some 1 := by kernel_rfl
@[simp] theorem bytesOf_195 : bytesOf Tryz.prog 195 = some 8 := by kernel_rfl
@[simp] theorem zeroOf_195 : ((Tryz.prog.info? 195).bind fun x => x.zero) = some .nilFunc := by kernel_rfl
@[simp] theorem szOf_196 : szOf Tryz.prog 196 = some 1 := by kernel_rfl
@[simp] theorem bytesOf_196 : bytesOf Tryz.prog 196 = some 8 := by kernel_rfl
@[simp] theorem zeroOf_196 : ((Tryz.prog.info? 196).bind fun x => x.zero) = some (.int .i64 0) := by kernel_rfl
@[simp] theorem szOf_197 : szOf Tryz.prog 197 = some 1 := by kernel_rfl
@[simp] theorem bytesOf_197 : bytesOf Tryz.prog 197 = some 8 := by kernel_rfl
@[simp] theorem zeroOf_197 : ((Tryz.prog.info? 197).bind fun x => x.zero) = some .nilFunc := by kernel_rfl
@[simp] theorem szOf_198 : szOf Tryz.prog 198 = some 1 := by kernel_rfl
@[simp] theorem bytesOf_198 : bytesOf Tryz.prog 198 = some 8 := by kernel_rfl
@[simp] theorem zeroOf_198 : ((Tryz.prog.info? 198).bind fun x => x.zero) = some (.pointer none) := by kernel_rfl
@[simp] theorem szOf_199 : szOf Tryz.prog 199 = some 1 := by kernel_rfl
@[simp] theorem bytesOf_199 : bytesOf Tryz.prog 199 = some 8 := by kernel_rfl
@[simp] theorem zeroOf_199 : ((Tryz.prog.info? 199).bind fun x => x.zero) = some .nilFunc := by kernel_rfl
@[simp] theorem szOf_200 : szOf Tryz.prog 200 = some 1 := by kernel_rfl
@[simp] theorem bytesOf_200 : bytesOf Tryz.prog 200 = some 8 := by kernel_rfl
@[simp] theorem zeroOf_200 : ((Tryz.prog.info? 200).bind fun x => x.zero) = some .nilFunc := by kernel_rfl
@[simp] theorem szOf_201 : szOf Tryz.prog 201 = some 32 := by kernel_rfl
@[simp] theorem bytesOf_201 : bytesOf Tryz.prog 201 = some 32 := by kernel_rfl
@[simp] theorem zeroOf_201 : ((Tryz.prog.info? 201).bind fun x => x.zero) = some (.agg #[(.int .u8 0), (.int .u8 0), (.int .u8 0), (.int .u8 0), (.int .u8 0), (.int .u8 0), (.int .u8 0), (.int .u8 0), (.int .u8 0), (.int .u8 0), (.int .u8 0), (.int .u8 0), (.int .u8 0), (.int .u8 0), (.int .u8 0), (.int .u8 0), (.int .u8 0), (.int .u8 0), (.int .u8 0), (.int .u8 0), (.int .u8 0), (.int .u8 0), (.int .u8 0), (.int .u8 0), (.int .u8 0), (.int .u8 0), (.int .u8 0), (.int .u8 0), (.int .u8 0), (.int .u8 0), (.int .u8 0), (.int .u8 0)]) := by kernel_rfl
@[simp] theorem szOf_202 : szOf Tryz.prog 202 = some 64 := by kernel_rfl
@[simp] theorem bytesOf_202 : bytesOf Tryz.prog 202 = some 64 := by kernel_rfl
@[simp] theorem zeroOf_202 : ((Tryz.prog.info? 202).bind fun x => x.zero) = some (.agg #[(.int .u8 0), (.int .u8 0), (.int .u8 0), (.int .u8 0), (.int .u8 0), (.int .u8 0), (.int .u8 0), (.int .u8 0), (.int .u8 0), (.int .u8 0), (.int .u8 0), (.int .u8 0), (.int .u8 0), (.int .u8 0), (.int .u8 0), (.int .u8 0), (.int .u8 0), (.int .u8 0), (.int .u8 0), (.int .u8 0), (.int .u8 0), (.int .u8 0), (.int .u8 0), (.int .u8 0), (.int .u8 0), (.int .u8 0), (.int .u8 0), (.int .u8 0), (.int .u8 0), (.int .u8 0), (.int .u8 0), (.int .u8 0), (.int .u8 0), (.int .u8 0), (.int .u8 0), (.int .u8 0), (.int .u8 0), (.int .u8 0), (.int .u8 0), (.int .u8 0), (.int .u8 0), (.int .u8 0), (.int .u8 0), (.int .u8 0), (.int .u8 0), (.int .u8 0), (.int .u8 0), (.int .u8 0), (.int .u8 0), (.int .u8 0), (.int .u8 0), (.int .u8 0), (.int .u8 0), (.int .u8 0), (.int .u8 0), (.int .u8 0), (.int .u8 0), (.int .u8 0), (.int .u8 0), (.int .u8 0), (.int .u8 0), (.int .u8 0), (.int .u8 0), (.int .u8 0)]) := by kernel_rfl
@[simp] theorem szOf_203 : szOf Tryz.prog 203 = some 1 := by kernel_rfl
@[simp] theorem bytesOf_203 : bytesOf Tryz.prog 203 = some 8 := by kernel_rfl
@[simp] theorem zeroOf_203 : ((Tryz.prog.info? 203).bind fun x => x.zero) = some .nilFunc := by kernel_rfl
@[simp] theorem szOf_204 : szOf Tryz.prog 204 = some 3 := by kernel_rfl
@[simp] theorem bytesOf_204 : bytesOf Tryz.prog 204 = some 48 := by kernel_rfl
@[simp] theorem zeroOf_204 : ((Tryz.prog.info? 204).bind fun x => x.zero) = some (.agg #[(.string ⟨#[]⟩), (.string ⟨#[]⟩), .nilIface]) := by kernel_rfl
@[simp] theorem szOf_205 : szOf Tryz.prog 205 = some 3 := by kernel_rfl
@[simp] theorem bytesOf_205 : bytesOf Tryz.prog 205 = some 48 := by kernel_rfl
@[simp] theorem zeroOf_205 : ((Tryz.prog.info? 205).bind fun x => x.zero) = some (.agg #[(.string ⟨#[]⟩), (.string ⟨#[]⟩), .nilIface]) := by kernel_rfl
@[simp] theorem szOf_206 : szOf Tryz.prog 206 = some 1 := by kernel_rfl
@[simp] theorem bytesOf_206 : bytesOf Tryz.prog 206 = some 8 := by kernel_rfl
@[simp] theorem zeroOf_206 : ((Tryz.prog.info? 206).bind fun x => x.zero) = some .nilFunc := by kernel_rfl
@[simp] theorem szOf_207 : szOf Tryz.prog 207 = some 1 := by kernel_rfl
@[simp] theorem bytesOf_207 : bytesOf Tryz.prog 207 = some 8 := by kernel_rfl
@[simp] theorem zeroOf_207 : ((Tryz.prog.info? 207).bind fun x => x.zero) = some (.pointer none) := by kernel_rfl
@[simp] theorem szOf_208 : szOf Tryz.prog 208 = some 1 := by kernel_rfl
@[simp] theorem bytesOf_208 : bytesOf Tryz.prog 208 = some 16 := by kernel_rfl
@[simp] theorem zeroOf_208 : ((Tryz.prog.info? 208).bind fun x => x.zero) = some (.agg #[(.string ⟨#[]⟩)]) := by kernel_rfl
@[simp] theorem szOf_209 : szOf Tryz.prog 209 = some 1 := by kernel_rfl
@[simp] theorem bytesOf_209 : bytesOf Tryz.prog 209 = some 16 := by kernel_rfl
@[simp] theorem zeroOf_209 : ((Tryz.prog.info? 209).bind fun x => x.zero) = some (.agg #[(.string ⟨#[]⟩)]) := by kernel_rfl
@[simp] theorem szOf_210 : szOf Tryz.prog 210 = some 1 := by kernel_rfl
@[simp] theorem bytesOf_210 : bytesOf Tryz.prog 210 = some 8 := by kernel_rfl
@[simp] theorem zeroOf_210 : ((Tryz.prog.info? 210).bind fun x => x.zero) = some .nilFunc := by kernel_rfl
@[simp] theorem szOf_211 : szOf Tryz.prog 211 = some 4 := by kernel_rfl
@[simp] theorem bytesOf_211 : bytesOf Tryz.prog 211 = some 40 := by kernel_rfl
@[simp] theorem zeroOf_211 : ((Tryz.prog.info? 211).bind fun x => x.zero) = some (.agg #[(.pointer none), (.pointer none), (.pointer none), (.string ⟨#[]⟩)]) := by kernel_rfl
@[simp] theorem szOf_212 : szOf Tryz.prog 212 = some 4 := by kernel_rfl
@[simp] theorem bytesOf_212 : bytesOf Tryz.prog 212 = some 40 := by kernel_rfl
@[simp] theorem zeroOf_212 : ((Tryz.prog.info? 212).bind fun x => x.zero) = some (.agg #[(.pointer none), (.pointer none), (.pointer none), (.string ⟨#[]⟩)]) := by kernel_rfl
@[simp] theorem szOf_213 : szOf Tryz.prog 213 = some 0 := by kernel_rfl
@[simp] theorem bytesOf_213 : bytesOf Tryz.prog 213 = some 0 := by kernel_rfl
@[simp] theorem zeroOf_213 : ((Tryz.prog.info? 213).bind fun x => x.zero) = some (.agg #[]) := by kernel_rfl
@[simp] theorem szOf_214 : szOf Tryz.prog 214 = some 0 := by kernel_rfl
@[simp] theorem bytesOf_214 : bytesOf Tryz.prog 214 = some 0 := by kernel_rfl
@[simp] theorem zeroOf_214 : ((Tryz.prog.info? 214).bind fun x => x.zero) = some (.agg #[]) := by kernel_rfl
@[simp] theorem szOf_215 : szOf Tryz.prog 215 = some 0 := by kernel_rfl
@[simp] theorem bytesOf_215 : bytesOf Tryz.prog 215 = some 0 := by kernel_rfl
@[simp] theorem zeroOf_215 : ((Tryz.prog.info? 215).bind fun x => x.zero) = some (.agg #[]) := by kernel_rfl
@[simp] theorem szOf_216 : szOf Tryz.prog 216 = some 1 := by kernel_rfl
@[simp] theorem bytesOf_216 : bytesOf Tryz.prog 216 = some 1 := by kernel_rfl
@[simp] theorem zeroOf_216 : ((Tryz.prog.info? 216).bind fun x => x.zero) = some (.int .u8 0) := by kernel_rfl
@[simp] theorem szOf_217 : szOf Tryz.prog 217 = some 1 := by kernel_rfl
@[simp] theorem bytesOf_217 : bytesOf Tryz.prog 217 = some 1 := by kernel_rfl
@[simp] theorem zeroOf_217 : ((Tryz.prog.info? 217).bind fun x => x.zero) = some (.int .u8 0) := by kernel_rfl
@[simp] theorem szOf_218 : szOf Tryz.prog 218 = some 1 := by kernel_rfl
@[simp] theorem bytesOf_218 : bytesOf Tryz.prog 218 = some 8 := by kernel_rfl
@[simp] theorem zeroOf_218 : ((Tryz.prog.info? 218).bind fun x => x.zero) = some .nilFunc := by kernel_rfl
@[simp] theorem szOf_219 : szOf Tryz.prog 219 = some 1 := by kernel_rfl
@[simp] theorem bytesOf_219 : bytesOf Tryz.prog 219 = some 4 := by kernel_rfl
@[simp] theorem zeroOf_219 : ((Tryz.prog.info? 219).bind fun x => x.zero) = some (.int .i32 0) := by kernel_rfl
@[simp] theorem szOf_220 : szOf Tryz.prog 220 = some 1 := by kernel_rfl
@[simp] theorem bytesOf_220 : bytesOf Tryz.prog 220 = some 4 := by kernel_rfl
@[simp] theorem zeroOf_220 : ((Tryz.prog.info? 220).bind fun x => x.zero) = some (.int .i32 0) := by kernel_rfl
@[simp] theorem szOf_221 : szOf Tryz.prog 221 = some 11 := by kernel_rfl
@[simp] theorem bytesOf_221 : bytesOf Tryz.prog 221 = some 48 := by kernel_rfl
@[simp] theorem zeroOf_221 : ((Tryz.prog.info? 221).bind fun x => x.zero) = some (.agg #[(.int .u64 0), (.int .u64 0), (.int .u32 0), (.int .u8 0), (.int .u8 0), (.int .u8 0), (.int .u8 0), .nilFunc, (.pointer none), (.int .i32 0), (.int .i32 0)]) := by kernel_rfl
@[simp] theorem szOf_222 : szOf Tryz.prog 222 = some 11 := by kernel_rfl
@[simp] theorem bytesOf_222 : bytesOf Tryz.prog 222 = some 48 := by kernel_rfl
@[simp] theorem zeroOf_222 : ((Tryz.prog.info? 222).bind fun x => x.zero) = some (.agg #[(.int .u64 0), (.int .u64 0), (.int .u32 0), (.int .u8 0), (.int .u8 0), (.int .u8 0), (.int .u8 0), .nilFunc, (.pointer none), (.int .i32 0), (.int .i32 0)]) := by kernel_rfl
end Go.Proofs.YtcjjmejmpdhikaaGreatDoor
