/-
  EV: the sizes of the translation's types (written by a program).
-/
import Derived.Test.YtocaickbfeaiaaaEvSym
import Derived.Test.YtocaickbfeaiaaaRows
namespace Go.Proofs.Ytocaickbfeaiaaa
@[simp] theorem szOf_1 : szOf Try.prog 1 = some 1 := by kernel_rfl
@[simp] theorem bytesOf_1 : bytesOf Try.prog 1 = some 8 := by kernel_rfl
@[simp] theorem zeroOf_1 : ((Try.prog.info? 1).bind fun x => x.zero) = some .nilFunc := by kernel_rfl
@[simp] theorem szOf_2 : szOf Try.prog 2 = some 1 := by kernel_rfl
@[simp] theorem bytesOf_2 : bytesOf Try.prog 2 = some 8 := by kernel_rfl
@[simp] theorem zeroOf_2 : ((Try.prog.info? 2).bind fun x => x.zero) = some (.int .i64 0) := by kernel_rfl
@[simp] theorem szOf_3 : szOf Try.prog 3 = some 1 := by kernel_rfl
@[simp] theorem bytesOf_3 : bytesOf Try.prog 3 = some 8 := by kernel_rfl
@[simp] theorem zeroOf_3 : ((Try.prog.info? 3).bind fun x => x.zero) = some (.int .i64 0) := by kernel_rfl
@[simp] theorem szOf_4 : szOf Try.prog 4 = some 1 := by kernel_rfl
@[simp] theorem bytesOf_4 : bytesOf Try.prog 4 = some 1 := by kernel_rfl
@[simp] theorem zeroOf_4 : ((Try.prog.info? 4).bind fun x => x.zero) = some (.bool false) := by kernel_rfl
@[simp] theorem szOf_5 : szOf Try.prog 5 = some 1 := by kernel_rfl
@[simp] theorem bytesOf_5 : bytesOf Try.prog 5 = some 1 := by kernel_rfl
@[simp] theorem zeroOf_5 : ((Try.prog.info? 5).bind fun x => x.zero) = some (.int .u8 0) := by kernel_rfl
@[simp] theorem szOf_6 : szOf Try.prog 6 = some 1 := by kernel_rfl
@[simp] theorem bytesOf_6 : bytesOf Try.prog 6 = some 1 := by kernel_rfl
@[simp] theorem zeroOf_6 : ((Try.prog.info? 6).bind fun x => x.zero) = some (.int .u8 0) := by kernel_rfl
@[simp] theorem szOf_7 : szOf Try.prog 7 = some 4 := by kernel_rfl
@[simp] theorem bytesOf_7 : bytesOf Try.prog 7 = some 24 := by kernel_rfl
@[simp] theorem zeroOf_7 : ((Try.prog.info? 7).bind fun x => x.zero) = some (.agg #[(.int .i64 0), (.int .i64 0), (.bool false), (.int .u8 0)]) := by kernel_rfl
@[simp] theorem szOf_8 : szOf Try.prog 8 = some 4 := by kernel_rfl
@[simp] theorem bytesOf_8 : bytesOf Try.prog 8 = some 24 := by kernel_rfl
@[simp] theorem zeroOf_8 : ((Try.prog.info? 8).bind fun x => x.zero) = some (.agg #[(.int .i64 0), (.int .i64 0), (.bool false), (.int .u8 0)]) := by kernel_rfl
@[simp] theorem szOf_9 : szOf Try.prog 9 = some 1 := by kernel_rfl
@[simp] theorem bytesOf_9 : bytesOf Try.prog 9 = some 16 := by kernel_rfl
@[simp] theorem zeroOf_9 : ((Try.prog.info? 9).bind fun x => x.zero) = some (.string ⟨#[]⟩) := by kernel_rfl
@[simp] theorem szOf_10 : szOf Try.prog 10 = some 1 := by kernel_rfl
@[simp] theorem bytesOf_10 : bytesOf Try.prog 10 = some 16 := by kernel_rfl
@[simp] theorem zeroOf_10 : ((Try.prog.info? 10).bind fun x => x.zero) = some (.string ⟨#[]⟩) := by kernel_rfl
@[simp] theorem szOf_11 : szOf Try.prog 11 = some 1 := by kernel_rfl
@[simp] theorem bytesOf_11 : bytesOf Try.prog 11 = some 16 := by kernel_rfl
@[simp] theorem zeroOf_11 : ((Try.prog.info? 11).bind fun x => x.zero) = some (.string ⟨#[]⟩) := by kernel_rfl
@[simp] theorem szOf_12 : szOf Try.prog 12 = some 1 := by kernel_rfl
@[simp] theorem bytesOf_12 : bytesOf Try.prog 12 = some 8 := by kernel_rfl
@[simp] theorem zeroOf_12 : ((Try.prog.info? 12).bind fun x => x.zero) = some (.int .u64 0) := by kernel_rfl
@[simp] theorem szOf_13 : szOf Try.prog 13 = some 2 := by kernel_rfl
@[simp] theorem bytesOf_13 : bytesOf Try.prog 13 = some 24 := by kernel_rfl
@[simp] theorem zeroOf_13 : ((Try.prog.info? 13).bind fun x => x.zero) = some (.agg #[(.string ⟨#[]⟩), (.int .u64 0)]) := by kernel_rfl
@[simp] theorem szOf_14 : szOf Try.prog 14 = some 2 := by kernel_rfl
@[simp] theorem bytesOf_14 : bytesOf Try.prog 14 = some 24 := by kernel_rfl
@[simp] theorem zeroOf_14 : ((Try.prog.info? 14).bind fun x => x.zero) = some (.agg #[(.string ⟨#[]⟩), (.int .u64 0)]) := by kernel_rfl
@[simp] theorem szOf_15 : szOf Try.prog 15 = some 1 := by kernel_rfl
@[simp] theorem bytesOf_15 : bytesOf Try.prog 15 = some 8 := by kernel_rfl
@[simp] theorem zeroOf_15 : ((Try.prog.info? 15).bind fun x => x.zero) = some (.pointer none) := by kernel_rfl
@[simp] theorem szOf_16 : szOf Try.prog 16 = some 1 := by kernel_rfl
@[simp] theorem bytesOf_16 : bytesOf Try.prog 16 = some 8 := by kernel_rfl
@[simp] theorem zeroOf_16 : ((Try.prog.info? 16).bind fun x => x.zero) = some (.pointer none) := by kernel_rfl
@[simp] theorem szOf_17 : szOf Try.prog 17 = some 1 := by kernel_rfl
@[simp] theorem bytesOf_17 : bytesOf Try.prog 17 = some 8 := by kernel_rfl
@[simp] theorem zeroOf_17 : ((Try.prog.info? 17).bind fun x => x.zero) = some (.pointer none) := by kernel_rfl
@[simp] theorem szOf_18 : szOf Try.prog 18 = some 1 := by kernel_rfl
@[simp] theorem bytesOf_18 : bytesOf Try.prog 18 = some 8 := by kernel_rfl
@[simp] theorem zeroOf_18 : ((Try.prog.info? 18).bind fun x => x.zero) = some (.agg #[(.pointer none)]) := by kernel_rfl
@[simp] theorem szOf_19 : szOf Try.prog 19 = some 1 := by kernel_rfl
@[simp] theorem bytesOf_19 : bytesOf Try.prog 19 = some 8 := by kernel_rfl
@[simp] theorem zeroOf_19 : ((Try.prog.info? 19).bind fun x => x.zero) = some (.agg #[(.pointer none)]) := by kernel_rfl
@[simp] theorem szOf_20 : szOf Try.prog 20 = some 1 := by kernel_rfl
@[simp] theorem bytesOf_20 : bytesOf Try.prog 20 = some 16 := by kernel_rfl
@[simp] theorem zeroOf_20 : ((Try.prog.info? 20).bind fun x => x.zero) = some .nilIface := by kernel_rfl
@[simp] theorem szOf_21 : szOf Try.prog 21 = some 1 := by kernel_rfl
@[simp] theorem bytesOf_21 : bytesOf Try.prog 21 = some 4 := by kernel_rfl
@[simp] theorem zeroOf_21 : ((Try.prog.info? 21).bind fun x => x.zero) = some (.int .i32 0) := by kernel_rfl
@[simp] theorem szOf_22 : szOf Try.prog 22 = some 1 := by kernel_rfl
@[simp] theorem bytesOf_22 : bytesOf Try.prog 22 = some 8 := by kernel_rfl
@[simp] theorem zeroOf_22 : ((Try.prog.info? 22).bind fun x => x.zero) = some .nilFunc := by kernel_rfl
@[simp] theorem szOf_23 : szOf Try.prog 23 = some 1 := by kernel_rfl
@[simp] theorem bytesOf_23 : bytesOf Try.prog 23 = some 8 := by kernel_rfl
@[simp] theorem zeroOf_23 : ((Try.prog.info? 23).bind fun x => x.zero) = some .nilFunc := by kernel_rfl
@[simp] theorem szOf_24 : szOf Try.prog 24 = some 1 := by kernel_rfl
@[simp] theorem bytesOf_24 : bytesOf Try.prog 24 = some 24 := by kernel_rfl
@[simp] theorem zeroOf_24 : ((Try.prog.info? 24).bind fun x => x.zero) = some (.slice none 0 0) := by kernel_rfl
@[simp] theorem szOf_25 : szOf Try.prog 25 = some 1 := by kernel_rfl
@[simp] theorem bytesOf_25 : bytesOf Try.prog 25 = some 8 := by kernel_rfl
@[simp] theorem zeroOf_25 : ((Try.prog.info? 25).bind fun x => x.zero) = some (.int .i64 0) := by kernel_rfl
@[simp] theorem szOf_27 : szOf Try.prog 27 = some 1 := by kernel_rfl
@[simp] theorem bytesOf_27 : bytesOf Try.prog 27 = some 8 := by kernel_rfl
@[simp] theorem zeroOf_27 : ((Try.prog.info? 27).bind fun x => x.zero) = some .nilFunc := by kernel_rfl
@[simp] theorem szOf_28 : szOf Try.prog 28 = some 1 := by kernel_rfl
@[simp] theorem bytesOf_28 : bytesOf Try.prog 28 = some 8 := by kernel_rfl
@[simp] theorem zeroOf_28 : ((Try.prog.info? 28).bind fun x => x.zero) = some .nilFunc := by kernel_rfl
@[simp] theorem szOf_29 : szOf Try.prog 29 = some 1 := by kernel_rfl
@[simp] theorem bytesOf_29 : bytesOf Try.prog 29 = some 8 := by kernel_rfl
@[simp] theorem zeroOf_29 : ((Try.prog.info? 29).bind fun x => x.zero) = some .nilFunc := by kernel_rfl
@[simp] theorem szOf_30 : szOf Try.prog 30 = some 4 := by kernel_rfl
@[simp] theorem bytesOf_30 : bytesOf Try.prog 30 = some 56 := by kernel_rfl
@[simp] theorem zeroOf_30 : ((Try.prog.info? 30).bind fun x => x.zero) = some (.agg #[(.string ⟨#[]⟩), (.slice none 0 0), (.bool false), (.int .i64 0)]) := by kernel_rfl
@[simp] theorem szOf_31 : szOf Try.prog 31 = some 4 := by kernel_rfl
@[simp] theorem bytesOf_31 : bytesOf Try.prog 31 = some 56 := by kernel_rfl
@[simp] theorem zeroOf_31 : ((Try.prog.info? 31).bind fun x => x.zero) = some (.agg #[(.string ⟨#[]⟩), (.slice none 0 0), (.bool false), (.int .i64 0)]) := by kernel_rfl
@[simp] theorem szOf_32 : szOf Try.prog 32 = some 1 := by kernel_rfl
@[simp] theorem bytesOf_32 : bytesOf Try.prog 32 = some 8 := by kernel_rfl
@[simp] theorem zeroOf_32 : ((Try.prog.info? 32).bind fun x => x.zero) = some .nilFunc := by kernel_rfl
@[simp] theorem szOf_33 : szOf Try.prog 33 = some 1 := by kernel_rfl
@[simp] theorem bytesOf_33 : bytesOf Try.prog 33 = some 8 := by kernel_rfl
@[simp] theorem zeroOf_33 : ((Try.prog.info? 33).bind fun x => x.zero) = some .nilFunc := by kernel_rfl
@[simp] theorem szOf_34 : szOf Try.prog 34 = some 1 := by kernel_rfl
@[simp] theorem bytesOf_34 : bytesOf Try.prog 34 = some 8 := by kernel_rfl
@[simp] theorem zeroOf_34 : ((Try.prog.info? 34).bind fun x => x.zero) = some .nilFunc := by kernel_rfl
@[simp] theorem szOf_35 : szOf Try.prog 35 = some 1 := by kernel_rfl
@[simp] theorem bytesOf_35 : bytesOf Try.prog 35 = some 8 := by kernel_rfl
@[simp] theorem zeroOf_35 : ((Try.prog.info? 35).bind fun x => x.zero) = some .nilFunc := by kernel_rfl
@[simp] theorem szOf_36 : szOf Try.prog 36 = some 1 := by kernel_rfl
@[simp] theorem bytesOf_36 : bytesOf Try.prog 36 = some 24 := by kernel_rfl
@[simp] theorem zeroOf_36 : ((Try.prog.info? 36).bind fun x => x.zero) = some (.slice none 0 0) := by kernel_rfl
@[simp] theorem szOf_37 : szOf Try.prog 37 = some 1 := by kernel_rfl
@[simp] theorem bytesOf_37 : bytesOf Try.prog 37 = some 8 := by kernel_rfl
@[simp] theorem zeroOf_37 : ((Try.prog.info? 37).bind fun x => x.zero) = some .nilFunc := by kernel_rfl
@[simp] theorem szOf_38 : szOf Try.prog 38 = some 1 := by kernel_rfl
@[simp] theorem bytesOf_38 : bytesOf Try.prog 38 = some 8 := by kernel_rfl
@[simp] theorem zeroOf_38 : ((Try.prog.info? 38).bind fun x => x.zero) = some .nilFunc := by kernel_rfl
@[simp] theorem szOf_39 : szOf Try.prog 39 = some 1 := by kernel_rfl
@[simp] theorem bytesOf_39 : bytesOf Try.prog 39 = some 8 := by kernel_rfl
@[simp] theorem zeroOf_39 : ((Try.prog.info? 39).bind fun x => x.zero) = some .nilFunc := by kernel_rfl
@[simp] theorem szOf_40 : szOf Try.prog 40 = some 1 := by kernel_rfl
@[simp] theorem bytesOf_40 : bytesOf Try.prog 40 = some 8 := by kernel_rfl
@[simp] theorem zeroOf_40 : ((Try.prog.info? 40).bind fun x => x.zero) = some .nilFunc := by kernel_rfl
@[simp] theorem szOf_42 : szOf Try.prog 42 = some 1 := by kernel_rfl
@[simp] theorem bytesOf_42 : bytesOf Try.prog 42 = some 8 := by kernel_rfl
@[simp] theorem zeroOf_42 : ((Try.prog.info? 42).bind fun x => x.zero) = some .nilFunc := by kernel_rfl
@[simp] theorem szOf_43 : szOf Try.prog 43 = some 1 := by kernel_rfl
@[simp] theorem bytesOf_43 : bytesOf Try.prog 43 = some 8 := by kernel_rfl
@[simp] theorem zeroOf_43 : ((Try.prog.info? 43).bind fun x => x.zero) = some .nilFunc := by kernel_rfl
@[simp] theorem szOf_44 : szOf Try.prog 44 = some 2 := by kernel_rfl
@[simp] theorem bytesOf_44 : bytesOf Try.prog 44 = some 16 := by kernel_rfl
@[simp] theorem zeroOf_44 : ((Try.prog.info? 44).bind fun x => x.zero) = some (.agg #[(.int .i64 0), (.int .i64 0)]) := by kernel_rfl
@[simp] theorem szOf_45 : szOf Try.prog 45 = some 2 := by kernel_rfl
@[simp] theorem bytesOf_45 : bytesOf Try.prog 45 = some 16 := by kernel_rfl
@[simp] theorem zeroOf_45 : ((Try.prog.info? 45).bind fun x => x.zero) = some (.agg #[(.int .i64 0), (.int .i64 0)]) := by kernel_rfl
@[simp] theorem szOf_47 : szOf Try.prog 47 = some 1 := by kernel_rfl
@[simp] theorem bytesOf_47 : bytesOf Try.prog 47 = some 8 := by kernel_rfl
@[simp] theorem zeroOf_47 : ((Try.prog.info? 47).bind fun x => x.zero) = some (.pointer none) := by kernel_rfl
@[simp] theorem szOf_48 : szOf Try.prog 48 = some 2 := by kernel_rfl
@[simp] theorem bytesOf_48 : bytesOf Try.prog 48 = some 24 := by kernel_rfl
@[simp] theorem zeroOf_48 : ((Try.prog.info? 48).bind fun x => x.zero) = some (.agg #[(.string ⟨#[]⟩), (.int .i64 0)]) := by kernel_rfl
@[simp] theorem szOf_49 : szOf Try.prog 49 = some 2 := by kernel_rfl
@[simp] theorem bytesOf_49 : bytesOf Try.prog 49 = some 24 := by kernel_rfl
@[simp] theorem zeroOf_49 : ((Try.prog.info? 49).bind fun x => x.zero) = some (.agg #[(.string ⟨#[]⟩), (.int .i64 0)]) := by kernel_rfl
@[simp] theorem szOf_50 : szOf Try.prog 50 = some 3 := by kernel_rfl
@[simp] theorem bytesOf_50 : bytesOf Try.prog 50 = some 32 := by kernel_rfl
@[simp] theorem zeroOf_50 : ((Try.prog.info? 50).bind fun x => x.zero) = some (.agg #[(.string ⟨#[]⟩), (.int .i64 0), (.int .i64 0)]) := by kernel_rfl
@[simp] theorem szOf_51 : szOf Try.prog 51 = some 3 := by kernel_rfl
@[simp] theorem bytesOf_51 : bytesOf Try.prog 51 = some 32 := by kernel_rfl
@[simp] theorem zeroOf_51 : ((Try.prog.info? 51).bind fun x => x.zero) = some (.agg #[(.string ⟨#[]⟩), (.int .i64 0), (.int .i64 0)]) := by kernel_rfl
@[simp] theorem szOf_52 : szOf Try.prog 52 = some 1 := by kernel_rfl
@[simp] theorem bytesOf_52 : bytesOf Try.prog 52 = some 8 := by kernel_rfl
@[simp] theorem zeroOf_52 : ((Try.prog.info? 52).bind fun x => x.zero) = some .nilFunc := by kernel_rfl
@[simp] theorem szOf_53 : szOf Try.prog 53 = some 1 := by kernel_rfl
@[simp] theorem bytesOf_53 : bytesOf Try.prog 53 = some 8 := by kernel_rfl
@[simp] theorem zeroOf_53 : ((Try.prog.info? 53).bind fun x => x.zero) = some .nilFunc := by kernel_rfl
@[simp] theorem szOf_54 : szOf Try.prog 54 = some 1 := by kernel_rfl
@[simp] theorem bytesOf_54 : bytesOf Try.prog 54 = some 8 := by kernel_rfl
@[simp] theorem zeroOf_54 : ((Try.prog.info? 54).bind fun x => x.zero) = some (.pointer none) := by kernel_rfl
@[simp] theorem szOf_55 : szOf Try.prog 55 = some 1 := by kernel_rfl
@[simp] theorem bytesOf_55 : bytesOf Try.prog 55 = some 24 := by kernel_rfl
@[simp] theorem zeroOf_55 : ((Try.prog.info? 55).bind fun x => x.zero) = some (.slice none 0 0) := by kernel_rfl
@[simp] theorem szOf_56 : szOf Try.prog 56 = some 2 := by kernel_rfl
@[simp] theorem bytesOf_56 : bytesOf Try.prog 56 = some 32 := by kernel_rfl
@[simp] theorem zeroOf_56 : ((Try.prog.info? 56).bind fun x => x.zero) = some (.agg #[(.pointer none), (.slice none 0 0)]) := by kernel_rfl
@[simp] theorem szOf_57 : szOf Try.prog 57 = some 2 := by kernel_rfl
@[simp] theorem bytesOf_57 : bytesOf Try.prog 57 = some 32 := by kernel_rfl
@[simp] theorem zeroOf_57 : ((Try.prog.info? 57).bind fun x => x.zero) = some (.agg #[(.pointer none), (.slice none 0 0)]) := by kernel_rfl
@[simp] theorem szOf_58 : szOf Try.prog 58 = some 2 := by kernel_rfl
@[simp] theorem bytesOf_58 : bytesOf Try.prog 58 = some 32 := by kernel_rfl
@[simp] theorem zeroOf_58 : ((Try.prog.info? 58).bind fun x => x.zero) = some (.agg #[(.pointer none), (.slice none 0 0)]) := by kernel_rfl
@[simp] theorem szOf_59 : szOf Try.prog 59 = some 2 := by kernel_rfl
@[simp] theorem bytesOf_59 : bytesOf Try.prog 59 = some 32 := by kernel_rfl
@[simp] theorem zeroOf_59 : ((Try.prog.info? 59).bind fun x => x.zero) = some (.agg #[(.pointer none), (.slice none 0 0)]) := by kernel_rfl
@[simp] theorem szOf_60 : szOf Try.prog 60 = some 1 := by kernel_rfl
@[simp] theorem bytesOf_60 : bytesOf Try.prog 60 = some 8 := by kernel_rfl
@[simp] theorem zeroOf_60 : ((Try.prog.info? 60).bind fun x => x.zero) = some .nilFunc := by kernel_rfl
@[simp] theorem szOf_61 : szOf Try.prog 61 = some 1 := by kernel_rfl
@[simp] theorem bytesOf_61 : bytesOf Try.prog 61 = some 8 := by kernel_rfl
@[simp] theorem zeroOf_61 : ((Try.prog.info? 61).bind fun x => x.zero) = some .nilFunc := by kernel_rfl
@[simp] theorem szOf_62 : szOf Try.prog 62 = some 4 := by kernel_rfl
@[simp] theorem bytesOf_62 : bytesOf Try.prog 62 = some 56 := by kernel_rfl
@[simp] theorem zeroOf_62 : ((Try.prog.info? 62).bind fun x => x.zero) = some (.agg #[(.string ⟨#[]⟩), (.slice none 0 0), (.bool false), (.int .i64 0)]) := by kernel_rfl
@[simp] theorem szOf_63 : szOf Try.prog 63 = some 4 := by kernel_rfl
@[simp] theorem bytesOf_63 : bytesOf Try.prog 63 = some 56 := by kernel_rfl
@[simp] theorem zeroOf_63 : ((Try.prog.info? 63).bind fun x => x.zero) = some (.agg #[(.string ⟨#[]⟩), (.slice none 0 0), (.bool false), (.int .i64 0)]) := by kernel_rfl
@[simp] theorem szOf_64 : szOf Try.prog 64 = some 1 := by kernel_rfl
@[simp] theorem bytesOf_64 : bytesOf Try.prog 64 = some 8 := by kernel_rfl
@[simp] theorem zeroOf_64 : ((Try.prog.info? 64).bind fun x => x.zero) = some (.pointer none) := by kernel_rfl
@[simp] theorem szOf_65 : szOf Try.prog 65 = some 1 := by kernel_rfl
@[simp] theorem bytesOf_65 : bytesOf Try.prog 65 = some 24 := by kernel_rfl
@[simp] theorem zeroOf_65 : ((Try.prog.info? 65).bind fun x => x.zero) = some (.slice none 0 0) := by kernel_rfl
@[simp] theorem szOf_66 : szOf Try.prog 66 = some 1 := by kernel_rfl
@[simp] theorem bytesOf_66 : bytesOf Try.prog 66 = some 24 := by kernel_rfl
@[simp] theorem zeroOf_66 : ((Try.prog.info? 66).bind fun x => x.zero) = some (.slice none 0 0) := by kernel_rfl
@[simp] theorem szOf_67 : szOf Try.prog 67 = some 2 := by kernel_rfl
@[simp] theorem bytesOf_67 : bytesOf Try.prog 67 = some 48 := by kernel_rfl
@[simp] theorem zeroOf_67 : ((Try.prog.info? 67).bind fun x => x.zero) = some (.agg #[(.slice none 0 0), (.slice none 0 0)]) := by kernel_rfl
@[simp] theorem szOf_68 : szOf Try.prog 68 = some 2 := by kernel_rfl
@[simp] theorem bytesOf_68 : bytesOf Try.prog 68 = some 48 := by kernel_rfl
@[simp] theorem zeroOf_68 : ((Try.prog.info? 68).bind fun x => x.zero) = some (.agg #[(.slice none 0 0), (.slice none 0 0)]) := by kernel_rfl
@[simp] theorem szOf_69 : szOf Try.prog 69 = some 1 := by kernel_rfl
@[simp] theorem bytesOf_69 : bytesOf Try.prog 69 = some 8 := by kernel_rfl
@[simp] theorem zeroOf_69 : ((Try.prog.info? 69).bind fun x => x.zero) = some .nilFunc := by kernel_rfl
@[simp] theorem szOf_70 : szOf Try.prog 70 = some 1 := by kernel_rfl
@[simp] theorem bytesOf_70 : bytesOf Try.prog 70 = some 8 := by kernel_rfl
@[simp] theorem zeroOf_70 : ((Try.prog.info? 70).bind fun x => x.zero) = some .nilFunc := by kernel_rfl
@[simp] theorem szOf_71 : szOf Try.prog 71 = some 1 := by kernel_rfl
@[simp] theorem bytesOf_71 : bytesOf Try.prog 71 = some 8 := by kernel_rfl
@[simp] theorem zeroOf_71 : ((Try.prog.info? 71).bind fun x => x.zero) = some .nilFunc := by kernel_rfl
@[simp] theorem szOf_72 : szOf Try.prog 72 = some 1 := by kernel_rfl
@[simp] theorem bytesOf_72 : bytesOf Try.prog 72 = some 8 := by kernel_rfl
@[simp] theorem zeroOf_72 : ((Try.prog.info? 72).bind fun x => x.zero) = some .nilFunc := by kernel_rfl
@[simp] theorem szOf_73 : szOf Try.prog 73 = some 1 := by kernel_rfl
@[simp] theorem bytesOf_73 : bytesOf Try.prog 73 = some 8 := by kernel_rfl
@[simp] theorem zeroOf_73 : ((Try.prog.info? 73).bind fun x => x.zero) = some (.pointer none) := by kernel_rfl
@[simp] theorem szOf_74 : szOf Try.prog 74 = some 1 := by kernel_rfl
@[simp] theorem bytesOf_74 : bytesOf Try.prog 74 = some 8 := by kernel_rfl
@[simp] theorem zeroOf_74 : ((Try.prog.info? 74).bind fun x => x.zero) = some (.pointer none) := by kernel_rfl
@[simp] theorem szOf_75 : szOf Try.prog 75 = some 1 := by kernel_rfl
@[simp] theorem bytesOf_75 : bytesOf Try.prog 75 = some 16 := by kernel_rfl
@[simp] theorem zeroOf_75 : ((Try.prog.info? 75).bind fun x => x.zero) = some .nilIface := by kernel_rfl
@[simp] theorem szOf_76 : szOf Try.prog 76 = some 1 := by kernel_rfl
@[simp] theorem bytesOf_76 : bytesOf Try.prog 76 = some 16 := by kernel_rfl
@[simp] theorem zeroOf_76 : ((Try.prog.info? 76).bind fun x => x.zero) = some .nilIface := by kernel_rfl
@[simp] theorem szOf_77 : szOf Try.prog 77 = some 1 := by kernel_rfl
@[simp] theorem bytesOf_77 : bytesOf Try.prog 77 = some 8 := by kernel_rfl
@[simp] theorem zeroOf_77 : ((Try.prog.info? 77).bind fun x => x.zero) = some .nilFunc := by kernel_rfl
@[simp] theorem szOf_79 : szOf Try.prog 79 = some 1 := by kernel_rfl
@[simp] theorem bytesOf_79 : bytesOf Try.prog 79 = some 8 := by kernel_rfl
@[simp] theorem zeroOf_79 : ((Try.prog.info? 79).bind fun x => x.zero) = some .nilFunc := by kernel_rfl
@[simp] theorem szOf_80 : szOf Try.prog 80 = some 1 := by kernel_rfl
@[simp] theorem bytesOf_80 : bytesOf Try.prog 80 = some 8 := by kernel_rfl
@[simp] theorem zeroOf_80 : ((Try.prog.info? 80).bind fun x => x.zero) = some (.pointer none) := by kernel_rfl
@[simp] theorem szOf_81 : szOf Try.prog 81 = some 1 := by kernel_rfl
@[simp] theorem bytesOf_81 : bytesOf Try.prog 81 = some 8 := by kernel_rfl
@[simp] theorem zeroOf_81 : ((Try.prog.info? 81).bind fun x => x.zero) = some .nilFunc := by kernel_rfl
@[simp] theorem szOf_82 : szOf Try.prog 82 = some 1 := by kernel_rfl
@[simp] theorem bytesOf_82 : bytesOf Try.prog 82 = some 8 := by kernel_rfl
@[simp] theorem zeroOf_82 : ((Try.prog.info? 82).bind fun x => x.zero) = some (.pointer none) := by kernel_rfl
@[simp] theorem szOf_83 : szOf Try.prog 83 = some 1 := by kernel_rfl
@[simp] theorem bytesOf_83 : bytesOf Try.prog 83 = some 8 := by kernel_rfl
@[simp] theorem zeroOf_83 : ((Try.prog.info? 83).bind fun x => x.zero) = some .nilFunc := by kernel_rfl
@[simp] theorem szOf_84 : szOf Try.prog 84 = some 4 := by kernel_rfl
@[simp] theorem bytesOf_84 : bytesOf Try.prog 84 = some 40 := by kernel_rfl
@[simp] theorem zeroOf_84 : ((Try.prog.info? 84).bind fun x => x.zero) = some (.agg #[(.pointer none), (.pointer none), (.pointer none), (.string ⟨#[]⟩)]) := by kernel_rfl
@[simp] theorem szOf_85 : szOf Try.prog 85 = some 4 := by kernel_rfl
@[simp] theorem bytesOf_85 : bytesOf Try.prog 85 = some 40 := by kernel_rfl
@[simp] theorem zeroOf_85 : ((Try.prog.info? 85).bind fun x => x.zero) = some (.agg #[(.pointer none), (.pointer none), (.pointer none), (.string ⟨#[]⟩)]) := by kernel_rfl
@[simp] theorem szOf_86 : szOf Try.prog 86 = some 0 := by kernel_rfl
@[simp] theorem bytesOf_86 : bytesOf Try.prog 86 = some 0 := by kernel_rfl
@[simp] theorem zeroOf_86 : ((Try.prog.info? 86).bind fun x => x.zero) = some (.agg #[]) := by kernel_rfl
@[simp] theorem szOf_87 : szOf Try.prog 87 = some 0 := by kernel_rfl
@[simp] theorem bytesOf_87 : bytesOf Try.prog 87 = some 0 := by kernel_rfl
@[simp] theorem zeroOf_87 : ((Try.prog.info? 87).bind fun x => x.zero) = some (.agg #[]) := by kernel_rfl
@[simp] theorem szOf_88 : szOf Try.prog 88 = some 0 := by kernel_rfl
@[simp] theorem bytesOf_88 : bytesOf Try.prog 88 = some 0 := by kernel_rfl
@[simp] theorem zeroOf_88 : ((Try.prog.info? 88).bind fun x => x.zero) = some (.agg #[]) := by kernel_rfl
@[simp] theorem szOf_89 : szOf Try.prog 89 = some 1 := by kernel_rfl
@[simp] theorem bytesOf_89 : bytesOf Try.prog 89 = some 8 := by kernel_rfl
@[simp] theorem zeroOf_89 : ((Try.prog.info? 89).bind fun x => x.zero) = some .nilFunc := by kernel_rfl
@[simp] theorem szOf_90 : szOf Try.prog 90 = some 1 := by kernel_rfl
@[simp] theorem bytesOf_90 : bytesOf Try.prog 90 = some 4 := by kernel_rfl
@[simp] theorem zeroOf_90 : ((Try.prog.info? 90).bind fun x => x.zero) = some (.int .u32 0) := by kernel_rfl
@[simp] theorem szOf_91 : szOf Try.prog 91 = some 1 := by kernel_rfl
@[simp] theorem bytesOf_91 : bytesOf Try.prog 91 = some 1 := by kernel_rfl
@[simp] theorem zeroOf_91 : ((Try.prog.info? 91).bind fun x => x.zero) = some (.int .u8 0) := by kernel_rfl
@[simp] theorem szOf_92 : szOf Try.prog 92 = some 1 := by kernel_rfl
@[simp] theorem bytesOf_92 : bytesOf Try.prog 92 = some 1 := by kernel_rfl
@[simp] theorem zeroOf_92 : ((Try.prog.info? 92).bind fun x => x.zero) = some (.int .u8 0) := by kernel_rfl
@[simp] theorem szOf_93 : szOf Try.prog 93 = some 1 := by kernel_rfl
@[simp] theorem bytesOf_93 : bytesOf Try.prog 93 = some 8 := by kernel_rfl
@[simp] theorem zeroOf_93 : ((Try.prog.info? 93).bind fun x => x.zero) = some .nilFunc := by kernel_rfl
@[simp] theorem szOf_94 : szOf Try.prog 94 = some 1 := by kernel_rfl
@[simp] theorem bytesOf_94 : bytesOf Try.prog 94 = some 4 := by kernel_rfl
@[simp] theorem zeroOf_94 : ((Try.prog.info? 94).bind fun x => x.zero) = some (.int .i32 0) := by kernel_rfl
@[simp] theorem szOf_95 : szOf Try.prog 95 = some 1 := by kernel_rfl
@[simp] theorem bytesOf_95 : bytesOf Try.prog 95 = some 4 := by kernel_rfl
@[simp] theorem zeroOf_95 : ((Try.prog.info? 95).bind fun x => x.zero) = some (.int .i32 0) := by kernel_rfl
@[simp] theorem szOf_96 : szOf Try.prog 96 = some 11 := by kernel_rfl
@[simp] theorem bytesOf_96 : bytesOf Try.prog 96 = some 48 := by kernel_rfl
@[simp] theorem zeroOf_96 : ((Try.prog.info? 96).bind fun x => x.zero) = some (.agg #[(.int .u64 0), (.int .u64 0), (.int .u32 0), (.int .u8 0), (.int .u8 0), (.int .u8 0), (.int .u8 0), .nilFunc, (.pointer none), (.int .i32 0), (.int .i32 0)]) := by kernel_rfl
@[simp] theorem szOf_97 : szOf Try.prog 97 = some 11 := by kernel_rfl
@[simp] theorem bytesOf_97 : bytesOf Try.prog 97 = some 48 := by kernel_rfl
@[simp] theorem zeroOf_97 : ((Try.prog.info? 97).bind fun x => x.zero) = some (.agg #[(.int .u64 0), (.int .u64 0), (.int .u32 0), (.int .u8 0), (.int .u8 0), (.int .u8 0), (.int .u8 0), .nilFunc, (.pointer none), (.int .i32 0), (.int .i32 0)]) := by kernel_rfl
end Go.Proofs.Ytocaickbfeaiaaa
