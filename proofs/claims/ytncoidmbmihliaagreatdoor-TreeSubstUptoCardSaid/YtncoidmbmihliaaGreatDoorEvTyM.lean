/-
 EV: the sizes of the translation's types (written by a program).
-/
import Derived.Test.YtncoidmbmihliaaGreatDoorEvSymM
import Derived.Test.YtncoidmbmihliaaGreatDoorRows
namespace Go.Proofs.YtncoidmbmihliaaGreatDoor
@[simp] theorem szOf_1 : szOf Tryz.prog 1 = some 1 := by kernel_rfl
@[simp] theorem bytesOf_1 : bytesOf Tryz.prog 1 = some 8 := by kernel_rfl
@[simp] theorem zeroOf_1 : ((Tryz.prog.info? 1).bind fun x => x.zero) = some .nilFunc := by kernel_rfl
@[simp] theorem szOf_2 : szOf Tryz.prog 2 = some 1 := by kernel_rfl
@[simp] theorem bytesOf_2 : bytesOf Tryz.prog 2 = some 8 := by kernel_rfl
@[simp] theorem zeroOf_2 : ((Tryz.prog.info? 2).bind fun x => x.zero) = some (.int .i64 0) := by kernel_rfl
@[simp] theorem szOf_3 : szOf Tryz.prog 3 = some 1 := by kernel_rfl
@[simp] theorem bytesOf_3 : bytesOf Tryz.prog 3 = some 8 := by kernel_rfl
@[simp] theorem zeroOf_3 : ((Tryz.prog.info? 3).bind fun x => x.zero) = some (.int .i64 0) := by kernel_rfl
@[simp] theorem szOf_4 : szOf Tryz.prog 4 = some 1 := by kernel_rfl
@[simp] theorem bytesOf_4 : bytesOf Tryz.prog 4 = some 1 := by kernel_rfl
@[simp] theorem zeroOf_4 : ((Tryz.prog.info? 4).bind fun x => x.zero) = some (.bool false) := by kernel_rfl
@[simp] theorem szOf_5 : szOf Tryz.prog 5 = some 1 := by kernel_rfl
@[simp] theorem bytesOf_5 : bytesOf Tryz.prog 5 = some 1 := by kernel_rfl
@[simp] theorem zeroOf_5 : ((Tryz.prog.info? 5).bind fun x => x.zero) = some (.int .u8 0) := by kernel_rfl
@[simp] theorem szOf_6 : szOf Tryz.prog 6 = some 1 := by kernel_rfl
@[simp] theorem bytesOf_6 : bytesOf Tryz.prog 6 = some 1 := by kernel_rfl
@[simp] theorem zeroOf_6 : ((Tryz.prog.info? 6).bind fun x => x.zero) = some (.int .u8 0) := by kernel_rfl
@[simp] theorem szOf_7 : szOf Tryz.prog 7 = some 4 := by kernel_rfl
@[simp] theorem bytesOf_7 : bytesOf Tryz.prog 7 = some 24 := by kernel_rfl
@[simp] theorem zeroOf_7 : ((Tryz.prog.info? 7).bind fun x => x.zero) = some (.agg #[(.int .i64 0), (.int .i64 0), (.bool false), (.int .u8 0)]) := by kernel_rfl
@[simp] theorem szOf_8 : szOf Tryz.prog 8 = some 4 := by kernel_rfl
@[simp] theorem bytesOf_8 : bytesOf Tryz.prog 8 = some 24 := by kernel_rfl
@[simp] theorem zeroOf_8 : ((Tryz.prog.info? 8).bind fun x => x.zero) = some (.agg #[(.int .i64 0), (.int .i64 0), (.bool false), (.int .u8 0)]) := by kernel_rfl
@[simp] theorem szOf_9 : szOf Tryz.prog 9 = some 1 := by kernel_rfl
@[simp] theorem bytesOf_9 : bytesOf Tryz.prog 9 = some 16 := by kernel_rfl
@[simp] theorem zeroOf_9 : ((Tryz.prog.info? 9).bind fun x => x.zero) = some (.string ⟨#[]⟩) := by kernel_rfl
@[simp] theorem szOf_10 : szOf Tryz.prog 10 = some 1 := by kernel_rfl
@[simp] theorem bytesOf_10 : bytesOf Tryz.prog 10 = some 16 := by kernel_rfl
@[simp] theorem zeroOf_10 : ((Tryz.prog.info? 10).bind fun x => x.zero) = some (.string ⟨#[]⟩) := by kernel_rfl
@[simp] theorem szOf_12 : szOf Tryz.prog 12 = some 1 := by kernel_rfl
@[simp] theorem bytesOf_12 : bytesOf Tryz.prog 12 = some 8 := by kernel_rfl
@[simp] theorem zeroOf_12 : ((Tryz.prog.info? 12).bind fun x => x.zero) = some (.int .u64 0) := by kernel_rfl
@[simp] theorem szOf_16 : szOf Tryz.prog 16 = some 1 := by kernel_rfl
@[simp] theorem bytesOf_16 : bytesOf Tryz.prog 16 = some 8 := by kernel_rfl
@[simp] theorem zeroOf_16 : ((Tryz.prog.info? 16).bind fun x => x.zero) = some (.pointer none) := by kernel_rfl
@[simp] theorem szOf_17 : szOf Tryz.prog 17 = some 1 := by kernel_rfl
@[simp] theorem bytesOf_17 : bytesOf Tryz.prog 17 = some 8 := by kernel_rfl
@[simp] theorem zeroOf_17 : ((Tryz.prog.info? 17).bind fun x => x.zero) = some (.pointer none) := by kernel_rfl
@[simp] theorem szOf_20 : szOf Tryz.prog 20 = some 1 := by kernel_rfl
@[simp] theorem bytesOf_20 : bytesOf Tryz.prog 20 = some 16 := by kernel_rfl
@[simp] theorem zeroOf_20 : ((Tryz.prog.info? 20).bind fun x => x.zero) = some .nilIface := by kernel_rfl
@[simp] theorem szOf_21 : szOf Tryz.prog 21 = some 1 := by kernel_rfl
@[simp] theorem bytesOf_21 : bytesOf Tryz.prog 21 = some 4 := by kernel_rfl
@[simp] theorem zeroOf_21 : ((Tryz.prog.info? 21).bind fun x => x.zero) = some (.int .i32 0) := by kernel_rfl
@[simp] theorem szOf_22 : szOf Tryz.prog 22 = some 1 := by kernel_rfl
@[simp] theorem bytesOf_22 : bytesOf Tryz.prog 22 = some 1 := by kernel_rfl
@[simp] theorem zeroOf_22 : ((Tryz.prog.info? 22).bind fun x => x.zero) = some (.int .u8 0) := by kernel_rfl
@[simp] theorem szOf_23 : szOf Tryz.prog 23 = some 1 := by kernel_rfl
@[simp] theorem bytesOf_23 : bytesOf Tryz.prog 23 = some 24 := by kernel_rfl
@[simp] theorem zeroOf_23 : ((Tryz.prog.info? 23).bind fun x => x.zero) = some (.slice none 0 0) := by kernel_rfl
@[simp] theorem szOf_24 : szOf Tryz.prog 24 = some 1 := by kernel_rfl
@[simp] theorem bytesOf_24 : bytesOf Tryz.prog 24 = some 24 := by kernel_rfl
@[simp] theorem zeroOf_24 : ((Tryz.prog.info? 24).bind fun x => x.zero) = some (.slice none 0 0) := by kernel_rfl
@[simp] theorem szOf_25 : szOf Tryz.prog 25 = some 1 := by kernel_rfl
@[simp] theorem bytesOf_25 : bytesOf Tryz.prog 25 = some 1 := by kernel_rfl
@[simp] theorem zeroOf_25 : ((Tryz.prog.info? 25).bind fun x => x.zero) = some (.int .u8 0) := by kernel_rfl
@[simp] theorem szOf_26 : szOf Tryz.prog 26 = some 1 := by kernel_rfl
@[simp] theorem bytesOf_26 : bytesOf Tryz.prog 26 = some 24 := by kernel_rfl
@[simp] theorem zeroOf_26 : ((Tryz.prog.info? 26).bind fun x => x.zero) = some (.slice none 0 0) := by kernel_rfl
@[simp] theorem szOf_27 : szOf Tryz.prog 27 = some 2 := by kernel_rfl
@[simp] theorem bytesOf_27 : bytesOf Tryz.prog 27 = some 32 := by kernel_rfl
@[simp] theorem zeroOf_27 : ((Tryz.prog.info? 27).bind fun x => x.zero) = some (.agg #[(.bool false), (.slice none 0 0)]) := by kernel_rfl
@[simp] theorem szOf_28 : szOf Tryz.prog 28 = some 2 := by kernel_rfl
@[simp] theorem bytesOf_28 : bytesOf Tryz.prog 28 = some 32 := by kernel_rfl
@[simp] theorem zeroOf_28 : ((Tryz.prog.info? 28).bind fun x => x.zero) = some (.agg #[(.bool false), (.slice none 0 0)]) := by kernel_rfl
@[simp] theorem szOf_29 : szOf Tryz.prog 29 = some 5 := by kernel_rfl
@[simp] theorem bytesOf_29 : bytesOf Tryz.prog 29 = some 64 := by kernel_rfl
@[simp] theorem zeroOf_29 : ((Tryz.prog.info? 29).bind fun x => x.zero) = some (.agg #[(.int .u8 0), (.string ⟨#[]⟩), (.bool false), (.slice none 0 0), (.bool false)]) := by kernel_rfl
@[simp] theorem szOf_30 : szOf Tryz.prog 30 = some 5 := by kernel_rfl
@[simp] theorem bytesOf_30 : bytesOf Tryz.prog 30 = some 64 := by kernel_rfl
@[simp] theorem zeroOf_30 : ((Tryz.prog.info? 30).bind fun x => x.zero) = some (.agg #[(.int .u8 0), (.string ⟨#[]⟩), (.bool false), (.slice none 0 0), (.bool false)]) := by kernel_rfl
@[simp] theorem szOf_31 : szOf Tryz.prog 31 = some 1 := by kernel_rfl
@[simp] theorem bytesOf_31 : bytesOf Tryz.prog 31 = some 24 := by kernel_rfl
@[simp] theorem zeroOf_31 : ((Tryz.prog.info? 31).bind fun x => x.zero) = some (.slice none 0 0) := by kernel_rfl
@[simp] theorem szOf_32 : szOf Tryz.prog 32 = some 1 := by kernel_rfl
@[simp] theorem bytesOf_32 : bytesOf Tryz.prog 32 = some 24 := by kernel_rfl
@[simp] theorem zeroOf_32 : ((Tryz.prog.info? 32).bind fun x => x.zero) = some (.slice none 0 0) := by kernel_rfl
@[simp] theorem szOf_33 : szOf Tryz.prog 33 = some 11 := by kernel_rfl
@[simp] theorem bytesOf_33 : bytesOf Tryz.prog 33 = some 184 := by kernel_rfl
@[simp] theorem zeroOf_33 : ((Tryz.prog.info? 33).bind fun x => x.zero) = some (.agg #[(.int .u8 0), (.string ⟨#[]⟩), (.slice none 0 0), (.slice none 0 0), (.int .u8 0), (.string ⟨#[]⟩), (.bool false), (.slice none 0 0), (.bool false), (.slice none 0 0), (.slice none 0 0)]) := by kernel_rfl
@[simp] theorem szOf_34 : szOf Tryz.prog 34 = some 11 := by kernel_rfl
@[simp] theorem bytesOf_34 : bytesOf Tryz.prog 34 = some 184 := by kernel_rfl
@[simp] theorem zeroOf_34 : ((Tryz.prog.info? 34).bind fun x => x.zero) = some (.agg #[(.int .u8 0), (.string ⟨#[]⟩), (.slice none 0 0), (.slice none 0 0), (.int .u8 0), (.string ⟨#[]⟩), (.bool false), (.slice none 0 0), (.bool false), (.slice none 0 0), (.slice none 0 0)]) := by kernel_rfl
@[simp] theorem szOf_35 : szOf Tryz.prog 35 = some 1 := by kernel_rfl
@[simp] theorem bytesOf_35 : bytesOf Tryz.prog 35 = some 24 := by kernel_rfl
@[simp] theorem zeroOf_35 : ((Tryz.prog.info? 35).bind fun x => x.zero) = some (.slice none 0 0) := by kernel_rfl
@[simp] theorem szOf_36 : szOf Tryz.prog 36 = some 1 := by kernel_rfl
@[simp] theorem bytesOf_36 : bytesOf Tryz.prog 36 = some 24 := by kernel_rfl
@[simp] theorem zeroOf_36 : ((Tryz.prog.info? 36).bind fun x => x.zero) = some (.slice none 0 0) := by kernel_rfl
@[simp] theorem szOf_39 : szOf Tryz.prog 39 = some 1 := by kernel_rfl
@[simp] theorem bytesOf_39 : bytesOf Tryz.prog 39 = some 8 := by kernel_rfl
@[simp] theorem zeroOf_39 : ((Tryz.prog.info? 39).bind fun x => x.zero) = some (.int .i64 0) := by kernel_rfl
@[simp] theorem szOf_42 : szOf Tryz.prog 42 = some 1 := by kernel_rfl
@[simp] theorem bytesOf_42 : bytesOf Tryz.prog 42 = some 8 := by kernel_rfl
@[simp] theorem zeroOf_42 : ((Tryz.prog.info? 42).bind fun x => x.zero) = some .nilFunc := by kernel_rfl
@[simp] theorem szOf_44 : szOf Tryz.prog 44 = some 1 := by kernel_rfl
@[simp] theorem bytesOf_44 : bytesOf Tryz.prog 44 = some 8 := by kernel_rfl
@[simp] theorem zeroOf_44 : ((Tryz.prog.info? 44).bind fun x => x.zero) = some .nilFunc := by kernel_rfl
@[simp] theorem szOf_46 : szOf Tryz.prog 46 = some 1 := by kernel_rfl
@[simp] theorem bytesOf_46 : bytesOf Tryz.prog 46 = some 8 := by kernel_rfl
@[simp] theorem zeroOf_46 : ((Tryz.prog.info? 46).bind fun x => x.zero) = some (.map none) := by kernel_rfl
@[simp] theorem szOf_48 : szOf Tryz.prog 48 = some 1 := by kernel_rfl
@[simp] theorem bytesOf_48 : bytesOf Tryz.prog 48 = some 8 := by kernel_rfl
@[simp] theorem zeroOf_48 : ((Tryz.prog.info? 48).bind fun x => x.zero) = some .nilFunc := by kernel_rfl
@[simp] theorem szOf_51 : szOf Tryz.prog 51 = some 1 := by kernel_rfl
@[simp] theorem bytesOf_51 : bytesOf Tryz.prog 51 = some 1 := by kernel_rfl
@[simp] theorem zeroOf_51 : ((Tryz.prog.info? 51).bind fun x => x.zero) = some (.int .u8 0) := by kernel_rfl
@[simp] theorem szOf_52 : szOf Tryz.prog 52 = some 1 := by kernel_rfl
@[simp] theorem bytesOf_52 : bytesOf Tryz.prog 52 = some 24 := by kernel_rfl
@[simp] theorem zeroOf_52 : ((Tryz.prog.info? 52).bind fun x => x.zero) = some (.slice none 0 0) := by kernel_rfl
@[simp] theorem szOf_53 : szOf Tryz.prog 53 = some 5 := by kernel_rfl
@[simp] theorem bytesOf_53 : bytesOf Tryz.prog 53 = some 80 := by kernel_rfl
@[simp] theorem zeroOf_53 : ((Tryz.prog.info? 53).bind fun x => x.zero) = some (.agg #[(.int .u8 0), (.string ⟨#[]⟩), (.bool false), (.slice none 0 0), (.slice none 0 0)]) := by kernel_rfl
@[simp] theorem szOf_54 : szOf Tryz.prog 54 = some 5 := by kernel_rfl
@[simp] theorem bytesOf_54 : bytesOf Tryz.prog 54 = some 80 := by kernel_rfl
@[simp] theorem zeroOf_54 : ((Tryz.prog.info? 54).bind fun x => x.zero) = some (.agg #[(.int .u8 0), (.string ⟨#[]⟩), (.bool false), (.slice none 0 0), (.slice none 0 0)]) := by kernel_rfl
@[simp] theorem szOf_55 : szOf Tryz.prog 55 = some 1 := by kernel_rfl
@[simp] theorem bytesOf_55 : bytesOf Tryz.prog 55 = some 24 := by kernel_rfl
@[simp] theorem zeroOf_55 : ((Tryz.prog.info? 55).bind fun x => x.zero) = some (.slice none 0 0) := by kernel_rfl
@[simp] theorem szOf_56 : szOf Tryz.prog 56 = some 9 := by kernel_rfl
@[simp] theorem bytesOf_56 : bytesOf Tryz.prog 56 = some 152 := by kernel_rfl
@[simp] theorem zeroOf_56 : ((Tryz.prog.info? 56).bind fun x => x.zero) = some (.agg #[(.bool false), (.string ⟨#[]⟩), (.int .u8 0), (.string ⟨#[]⟩), (.bool false), (.slice none 0 0), (.slice none 0 0), (.slice none 0 0), (.slice none 0 0)]) := by kernel_rfl
@[simp] theorem szOf_57 : szOf Tryz.prog 57 = some 9 := by kernel_rfl
@[simp] theorem bytesOf_57 : bytesOf Tryz.prog 57 = some 152 := by kernel_rfl
@[simp] theorem zeroOf_57 : ((Tryz.prog.info? 57).bind fun x => x.zero) = some (.agg #[(.bool false), (.string ⟨#[]⟩), (.int .u8 0), (.string ⟨#[]⟩), (.bool false), (.slice none 0 0), (.slice none 0 0), (.slice none 0 0), (.slice none 0 0)]) := by kernel_rfl
@[simp] theorem szOf_59 : szOf Tryz.prog 59 = some 1 := by kernel_rfl
@[simp] theorem bytesOf_59 : bytesOf Tryz.prog 59 = some 8 := by kernel_rfl
@[simp] theorem zeroOf_59 : ((Tryz.prog.info? 59).bind fun x => x.zero) = some .nilFunc := by kernel_rfl
@[simp] theorem szOf_60 : szOf Tryz.prog 60 = some 1 := by kernel_rfl
@[simp] theorem bytesOf_60 : bytesOf Tryz.prog 60 = some 1 := by kernel_rfl
@[simp] theorem zeroOf_60 : ((Tryz.prog.info? 60).bind fun x => x.zero) = some (.int .u8 0) := by kernel_rfl
@[simp] theorem szOf_61 : szOf Tryz.prog 61 = some 7 := by kernel_rfl
@[simp] theorem bytesOf_61 : bytesOf Tryz.prog 61 = some 144 := by kernel_rfl
@[simp] theorem zeroOf_61 : ((Tryz.prog.info? 61).bind fun x => x.zero) = some (.agg #[(.int .u8 0), (.string ⟨#[]⟩), (.slice none 0 0), (.slice none 0 0), (.slice none 0 0), (.slice none 0 0), (.slice none 0 0)]) := by kernel_rfl
@[simp] theorem szOf_62 : szOf Tryz.prog 62 = some 7 := by kernel_rfl
@[simp] theorem bytesOf_62 : bytesOf Tryz.prog 62 = some 144 := by kernel_rfl
@[simp] theorem zeroOf_62 : ((Tryz.prog.info? 62).bind fun x => x.zero) = some (.agg #[(.int .u8 0), (.string ⟨#[]⟩), (.slice none 0 0), (.slice none 0 0), (.slice none 0 0), (.slice none 0 0), (.slice none 0 0)]) := by kernel_rfl
@[simp] theorem szOf_70 : szOf Tryz.prog 70 = some 1 := by kernel_rfl
@[simp] theorem bytesOf_70 : bytesOf Tryz.prog 70 = some 8 := by kernel_rfl
@[simp] theorem zeroOf_70 : ((Tryz.prog.info? 70).bind fun x => x.zero) = some (.pointer none) := by kernel_rfl
@[simp] theorem szOf_71 : szOf Tryz.prog 71 = some 1 := by kernel_rfl
@[simp] theorem bytesOf_71 : bytesOf Tryz.prog 71 = some 8 := by kernel_rfl
@[simp] theorem zeroOf_71 : ((Tryz.prog.info? 71).bind fun x => x.zero) = some .nilFunc := by kernel_rfl
@[simp] theorem szOf_74 : szOf Tryz.prog 74 = some 1 := by kernel_rfl
@[simp] theorem bytesOf_74 : bytesOf Tryz.prog 74 = some 8 := by kernel_rfl
@[simp] theorem zeroOf_74 : ((Tryz.prog.info? 74).bind fun x => x.zero) = some .nilFunc := by kernel_rfl
@[simp] theorem szOf_75 : szOf Tryz.prog 75 = some 2 := by kernel_rfl
@[simp] theorem bytesOf_75 : bytesOf Tryz.prog 75 = some 16 := by kernel_rfl
@[simp] theorem zeroOf_75 : ((Tryz.prog.info? 75).bind fun x => x.zero) = some (.agg #[.nilFunc, .nilFunc]) := by kernel_rfl
@[simp] theorem szOf_76 : szOf Tryz.prog 76 = some 2 := by kernel_rfl
@[simp] theorem bytesOf_76 : bytesOf Tryz.prog 76 = some 16 := by kernel_rfl
@[simp] theorem zeroOf_76 : ((Tryz.prog.info? 76).bind fun x => x.zero) = some (.agg #[.nilFunc, .nilFunc]) := by kernel_rfl
@[simp] theorem szOf_77 : szOf Tryz.prog 77 = some 1 := by kernel_rfl
@[simp] theorem bytesOf_77 : bytesOf Tryz.prog 77 = some 8 := by kernel_rfl
@[simp] theorem zeroOf_77 : ((Tryz.prog.info? 77).bind fun x => x.zero) = some .nilFunc := by kernel_rfl
@[simp] theorem szOf_80 : szOf Tryz.prog 80 = some 1 := by kernel_rfl
@[simp] theorem bytesOf_80 : bytesOf Tryz.prog 80 = some 8 := by kernel_rfl
@[simp] theorem zeroOf_80 : ((Tryz.prog.info? 80).bind fun x => x.zero) = some .nilFunc := by kernel_rfl
@[simp] theorem szOf_87 : szOf Tryz.prog 87 = some 3 := by kernel_rfl
@[simp] theorem bytesOf_87 : bytesOf Tryz.prog 87 = some 64 := by kernel_rfl
@[simp] theorem zeroOf_87 : ((Tryz.prog.info? 87).bind fun x => x.zero) = some (.agg #[(.string ⟨#[]⟩), (.slice none 0 0), (.slice none 0 0)]) := by kernel_rfl
@[simp] theorem szOf_88 : szOf Tryz.prog 88 = some 3 := by kernel_rfl
@[simp] theorem bytesOf_88 : bytesOf Tryz.prog 88 = some 64 := by kernel_rfl
@[simp] theorem zeroOf_88 : ((Tryz.prog.info? 88).bind fun x => x.zero) = some (.agg #[(.string ⟨#[]⟩), (.slice none 0 0), (.slice none 0 0)]) := by kernel_rfl
@[simp] theorem szOf_90 : szOf Tryz.prog 90 = some 1 := by kernel_rfl
@[simp] theorem bytesOf_90 : bytesOf Tryz.prog 90 = some 8 := by kernel_rfl
@[simp] theorem zeroOf_90 : ((Tryz.prog.info? 90).bind fun x => x.zero) = some .nilFunc := by kernel_rfl
@[simp] theorem szOf_92 : szOf Tryz.prog 92 = some 1 := by kernel_rfl
@[simp] theorem bytesOf_92 : bytesOf Tryz.prog 92 = some 8 := by kernel_rfl
@[simp] theorem zeroOf_92 : ((Tryz.prog.info? 92).bind fun x => x.zero) = some .nilFunc := by kernel_rfl
@[simp] theorem szOf_95 : szOf Tryz.prog 95 = some 1 := by kernel_rfl
@[simp] theorem bytesOf_95 : bytesOf Tryz.prog 95 = some 8 := by kernel_rfl
@[simp] theorem zeroOf_95 : ((Tryz.prog.info? 95).bind fun x => x.zero) = some .nilFunc := by kernel_rfl
@[simp] theorem szOf_96 : szOf Tryz.prog 96 = some 1 := by kernel_rfl
@[simp] theorem bytesOf_96 : bytesOf Tryz.prog 96 = some 8 := by kernel_rfl
@[simp] theorem zeroOf_96 : ((Tryz.prog.info? 96).bind fun x => x.zero) = some (.pointer none) := by kernel_rfl
@[simp] theorem szOf_97 : szOf Tryz.prog 97 = some 1 := by kernel_rfl
@[simp] theorem bytesOf_97 : bytesOf Tryz.prog 97 = some 8 := by kernel_rfl
@[simp] theorem zeroOf_97 : ((Tryz.prog.info? 97).bind fun x => x.zero) = some (.map none) := by kernel_rfl
@[simp] theorem szOf_98 : szOf Tryz.prog 98 = some 1 := by kernel_rfl
@[simp] theorem bytesOf_98 : bytesOf Tryz.prog 98 = some 8 := by kernel_rfl
@[simp] theorem zeroOf_98 : ((Tryz.prog.info? 98).bind fun x => x.zero) = some (.agg #[(.map none)]) := by kernel_rfl
@[simp] theorem szOf_99 : szOf Tryz.prog 99 = some 1 := by kernel_rfl
@[simp] theorem bytesOf_99 : bytesOf Tryz.prog 99 = some 8 := by kernel_rfl
@[simp] theorem zeroOf_99 : ((Tryz.prog.info? 99).bind fun x => x.zero) = some (.agg #[(.map none)]) := by kernel_rfl
@[simp] theorem szOf_100 : szOf Tryz.prog 100 = some 2 := by kernel_rfl
@[simp] theorem bytesOf_100 : bytesOf Tryz.prog 100 = some 16 := by kernel_rfl
@[simp] theorem zeroOf_100 : ((Tryz.prog.info? 100).bind fun x => x.zero) = some (.agg #[(.map none), (.map none)]) := by kernel_rfl
@[simp] theorem szOf_101 : szOf Tryz.prog 101 = some 2 := by kernel_rfl
@[simp] theorem bytesOf_101 : bytesOf Tryz.prog 101 = some 16 := by kernel_rfl
@[simp] theorem zeroOf_101 : ((Tryz.prog.info? 101).bind fun x => x.zero) = some (.agg #[(.map none), (.map none)]) := by kernel_rfl
@[simp] theorem szOf_104 : szOf Tryz.prog 104 = some 1 := by kernel_rfl
@[simp] theorem bytesOf_104 : bytesOf Tryz.prog 104 = some 8 := by kernel_rfl
@[simp] theorem zeroOf_104 : ((Tryz.prog.info? 104).bind fun x => x.zero) = some .nilFunc := by kernel_rfl
@[simp] theorem szOf_105 : szOf Tryz.prog 105 = some 1 := by kernel_rfl
@[simp] theorem bytesOf_105 : bytesOf Tryz.prog 105 = some 8 := by kernel_rfl
@[simp] theorem zeroOf_105 : ((Tryz.prog.info? 105).bind fun x => x.zero) = some .nilFunc := by kernel_rfl
@[simp] theorem szOf_111 : szOf Tryz.prog 111 = some 1 := by kernel_rfl
@[simp] theorem bytesOf_111 : bytesOf Tryz.prog 111 = some 4 := by kernel_rfl
@[simp] theorem zeroOf_111 : ((Tryz.prog.info? 111).bind fun x => x.zero) = some (.int .u32 0) := by kernel_rfl
@[simp] theorem szOf_112 : szOf Tryz.prog 112 = some 1 := by kernel_rfl
@[simp] theorem bytesOf_112 : bytesOf Tryz.prog 112 = some 8 := by kernel_rfl
@[simp] theorem zeroOf_112 : ((Tryz.prog.info? 112).bind fun x => x.zero) = some (.pointer none) := by kernel_rfl
@[simp] theorem szOf_116 : szOf Tryz.prog 116 = some 1 := by kernel_rfl
@[simp] theorem bytesOf_116 : bytesOf Tryz.prog 116 = some 8 := by kernel_rfl
@[simp] theorem zeroOf_116 : ((Tryz.prog.info? 116).bind fun x => x.zero) = some .nilFunc := by kernel_rfl
@[simp] theorem szOf_118 : szOf Tryz.prog 118 = some 1 := by kernel_rfl
@[simp] theorem bytesOf_118 : bytesOf Tryz.prog 118 = some 8 := by kernel_rfl
@[simp] theorem zeroOf_118 : ((Tryz.prog.info? 118).bind fun x => x.zero) = some .nilFunc := by kernel_rfl
@[simp] theorem szOf_120 : szOf Tryz.prog 120 = some 1 := by kernel_rfl
@[simp] theorem bytesOf_120 : bytesOf Tryz.prog 120 = some 8 := by kernel_rfl
@[simp] theorem zeroOf_120 : ((Tryz.prog.info? 120).bind fun x => x.zero) = some .nilFunc := by kernel_rfl
@[simp] theorem szOf_121 : szOf Tryz.prog 121 = some 1 := by kernel_rfl
@[simp] theorem bytesOf_121 : bytesOf Tryz.prog 121 = some 8 := by kernel_rfl
@[simp] theorem zeroOf_121 : ((Tryz.prog.info? 121).bind fun x => x.zero) = some .nilFunc := by kernel_rfl
@[simp] theorem szOf_123 : szOf Tryz.prog 123 = some 10 := by kernel_rfl
@[simp] theorem bytesOf_123 : bytesOf Tryz.prog 123 = some 168 := by kernel_rfl
@[simp] theorem zeroOf_123 : ((Tryz.prog.info? 123).bind fun x => x.zero) = some (.agg #[(.string ⟨#[]⟩), (.bool false), (.string ⟨#[]⟩), (.int .u8 0), (.string ⟨#[]⟩), (.bool false), (.slice none 0 0), (.slice none 0 0), (.slice none 0 0), (.slice none 0 0)]) := by kernel_rfl
@[simp] theorem szOf_124 : szOf Tryz.prog 124 = some 10 := by kernel_rfl
@[simp] theorem bytesOf_124 : bytesOf Tryz.prog 124 = some 168 := by kernel_rfl
@[simp] theorem zeroOf_124 : ((Tryz.prog.info? 124).bind fun x => x.zero) = some (.agg #[(.string ⟨#[]⟩), (.bool false), (.string ⟨#[]⟩), (.int .u8 0), (.string ⟨#[]⟩), (.bool false), (.slice none 0 0), (.slice none 0 0), (.slice none 0 0), (.slice none 0 0)]) := by kernel_rfl
@[simp] theorem szOf_126 : szOf Tryz.prog 126 = some 1 := by kernel_rfl
@[simp] theorem bytesOf_126 : bytesOf Tryz.prog 126 = some 8 := by kernel_rfl
@[simp] theorem zeroOf_126 : ((Tryz.prog.info? 126).bind fun x => x.zero) = some .nilFunc := by kernel_rfl
@[simp] theorem szOf_128 : szOf Tryz.prog 128 = some 1 := by kernel_rfl
@[simp] theorem bytesOf_128 : bytesOf Tryz.prog 128 = some 8 := by kernel_rfl
@[simp] theorem zeroOf_128 : ((Tryz.prog.info? 128).bind fun x => x.zero) = some .nilFunc := by kernel_rfl
@[simp] theorem szOf_136 : szOf Tryz.prog 136 = some 1 := by kernel_rfl
@[simp] theorem bytesOf_136 : bytesOf Tryz.prog 136 = some 8 := by kernel_rfl
@[simp] theorem zeroOf_136 : ((Tryz.prog.info? 136).bind fun x => x.zero) = some .nilFunc := by kernel_rfl
@[simp] theorem szOf_138 : szOf Tryz.prog 138 = some 1 := by kernel_rfl
@[simp] theorem bytesOf_138 : bytesOf Tryz.prog 138 = some 8 := by kernel_rfl
@[simp] theorem zeroOf_138 : ((Tryz.prog.info? 138).bind fun x => x.zero) = some (.int .u64 0) := by kernel_rfl
@[simp] theorem szOf_143 : szOf Tryz.prog 143 = some 1 := by kernel_rfl
@[simp] theorem bytesOf_143 : bytesOf Tryz.prog 143 = some 8 := by kernel_rfl
@[simp] theorem zeroOf_143 : ((Tryz.prog.info? 143).bind fun x => x.zero) = some .nilFunc := by kernel_rfl
@[simp] theorem szOf_144 : szOf Tryz.prog 144 = some 1 := by kernel_rfl
@[simp] theorem bytesOf_144 : bytesOf Tryz.prog 144 = some 8 := by kernel_rfl
@[simp] theorem zeroOf_144 : ((Tryz.prog.info? 144).bind fun x => x.zero) = some (.agg #[(.int .i64 0)]) := by kernel_rfl
@[simp] theorem szOf_145 : szOf Tryz.prog 145 = some 1 := by kernel_rfl
@[simp] theorem bytesOf_145 : bytesOf Tryz.prog 145 = some 8 := by kernel_rfl
@[simp] theorem zeroOf_145 : ((Tryz.prog.info? 145).bind fun x => x.zero) = some (.agg #[(.int .i64 0)]) := by kernel_rfl
@[simp] theorem szOf_146 : szOf Tryz.prog 146 = some 2 := by kernel_rfl
@[simp] theorem bytesOf_146 : bytesOf Tryz.prog 146 = some 16 := by kernel_rfl
@[simp] theorem zeroOf_146 : ((Tryz.prog.info? 146).bind fun x => x.zero) = some (.agg #[(.int .i64 0), .nilFunc]) := by kernel_rfl
@[simp] theorem szOf_147 : szOf Tryz.prog 147 = some 2 := by kernel_rfl
@[simp] theorem bytesOf_147 : bytesOf Tryz.prog 147 = some 16 := by kernel_rfl
@[simp] theorem zeroOf_147 : ((Tryz.prog.info? 147).bind fun x => x.zero) = some (.agg #[(.int .i64 0), .nilFunc]) := by kernel_rfl
@[simp] theorem szOf_150 : szOf Tryz.prog 150 = some 1 := by kernel_rfl
@[simp] theorem bytesOf_150 : bytesOf Tryz.prog 150 = some 8 := by kernel_rfl
@[simp] theorem zeroOf_150 : ((Tryz.prog.info? 150).bind fun x => x.zero) = some .nilFunc := by kernel_rfl
@[simp] theorem szOf_160 : szOf Tryz.prog 160 = some 1 := by kernel_rfl
@[simp] theorem bytesOf_160 : bytesOf Tryz.prog 160 = some 8 := by kernel_rfl
@[simp] theorem zeroOf_160 : ((Tryz.prog.info? 160).bind fun x => x.zero) = some (.pointer none) := by kernel_rfl
@[simp] theorem szOf_165 : szOf Tryz.prog 165 = some 1 := by kernel_rfl
@[simp] theorem bytesOf_165 : bytesOf Tryz.prog 165 = some 8 := by kernel_rfl
@[simp] theorem zeroOf_165 : ((Tryz.prog.info? 165).bind fun x => x.zero) = some (.pointer none) := by kernel_rfl
@[simp] theorem szOf_167 : szOf Tryz.prog 167 = some 1 := by kernel_rfl
@[simp] theorem bytesOf_167 : bytesOf Tryz.prog 167 = some 8 := by kernel_rfl
@[simp] theorem zeroOf_167 : ((Tryz.prog.info? 167).bind fun x => x.zero) = some (.pointer none) := by kernel_rfl
@[simp] theorem szOf_168 : szOf Tryz.prog 168 = some 1 := by kernel_rfl
@[simp] theorem bytesOf_168 : bytesOf Tryz.prog 168 = some 24 := by kernel_rfl
@[simp] theorem zeroOf_168 : ((Tryz.prog.info? 168).bind fun x => x.zero) = some (.slice none 0 0) := by kernel_rfl
@[simp] theorem szOf_169 : szOf Tryz.prog 169 = some 2 := by kernel_rfl
@[simp] theorem bytesOf_169 : bytesOf Tryz.prog 169 = some 32 := by kernel_rfl
@[simp] theorem zeroOf_169 : ((Tryz.prog.info? 169).bind fun x => x.zero) = some (.agg #[(.pointer none), (.slice none 0 0)]) := by kernel_rfl
@[simp] theorem szOf_170 : szOf Tryz.prog 170 = some 2 := by kernel_rfl
@[simp] theorem bytesOf_170 : bytesOf Tryz.prog 170 = some 32 := by kernel_rfl
@[simp] theorem zeroOf_170 : ((Tryz.prog.info? 170).bind fun x => x.zero) = some (.agg #[(.pointer none), (.slice none 0 0)]) := by kernel_rfl
@[simp] theorem szOf_171 : szOf Tryz.prog 171 = some 2 := by kernel_rfl
@[simp] theorem bytesOf_171 : bytesOf Tryz.prog 171 = some 32 := by kernel_rfl
@[simp] theorem zeroOf_171 : ((Tryz.prog.info? 171).bind fun x => x.zero) = some (.agg #[(.pointer none), (.slice none 0 0)]) := by kernel_rfl
@[simp] theorem szOf_172 : szOf Tryz.prog 172 = some 2 := by kernel_rfl
@[simp] theorem bytesOf_172 : bytesOf Tryz.prog 172 = some 32 := by kernel_rfl
@[simp] theorem zeroOf_172 : ((Tryz.prog.info? 172).bind fun x => x.zero) = some (.agg #[(.pointer none), (.slice none 0 0)]) := by kernel_rfl
@[simp] theorem szOf_173 : szOf Tryz.prog 173 = some 1 := by kernel_rfl
@[simp] theorem bytesOf_173 : bytesOf Tryz.prog 173 = some 8 := by kernel_rfl
@[simp] theorem zeroOf_173 : ((Tryz.prog.info? 173).bind fun x => x.zero) = some .nilFunc := by kernel_rfl
@[simp] theorem szOf_187 : szOf Tryz.prog 187 = some 1 := by kernel_rfl
@[simp] theorem bytesOf_187 : bytesOf Tryz.prog 187 = some 24 := by kernel_rfl
@[simp] theorem zeroOf_187 : ((Tryz.prog.info? 187).bind fun x => x.zero) = some (.slice none 0 0) := by kernel_rfl
@[simp] theorem szOf_189 : szOf Tryz.prog 189 = some 1 := by kernel_rfl
@[simp] theorem bytesOf_189 : bytesOf Tryz.prog 189 = some 8 := by kernel_rfl
@[simp] theorem zeroOf_189 : ((Tryz.prog.info? 189).bind fun x => x.zero) = some (.pointer none) := by kernel_rfl
@[simp] theorem szOf_192 : szOf Tryz.prog 192 = some 1 := by kernel_rfl
@[simp] theorem bytesOf_192 : bytesOf Tryz.prog 192 = some 8 := by kernel_rfl
@[simp] theorem zeroOf_192 : ((Tryz.prog.info? 192).bind fun x => x.zero) = some (.pointer none) := by kernel_rfl
@[simp] theorem szOf_200 : szOf Tryz.prog 200 = some 1 := by kernel_rfl
@[simp] theorem bytesOf_200 : bytesOf Tryz.prog 200 = some 16 := by kernel_rfl
@[simp] theorem zeroOf_200 : ((Tryz.prog.info? 200).bind fun x => x.zero) = some .nilIface := by kernel_rfl
@[simp] theorem szOf_201 : szOf Tryz.prog 201 = some 1 := by kernel_rfl
@[simp] theorem bytesOf_201 : bytesOf Tryz.prog 201 = some 16 := by kernel_rfl
@[simp] theorem zeroOf_201 : ((Tryz.prog.info? 201).bind fun x => x.zero) = some .nilIface := by kernel_rfl
@[simp] theorem szOf_224 : szOf Tryz.prog 224 = some 0 := by kernel_rfl
@[simp] theorem bytesOf_224 : bytesOf Tryz.prog 224 = some 0 := by kernel_rfl
@[simp] theorem zeroOf_224 : ((Tryz.prog.info? 224).bind fun x => x.zero) = some (.agg #[]) := by kernel_rfl
@[simp] theorem szOf_225 : szOf Tryz.prog 225 = some 0 := by kernel_rfl
@[simp] theorem bytesOf_225 : bytesOf Tryz.prog 225 = some 0 := by kernel_rfl
@[simp] theorem zeroOf_225 : ((Tryz.prog.info? 225).bind fun x => x.zero) = some (.agg #[]) := by kernel_rfl
@[simp] theorem szOf_226 : szOf Tryz.prog 226 = some 0 := by kernel_rfl
@[simp] theorem bytesOf_226 : bytesOf Tryz.prog 226 = some 0 := by kernel_rfl
@[simp] theorem zeroOf_226 : ((Tryz.prog.info? 226).bind fun x => x.zero) = some (.agg #[]) := by kernel_rfl
@[simp] theorem szOf_228 : szOf Tryz.prog 228 = some 1 := by kernel_rfl
@[simp] theorem bytesOf_228 : bytesOf Tryz.prog 228 = some 1 := by kernel_rfl
@[simp] theorem zeroOf_228 : ((Tryz.prog.info? 228).bind fun x => x.zero) = some (.int .u8 0) := by kernel_rfl
@[simp] theorem szOf_229 : szOf Tryz.prog 229 = some 1 := by kernel_rfl
@[simp] theorem bytesOf_229 : bytesOf Tryz.prog 229 = some 1 := by kernel_rfl
@[simp] theorem zeroOf_229 : ((Tryz.prog.info? 229).bind fun x => x.zero) = some (.int .u8 0) := by kernel_rfl
@[simp] theorem szOf_230 : szOf Tryz.prog 230 = some 1 := by kernel_rfl
@[simp] theorem bytesOf_230 : bytesOf Tryz.prog 230 = some 8 := by kernel_rfl
@[simp] theorem zeroOf_230 : ((Tryz.prog.info? 230).bind fun x => x.zero) = some .nilFunc := by kernel_rfl
@[simp] theorem szOf_231 : szOf Tryz.prog 231 = some 1 := by kernel_rfl
@[simp] theorem bytesOf_231 : bytesOf Tryz.prog 231 = some 4 := by kernel_rfl
@[simp] theorem zeroOf_231 : ((Tryz.prog.info? 231).bind fun x => x.zero) = some (.int .i32 0) := by kernel_rfl
@[simp] theorem szOf_232 : szOf Tryz.prog 232 = some 1 := by kernel_rfl
@[simp] theorem bytesOf_232 : bytesOf Tryz.prog 232 = some 4 := by kernel_rfl
@[simp] theorem zeroOf_232 : ((Tryz.prog.info? 232).bind fun x => x.zero) = some (.int .i32 0) := by kernel_rfl
@[simp] theorem szOf_233 : szOf Tryz.prog 233 = some 11 := by kernel_rfl
@[simp] theorem bytesOf_233 : bytesOf Tryz.prog 233 = some 48 := by kernel_rfl
@[simp] theorem zeroOf_233 : ((Tryz.prog.info? 233).bind fun x => x.zero) = some (.agg #[(.int .u64 0), (.int .u64 0), (.int .u32 0), (.int .u8 0), (.int .u8 0), (.int .u8 0), (.int .u8 0), .nilFunc, (.pointer none), (.int .i32 0), (.int .i32 0)]) := by kernel_rfl
@[simp] theorem szOf_234 : szOf Tryz.prog 234 = some 11 := by kernel_rfl
@[simp] theorem bytesOf_234 : bytesOf Tryz.prog 234 = some 48 := by kernel_rfl
@[simp] theorem zeroOf_234 : ((Tryz.prog.info? 234).bind fun x => x.zero) = some (.agg #[(.int .u64 0), (.int .u64 0), (.int .u32 0), (.int .u8 0), (.int .u8 0), (.int .u8 0), (.int .u8 0), .nilFunc, (.pointer none), (.int .i32 0), (.int .i32 0)]) := by kernel_rfl
end Go.Proofs.YtncoidmbmihliaaGreatDoor
