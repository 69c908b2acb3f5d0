/-
 EV: AN ARGUMENT AS THE STATEMENT READS IT, as abstract data.
-/
import Derived.Test.YtkkblmdgedmdfaaGreatDoorEvSym
import Derived.Lib.LaidTab
import GoSem.ClaimChange
import Derived.Test.YtkkblmdgedmdfaaGreatDoorRows
namespace Go.Proofs.YtkkblmdgedmdfaaGreatDoor
set_option linter.unusedSimpArgs false
set_option linter.unusedVariables false
section
open Go.RowKit
def Zall (w : World) (b j : Nat) : Prop := (w.cell? ⟨b, j, none⟩).isSome = true
theorem Match.start (w : World) (hG : ∀ (g : Nat) (l : List Value), globRow g = some l → VR [] (Zall w) w (.eptr (l.map .lit) 0) (.pointer (some ⟨g, 0, none⟩)) ∧ g < w.heap.size ∧ cellsz w g = l.length := by intro g l h; cases h) : Match [] [] (Zall w) w :=
 ⟨rfl, fun id o b h => by simp at h, fun i j b o p h => by simp at h, fun b j h => by
  unfold Zall at h
  rw [Option.isSome_iff_exists] at h
  obtain ⟨u, hu⟩ := h
  have := World.block_lt_of_cell? w _ hu
  exact this, hG, fun id b h => by simp at h⟩
section
variable {H : Type} (P : Program)
def avFields (g : TypeId → DataW H → Option (List AV)) : List Field → List (DataW H) → Option (List AV)
 | [], [] => some []
 | f :: fs, d :: ds => match g f.type d, avFields g fs ds with | some a, some b => some (a ++ b) | _, _ => none
 | _, _ => none
def avOf : Nat → TypeId → DataW H → Option (List AV)
 | 0, _, _ => none
 | n + 1, t, d =>
  match P.underlying t, d with
  | some .bool, .lit (.bool b) => some [.lit (.bool b)]
  | some (.int k), .lit (.int _ m) => some [.lit (.int k m)]
  | some .string, .lit (.string l) => some [.lit (.string ⟨l.toArray⟩)]
  | some (.slice _), .nil => some [.sl [] .no]
  | some (.slice e), .slice elems _ => (omap (avOf n e) elems).map fun rows => [.sl rows .no]
  | some (.struct fs), .agg parts => avFields (avOf n) fs.toList parts
  | _, _ => none
end
section
variable {H : Type} {enc : TypeId × Value → H} {P : Program} {w : World} {ι : List Nat}
end
end
section
@[simp] theorem szOf_1 : szOf Tryz.prog 1 = some 1 := by kernel_rfl
@[simp] theorem bytesOf_1 : bytesOf Tryz.prog 1 = some 8 := by kernel_rfl
@[simp] theorem zeroOf_1 : ((Tryz.prog.info? 1).bind fun x => x.zero) = some .nilFunc := by kernel_rfl
@[simp] theorem szOf_2 : szOf Tryz.prog 2 = some 1 := by kernel_rfl
@[simp] theorem bytesOf_2 : bytesOf Tryz.prog 2 = some 8 := by kernel_rfl
@[simp] theorem zeroOf_2 : ((Tryz.prog.info? 2).bind fun x => x.zero) = some (.int .i64 0) := by kernel_rfl
@[simp] theorem szOf_3 : szOf Tryz.prog 3 = some 1 := by kernel_rfl
@[simp] theorem bytesOf_3 : bytesOf Tryz.prog 3 = some 8 := by kernel_rfl
@[simp] theorem zeroOf_3 : ((Tryz.prog.info? 3).bind fun x => x.zero) = some (.int .i64 0) := by kernel_rfl
@[simp] theorem szOf_4 : szOf Tryz.prog 4 = some 1 := by kernel_rfl
@[simp] theorem bytesOf_4 : bytesOf Tryz.prog 4 = some 1 := by kernel_rfl
@[simp] theorem zeroOf_4 : ((Tryz.prog.info? 4).bind fun x => x.zero) = some (.bool false) := by kernel_rfl
@[simp] theorem szOf_5 : szOf Tryz.prog 5 = some 1 := by kernel_rfl
@[simp] theorem bytesOf_5 : bytesOf Tryz.prog 5 = some 1 := by kernel_rfl
@[simp] theorem zeroOf_5 : ((Tryz.prog.info? 5).bind fun x => x.zero) = some (.int .u8 0) := by kernel_rfl
@[simp] theorem szOf_6 : szOf Tryz.prog 6 = some 1 := by kernel_rfl
@[simp] theorem bytesOf_6 : bytesOf Tryz.prog 6 = some 1 := by kernel_rfl
@[simp] theorem zeroOf_6 : ((Tryz.prog.info? 6).bind fun x => x.zero) = some (.int .u8 0) := by kernel_rfl
@[simp] theorem szOf_7 : szOf Tryz.prog 7 = some 4 := by kernel_rfl
@[simp] theorem bytesOf_7 : bytesOf Tryz.prog 7 = some 24 := by kernel_rfl
@[simp] theorem zeroOf_7 : ((Tryz.prog.info? 7).bind fun x => x.zero) = some (.agg #[(.int .i64 0), (.int .i64 0), (.bool false), (.int .u8 0)]) := by kernel_rfl
@[simp] theorem szOf_8 : szOf Tryz.prog 8 = some 4 := by kernel_rfl
@[simp] theorem bytesOf_8 : bytesOf Tryz.prog 8 = some 24 := by kernel_rfl
@[simp] theorem zeroOf_8 : ((Tryz.prog.info? 8).bind fun x => x.zero) = some (.agg #[(.int .i64 0), (.int .i64 0), (.bool false), (.int .u8 0)]) := by kernel_rfl
@[simp] theorem szOf_9 : szOf Tryz.prog 9 = some 1 := by kernel_rfl
@[simp] theorem bytesOf_9 : bytesOf Tryz.prog 9 = some 16 := by kernel_rfl
@[simp] theorem zeroOf_9 : ((Tryz.prog.info? 9).bind fun x => x.zero) = some (.string ⟨#[]⟩) := by kernel_rfl
@[simp] theorem szOf_10 : szOf Tryz.prog 10 = some 1 := by kernel_rfl
@[simp] theorem bytesOf_10 : bytesOf Tryz.prog 10 = some 16 := by kernel_rfl
@[simp] theorem zeroOf_10 : ((Tryz.prog.info? 10).bind fun x => x.zero) = some (.string ⟨#[]⟩) := by kernel_rfl
@[simp] theorem szOf_11 : szOf Tryz.prog 11 = some 1 := by kernel_rfl
@[simp] theorem bytesOf_11 : bytesOf Tryz.prog 11 = some 16 := by kernel_rfl
@[simp] theorem zeroOf_11 : ((Tryz.prog.info? 11).bind fun x => x.zero) = some (.string ⟨#[]⟩) := by kernel_rfl
@[simp] theorem szOf_12 : szOf Tryz.prog 12 = some 1 := by kernel_rfl
@[simp] theorem bytesOf_12 : bytesOf Tryz.prog 12 = some 8 := by kernel_rfl
@[simp] theorem zeroOf_12 : ((Tryz.prog.info? 12).bind fun x => x.zero) = some (.int .u64 0) := by kernel_rfl
@[simp] theorem szOf_16 : szOf Tryz.prog 16 = some 1 := by kernel_rfl
@[simp] theorem bytesOf_16 : bytesOf Tryz.prog 16 = some 8 := by kernel_rfl
@[simp] theorem zeroOf_16 : ((Tryz.prog.info? 16).bind fun x => x.zero) = some (.pointer none) := by kernel_rfl
@[simp] theorem szOf_17 : szOf Tryz.prog 17 = some 1 := by kernel_rfl
@[simp] theorem bytesOf_17 : bytesOf Tryz.prog 17 = some 8 := by kernel_rfl
@[simp] theorem zeroOf_17 : ((Tryz.prog.info? 17).bind fun x => x.zero) = some (.pointer none) := by kernel_rfl
@[simp] theorem szOf_19 : szOf Tryz.prog 19 = some 1 := by kernel_rfl
@[simp] theorem bytesOf_19 : bytesOf Tryz.prog 19 = some 8 := by kernel_rfl
@[simp] theorem zeroOf_19 : ((Tryz.prog.info? 19).bind fun x => x.zero) = some (.agg #[(.pointer none)]) := by kernel_rfl
@[simp] theorem szOf_20 : szOf Tryz.prog 20 = some 1 := by kernel_rfl
@[simp] theorem bytesOf_20 : bytesOf Tryz.prog 20 = some 16 := by kernel_rfl
@[simp] theorem zeroOf_20 : ((Tryz.prog.info? 20).bind fun x => x.zero) = some .nilIface := by kernel_rfl
@[simp] theorem szOf_21 : szOf Tryz.prog 21 = some 1 := by kernel_rfl
@[simp] theorem bytesOf_21 : bytesOf Tryz.prog 21 = some 4 := by kernel_rfl
@[simp] theorem zeroOf_21 : ((Tryz.prog.info? 21).bind fun x => x.zero) = some (.int .i32 0) := by kernel_rfl
@[simp] theorem szOf_22 : szOf Tryz.prog 22 = some 1 := by kernel_rfl
@[simp] theorem bytesOf_22 : bytesOf Tryz.prog 22 = some 8 := by kernel_rfl
@[simp] theorem zeroOf_22 : ((Tryz.prog.info? 22).bind fun x => x.zero) = some .nilFunc := by kernel_rfl
@[simp] theorem szOf_23 : szOf Tryz.prog 23 = some 1 := by kernel_rfl
@[simp] theorem bytesOf_23 : bytesOf Tryz.prog 23 = some 8 := by kernel_rfl
@[simp] theorem zeroOf_23 : ((Tryz.prog.info? 23).bind fun x => x.zero) = some .nilFunc := by kernel_rfl
@[simp] theorem szOf_24 : szOf Tryz.prog 24 = some 1 := by kernel_rfl
@[simp] theorem bytesOf_24 : bytesOf Tryz.prog 24 = some 24 := by kernel_rfl
@[simp] theorem zeroOf_24 : ((Tryz.prog.info? 24).bind fun x => x.zero) = some (.slice none 0 0) := by kernel_rfl
@[simp] theorem szOf_25 : szOf Tryz.prog 25 = some 1 := by kernel_rfl
@[simp] theorem bytesOf_25 : bytesOf Tryz.prog 25 = some 24 := by kernel_rfl
@[simp] theorem zeroOf_25 : ((Tryz.prog.info? 25).bind fun x => x.zero) = some (.slice none 0 0) := by kernel_rfl
@[simp] theorem szOf_26 : szOf Tryz.prog 26 = some 1 := by kernel_rfl
@[simp] theorem bytesOf_26 : bytesOf Tryz.prog 26 = some 24 := by kernel_rfl
@[simp] theorem zeroOf_26 : ((Tryz.prog.info? 26).bind fun x => x.zero) = some (.slice none 0 0) := by kernel_rfl
@[simp] theorem szOf_27 : szOf Tryz.prog 27 = some 1 := by kernel_rfl
@[simp] theorem bytesOf_27 : bytesOf Tryz.prog 27 = some 24 := by kernel_rfl
@[simp] theorem zeroOf_27 : ((Tryz.prog.info? 27).bind fun x => x.zero) = some (.slice none 0 0) := by kernel_rfl
@[simp] theorem szOf_28 : szOf Tryz.prog 28 = some 4 := by kernel_rfl
@[simp] theorem bytesOf_28 : bytesOf Tryz.prog 28 = some 96 := by kernel_rfl
@[simp] theorem zeroOf_28 : ((Tryz.prog.info? 28).bind fun x => x.zero) = some (.agg #[(.slice none 0 0), (.slice none 0 0), (.slice none 0 0), (.slice none 0 0)]) := by kernel_rfl
@[simp] theorem szOf_29 : szOf Tryz.prog 29 = some 4 := by kernel_rfl
@[simp] theorem bytesOf_29 : bytesOf Tryz.prog 29 = some 96 := by kernel_rfl
@[simp] theorem zeroOf_29 : ((Tryz.prog.info? 29).bind fun x => x.zero) = some (.agg #[(.slice none 0 0), (.slice none 0 0), (.slice none 0 0), (.slice none 0 0)]) := by kernel_rfl
@[simp] theorem szOf_30 : szOf Tryz.prog 30 = some 1 := by kernel_rfl
@[simp] theorem bytesOf_30 : bytesOf Tryz.prog 30 = some 8 := by kernel_rfl
@[simp] theorem zeroOf_30 : ((Tryz.prog.info? 30).bind fun x => x.zero) = some (.int .i64 0) := by kernel_rfl
@[simp] theorem szOf_32 : szOf Tryz.prog 32 = some 1 := by kernel_rfl
@[simp] theorem bytesOf_32 : bytesOf Tryz.prog 32 = some 8 := by kernel_rfl
@[simp] theorem zeroOf_32 : ((Tryz.prog.info? 32).bind fun x => x.zero) = some .nilFunc := by kernel_rfl
@[simp] theorem szOf_35 : szOf Tryz.prog 35 = some 1 := by kernel_rfl
@[simp] theorem bytesOf_35 : bytesOf Tryz.prog 35 = some 1 := by kernel_rfl
@[simp] theorem zeroOf_35 : ((Tryz.prog.info? 35).bind fun x => x.zero) = some (.int .u8 0) := by kernel_rfl
@[simp] theorem szOf_36 : szOf Tryz.prog 36 = some 1 := by kernel_rfl
@[simp] theorem bytesOf_36 : bytesOf Tryz.prog 36 = some 24 := by kernel_rfl
@[simp] theorem zeroOf_36 : ((Tryz.prog.info? 36).bind fun x => x.zero) = some (.slice none 0 0) := by kernel_rfl
@[simp] theorem szOf_37 : szOf Tryz.prog 37 = some 2 := by kernel_rfl
@[simp] theorem bytesOf_37 : bytesOf Tryz.prog 37 = some 32 := by kernel_rfl
@[simp] theorem zeroOf_37 : ((Tryz.prog.info? 37).bind fun x => x.zero) = some (.agg #[(.bool false), (.slice none 0 0)]) := by kernel_rfl
@[simp] theorem szOf_38 : szOf Tryz.prog 38 = some 2 := by kernel_rfl
@[simp] theorem bytesOf_38 : bytesOf Tryz.prog 38 = some 32 := by kernel_rfl
@[simp] theorem zeroOf_38 : ((Tryz.prog.info? 38).bind fun x => x.zero) = some (.agg #[(.bool false), (.slice none 0 0)]) := by kernel_rfl
@[simp] theorem szOf_39 : szOf Tryz.prog 39 = some 1 := by kernel_rfl
@[simp] theorem bytesOf_39 : bytesOf Tryz.prog 39 = some 24 := by kernel_rfl
@[simp] theorem zeroOf_39 : ((Tryz.prog.info? 39).bind fun x => x.zero) = some (.slice none 0 0) := by kernel_rfl
@[simp] theorem szOf_40 : szOf Tryz.prog 40 = some 5 := by kernel_rfl
@[simp] theorem bytesOf_40 : bytesOf Tryz.prog 40 = some 80 := by kernel_rfl
@[simp] theorem zeroOf_40 : ((Tryz.prog.info? 40).bind fun x => x.zero) = some (.agg #[(.int .u8 0), (.string ⟨#[]⟩), (.bool false), (.slice none 0 0), (.slice none 0 0)]) := by kernel_rfl
@[simp] theorem szOf_41 : szOf Tryz.prog 41 = some 5 := by kernel_rfl
@[simp] theorem bytesOf_41 : bytesOf Tryz.prog 41 = some 80 := by kernel_rfl
@[simp] theorem zeroOf_41 : ((Tryz.prog.info? 41).bind fun x => x.zero) = some (.agg #[(.int .u8 0), (.string ⟨#[]⟩), (.bool false), (.slice none 0 0), (.slice none 0 0)]) := by kernel_rfl
@[simp] theorem szOf_44 : szOf Tryz.prog 44 = some 1 := by kernel_rfl
@[simp] theorem bytesOf_44 : bytesOf Tryz.prog 44 = some 8 := by kernel_rfl
@[simp] theorem zeroOf_44 : ((Tryz.prog.info? 44).bind fun x => x.zero) = some .nilFunc := by kernel_rfl
@[simp] theorem szOf_45 : szOf Tryz.prog 45 = some 1 := by kernel_rfl
@[simp] theorem bytesOf_45 : bytesOf Tryz.prog 45 = some 24 := by kernel_rfl
@[simp] theorem zeroOf_45 : ((Tryz.prog.info? 45).bind fun x => x.zero) = some (.slice none 0 0) := by kernel_rfl
@[simp] theorem szOf_48 : szOf Tryz.prog 48 = some 1 := by kernel_rfl
@[simp] theorem bytesOf_48 : bytesOf Tryz.prog 48 = some 24 := by kernel_rfl
@[simp] theorem zeroOf_48 : ((Tryz.prog.info? 48).bind fun x => x.zero) = some (.slice none 0 0) := by kernel_rfl
@[simp] theorem szOf_51 : szOf Tryz.prog 51 = some 1 := by kernel_rfl
@[simp] theorem bytesOf_51 : bytesOf Tryz.prog 51 = some 8 := by kernel_rfl
@[simp] theorem zeroOf_51 : ((Tryz.prog.info? 51).bind fun x => x.zero) = some (.pointer none) := by kernel_rfl
@[simp] theorem szOf_52 : szOf Tryz.prog 52 = some 2 := by kernel_rfl
@[simp] theorem bytesOf_52 : bytesOf Tryz.prog 52 = some 16 := by kernel_rfl
@[simp] theorem zeroOf_52 : ((Tryz.prog.info? 52).bind fun x => x.zero) = some (.agg #[(.bool false), (.int .i64 0)]) := by kernel_rfl
@[simp] theorem szOf_53 : szOf Tryz.prog 53 = some 2 := by kernel_rfl
@[simp] theorem bytesOf_53 : bytesOf Tryz.prog 53 = some 16 := by kernel_rfl
@[simp] theorem zeroOf_53 : ((Tryz.prog.info? 53).bind fun x => x.zero) = some (.agg #[(.bool false), (.int .i64 0)]) := by kernel_rfl
@[simp] theorem szOf_54 : szOf Tryz.prog 54 = some 4 := by kernel_rfl
@[simp] theorem bytesOf_54 : bytesOf Tryz.prog 54 = some 56 := by kernel_rfl
@[simp] theorem zeroOf_54 : ((Tryz.prog.info? 54).bind fun x => x.zero) = some (.agg #[(.string ⟨#[]⟩), (.slice none 0 0), (.bool false), (.int .i64 0)]) := by kernel_rfl
@[simp] theorem szOf_55 : szOf Tryz.prog 55 = some 4 := by kernel_rfl
@[simp] theorem bytesOf_55 : bytesOf Tryz.prog 55 = some 56 := by kernel_rfl
@[simp] theorem zeroOf_55 : ((Tryz.prog.info? 55).bind fun x => x.zero) = some (.agg #[(.string ⟨#[]⟩), (.slice none 0 0), (.bool false), (.int .i64 0)]) := by kernel_rfl
@[simp] theorem szOf_56 : szOf Tryz.prog 56 = some 5 := by kernel_rfl
@[simp] theorem bytesOf_56 : bytesOf Tryz.prog 56 = some 64 := by kernel_rfl
@[simp] theorem zeroOf_56 : ((Tryz.prog.info? 56).bind fun x => x.zero) = some (.agg #[(.string ⟨#[]⟩), (.slice none 0 0), (.bool false), (.int .i64 0), (.pointer none)]) := by kernel_rfl
@[simp] theorem szOf_57 : szOf Tryz.prog 57 = some 5 := by kernel_rfl
@[simp] theorem bytesOf_57 : bytesOf Tryz.prog 57 = some 64 := by kernel_rfl
@[simp] theorem zeroOf_57 : ((Tryz.prog.info? 57).bind fun x => x.zero) = some (.agg #[(.string ⟨#[]⟩), (.slice none 0 0), (.bool false), (.int .i64 0), (.pointer none)]) := by kernel_rfl
@[simp] theorem szOf_59 : szOf Tryz.prog 59 = some 1 := by kernel_rfl
@[simp] theorem bytesOf_59 : bytesOf Tryz.prog 59 = some 8 := by kernel_rfl
@[simp] theorem zeroOf_59 : ((Tryz.prog.info? 59).bind fun x => x.zero) = some (.pointer none) := by kernel_rfl
@[simp] theorem szOf_64 : szOf Tryz.prog 64 = some 1 := by kernel_rfl
@[simp] theorem bytesOf_64 : bytesOf Tryz.prog 64 = some 24 := by kernel_rfl
@[simp] theorem zeroOf_64 : ((Tryz.prog.info? 64).bind fun x => x.zero) = some (.slice none 0 0) := by kernel_rfl
@[simp] theorem szOf_71 : szOf Tryz.prog 71 = some 4 := by kernel_rfl
@[simp] theorem bytesOf_71 : bytesOf Tryz.prog 71 = some 56 := by kernel_rfl
@[simp] theorem zeroOf_71 : ((Tryz.prog.info? 71).bind fun x => x.zero) = some (.agg #[(.string ⟨#[]⟩), (.slice none 0 0), (.bool false), (.int .i64 0)]) := by kernel_rfl
@[simp] theorem szOf_72 : szOf Tryz.prog 72 = some 4 := by kernel_rfl
@[simp] theorem bytesOf_72 : bytesOf Tryz.prog 72 = some 56 := by kernel_rfl
@[simp] theorem zeroOf_72 : ((Tryz.prog.info? 72).bind fun x => x.zero) = some (.agg #[(.string ⟨#[]⟩), (.slice none 0 0), (.bool false), (.int .i64 0)]) := by kernel_rfl
@[simp] theorem szOf_91 : szOf Tryz.prog 91 = some 1 := by kernel_rfl
@[simp] theorem bytesOf_91 : bytesOf Tryz.prog 91 = some 24 := by kernel_rfl
@[simp] theorem zeroOf_91 : ((Tryz.prog.info? 91).bind fun x => x.zero) = some (.slice none 0 0) := by kernel_rfl
@[simp] theorem szOf_92 : szOf Tryz.prog 92 = some 2 := by kernel_rfl
@[simp] theorem bytesOf_92 : bytesOf Tryz.prog 92 = some 40 := by kernel_rfl
@[simp] theorem zeroOf_92 : ((Tryz.prog.info? 92).bind fun x => x.zero) = some (.agg #[(.string ⟨#[]⟩), (.slice none 0 0)]) := by kernel_rfl
@[simp] theorem szOf_93 : szOf Tryz.prog 93 = some 2 := by kernel_rfl
@[simp] theorem bytesOf_93 : bytesOf Tryz.prog 93 = some 40 := by kernel_rfl
@[simp] theorem zeroOf_93 : ((Tryz.prog.info? 93).bind fun x => x.zero) = some (.agg #[(.string ⟨#[]⟩), (.slice none 0 0)]) := by kernel_rfl
@[simp] theorem szOf_95 : szOf Tryz.prog 95 = some 2 := by kernel_rfl
@[simp] theorem bytesOf_95 : bytesOf Tryz.prog 95 = some 40 := by kernel_rfl
@[simp] theorem zeroOf_95 : ((Tryz.prog.info? 95).bind fun x => x.zero) = some (.agg #[(.string ⟨#[]⟩), (.slice none 0 0)]) := by kernel_rfl
@[simp] theorem szOf_96 : szOf Tryz.prog 96 = some 2 := by kernel_rfl
@[simp] theorem bytesOf_96 : bytesOf Tryz.prog 96 = some 40 := by kernel_rfl
@[simp] theorem zeroOf_96 : ((Tryz.prog.info? 96).bind fun x => x.zero) = some (.agg #[(.string ⟨#[]⟩), (.slice none 0 0)]) := by kernel_rfl
@[simp] theorem szOf_97 : szOf Tryz.prog 97 = some 1 := by kernel_rfl
@[simp] theorem bytesOf_97 : bytesOf Tryz.prog 97 = some 8 := by kernel_rfl
@[simp] theorem zeroOf_97 : ((Tryz.prog.info? 97).bind fun x => x.zero) = some .nilFunc := by kernel_rfl
@[simp] theorem szOf_99 : szOf Tryz.prog 99 = some 1 := by kernel_rfl
@[simp] theorem bytesOf_99 : bytesOf Tryz.prog 99 = some 24 := by kernel_rfl
@[simp] theorem zeroOf_99 : ((Tryz.prog.info? 99).bind fun x => x.zero) = some (.slice none 0 0) := by kernel_rfl
@[simp] theorem szOf_100 : szOf Tryz.prog 100 = some 7 := by kernel_rfl
@[simp] theorem bytesOf_100 : bytesOf Tryz.prog 100 = some 120 := by kernel_rfl
@[simp] theorem zeroOf_100 : ((Tryz.prog.info? 100).bind fun x => x.zero) = some (.agg #[(.string ⟨#[]⟩), (.slice none 0 0), (.int .u8 0), (.string ⟨#[]⟩), (.bool false), (.slice none 0 0), (.slice none 0 0)]) := by kernel_rfl
@[simp] theorem szOf_101 : szOf Tryz.prog 101 = some 7 := by kernel_rfl
@[simp] theorem bytesOf_101 : bytesOf Tryz.prog 101 = some 120 := by kernel_rfl
@[simp] theorem zeroOf_101 : ((Tryz.prog.info? 101).bind fun x => x.zero) = some (.agg #[(.string ⟨#[]⟩), (.slice none 0 0), (.int .u8 0), (.string ⟨#[]⟩), (.bool false), (.slice none 0 0), (.slice none 0 0)]) := by kernel_rfl
@[simp] theorem szOf_103 : szOf Tryz.prog 103 = some 1 := by kernel_rfl
@[simp] theorem bytesOf_103 : bytesOf Tryz.prog 103 = some 8 := by kernel_rfl
@[simp] theorem zeroOf_103 : ((Tryz.prog.info? 103).bind fun x => x.zero) = some .nilFunc := by kernel_rfl
@[simp] theorem szOf_104 : szOf Tryz.prog 104 = some 1 := by kernel_rfl
@[simp] theorem bytesOf_104 : bytesOf Tryz.prog 104 = some 8 := by kernel_rfl
@[simp] theorem zeroOf_104 : ((Tryz.prog.info? 104).bind fun x => x.zero) = some .nilFunc := by kernel_rfl
@[simp] theorem szOf_105 : szOf Tryz.prog 105 = some 1 := by kernel_rfl
@[simp] theorem bytesOf_105 : bytesOf Tryz.prog 105 = some 8 := by kernel_rfl
@[simp] theorem zeroOf_105 : ((Tryz.prog.info? 105).bind fun x => x.zero) = some (.pointer none) := by kernel_rfl
@[simp] theorem szOf_106 : szOf Tryz.prog 106 = some 1 := by kernel_rfl
@[simp] theorem bytesOf_106 : bytesOf Tryz.prog 106 = some 8 := by kernel_rfl
@[simp] theorem zeroOf_106 : ((Tryz.prog.info? 106).bind fun x => x.zero) = some .nilFunc := by kernel_rfl
@[simp] theorem szOf_108 : szOf Tryz.prog 108 = some 1 := by kernel_rfl
@[simp] theorem bytesOf_108 : bytesOf Tryz.prog 108 = some 8 := by kernel_rfl
@[simp] theorem zeroOf_108 : ((Tryz.prog.info? 108).bind fun x => x.zero) = some (.pointer none) := by kernel_rfl
@[simp] theorem szOf_109 : szOf Tryz.prog 109 = some 1 := by kernel_rfl
@[simp] theorem bytesOf_109 : bytesOf Tryz.prog 109 = some 8 := by kernel_rfl
@[simp] theorem zeroOf_109 : ((Tryz.prog.info? 109).bind fun x => x.zero) = some .nilFunc := by kernel_rfl
@[simp] theorem szOf_112 : szOf Tryz.prog 112 = some 1 := by kernel_rfl
@[simp] theorem bytesOf_112 : bytesOf Tryz.prog 112 = some 8 := by kernel_rfl
@[simp] theorem zeroOf_112 : ((Tryz.prog.info? 112).bind fun x => x.zero) = some (.pointer none) := by kernel_rfl
@[simp] theorem szOf_113 : szOf Tryz.prog 113 = some 1 := by kernel_rfl
@[simp] theorem bytesOf_113 : bytesOf Tryz.prog 113 = some 8 := by kernel_rfl
@[simp] theorem zeroOf_113 : ((Tryz.prog.info? 113).bind fun x => x.zero) = some .nilFunc := by kernel_rfl
@[simp] theorem szOf_114 : szOf Tryz.prog 114 = some 1 := by kernel_rfl
@[simp] theorem bytesOf_114 : bytesOf Tryz.prog 114 = some 24 := by kernel_rfl
@[simp] theorem zeroOf_114 : ((Tryz.prog.info? 114).bind fun x => x.zero) = some (.slice none 0 0) := by kernel_rfl
@[simp] theorem szOf_115 : szOf Tryz.prog 115 = some 1 := by kernel_rfl
@[simp] theorem bytesOf_115 : bytesOf Tryz.prog 115 = some 24 := by kernel_rfl
@[simp] theorem zeroOf_115 : ((Tryz.prog.info? 115).bind fun x => x.zero) = some (.slice none 0 0) := by kernel_rfl
@[simp] theorem szOf_116 : szOf Tryz.prog 116 = some 9 := by kernel_rfl
@[simp] theorem bytesOf_116 : bytesOf Tryz.prog 116 = some 152 := by kernel_rfl
@[simp] theorem zeroOf_116 : ((Tryz.prog.info? 116).bind fun x => x.zero) = some (.agg #[(.bool false), (.string ⟨#[]⟩), (.int .u8 0), (.string ⟨#[]⟩), (.bool false), (.slice none 0 0), (.slice none 0 0), (.slice none 0 0), (.slice none 0 0)]) := by kernel_rfl
@[simp] theorem szOf_117 : szOf Tryz.prog 117 = some 9 := by kernel_rfl
@[simp] theorem bytesOf_117 : bytesOf Tryz.prog 117 = some 152 := by kernel_rfl
@[simp] theorem zeroOf_117 : ((Tryz.prog.info? 117).bind fun x => x.zero) = some (.agg #[(.bool false), (.string ⟨#[]⟩), (.int .u8 0), (.string ⟨#[]⟩), (.bool false), (.slice none 0 0), (.slice none 0 0), (.slice none 0 0), (.slice none 0 0)]) := by kernel_rfl
@[simp] theorem szOf_118 : szOf Tryz.prog 118 = some 1 := by kernel_rfl
@[simp] theorem bytesOf_118 : bytesOf Tryz.prog 118 = some 1 := by kernel_rfl
@[simp] theorem zeroOf_118 : ((Tryz.prog.info? 118).bind fun x => x.zero) = some (.int .u8 0) := by kernel_rfl
@[simp] theorem szOf_119 : szOf Tryz.prog 119 = some 1 := by kernel_rfl
@[simp] theorem bytesOf_119 : bytesOf Tryz.prog 119 = some 24 := by kernel_rfl
@[simp] theorem zeroOf_119 : ((Tryz.prog.info? 119).bind fun x => x.zero) = some (.slice none 0 0) := by kernel_rfl
@[simp] theorem szOf_120 : szOf Tryz.prog 120 = some 1 := by kernel_rfl
@[simp] theorem bytesOf_120 : bytesOf Tryz.prog 120 = some 1 := by kernel_rfl
@[simp] theorem zeroOf_120 : ((Tryz.prog.info? 120).bind fun x => x.zero) = some (.int .u8 0) := by kernel_rfl
@[simp] theorem szOf_121 : szOf Tryz.prog 121 = some 5 := by kernel_rfl
@[simp] theorem bytesOf_121 : bytesOf Tryz.prog 121 = some 64 := by kernel_rfl
@[simp] theorem zeroOf_121 : ((Tryz.prog.info? 121).bind fun x => x.zero) = some (.agg #[(.int .u8 0), (.string ⟨#[]⟩), (.bool false), (.slice none 0 0), (.bool false)]) := by kernel_rfl
@[simp] theorem szOf_122 : szOf Tryz.prog 122 = some 5 := by kernel_rfl
@[simp] theorem bytesOf_122 : bytesOf Tryz.prog 122 = some 64 := by kernel_rfl
@[simp] theorem zeroOf_122 : ((Tryz.prog.info? 122).bind fun x => x.zero) = some (.agg #[(.int .u8 0), (.string ⟨#[]⟩), (.bool false), (.slice none 0 0), (.bool false)]) := by kernel_rfl
@[simp] theorem szOf_123 : szOf Tryz.prog 123 = some 1 := by kernel_rfl
@[simp] theorem bytesOf_123 : bytesOf Tryz.prog 123 = some 24 := by kernel_rfl
@[simp] theorem zeroOf_123 : ((Tryz.prog.info? 123).bind fun x => x.zero) = some (.slice none 0 0) := by kernel_rfl
@[simp] theorem szOf_124 : szOf Tryz.prog 124 = some 1 := by kernel_rfl
@[simp] theorem bytesOf_124 : bytesOf Tryz.prog 124 = some 24 := by kernel_rfl
@[simp] theorem zeroOf_124 : ((Tryz.prog.info? 124).bind fun x => x.zero) = some (.slice none 0 0) := by kernel_rfl
@[simp] theorem szOf_125 : szOf Tryz.prog 125 = some 11 := by kernel_rfl
@[simp] theorem bytesOf_125 : bytesOf Tryz.prog 125 = some 184 := by kernel_rfl
@[simp] theorem zeroOf_125 : ((Tryz.prog.info? 125).bind fun x => x.zero) = some (.agg #[(.int .u8 0), (.string ⟨#[]⟩), (.slice none 0 0), (.slice none 0 0), (.int .u8 0), (.string ⟨#[]⟩), (.bool false), (.slice none 0 0), (.bool false), (.slice none 0 0), (.slice none 0 0)]) := by kernel_rfl
@[simp] theorem szOf_126 : szOf Tryz.prog 126 = some 11 := by kernel_rfl
@[simp] theorem bytesOf_126 : bytesOf Tryz.prog 126 = some 184 := by kernel_rfl
@[simp] theorem zeroOf_126 : ((Tryz.prog.info? 126).bind fun x => x.zero) = some (.agg #[(.int .u8 0), (.string ⟨#[]⟩), (.slice none 0 0), (.slice none 0 0), (.int .u8 0), (.string ⟨#[]⟩), (.bool false), (.slice none 0 0), (.bool false), (.slice none 0 0), (.slice none 0 0)]) := by kernel_rfl
@[simp] theorem szOf_127 : szOf Tryz.prog 127 = some 22 := by kernel_rfl
@[simp] theorem bytesOf_127 : bytesOf Tryz.prog 127 = some 376 := by kernel_rfl
@[simp] theorem zeroOf_127 : ((Tryz.prog.info? 127).bind fun x => x.zero) = some (.agg #[(.string ⟨#[]⟩), (.slice none 0 0), (.bool false), (.string ⟨#[]⟩), (.int .u8 0), (.string ⟨#[]⟩), (.bool false), (.slice none 0 0), (.slice none 0 0), (.slice none 0 0), (.slice none 0 0), (.int .u8 0), (.string ⟨#[]⟩), (.slice none 0 0), (.slice none 0 0), (.int .u8 0), (.string ⟨#[]⟩), (.bool false), (.slice none 0 0), (.bool false), (.slice none 0 0), (.slice none 0 0)]) := by kernel_rfl
@[simp] theorem szOf_128 : szOf Tryz.prog 128 = some 22 := by kernel_rfl
@[simp] theorem bytesOf_128 : bytesOf Tryz.prog 128 = some 376 := by kernel_rfl
@[simp] theorem zeroOf_128 : ((Tryz.prog.info? 128).bind fun x => x.zero) = some (.agg #[(.string ⟨#[]⟩), (.slice none 0 0), (.bool false), (.string ⟨#[]⟩), (.int .u8 0), (.string ⟨#[]⟩), (.bool false), (.slice none 0 0), (.slice none 0 0), (.slice none 0 0), (.slice none 0 0), (.int .u8 0), (.string ⟨#[]⟩), (.slice none 0 0), (.slice none 0 0), (.int .u8 0), (.string ⟨#[]⟩), (.bool false), (.slice none 0 0), (.bool false), (.slice none 0 0), (.slice none 0 0)]) := by kernel_rfl
@[simp] theorem szOf_130 : szOf Tryz.prog 130 = some 1 := by kernel_rfl
@[simp] theorem bytesOf_130 : bytesOf Tryz.prog 130 = some 8 := by kernel_rfl
@[simp] theorem zeroOf_130 : ((Tryz.prog.info? 130).bind fun x => x.zero) = some (.pointer none) := by kernel_rfl
@[simp] theorem szOf_131 : szOf Tryz.prog 131 = some 1 := by kernel_rfl
@[simp] theorem bytesOf_131 : bytesOf Tryz.prog 131 = some 8 := by kernel_rfl
@[simp] theorem zeroOf_131 : ((Tryz.prog.info? 131).bind fun x => x.zero) = some .nilFunc := by kernel_rfl
@[simp] theorem szOf_134 : szOf Tryz.prog 134 = some 1 := by kernel_rfl
@[simp] theorem bytesOf_134 : bytesOf Tryz.prog 134 = some 8 := by kernel_rfl
@[simp] theorem zeroOf_134 : ((Tryz.prog.info? 134).bind fun x => x.zero) = some (.pointer none) := by kernel_rfl
@[simp] theorem szOf_135 : szOf Tryz.prog 135 = some 1 := by kernel_rfl
@[simp] theorem bytesOf_135 : bytesOf Tryz.prog 135 = some 8 := by kernel_rfl
@[simp] theorem zeroOf_135 : ((Tryz.prog.info? 135).bind fun x => x.zero) = some .nilFunc := by kernel_rfl
@[simp] theorem szOf_136 : szOf Tryz.prog 136 = some 1 := by kernel_rfl
@[simp] theorem bytesOf_136 : bytesOf Tryz.prog 136 = some 8 := by kernel_rfl
@[simp] theorem zeroOf_136 : ((Tryz.prog.info? 136).bind fun x => x.zero) = some .nilFunc := by kernel_rfl
@[simp] theorem szOf_138 : szOf Tryz.prog 138 = some 1 := by kernel_rfl
@[simp] theorem bytesOf_138 : bytesOf Tryz.prog 138 = some 8 := by kernel_rfl
@[simp] theorem zeroOf_138 : ((Tryz.prog.info? 138).bind fun x => x.zero) = some (.pointer none) := by kernel_rfl
@[simp] theorem szOf_139 : szOf Tryz.prog 139 = some 1 := by kernel_rfl
@[simp] theorem bytesOf_139 : bytesOf Tryz.prog 139 = some 8 := by kernel_rfl
@[simp] theorem zeroOf_139 : ((Tryz.prog.info? 139).bind fun x => x.zero) = some .nilFunc := by kernel_rfl
@[simp] theorem szOf_141 : szOf Tryz.prog 141 = some 1 := by kernel_rfl
@[simp] theorem bytesOf_141 : bytesOf Tryz.prog 141 = some 1 := by kernel_rfl
@[simp] theorem zeroOf_141 : ((Tryz.prog.info? 141).bind fun x => x.zero) = some (.int .u8 0) := by kernel_rfl
@[simp] theorem szOf_142 : szOf Tryz.prog 142 = some 1 := by kernel_rfl
@[simp] theorem bytesOf_142 : bytesOf Tryz.prog 142 = some 24 := by kernel_rfl
@[simp] theorem zeroOf_142 : ((Tryz.prog.info? 142).bind fun x => x.zero) = some (.slice none 0 0) := by kernel_rfl
@[simp] theorem szOf_145 : szOf Tryz.prog 145 = some 8 := by kernel_rfl
@[simp] theorem bytesOf_145 : bytesOf Tryz.prog 145 = some 152 := by kernel_rfl
@[simp] theorem zeroOf_145 : ((Tryz.prog.info? 145).bind fun x => x.zero) = some (.agg #[(.int .u8 0), (.slice none 0 0), (.slice none 0 0), (.string ⟨#[]⟩), (.slice none 0 0), (.bool false), (.slice none 0 0), (.slice none 0 0)]) := by kernel_rfl
@[simp] theorem szOf_165 : szOf Tryz.prog 165 = some 1 := by kernel_rfl
@[simp] theorem bytesOf_165 : bytesOf Tryz.prog 165 = some 8 := by kernel_rfl
@[simp] theorem zeroOf_165 : ((Tryz.prog.info? 165).bind fun x => x.zero) = some (.pointer none) := by kernel_rfl
@[simp] theorem szOf_166 : szOf Tryz.prog 166 = some 1 := by kernel_rfl
@[simp] theorem bytesOf_166 : bytesOf Tryz.prog 166 = some 8 := by kernel_rfl
@[simp] theorem zeroOf_166 : ((Tryz.prog.info? 166).bind fun x => x.zero) = some .nilFunc := by kernel_rfl
@[simp] theorem szOf_170 : szOf Tryz.prog 170 = some 2 := by kernel_rfl
@[simp] theorem bytesOf_170 : bytesOf Tryz.prog 170 = some 16 := by kernel_rfl
@[simp] theorem zeroOf_170 : ((Tryz.prog.info? 170).bind fun x => x.zero) = some (.agg #[(.int .u8 0), (.int .i64 0)]) := by kernel_rfl
@[simp] theorem szOf_172 : szOf Tryz.prog 172 = some 1 := by kernel_rfl
@[simp] theorem bytesOf_172 : bytesOf Tryz.prog 172 = some 8 := by kernel_rfl
@[simp] theorem zeroOf_172 : ((Tryz.prog.info? 172).bind fun x => x.zero) = some (.map none) := by kernel_rfl
@[simp] theorem szOf_181 : szOf Tryz.prog 181 = some 1 := by kernel_rfl
@[simp] theorem bytesOf_181 : bytesOf Tryz.prog 181 = some 8 := by kernel_rfl
@[simp] theorem zeroOf_181 : ((Tryz.prog.info? 181).bind fun x => x.zero) = some (.pointer none) := by kernel_rfl
@[simp] theorem szOf_182 : szOf Tryz.prog 182 = some 1 := by kernel_rfl
@[simp] theorem bytesOf_182 : bytesOf Tryz.prog 182 = some 24 := by kernel_rfl
@[simp] theorem zeroOf_182 : ((Tryz.prog.info? 182).bind fun x => x.zero) = some (.slice none 0 0) := by kernel_rfl
@[simp] theorem szOf_184 : szOf Tryz.prog 184 = some 2 := by kernel_rfl
@[simp] theorem bytesOf_184 : bytesOf Tryz.prog 184 = some 32 := by kernel_rfl
@[simp] theorem zeroOf_184 : ((Tryz.prog.info? 184).bind fun x => x.zero) = some (.agg #[(.pointer none), (.slice none 0 0)]) := by kernel_rfl
@[simp] theorem szOf_187 : szOf Tryz.prog 187 = some 1 := by kernel_rfl
@[simp] theorem bytesOf_187 : bytesOf Tryz.prog 187 = some 16 := by kernel_rfl
@[simp] theorem zeroOf_187 : ((Tryz.prog.info? 187).bind fun x => x.zero) = some .nilIface := by kernel_rfl
@[simp] theorem szOf_196 : szOf Tryz.prog 196 = some 1 := by kernel_rfl
@[simp] theorem bytesOf_196 : bytesOf Tryz.prog 196 = some 24 := by kernel_rfl
@[simp] theorem zeroOf_196 : ((Tryz.prog.info? 196).bind fun x => x.zero) = some (.slice none 0 0) := by kernel_rfl
@[simp] theorem szOf_198 : szOf Tryz.prog 198 = some 2 := by kernel_rfl
@[simp] theorem bytesOf_198 : bytesOf Tryz.prog 198 = some 32 := by kernel_rfl
@[simp] theorem zeroOf_198 : ((Tryz.prog.info? 198).bind fun x => x.zero) = some (.agg #[(.string ⟨#[]⟩), (.string ⟨#[]⟩)]) := by kernel_rfl
@[simp] theorem szOf_199 : szOf Tryz.prog 199 = some 2 := by kernel_rfl
@[simp] theorem bytesOf_199 : bytesOf Tryz.prog 199 = some 32 := by kernel_rfl
@[simp] theorem zeroOf_199 : ((Tryz.prog.info? 199).bind fun x => x.zero) = some (.agg #[(.string ⟨#[]⟩), (.string ⟨#[]⟩)]) := by kernel_rfl
@[simp] theorem szOf_200 : szOf Tryz.prog 200 = some 1 := by kernel_rfl
@[simp] theorem bytesOf_200 : bytesOf Tryz.prog 200 = some 8 := by kernel_rfl
@[simp] theorem zeroOf_200 : ((Tryz.prog.info? 200).bind fun x => x.zero) = some .nilFunc := by kernel_rfl
@[simp] theorem szOf_204 : szOf Tryz.prog 204 = some 10 := by kernel_rfl
@[simp] theorem bytesOf_204 : bytesOf Tryz.prog 204 = some 168 := by kernel_rfl
@[simp] theorem zeroOf_204 : ((Tryz.prog.info? 204).bind fun x => x.zero) = some (.agg #[(.string ⟨#[]⟩), (.bool false), (.string ⟨#[]⟩), (.int .u8 0), (.string ⟨#[]⟩), (.bool false), (.slice none 0 0), (.slice none 0 0), (.slice none 0 0), (.slice none 0 0)]) := by kernel_rfl
@[simp] theorem szOf_205 : szOf Tryz.prog 205 = some 1 := by kernel_rfl
@[simp] theorem bytesOf_205 : bytesOf Tryz.prog 205 = some 8 := by kernel_rfl
@[simp] theorem zeroOf_205 : ((Tryz.prog.info? 205).bind fun x => x.zero) = some .nilFunc := by kernel_rfl
@[simp] theorem szOf_208 : szOf Tryz.prog 208 = some 1 := by kernel_rfl
@[simp] theorem bytesOf_208 : bytesOf Tryz.prog 208 = some 8 := by kernel_rfl
@[simp] theorem zeroOf_208 : ((Tryz.prog.info? 208).bind fun x => x.zero) = some .nilFunc := by kernel_rfl
@[simp] theorem szOf_209 : szOf Tryz.prog 209 = some 1 := by kernel_rfl
@[simp] theorem bytesOf_209 : bytesOf Tryz.prog 209 = some 8 := by kernel_rfl
@[simp] theorem zeroOf_209 : ((Tryz.prog.info? 209).bind fun x => x.zero) = some .nilFunc := by kernel_rfl
@[simp] theorem szOf_232 : szOf Tryz.prog 232 = some 1 := by kernel_rfl
@[simp] theorem bytesOf_232 : bytesOf Tryz.prog 232 = some 4 := by kernel_rfl
@[simp] theorem zeroOf_232 : ((Tryz.prog.info? 232).bind fun x => x.zero) = some (.int .u32 0) := by kernel_rfl
@[simp] theorem szOf_239 : szOf Tryz.prog 239 = some 1 := by kernel_rfl
@[simp] theorem bytesOf_239 : bytesOf Tryz.prog 239 = some 1 := by kernel_rfl
@[simp] theorem zeroOf_239 : ((Tryz.prog.info? 239).bind fun x => x.zero) = some (.int .u8 0) := by kernel_rfl
@[simp] theorem szOf_240 : szOf Tryz.prog 240 = some 1 := by kernel_rfl
@[simp] theorem bytesOf_240 : bytesOf Tryz.prog 240 = some 24 := by kernel_rfl
@[simp] theorem zeroOf_240 : ((Tryz.prog.info? 240).bind fun x => x.zero) = some (.slice none 0 0) := by kernel_rfl
@[simp] theorem szOf_241 : szOf Tryz.prog 241 = some 7 := by kernel_rfl
@[simp] theorem bytesOf_241 : bytesOf Tryz.prog 241 = some 144 := by kernel_rfl
@[simp] theorem zeroOf_241 : ((Tryz.prog.info? 241).bind fun x => x.zero) = some (.agg #[(.int .u8 0), (.string ⟨#[]⟩), (.slice none 0 0), (.slice none 0 0), (.slice none 0 0), (.slice none 0 0), (.slice none 0 0)]) := by kernel_rfl
@[simp] theorem szOf_242 : szOf Tryz.prog 242 = some 7 := by kernel_rfl
@[simp] theorem bytesOf_242 : bytesOf Tryz.prog 242 = some 144 := by kernel_rfl
@[simp] theorem zeroOf_242 : ((Tryz.prog.info? 242).bind fun x => x.zero) = some (.agg #[(.int .u8 0), (.string ⟨#[]⟩), (.slice none 0 0), (.slice none 0 0), (.slice none 0 0), (.slice none 0 0), (.slice none 0 0)]) := by kernel_rfl
@[simp] theorem szOf_243 : szOf Tryz.prog 243 = some 1 := by kernel_rfl
@[simp] theorem bytesOf_243 : bytesOf Tryz.prog 243 = some 8 := by kernel_rfl
@[simp] theorem zeroOf_243 : ((Tryz.prog.info? 243).bind fun x => x.zero) = some (.pointer none) := by kernel_rfl
@[simp] theorem szOf_244 : szOf Tryz.prog 244 = some 1 := by kernel_rfl
@[simp] theorem bytesOf_244 : bytesOf Tryz.prog 244 = some 8 := by kernel_rfl
@[simp] theorem zeroOf_244 : ((Tryz.prog.info? 244).bind fun x => x.zero) = some .nilFunc := by kernel_rfl
@[simp] theorem szOf_249 : szOf Tryz.prog 249 = some 3 := by kernel_rfl
@[simp] theorem bytesOf_249 : bytesOf Tryz.prog 249 = some 64 := by kernel_rfl
@[simp] theorem zeroOf_249 : ((Tryz.prog.info? 249).bind fun x => x.zero) = some (.agg #[(.string ⟨#[]⟩), (.slice none 0 0), (.slice none 0 0)]) := by kernel_rfl
@[simp] theorem szOf_250 : szOf Tryz.prog 250 = some 1 := by kernel_rfl
@[simp] theorem bytesOf_250 : bytesOf Tryz.prog 250 = some 8 := by kernel_rfl
@[simp] theorem zeroOf_250 : ((Tryz.prog.info? 250).bind fun x => x.zero) = some .nilFunc := by kernel_rfl
@[simp] theorem szOf_252 : szOf Tryz.prog 252 = some 1 := by kernel_rfl
@[simp] theorem bytesOf_252 : bytesOf Tryz.prog 252 = some 8 := by kernel_rfl
@[simp] theorem zeroOf_252 : ((Tryz.prog.info? 252).bind fun x => x.zero) = some .nilFunc := by kernel_rfl
@[simp] theorem szOf_289 : szOf Tryz.prog 289 = some 1 := by kernel_rfl
@[simp] theorem bytesOf_289 : bytesOf Tryz.prog 289 = some 8 := by kernel_rfl
@[simp] theorem zeroOf_289 : ((Tryz.prog.info? 289).bind fun x => x.zero) = some (.int .u64 0) := by kernel_rfl
@[simp] theorem szOf_296 : szOf Tryz.prog 296 = some 1 := by kernel_rfl
@[simp] theorem bytesOf_296 : bytesOf Tryz.prog 296 = some 8 := by kernel_rfl
@[simp] theorem zeroOf_296 : ((Tryz.prog.info? 296).bind fun x => x.zero) = some .nilFunc := by kernel_rfl
@[simp] theorem szOf_298 : szOf Tryz.prog 298 = some 1 := by kernel_rfl
@[simp] theorem bytesOf_298 : bytesOf Tryz.prog 298 = some 8 := by kernel_rfl
@[simp] theorem zeroOf_298 : ((Tryz.prog.info? 298).bind fun x => x.zero) = some (.pointer none) := by kernel_rfl
@[simp] theorem szOf_299 : szOf Tryz.prog 299 = some 1 := by kernel_rfl
@[simp] theorem bytesOf_299 : bytesOf Tryz.prog 299 = some 8 := by kernel_rfl
@[simp] theorem zeroOf_299 : ((Tryz.prog.info? 299).bind fun x => x.zero) = some .nilFunc := by kernel_rfl
@[simp] theorem szOf_320 : szOf Tryz.prog 320 = some 1 := by kernel_rfl
@[simp] theorem bytesOf_320 : bytesOf Tryz.prog 320 = some 24 := by kernel_rfl
@[simp] theorem zeroOf_320 : ((Tryz.prog.info? 320).bind fun x => x.zero) = some (.agg #[(.slice none 0 0)]) := by kernel_rfl
@[simp] theorem szOf_322 : szOf Tryz.prog 322 = some 2 := by kernel_rfl
@[simp] theorem bytesOf_322 : bytesOf Tryz.prog 322 = some 32 := by kernel_rfl
@[simp] theorem zeroOf_322 : ((Tryz.prog.info? 322).bind fun x => x.zero) = some (.agg #[(.slice none 0 0), (.bool false)]) := by kernel_rfl
@[simp] theorem szOf_327 : szOf Tryz.prog 327 = some 1 := by kernel_rfl
@[simp] theorem bytesOf_327 : bytesOf Tryz.prog 327 = some 8 := by kernel_rfl
@[simp] theorem zeroOf_327 : ((Tryz.prog.info? 327).bind fun x => x.zero) = some (.int .u64 0) := by kernel_rfl
@[simp] theorem szOf_345 : szOf Tryz.prog 345 = some 1 := by kernel_rfl
@[simp] theorem bytesOf_345 : bytesOf Tryz.prog 345 = some 24 := by kernel_rfl
@[simp] theorem zeroOf_345 : ((Tryz.prog.info? 345).bind fun x => x.zero) = some (.slice none 0 0) := by kernel_rfl
@[simp] theorem szOf_349 : szOf Tryz.prog 349 = some 1 := by kernel_rfl
@[simp] theorem bytesOf_349 : bytesOf Tryz.prog 349 = some 24 := by kernel_rfl
@[simp] theorem zeroOf_349 : ((Tryz.prog.info? 349).bind fun x => x.zero) = some (.agg #[(.slice none 0 0)]) := by kernel_rfl
end
end Go.Proofs.YtkkblmdgedmdfaaGreatDoor
