/-
 EV: rows of numbers, of texts; contracts in short (the heads of XData, XKOf, for a seat without the expressions' types).
-/
import Derived.Test.YtmmgjaheffbpaaaGreatDoorEvXQ
import Derived.Lib.Strings
import Derived.Test.YtmmgjaheffbpaaaGreatDoorEvRange2Q
import Derived.Test.YtmmgjaheffbpaaaGreatDoorEvDrawJQ
import Derived.Test.YtmmgjaheffbpaaaGreatDoorEvSymQ
import Derived.Test.YtmmgjaheffbpaaaGreatDoorRows
namespace Go.Proofs.YtmmgjaheffbpaaaGreatDoor
set_option linter.unusedSimpArgs false
set_option linter.unusedVariables false
set_option linter.unusedSectionVars false
section
open Go.RowKit
def limR (l : List Int) : List (List AV) := l.map fun x => [.lit (.int .u32 x)]
def intR (l : List Int) : List (List AV) := l.map fun x => [.lit (.int .i64 x)]
def txtR (l : List ByteArray) : List (List AV) := l.map fun x => [.lit (.string x)]
@[simp] theorem limR_len (l : List Int) : (limR l).length = l.length := List.length_map _
theorem limR_inj {a b : List Int} (h : limR a = limR b) : a = b := by
 unfold limR at h
 exact (List.map_inj_right (fun x y h => by simpa using h)).1 h
@[simp] theorem limR_nrm (l : List Int) : nrmRR (limR l) = limR l := by induction l with | nil => rfl | cons a l ih => simp only [limR, List.map_cons, nrmRR, nrmR, AV.nrm] at ih ⊢; rw [ih]
@[simp] theorem limR_pln (l : List Int) : plnRR (limR l) = true := by induction l with | nil => rfl | cons a l ih => simpa [limR, plnRR, plnR, AV.pln] using ih
theorem limR_get {l : List Int} {i : Nat} (h : i < l.length) : (limR l)[i]? = some [.lit (.int .u32 l[i])] := by simp [limR, h]
theorem limR_stp (l : List Int) : (limR l).map (fun r => r.map AV.strip) = limR l := by simp [limR, AV.strip]
theorem limR_hd (l : List Int) : (limR l).head?.all (·.length == 1) = true := by cases l <;> rfl
@[simp] theorem intR_len (l : List Int) : (intR l).length = l.length := List.length_map _
@[simp] theorem intR_nrm (l : List Int) : nrmRR (intR l) = intR l := by induction l with | nil => rfl | cons a l ih => simp only [intR, List.map_cons, nrmRR, nrmR, AV.nrm] at ih ⊢; rw [ih]
@[simp] theorem intR_pln (l : List Int) : plnRR (intR l) = true := by induction l with | nil => rfl | cons a l ih => simpa [intR, plnRR, plnR, AV.pln] using ih
@[simp] theorem txtR_len (l : List ByteArray) : (txtR l).length = l.length := List.length_map _
@[simp] theorem txtR_nrm (l : List ByteArray) : nrmRR (txtR l) = txtR l := by induction l with | nil => rfl | cons a l ih => simp only [txtR, List.map_cons, nrmRR, nrmR, AV.nrm] at ih ⊢; rw [ih]
@[simp] theorem txtR_pln (l : List ByteArray) : plnRR (txtR l) = true := by induction l with | nil => rfl | cons a l ih => simpa [txtR, plnRR, plnR, AV.pln] using ih
abbrev smF {α : Type} (A : α → List AV) (R : α → AV) (p : α → Prop) (n : α → Nat) (r : Nat) : FS := ⟨α, A, fun a _ => p a, fun a σ => (.ret (R a), σ), fun a => 16 * n a + r⟩
theorem call_sm {P : Program} {S : Sp} {N r : Nat} {f : FuncId} {α : Type} {A : α → List AV} {R : α → AV} {p : α → Prop} {n : α → Nat} {args : List AV} {σ : Sto} {Q : ARes → Sto → Prop} (x : α) (h : S.sp f = some (smF A R p n r)) (hi : ∀ a b : α, A a = A b → a = b) (ha : nrmR args = A x) (hb : p x) (hN : 16 * n x + r < N)
    (hq : accW (S.E N) f args σ (.ret (R x)) σ = .lcalls (fun _ => true) → Q (.ret (R x)) σ) : CallW P (S.E N) f args σ Q :=
 have hu : FS.uniq (smF A R p n r) := fun a b σ e _ _ => by cases hi _ _ e; rfl
 call_sp x h hu ha hb hN (hq (by have := acc_sp (σ := σ) x h hu ha hN rfl (fun l => ⟨hb, rfl⟩); rw [kept_self] at this; exact this))
abbrev SmOk (P : Program) (S : Sp) (N : Nat) (f : FuncId) {α : Type} (A : α → List AV) (R : α → AV) (p : α → Prop) (n : α → Nat) (r : Nat) : Prop := ∀ (a : α) (σ : Sto), p a → 16 * n a + r ≤ N → JC P (S.E N) f (A a) σ fun r σ' => Fgt σ r σ' (.ret (R a)) σ
theorem call_smK {P : Program} {S : Sp} {N r : Nat} {f : FuncId} {α : Type} {A : α → List AV} {R : α → AV} {p : α → Prop} {n : α → Nat} {args : List AV} {σ : Sto} {Q : ARes → Sto → Prop} (x : α) (h : S.sp f = some (smF A R p n r)) (hi : ∀ a b : α, A a = A b → a = b) (ha : flatR args = A x) (hne : ∀ b, nrmR args ≠ A b) (hb : p x) (hN : 16 * n x + r < N)
    (hq : accW (S.E N) f args σ (.ret (R x)) σ = .lcalls (fun _ => true) → Q (.ret (R x)) σ) : CallW P (S.E N) f args σ Q :=
 have hu : FS.uniq (smF A R p n r) := fun a b σ e _ _ => by cases hi _ _ e; rfl
 call_spK x h hu (.inr ⟨ha, hne⟩) hb hN (hq (by have := acc_spK (σ := σ) x h hu (.inr ⟨ha, hne⟩) hN rfl (fun l => ⟨hb, rfl⟩); rw [kept_self] at this; exact this))
end
section
@[simp] theorem szOf_1 : szOf Tryz.prog 1 = some 1 := by kernel_rfl
@[simp] theorem bytesOf_1 : bytesOf Tryz.prog 1 = some 8 := by kernel_rfl
@[simp] theorem zeroOf_1 : ((Tryz.prog.info? 1).bind fun x => x.zero) = some .nilFunc := by kernel_rfl
@[simp] theorem szOf_2 : szOf Tryz.prog 2 = some 1 := by kernel_rfl
@[simp] theorem bytesOf_2 : bytesOf Tryz.prog 2 = some 8 := by kernel_rfl
@[simp] theorem zeroOf_2 : ((Tryz.prog.info? 2).bind fun x => x.zero) = some (.int .i64 0) := by kernel_rfl
@[simp] theorem szOf_3 : szOf Tryz.prog 3 = some 1 := by kernel_rfl
@[simp] theorem bytesOf_3 : bytesOf Tryz.prog 3 = some 8 := by kernel_rfl
@[simp] theorem zeroOf_3 : ((Tryz.prog.info? 3).bind fun x => x.zero) = some (.int .i64 0) := by kernel_rfl
@[simp] theorem szOf_4 : szOf Tryz.prog 4 = some 1 := by kernel_rfl
@[simp] theorem bytesOf_4 : bytesOf Tryz.prog 4 = some 1 := by kernel_rfl
@[simp] theorem zeroOf_4 : ((Tryz.prog.info? 4).bind fun x => x.zero) = some (.bool false) := by kernel_rfl
@[simp] theorem szOf_5 : szOf Tryz.prog 5 = some 1 := by kernel_rfl
@[simp] theorem bytesOf_5 : bytesOf Tryz.prog 5 = some 1 := by kernel_rfl
@[simp] theorem zeroOf_5 : ((Tryz.prog.info? 5).bind fun x => x.zero) = some (.int .u8 0) := by kernel_rfl
@[simp] theorem szOf_6 : szOf Tryz.prog 6 = some 1 := by kernel_rfl
@[simp] theorem bytesOf_6 : bytesOf Tryz.prog 6 = some 1 := by kernel_rfl
@[simp] theorem zeroOf_6 : ((Tryz.prog.info? 6).bind fun x => x.zero) = some (.int .u8 0) := by kernel_rfl
@[simp] theorem szOf_7 : szOf Tryz.prog 7 = some 4 := by kernel_rfl
@[simp] theorem bytesOf_7 : bytesOf Tryz.prog 7 = some 24 := by kernel_rfl
@[simp] theorem zeroOf_7 : ((Tryz.prog.info? 7).bind fun x => x.zero) = some (.agg #[(.int .i64 0), (.int .i64 0), (.bool false), (.int .u8 0)]) := by kernel_rfl
@[simp] theorem szOf_8 : szOf Tryz.prog 8 = some 4 := by kernel_rfl
@[simp] theorem bytesOf_8 : bytesOf Tryz.prog 8 = some 24 := by kernel_rfl
@[simp] theorem zeroOf_8 : ((Tryz.prog.info? 8).bind fun x => x.zero) = some (.agg #[(.int .i64 0), (.int .i64 0), (.bool false), (.int .u8 0)]) := by kernel_rfl
@[simp] theorem szOf_9 : szOf Tryz.prog 9 = some 1 := by kernel_rfl
@[simp] theorem bytesOf_9 : bytesOf Tryz.prog 9 = some 16 := by kernel_rfl
@[simp] theorem zeroOf_9 : ((Tryz.prog.info? 9).bind fun x => x.zero) = some (.string ⟨#[]⟩) := by kernel_rfl
@[simp] theorem szOf_10 : szOf Tryz.prog 10 = some 1 := by kernel_rfl
@[simp] theorem bytesOf_10 : bytesOf Tryz.prog 10 = some 16 := by kernel_rfl
@[simp] theorem zeroOf_10 : ((Tryz.prog.info? 10).bind fun x => x.zero) = some (.string ⟨#[]⟩) := by kernel_rfl
@[simp] theorem szOf_11 : szOf Tryz.prog 11 = some 1 := by kernel_rfl
@[simp] theorem bytesOf_11 : bytesOf Tryz.prog 11 = some 16 := by kernel_rfl
@[simp] theorem zeroOf_11 : ((Tryz.prog.info? 11).bind fun x => x.zero) = some (.string ⟨#[]⟩) := by kernel_rfl
@[simp] theorem szOf_12 : szOf Tryz.prog 12 = some 1 := by kernel_rfl
@[simp] theorem bytesOf_12 : bytesOf Tryz.prog 12 = some 8 := by kernel_rfl
@[simp] theorem zeroOf_12 : ((Tryz.prog.info? 12).bind fun x => x.zero) = some (.int .u64 0) := by kernel_rfl
@[simp] theorem szOf_13 : szOf Tryz.prog 13 = some 2 := by kernel_rfl
@[simp] theorem bytesOf_13 : bytesOf Tryz.prog 13 = some 24 := by kernel_rfl
@[simp] theorem zeroOf_13 : ((Tryz.prog.info? 13).bind fun x => x.zero) = some (.agg #[(.string ⟨#[]⟩), (.int .u64 0)]) := by kernel_rfl
@[simp] theorem szOf_14 : szOf Tryz.prog 14 = some 2 := by kernel_rfl
@[simp] theorem bytesOf_14 : bytesOf Tryz.prog 14 = some 24 := by kernel_rfl
@[simp] theorem zeroOf_14 : ((Tryz.prog.info? 14).bind fun x => x.zero) = some (.agg #[(.string ⟨#[]⟩), (.int .u64 0)]) := by kernel_rfl
@[simp] theorem szOf_15 : szOf Tryz.prog 15 = some 1 := by kernel_rfl
@[simp] theorem bytesOf_15 : bytesOf Tryz.prog 15 = some 8 := by kernel_rfl
@[simp] theorem zeroOf_15 : ((Tryz.prog.info? 15).bind fun x => x.zero) = some (.pointer none) := by kernel_rfl
@[simp] theorem szOf_16 : szOf Tryz.prog 16 = some 1 := by kernel_rfl
@[simp] theorem bytesOf_16 : bytesOf Tryz.prog 16 = some 8 := by kernel_rfl
@[simp] theorem zeroOf_16 : ((Tryz.prog.info? 16).bind fun x => x.zero) = some (.pointer none) := by kernel_rfl
@[simp] theorem szOf_17 : szOf Tryz.prog 17 = some 1 := by kernel_rfl
@[simp] theorem bytesOf_17 : bytesOf Tryz.prog 17 = some 8 := by kernel_rfl
@[simp] theorem zeroOf_17 : ((Tryz.prog.info? 17).bind fun x => x.zero) = some (.pointer none) := by kernel_rfl
@[simp] theorem szOf_18 : szOf Tryz.prog 18 = some 1 := by kernel_rfl
@[simp] theorem bytesOf_18 : bytesOf Tryz.prog 18 = some 8 := by kernel_rfl
@[simp] theorem zeroOf_18 : ((Tryz.prog.info? 18).bind fun x => x.zero) = some (.agg #[(.pointer none)]) := by kernel_rfl
@[simp] theorem szOf_19 : szOf Tryz.prog 19 = some 1 := by kernel_rfl
@[simp] theorem bytesOf_19 : bytesOf Tryz.prog 19 = some 8 := by kernel_rfl
@[simp] theorem zeroOf_19 : ((Tryz.prog.info? 19).bind fun x => x.zero) = some (.agg #[(.pointer none)]) := by kernel_rfl
@[simp] theorem szOf_20 : szOf Tryz.prog 20 = some 1 := by kernel_rfl
@[simp] theorem bytesOf_20 : bytesOf Tryz.prog 20 = some 16 := by kernel_rfl
@[simp] theorem zeroOf_20 : ((Tryz.prog.info? 20).bind fun x => x.zero) = some .nilIface := by kernel_rfl
@[simp] theorem szOf_21 : szOf Tryz.prog 21 = some 1 := by kernel_rfl
@[simp] theorem bytesOf_21 : bytesOf Tryz.prog 21 = some 4 := by kernel_rfl
@[simp] theorem zeroOf_21 : ((Tryz.prog.info? 21).bind fun x => x.zero) = some (.int .i32 0) := by kernel_rfl
@[simp] theorem szOf_22 : szOf Tryz.prog 22 = some 1 := by kernel_rfl
@[simp] theorem bytesOf_22 : bytesOf Tryz.prog 22 = some 8 := by kernel_rfl
@[simp] theorem zeroOf_22 : ((Tryz.prog.info? 22).bind fun x => x.zero) = some .nilFunc := by kernel_rfl
@[simp] theorem szOf_23 : szOf Tryz.prog 23 = some 1 := by kernel_rfl
@[simp] theorem bytesOf_23 : bytesOf Tryz.prog 23 = some 24 := by kernel_rfl
@[simp] theorem zeroOf_23 : ((Tryz.prog.info? 23).bind fun x => x.zero) = some (.slice none 0 0) := by kernel_rfl
@[simp] theorem szOf_24 : szOf Tryz.prog 24 = some 2 := by kernel_rfl
@[simp] theorem bytesOf_24 : bytesOf Tryz.prog 24 = some 40 := by kernel_rfl
@[simp] theorem zeroOf_24 : ((Tryz.prog.info? 24).bind fun x => x.zero) = some (.agg #[(.string ⟨#[]⟩), (.slice none 0 0)]) := by kernel_rfl
@[simp] theorem szOf_25 : szOf Tryz.prog 25 = some 2 := by kernel_rfl
@[simp] theorem bytesOf_25 : bytesOf Tryz.prog 25 = some 40 := by kernel_rfl
@[simp] theorem zeroOf_25 : ((Tryz.prog.info? 25).bind fun x => x.zero) = some (.agg #[(.string ⟨#[]⟩), (.slice none 0 0)]) := by kernel_rfl
@[simp] theorem szOf_26 : szOf Tryz.prog 26 = some 1 := by kernel_rfl
@[simp] theorem bytesOf_26 : bytesOf Tryz.prog 26 = some 24 := by kernel_rfl
@[simp] theorem zeroOf_26 : ((Tryz.prog.info? 26).bind fun x => x.zero) = some (.slice none 0 0) := by kernel_rfl
@[simp] theorem szOf_27 : szOf Tryz.prog 27 = some 2 := by kernel_rfl
@[simp] theorem bytesOf_27 : bytesOf Tryz.prog 27 = some 40 := by kernel_rfl
@[simp] theorem zeroOf_27 : ((Tryz.prog.info? 27).bind fun x => x.zero) = some (.agg #[(.string ⟨#[]⟩), (.slice none 0 0)]) := by kernel_rfl
@[simp] theorem szOf_28 : szOf Tryz.prog 28 = some 2 := by kernel_rfl
@[simp] theorem bytesOf_28 : bytesOf Tryz.prog 28 = some 40 := by kernel_rfl
@[simp] theorem zeroOf_28 : ((Tryz.prog.info? 28).bind fun x => x.zero) = some (.agg #[(.string ⟨#[]⟩), (.slice none 0 0)]) := by kernel_rfl
@[simp] theorem szOf_29 : szOf Tryz.prog 29 = some 1 := by kernel_rfl
@[simp] theorem bytesOf_29 : bytesOf Tryz.prog 29 = some 24 := by kernel_rfl
@[simp] theorem zeroOf_29 : ((Tryz.prog.info? 29).bind fun x => x.zero) = some (.slice none 0 0) := by kernel_rfl
@[simp] theorem szOf_31 : szOf Tryz.prog 31 = some 1 := by kernel_rfl
@[simp] theorem bytesOf_31 : bytesOf Tryz.prog 31 = some 1 := by kernel_rfl
@[simp] theorem zeroOf_31 : ((Tryz.prog.info? 31).bind fun x => x.zero) = some (.int .u8 0) := by kernel_rfl
@[simp] theorem szOf_32 : szOf Tryz.prog 32 = some 1 := by kernel_rfl
@[simp] theorem bytesOf_32 : bytesOf Tryz.prog 32 = some 24 := by kernel_rfl
@[simp] theorem zeroOf_32 : ((Tryz.prog.info? 32).bind fun x => x.zero) = some (.slice none 0 0) := by kernel_rfl
@[simp] theorem szOf_33 : szOf Tryz.prog 33 = some 2 := by kernel_rfl
@[simp] theorem bytesOf_33 : bytesOf Tryz.prog 33 = some 32 := by kernel_rfl
@[simp] theorem zeroOf_33 : ((Tryz.prog.info? 33).bind fun x => x.zero) = some (.agg #[(.bool false), (.slice none 0 0)]) := by kernel_rfl
@[simp] theorem szOf_34 : szOf Tryz.prog 34 = some 2 := by kernel_rfl
@[simp] theorem bytesOf_34 : bytesOf Tryz.prog 34 = some 32 := by kernel_rfl
@[simp] theorem zeroOf_34 : ((Tryz.prog.info? 34).bind fun x => x.zero) = some (.agg #[(.bool false), (.slice none 0 0)]) := by kernel_rfl
@[simp] theorem szOf_35 : szOf Tryz.prog 35 = some 1 := by kernel_rfl
@[simp] theorem bytesOf_35 : bytesOf Tryz.prog 35 = some 24 := by kernel_rfl
@[simp] theorem zeroOf_35 : ((Tryz.prog.info? 35).bind fun x => x.zero) = some (.slice none 0 0) := by kernel_rfl
@[simp] theorem szOf_36 : szOf Tryz.prog 36 = some 6 := by kernel_rfl
@[simp] theorem bytesOf_36 : bytesOf Tryz.prog 36 = some 88 := by kernel_rfl
@[simp] theorem zeroOf_36 : ((Tryz.prog.info? 36).bind fun x => x.zero) = some (.agg #[(.int .u8 0), (.bool false), (.slice none 0 0), (.bool false), (.string ⟨#[]⟩), (.slice none 0 0)]) := by kernel_rfl
@[simp] theorem szOf_37 : szOf Tryz.prog 37 = some 6 := by kernel_rfl
@[simp] theorem bytesOf_37 : bytesOf Tryz.prog 37 = some 88 := by kernel_rfl
@[simp] theorem zeroOf_37 : ((Tryz.prog.info? 37).bind fun x => x.zero) = some (.agg #[(.int .u8 0), (.bool false), (.slice none 0 0), (.bool false), (.string ⟨#[]⟩), (.slice none 0 0)]) := by kernel_rfl
@[simp] theorem szOf_40 : szOf Tryz.prog 40 = some 1 := by kernel_rfl
@[simp] theorem bytesOf_40 : bytesOf Tryz.prog 40 = some 8 := by kernel_rfl
@[simp] theorem zeroOf_40 : ((Tryz.prog.info? 40).bind fun x => x.zero) = some .nilFunc := by kernel_rfl
@[simp] theorem szOf_48 : szOf Tryz.prog 48 = some 1 := by kernel_rfl
@[simp] theorem bytesOf_48 : bytesOf Tryz.prog 48 = some 24 := by kernel_rfl
@[simp] theorem zeroOf_48 : ((Tryz.prog.info? 48).bind fun x => x.zero) = some (.agg #[(.slice none 0 0)]) := by kernel_rfl
@[simp] theorem szOf_49 : szOf Tryz.prog 49 = some 1 := by kernel_rfl
@[simp] theorem bytesOf_49 : bytesOf Tryz.prog 49 = some 24 := by kernel_rfl
@[simp] theorem zeroOf_49 : ((Tryz.prog.info? 49).bind fun x => x.zero) = some (.agg #[(.slice none 0 0)]) := by kernel_rfl
@[simp] theorem szOf_50 : szOf Tryz.prog 50 = some 2 := by kernel_rfl
@[simp] theorem bytesOf_50 : bytesOf Tryz.prog 50 = some 32 := by kernel_rfl
@[simp] theorem zeroOf_50 : ((Tryz.prog.info? 50).bind fun x => x.zero) = some (.agg #[(.slice none 0 0), (.bool false)]) := by kernel_rfl
@[simp] theorem szOf_51 : szOf Tryz.prog 51 = some 2 := by kernel_rfl
@[simp] theorem bytesOf_51 : bytesOf Tryz.prog 51 = some 32 := by kernel_rfl
@[simp] theorem zeroOf_51 : ((Tryz.prog.info? 51).bind fun x => x.zero) = some (.agg #[(.slice none 0 0), (.bool false)]) := by kernel_rfl
@[simp] theorem szOf_53 : szOf Tryz.prog 53 = some 1 := by kernel_rfl
@[simp] theorem bytesOf_53 : bytesOf Tryz.prog 53 = some 8 := by kernel_rfl
@[simp] theorem zeroOf_53 : ((Tryz.prog.info? 53).bind fun x => x.zero) = some (.int .u64 0) := by kernel_rfl
@[simp] theorem szOf_56 : szOf Tryz.prog 56 = some 1 := by kernel_rfl
@[simp] theorem bytesOf_56 : bytesOf Tryz.prog 56 = some 8 := by kernel_rfl
@[simp] theorem zeroOf_56 : ((Tryz.prog.info? 56).bind fun x => x.zero) = some .nilFunc := by kernel_rfl
@[simp] theorem szOf_61 : szOf Tryz.prog 61 = some 1 := by kernel_rfl
@[simp] theorem bytesOf_61 : bytesOf Tryz.prog 61 = some 24 := by kernel_rfl
@[simp] theorem zeroOf_61 : ((Tryz.prog.info? 61).bind fun x => x.zero) = some (.slice none 0 0) := by kernel_rfl
@[simp] theorem szOf_62 : szOf Tryz.prog 62 = some 1 := by kernel_rfl
@[simp] theorem bytesOf_62 : bytesOf Tryz.prog 62 = some 8 := by kernel_rfl
@[simp] theorem zeroOf_62 : ((Tryz.prog.info? 62).bind fun x => x.zero) = some (.int .i64 0) := by kernel_rfl
@[simp] theorem szOf_64 : szOf Tryz.prog 64 = some 1 := by kernel_rfl
@[simp] theorem bytesOf_64 : bytesOf Tryz.prog 64 = some 8 := by kernel_rfl
@[simp] theorem zeroOf_64 : ((Tryz.prog.info? 64).bind fun x => x.zero) = some .nilFunc := by kernel_rfl
@[simp] theorem szOf_65 : szOf Tryz.prog 65 = some 4 := by kernel_rfl
@[simp] theorem bytesOf_65 : bytesOf Tryz.prog 65 = some 56 := by kernel_rfl
@[simp] theorem zeroOf_65 : ((Tryz.prog.info? 65).bind fun x => x.zero) = some (.agg #[(.string ⟨#[]⟩), (.slice none 0 0), (.bool false), (.int .i64 0)]) := by kernel_rfl
@[simp] theorem szOf_66 : szOf Tryz.prog 66 = some 4 := by kernel_rfl
@[simp] theorem bytesOf_66 : bytesOf Tryz.prog 66 = some 56 := by kernel_rfl
@[simp] theorem zeroOf_66 : ((Tryz.prog.info? 66).bind fun x => x.zero) = some (.agg #[(.string ⟨#[]⟩), (.slice none 0 0), (.bool false), (.int .i64 0)]) := by kernel_rfl
@[simp] theorem szOf_67 : szOf Tryz.prog 67 = some 5 := by kernel_rfl
@[simp] theorem bytesOf_67 : bytesOf Tryz.prog 67 = some 80 := by kernel_rfl
@[simp] theorem zeroOf_67 : ((Tryz.prog.info? 67).bind fun x => x.zero) = some (.agg #[(.string ⟨#[]⟩), (.slice none 0 0), (.bool false), (.int .i64 0), (.slice none 0 0)]) := by kernel_rfl
@[simp] theorem szOf_68 : szOf Tryz.prog 68 = some 5 := by kernel_rfl
@[simp] theorem bytesOf_68 : bytesOf Tryz.prog 68 = some 80 := by kernel_rfl
@[simp] theorem zeroOf_68 : ((Tryz.prog.info? 68).bind fun x => x.zero) = some (.agg #[(.string ⟨#[]⟩), (.slice none 0 0), (.bool false), (.int .i64 0), (.slice none 0 0)]) := by kernel_rfl
@[simp] theorem szOf_71 : szOf Tryz.prog 71 = some 1 := by kernel_rfl
@[simp] theorem bytesOf_71 : bytesOf Tryz.prog 71 = some 24 := by kernel_rfl
@[simp] theorem zeroOf_71 : ((Tryz.prog.info? 71).bind fun x => x.zero) = some (.slice none 0 0) := by kernel_rfl
@[simp] theorem szOf_75 : szOf Tryz.prog 75 = some 4 := by kernel_rfl
@[simp] theorem bytesOf_75 : bytesOf Tryz.prog 75 = some 56 := by kernel_rfl
@[simp] theorem zeroOf_75 : ((Tryz.prog.info? 75).bind fun x => x.zero) = some (.agg #[(.string ⟨#[]⟩), (.slice none 0 0), (.bool false), (.int .i64 0)]) := by kernel_rfl
@[simp] theorem szOf_76 : szOf Tryz.prog 76 = some 4 := by kernel_rfl
@[simp] theorem bytesOf_76 : bytesOf Tryz.prog 76 = some 56 := by kernel_rfl
@[simp] theorem zeroOf_76 : ((Tryz.prog.info? 76).bind fun x => x.zero) = some (.agg #[(.string ⟨#[]⟩), (.slice none 0 0), (.bool false), (.int .i64 0)]) := by kernel_rfl
@[simp] theorem szOf_79 : szOf Tryz.prog 79 = some 1 := by kernel_rfl
@[simp] theorem bytesOf_79 : bytesOf Tryz.prog 79 = some 4 := by kernel_rfl
@[simp] theorem zeroOf_79 : ((Tryz.prog.info? 79).bind fun x => x.zero) = some (.int .u32 0) := by kernel_rfl
@[simp] theorem szOf_83 : szOf Tryz.prog 83 = some 1 := by kernel_rfl
@[simp] theorem bytesOf_83 : bytesOf Tryz.prog 83 = some 8 := by kernel_rfl
@[simp] theorem zeroOf_83 : ((Tryz.prog.info? 83).bind fun x => x.zero) = some (.pointer none) := by kernel_rfl
@[simp] theorem szOf_84 : szOf Tryz.prog 84 = some 1 := by kernel_rfl
@[simp] theorem bytesOf_84 : bytesOf Tryz.prog 84 = some 24 := by kernel_rfl
@[simp] theorem zeroOf_84 : ((Tryz.prog.info? 84).bind fun x => x.zero) = some (.slice none 0 0) := by kernel_rfl
@[simp] theorem szOf_85 : szOf Tryz.prog 85 = some 2 := by kernel_rfl
@[simp] theorem bytesOf_85 : bytesOf Tryz.prog 85 = some 32 := by kernel_rfl
@[simp] theorem zeroOf_85 : ((Tryz.prog.info? 85).bind fun x => x.zero) = some (.agg #[(.pointer none), (.slice none 0 0)]) := by kernel_rfl
@[simp] theorem szOf_86 : szOf Tryz.prog 86 = some 2 := by kernel_rfl
@[simp] theorem bytesOf_86 : bytesOf Tryz.prog 86 = some 32 := by kernel_rfl
@[simp] theorem zeroOf_86 : ((Tryz.prog.info? 86).bind fun x => x.zero) = some (.agg #[(.pointer none), (.slice none 0 0)]) := by kernel_rfl
@[simp] theorem szOf_88 : szOf Tryz.prog 88 = some 1 := by kernel_rfl
@[simp] theorem bytesOf_88 : bytesOf Tryz.prog 88 = some 16 := by kernel_rfl
@[simp] theorem zeroOf_88 : ((Tryz.prog.info? 88).bind fun x => x.zero) = some .nilIface := by kernel_rfl
@[simp] theorem szOf_89 : szOf Tryz.prog 89 = some 1 := by kernel_rfl
@[simp] theorem bytesOf_89 : bytesOf Tryz.prog 89 = some 16 := by kernel_rfl
@[simp] theorem zeroOf_89 : ((Tryz.prog.info? 89).bind fun x => x.zero) = some .nilIface := by kernel_rfl
@[simp] theorem szOf_106 : szOf Tryz.prog 106 = some 1 := by kernel_rfl
@[simp] theorem bytesOf_106 : bytesOf Tryz.prog 106 = some 24 := by kernel_rfl
@[simp] theorem zeroOf_106 : ((Tryz.prog.info? 106).bind fun x => x.zero) = some (.slice none 0 0) := by kernel_rfl
@[simp] theorem szOf_108 : szOf Tryz.prog 108 = some 1 := by kernel_rfl
@[simp] theorem bytesOf_108 : bytesOf Tryz.prog 108 = some 8 := by kernel_rfl
@[simp] theorem zeroOf_108 : ((Tryz.prog.info? 108).bind fun x => x.zero) = some (.pointer none) := by kernel_rfl
@[simp] theorem szOf_109 : szOf Tryz.prog 109 = some 1 := by kernel_rfl
@[simp] theorem bytesOf_109 : bytesOf Tryz.prog 109 = some 24 := by kernel_rfl
@[simp] theorem zeroOf_109 : ((Tryz.prog.info? 109).bind fun x => x.zero) = some (.slice none 0 0) := by kernel_rfl
@[simp] theorem szOf_110 : szOf Tryz.prog 110 = some 1 := by kernel_rfl
@[simp] theorem bytesOf_110 : bytesOf Tryz.prog 110 = some 24 := by kernel_rfl
@[simp] theorem zeroOf_110 : ((Tryz.prog.info? 110).bind fun x => x.zero) = some (.slice none 0 0) := by kernel_rfl
@[simp] theorem szOf_111 : szOf Tryz.prog 111 = some 2 := by kernel_rfl
@[simp] theorem bytesOf_111 : bytesOf Tryz.prog 111 = some 48 := by kernel_rfl
@[simp] theorem zeroOf_111 : ((Tryz.prog.info? 111).bind fun x => x.zero) = some (.agg #[(.slice none 0 0), (.slice none 0 0)]) := by kernel_rfl
@[simp] theorem szOf_112 : szOf Tryz.prog 112 = some 2 := by kernel_rfl
@[simp] theorem bytesOf_112 : bytesOf Tryz.prog 112 = some 48 := by kernel_rfl
@[simp] theorem zeroOf_112 : ((Tryz.prog.info? 112).bind fun x => x.zero) = some (.agg #[(.slice none 0 0), (.slice none 0 0)]) := by kernel_rfl
@[simp] theorem szOf_122 : szOf Tryz.prog 122 = some 1 := by kernel_rfl
@[simp] theorem bytesOf_122 : bytesOf Tryz.prog 122 = some 24 := by kernel_rfl
@[simp] theorem zeroOf_122 : ((Tryz.prog.info? 122).bind fun x => x.zero) = some (.slice none 0 0) := by kernel_rfl
@[simp] theorem szOf_123 : szOf Tryz.prog 123 = some 1 := by kernel_rfl
@[simp] theorem bytesOf_123 : bytesOf Tryz.prog 123 = some 24 := by kernel_rfl
@[simp] theorem zeroOf_123 : ((Tryz.prog.info? 123).bind fun x => x.zero) = some (.slice none 0 0) := by kernel_rfl
@[simp] theorem szOf_124 : szOf Tryz.prog 124 = some 1 := by kernel_rfl
@[simp] theorem bytesOf_124 : bytesOf Tryz.prog 124 = some 24 := by kernel_rfl
@[simp] theorem zeroOf_124 : ((Tryz.prog.info? 124).bind fun x => x.zero) = some (.agg #[(.slice none 0 0)]) := by kernel_rfl
@[simp] theorem szOf_125 : szOf Tryz.prog 125 = some 1 := by kernel_rfl
@[simp] theorem bytesOf_125 : bytesOf Tryz.prog 125 = some 24 := by kernel_rfl
@[simp] theorem zeroOf_125 : ((Tryz.prog.info? 125).bind fun x => x.zero) = some (.agg #[(.slice none 0 0)]) := by kernel_rfl
@[simp] theorem szOf_131 : szOf Tryz.prog 131 = some 1 := by kernel_rfl
@[simp] theorem bytesOf_131 : bytesOf Tryz.prog 131 = some 8 := by kernel_rfl
@[simp] theorem zeroOf_131 : ((Tryz.prog.info? 131).bind fun x => x.zero) = some (.pointer none) := by kernel_rfl
@[simp] theorem szOf_139 : szOf Tryz.prog 139 = some 1 := by kernel_rfl
@[simp] theorem bytesOf_139 : bytesOf Tryz.prog 139 = some 8 := by kernel_rfl
@[simp] theorem zeroOf_139 : ((Tryz.prog.info? 139).bind fun x => x.zero) = some .nilFunc := by kernel_rfl
@[simp] theorem szOf_140 : szOf Tryz.prog 140 = some 1 := by kernel_rfl
@[simp] theorem bytesOf_140 : bytesOf Tryz.prog 140 = some 8 := by kernel_rfl
@[simp] theorem zeroOf_140 : ((Tryz.prog.info? 140).bind fun x => x.zero) = some .nilFunc := by kernel_rfl
@[simp] theorem szOf_142 : szOf Tryz.prog 142 = some 2 := by kernel_rfl
@[simp] theorem bytesOf_142 : bytesOf Tryz.prog 142 = some 16 := by kernel_rfl
@[simp] theorem zeroOf_142 : ((Tryz.prog.info? 142).bind fun x => x.zero) = some (.agg #[(.int .i64 0), (.int .i64 0)]) := by kernel_rfl
@[simp] theorem szOf_143 : szOf Tryz.prog 143 = some 2 := by kernel_rfl
@[simp] theorem bytesOf_143 : bytesOf Tryz.prog 143 = some 16 := by kernel_rfl
@[simp] theorem zeroOf_143 : ((Tryz.prog.info? 143).bind fun x => x.zero) = some (.agg #[(.int .i64 0), (.int .i64 0)]) := by kernel_rfl
@[simp] theorem szOf_208 : szOf Tryz.prog 208 = some 4 := by kernel_rfl
@[simp] theorem bytesOf_208 : bytesOf Tryz.prog 208 = some 40 := by kernel_rfl
@[simp] theorem zeroOf_208 : ((Tryz.prog.info? 208).bind fun x => x.zero) = some (.agg #[(.pointer none), (.pointer none), (.pointer none), (.string ⟨#[]⟩)]) := by kernel_rfl
@[simp] theorem szOf_209 : szOf Tryz.prog 209 = some 4 := by kernel_rfl
@[simp] theorem bytesOf_209 : bytesOf Tryz.prog 209 = some 40 := by kernel_rfl
@[simp] theorem zeroOf_209 : ((Tryz.prog.info? 209).bind fun x => x.zero) = some (.agg #[(.pointer none), (.pointer none), (.pointer none), (.string ⟨#[]⟩)]) := by kernel_rfl
@[simp] theorem szOf_210 : szOf Tryz.prog 210 = some 0 := by kernel_rfl
@[simp] theorem bytesOf_210 : bytesOf Tryz.prog 210 = some 0 := by kernel_rfl
@[simp] theorem zeroOf_210 : ((Tryz.prog.info? 210).bind fun x => x.zero) = some (.agg #[]) := by kernel_rfl
@[simp] theorem szOf_211 : szOf Tryz.prog 211 = some 0 := by kernel_rfl
@[simp] theorem bytesOf_211 : bytesOf Tryz.prog 211 = some 0 := by kernel_rfl
@[simp] theorem zeroOf_211 : ((Tryz.prog.info? 211).bind fun x => x.zero) = some (.agg #[]) := by kernel_rfl
@[simp] theorem szOf_212 : szOf Tryz.prog 212 = some 0 := by kernel_rfl
@[simp] theorem bytesOf_212 : bytesOf Tryz.prog 212 = some 0 := by kernel_rfl
@[simp] theorem zeroOf_212 : ((Tryz.prog.info? 212).bind fun x => x.zero) = some (.agg #[]) := by kernel_rfl
@[simp] theorem szOf_213 : szOf Tryz.prog 213 = some 1 := by kernel_rfl
@[simp] theorem bytesOf_213 : bytesOf Tryz.prog 213 = some 1 := by kernel_rfl
@[simp] theorem zeroOf_213 : ((Tryz.prog.info? 213).bind fun x => x.zero) = some (.int .u8 0) := by kernel_rfl
@[simp] theorem szOf_214 : szOf Tryz.prog 214 = some 1 := by kernel_rfl
@[simp] theorem bytesOf_214 : bytesOf Tryz.prog 214 = some 1 := by kernel_rfl
@[simp] theorem zeroOf_214 : ((Tryz.prog.info? 214).bind fun x => x.zero) = some (.int .u8 0) := by kernel_rfl
@[simp] theorem szOf_215 : szOf Tryz.prog 215 = some 1 := by kernel_rfl
@[simp] theorem bytesOf_215 : bytesOf Tryz.prog 215 = some 8 := by kernel_rfl
@[simp] theorem zeroOf_215 : ((Tryz.prog.info? 215).bind fun x => x.zero) = some .nilFunc := by kernel_rfl
@[simp] theorem szOf_216 : szOf Tryz.prog 216 = some 1 := by kernel_rfl
@[simp] theorem bytesOf_216 : bytesOf Tryz.prog 216 = some 4 := by kernel_rfl
@[simp] theorem zeroOf_216 : ((Tryz.prog.info? 216).bind fun x => x.zero) = some (.int .i32 0) := by kernel_rfl
@[simp] theorem szOf_217 : szOf Tryz.prog 217 = some 1 := by kernel_rfl
@[simp] theorem bytesOf_217 : bytesOf Tryz.prog 217 = some 4 := by kernel_rfl
@[simp] theorem zeroOf_217 : ((Tryz.prog.info? 217).bind fun x => x.zero) = some (.int .i32 0) := by kernel_rfl
@[simp] theorem szOf_218 : szOf Tryz.prog 218 = some 11 := by kernel_rfl
@[simp] theorem bytesOf_218 : bytesOf Tryz.prog 218 = some 48 := by kernel_rfl
@[simp] theorem zeroOf_218 : ((Tryz.prog.info? 218).bind fun x => x.zero) = some (.agg #[(.int .u64 0), (.int .u64 0), (.int .u32 0), (.int .u8 0), (.int .u8 0), (.int .u8 0), (.int .u8 0), .nilFunc, (.pointer none), (.int .i32 0), (.int .i32 0)]) := by kernel_rfl
@[simp] theorem szOf_219 : szOf Tryz.prog 219 = some 11 := by kernel_rfl
@[simp] theorem bytesOf_219 : bytesOf Tryz.prog 219 = some 48 := by kernel_rfl
@[simp] theorem zeroOf_219 : ((Tryz.prog.info? 219).bind fun x => x.zero) = some (.agg #[(.int .u64 0), (.int .u64 0), (.int .u32 0), (.int .u8 0), (.int .u8 0), (.int .u8 0), (.int .u8 0), .nilFunc, (.pointer none), (.int .i32 0), (.int .i32 0)]) := by kernel_rfl
end
end Go.Proofs.YtmmgjaheffbpaaaGreatDoor
