/-
 EV: all exact contracts in one family of environments (printed by gen_sp2.py).
-/
import Derived.Test.YteajcnilihgheaaGreatDoorSc17M
import Derived.Test.YteajcnilihgheaaGreatDoorEvSymM
import Derived.Lib.LaidTab
import GoSem.ClaimChange
namespace Go.Proofs.YteajcnilihgheaaGreatDoor
set_option linter.unusedSimpArgs false
set_option linter.unusedVariables false
section
set_option maxRecDepth 100000
open Go.RowKit
def look : List (FuncId × FS) → FuncId → Option FS
 | [], _ => none
 | p :: l, f => cond (Nat.beq p.1 f) (some p.2) (look l f)
def lookB : List (FuncId × (List AV → Sto → Option (ARes × Sto))) → FuncId → Option (List AV → Sto → Option (ARes × Sto))
 | [], _ => none
 | p :: l, f => cond (Nat.beq p.1 f) (some p.2) (lookB l f)
def lookM : List (FuncId × List TypeId) → FuncId → List TypeId
 | [], _ => []
 | p :: l, f => cond (Nat.beq p.1 f) p.2 (lookM l f)
theorem look_mem : ∀ {l : List (FuncId × FS)} {f : FuncId} {s : FS}, look l f = some s → (f, s) ∈ l
 | p :: l, f, s, h => by
  rw [look] at h
  cases hb : Nat.beq p.1 f with
  | true => rw [hb] at h; cases Nat.eq_of_beq_eq_true hb; cases h; exact .head _
  | false => rw [hb] at h; exact .tail _ (look_mem h)
theorem lookB_mem : ∀ {l : List (FuncId × (List AV → Sto → Option (ARes × Sto)))} {f : FuncId} {s}, lookB l f = some s → (f, s) ∈ l
 | p :: l, f, s, h => by
  rw [lookB] at h
  cases hb : Nat.beq p.1 f with
  | true => rw [hb] at h; cases Nat.eq_of_beq_eq_true hb; cases h; exact .head _
  | false => rw [hb] at h; exact .tail _ (lookB_mem h)
noncomputable def spT : List (FuncId × FS) := [
 (7, lvF),
 (6, lintsF),
 (9, loneF),
 (10, lretF),
 (8, lletF),
 (92, stemF),
 (94, limF),
 (95, rnowF),
 (91, rtermF),
 (97, reachTF),
 (120, raloneF),
 (56, reachYF),
 (122, rkeptPF),
 (121, reachPF),
 (89, rkeptF),
 (61, ratomF),
 (96, reachAF),
 (15, freshF),
 (12, stemF),
 (163, (copyF (fun l => .sl (limR l) .no) List.length 0)),
 (136, (copyF intA intN 1)),
 (161, (copyF (fun l => .sl (trmR l) .no) trmN 3)),
 (133, (copyF (fun t : Trm => .agg t.cs) Trm.n 2)),
 (162, (copyF (fun t : Prm => .agg t.cs) Prm.n 5)),
 (134, (copyF (fun l => .sl (prmR l) .no) prmN 6)),
 (135, (copyF (fun l => .sl (tyR l) .no) tyN 6)),
 (111, (copyF (fun t : Ty => .agg t.cs) Ty.n 4)),
 (114, now9F),
 (112, term9F),
 (113, (copyF (fun t : Atm => .agg t.cs) Atm.n 2)),
 (76, atom9F),
 (75, and9F),
 (26, freshF),
 (137, (sameF (fun l => .sl (limR l) .no) List.length 0)),
 (115, (sameF intA intN 1)),
 (116, (sameF (fun l => .sl (trmR l) .no) trmN 3)),
 (80, (sameF (fun t : Trm => .agg t.cs) Trm.n 2)),
 (81, (sameF (fun l => .sl (tyR l) .no) tyN 6)),
 (48, (sameF (fun t : Ty => .agg t.cs) Ty.n 4)),
 (79, (sameF (fun t : Prm => .agg t.cs) Prm.n 5)),
 (47, (sameF (fun l => .sl (prmR l) .no) prmN 6)),
 (83, (sameF (fun t : Atm => .agg t.cs) Atm.n 2)),
 (138, (sameF (fun l => .sl (atmR l) .no) atmN 3)),
 (85, (sameF (fun l => .sl (expR l) .no) expN 10)),
 (117, (sameF (fun t : Rhs => .agg t.cs) Rhs.n 9)),
 (82, (sameF (fun l => .sl (rhsR l) .no) rhsN 10)),
 (17, (sameF (fun l => .sl (txtR l) .no) List.length 0)),
 (118, (sameF (fun t : Arm => .agg t.cs) Arm.n 9)),
 (84, (sameF (fun l => .sl (armR l) .no) armN 10)),
 (49, (sameF (fun t : Exp => .agg t.cs) Exp.n 9)),
 (27, (sameF (fun t : Fun => .agg t.cs) Fun.n 11)),
 (11, lsameF),
 (13, lawakeF),
 (3, scF)]
noncomputable def spB : List (FuncId × (List AV → Sto → Option (ARes × Sto))) := [(123, primLast), (124, primTrim), (93, primItoa), (5, primRepeat)]
def spM : List (FuncId × List TypeId) := [(59, [23]), (95, [23]), (161, [28])]
noncomputable def SP : Sp := { code := codeP Tryz.prog, ms := lookM spM, base := lookB spB, sp := look spT }
theorem mixed : Tryz.prog.follows .mixedOrders = true := by kernel_rfl
def OkE (f : FuncId) (s : FS) : Prop := ∀ N, EnvOk Tryz.prog (SP.E N) → ∀ (a : s.α) (σ : Sto), s.pre a σ → s.sz a ≤ N → s.Ok Tryz.prog f a σ
theorem ok_sm {f : FuncId} {α : Type} {A : α → List AV} {R : α → AV} {p : α → Prop} {n : α → Nat} {r : Nat} (h : ∀ N, SmOk Tryz.prog SP N f A R p n r) : OkE f (smF A R p n r) := fun N hE a σ hp hN => J.tells mixed hE (h N a σ hp hN)
theorem ok_pure {f : FuncId} {α : Type} {A : α → List AV} {R : α → AV} {n : α → Nat} {r : Nat} (h : ∀ N, PureOk Tryz.prog SP N f A R n r) : OkE f (pureF A R n r) := fun N hE a σ hp hN => J.tells mixed hE (h N a σ hp hN)
theorem ok_same {f : FuncId} {α : Type} {A : α → AV} {n : α → Nat} {r : Nat} (h : ∀ N, SameOk SP N f A n r) : OkE f (sameF A n r) := fun N hE a σ hp hN => J.tells mixed hE (h N a.1 a.2 σ hp hN)
theorem ok_copy {f : FuncId} {α : Type} {A : α → AV} {n : α → Nat} {r : Nat} (h : ∀ N, CopyOk SP N f A n r) : OkE f (copyF A n r) := fun N hE a σ hp hN => J.tells mixed hE (h N a σ hp hN)
theorem spStH : StH SP := { code := rfl, la := by kernel_rfl, lab := by kernel_rfl, tr := by kernel_rfl, trb := by kernel_rfl }
theorem spFrH : FrH SP := { toStH := spStH, st := by kernel_rfl, it := by kernel_rfl, itb := by kernel_rfl, us := by kernel_rfl, usb := by kernel_rfl, usm := by kernel_rfl, fr := by kernel_rfl, frb := by kernel_rfl, frm := by kernel_rfl }
theorem spRnH : RnH SP := { toFrH := spFrH, fn := by kernel_rfl, fn1 := by kernel_rfl, kd := by kernel_rfl, kd1 := by kernel_rfl, ey := by kernel_rfl, ee := by kernel_rfl, er := by kernel_rfl, em := by kernel_rfl, wi := by kernel_rfl, wis := by kernel_rfl, wib := by kernel_rfl, kp := by kernel_rfl, tm := by kernel_rfl, am := by kernel_rfl, ea := by kernel_rfl, et := by kernel_rfl, rh := by kernel_rfl, rh1 := by kernel_rfl, ar := by kernel_rfl, ar1 := by kernel_rfl, ex := by kernel_rfl, ex1 := by kernel_rfl }
theorem spH9 : H9 SP := { code := rfl, st := by kernel_rfl, it := by kernel_rfl, itb := by kernel_rfl, fr := by kernel_rfl, frb := by kernel_rfl, frm := by kernel_rfl }
theorem spH9K : H9K SP := { toH9 := spH9, cy := by kernel_rfl, tm := by kernel_rfl, am := by kernel_rfl, nd := by kernel_rfl, kd := by kernel_rfl, fn := by kernel_rfl, ex := by kernel_rfl, es := by kernel_rfl, rh := by kernel_rfl }
theorem spScW : ScW SP := { code := rfl, m := by kernel_rfl, v := by kernel_rfl, i := by kernel_rfl, o := by kernel_rfl, r := by kernel_rfl, l := by kernel_rfl, s := by kernel_rfl, st := by kernel_rfl, rp := by kernel_rfl, rpb := by kernel_rfl, a := by kernel_rfl }
theorem spw_0 : OkE 7 (lvF) := ok_sm fun N => lv_w (S := SP) (N := N) rfl (by kernel_rfl)
theorem spw_1 : OkE 6 (lintsF) := ok_sm fun N => lints_w (S := SP) (N := N) rfl (by kernel_rfl)
theorem spw_2 : OkE 9 (loneF) := ok_sm fun N => lone_w (S := SP) (N := N) rfl (by kernel_rfl) (by kernel_rfl)
theorem spw_3 : OkE 10 (lretF) := ok_sm fun N => lret_w (S := SP) (N := N) rfl (by kernel_rfl)
theorem spw_4 : OkE 8 (lletF) := ok_sm fun N => llet_w (S := SP) (N := N) rfl (by kernel_rfl)
theorem spw_5 : OkE 92 (stemF) := fun N hE a σ hp hN => J.tells mixed hE (stem_w (S := SP) (N := N) spStH (by kernel_rfl) a σ hp)
theorem spw_6 : OkE 94 (limF) := ok_pure fun N => Clone_w (S := SP) (N := N) rfl (by kernel_rfl)
theorem spw_7 : OkE 95 (rnowF) := fun N hE a σ hp hN => J.tells mixed hE (rnow_w (S := SP) (N := N) rfl (by kernel_rfl) a.1 a.2 σ hp)
theorem spw_8 : OkE 91 (rtermF) := fun N hE a σ hp hN => J.tells mixed hE (rterm_w (S := SP) (N := N) rfl (by kernel_rfl) (by kernel_rfl) (by kernel_rfl) (by kernel_rfl) a.1 a.2 σ hp.1 hp.2 hN)
theorem spw_9 : OkE 97 (reachTF) := fun N hE a σ hp hN => J.tells mixed hE (reachT_w (S := SP) (N := N) rfl (by kernel_rfl) (by kernel_rfl) (by kernel_rfl) a.1 a.2 σ hp.1 hp.2 hN)
theorem spw_10 : OkE 120 (raloneF) := ok_pure fun N => ralone_w (S := SP) (N := N) rfl (by kernel_rfl) (by kernel_rfl) (by kernel_rfl)
theorem spw_11 : OkE 56 (reachYF) := fun N hE a σ hp hN => J.tells mixed hE (reachY_w (S := SP) (N := N) rfl (by kernel_rfl) (by kernel_rfl) a σ hp hN)
theorem spw_12 : OkE 122 (rkeptPF) := ok_pure fun N => rkeptP_w (S := SP) (N := N) rfl (by kernel_rfl) (by kernel_rfl)
theorem spw_13 : OkE 121 (reachPF) := fun N hE a σ hp hN => J.tells mixed hE (reachP_w (S := SP) (N := N) rfl (by kernel_rfl) (by kernel_rfl) a σ hp hN)
theorem spw_14 : OkE 89 (rkeptF) := ok_pure fun N => rkept_w (S := SP) (N := N) rfl (by kernel_rfl) (by kernel_rfl) (by kernel_rfl) (by kernel_rfl)
theorem spw_15 : OkE 61 (ratomF) := fun N hE a σ hp hN => J.tells mixed hE (ratom_w (S := SP) (N := N) rfl (by kernel_rfl) (by kernel_rfl) (by kernel_rfl) a.1 a.2 σ hp.1 hp.2 hN)
theorem spw_16 : OkE 96 (reachAF) := fun N hE a σ hp hN => J.tells mixed hE (reachA_w (S := SP) (N := N) rfl (by kernel_rfl) (by kernel_rfl) a.1 a.2 σ hp.1 hp.2 hN)
theorem spw_17 : OkE 15 (freshF) := ok_sm fun N => Fresh_w (S := SP) (N := N) spRnH (by kernel_rfl) (by kernel_rfl)
theorem spw_18 : OkE 12 (stemF) := ok_sm fun N => stem9_w (S := SP) (N := N) rfl (by kernel_rfl)
theorem spw_19 : OkE 163 ((copyF (fun l => .sl (limR l) .no) List.length 0)) := ok_copy fun N => CopyLimbs_w (S := SP) (N := N) rfl (by kernel_rfl)
theorem spw_20 : OkE 136 ((copyF intA intN 1)) := ok_copy fun N => CopyInt_w (S := SP) (N := N) rfl (by kernel_rfl) (by kernel_rfl)
theorem spw_21 : OkE 161 ((copyF (fun l => .sl (trmR l) .no) trmN 3)) := ok_copy fun N => CopyTerms_w (S := SP) (N := N) rfl (by kernel_rfl) (by kernel_rfl)
theorem spw_22 : OkE 133 ((copyF (fun t : Trm => .agg t.cs) Trm.n 2)) := ok_copy fun N => CopyTerm_w (S := SP) (N := N) rfl (by kernel_rfl) (by kernel_rfl) (by kernel_rfl)
theorem spw_23 : OkE 162 ((copyF (fun t : Prm => .agg t.cs) Prm.n 5)) := ok_copy fun N => CopyParam_w (S := SP) (N := N) rfl (by kernel_rfl) (by kernel_rfl)
theorem spw_24 : OkE 134 ((copyF (fun l => .sl (prmR l) .no) prmN 6)) := ok_copy fun N => CopyParams_w (S := SP) (N := N) rfl (by kernel_rfl) (by kernel_rfl)
theorem spw_25 : OkE 135 ((copyF (fun l => .sl (tyR l) .no) tyN 6)) := ok_copy fun N => CopyTypes_w (S := SP) (N := N) rfl (by kernel_rfl) (by kernel_rfl)
theorem spw_26 : OkE 111 ((copyF (fun t : Ty => .agg t.cs) Ty.n 4)) := ok_copy fun N => CopyType_w (S := SP) (N := N) rfl (by kernel_rfl) (by kernel_rfl) (by kernel_rfl) (by kernel_rfl)
theorem spw_27 : OkE 114 (now9F) := ok_sm fun N => now9_w (S := SP) (N := N) rfl (by kernel_rfl)
theorem spw_28 : OkE 112 (term9F) := ok_sm fun N => term9_w (S := SP) (N := N) rfl (by kernel_rfl) (by kernel_rfl) (by kernel_rfl) (by kernel_rfl) (by kernel_rfl) (by kernel_rfl) (by kernel_rfl)
theorem spw_29 : OkE 113 ((copyF (fun t : Atm => .agg t.cs) Atm.n 2)) := ok_copy fun N => CopyAtom_w (S := SP) (N := N) rfl (by kernel_rfl) (by kernel_rfl)
theorem spw_30 : OkE 76 (atom9F) := ok_sm fun N => atom9_w (S := SP) (N := N) rfl (by kernel_rfl) (by kernel_rfl) (by kernel_rfl)
theorem spw_31 : OkE 75 (and9F) := ok_sm fun N => and9_w (S := SP) (N := N) rfl (by kernel_rfl)
theorem spw_32 : OkE 26 (freshF) := ok_sm fun N => Fresh9_w (S := SP) (N := N) spH9K (by kernel_rfl)
theorem spw_33 : OkE 137 ((sameF (fun l => .sl (limR l) .no) List.length 0)) := ok_same fun N => SameLimbs_w (S := SP) (N := N) rfl (by kernel_rfl)
theorem spw_34 : OkE 115 ((sameF intA intN 1)) := ok_same fun N => SameInt_w (S := SP) (N := N) rfl (by kernel_rfl) (by kernel_rfl)
theorem spw_35 : OkE 116 ((sameF (fun l => .sl (trmR l) .no) trmN 3)) := ok_same fun N => SameTerms_w (S := SP) (N := N) rfl (by kernel_rfl) (by kernel_rfl)
theorem spw_36 : OkE 80 ((sameF (fun t : Trm => .agg t.cs) Trm.n 2)) := ok_same fun N => SameTerm_w (S := SP) (N := N) rfl (by kernel_rfl) (by kernel_rfl) (by kernel_rfl)
theorem spw_37 : OkE 81 ((sameF (fun l => .sl (tyR l) .no) tyN 6)) := ok_same fun N => SameTypes_w (S := SP) (N := N) rfl (by kernel_rfl) (by kernel_rfl)
theorem spw_38 : OkE 48 ((sameF (fun t : Ty => .agg t.cs) Ty.n 4)) := ok_same fun N => SameType_w (S := SP) (N := N) rfl (by kernel_rfl) (by kernel_rfl) (by kernel_rfl) (by kernel_rfl)
theorem spw_39 : OkE 79 ((sameF (fun t : Prm => .agg t.cs) Prm.n 5)) := ok_same fun N => SameParam_w (S := SP) (N := N) rfl (by kernel_rfl) (by kernel_rfl)
theorem spw_40 : OkE 47 ((sameF (fun l => .sl (prmR l) .no) prmN 6)) := ok_same fun N => SameParams_w (S := SP) (N := N) rfl (by kernel_rfl) (by kernel_rfl)
theorem spw_41 : OkE 83 ((sameF (fun t : Atm => .agg t.cs) Atm.n 2)) := ok_same fun N => SameAtom_w (S := SP) (N := N) rfl (by kernel_rfl) (by kernel_rfl)
theorem spw_42 : OkE 138 ((sameF (fun l => .sl (atmR l) .no) atmN 3)) := ok_same fun N => SameAtoms_w (S := SP) (N := N) rfl (by kernel_rfl) (by kernel_rfl)
theorem spw_43 : OkE 85 ((sameF (fun l => .sl (expR l) .no) expN 10)) := ok_same fun N => SameExprs_w (S := SP) (N := N) rfl (by kernel_rfl) (by kernel_rfl)
theorem spw_44 : OkE 117 ((sameF (fun t : Rhs => .agg t.cs) Rhs.n 9)) := ok_same fun N => SameRhs_w (S := SP) (N := N) rfl (by kernel_rfl) (by kernel_rfl) (by kernel_rfl) (by kernel_rfl) (by kernel_rfl) (by kernel_rfl)
theorem spw_45 : OkE 82 ((sameF (fun l => .sl (rhsR l) .no) rhsN 10)) := ok_same fun N => SameRhss_w (S := SP) (N := N) rfl (by kernel_rfl) (by kernel_rfl)
theorem spw_46 : OkE 17 ((sameF (fun l => .sl (txtR l) .no) List.length 0)) := ok_same fun N => SameTexts_w (S := SP) (N := N) rfl (by kernel_rfl)
theorem spw_47 : OkE 118 ((sameF (fun t : Arm => .agg t.cs) Arm.n 9)) := ok_same fun N => SameArm_w (S := SP) (N := N) rfl (by kernel_rfl) (by kernel_rfl) (by kernel_rfl)
theorem spw_48 : OkE 84 ((sameF (fun l => .sl (armR l) .no) armN 10)) := ok_same fun N => SameArms_w (S := SP) (N := N) rfl (by kernel_rfl) (by kernel_rfl)
theorem spw_49 : OkE 49 ((sameF (fun t : Exp => .agg t.cs) Exp.n 9)) := ok_same fun N => SameExpr_w (S := SP) (N := N) rfl (by kernel_rfl) (by kernel_rfl) (by kernel_rfl) (by kernel_rfl) (by kernel_rfl) (by kernel_rfl)
theorem spw_50 : OkE 27 ((sameF (fun t : Fun => .agg t.cs) Fun.n 11)) := ok_same fun N => SameFun_w (S := SP) (N := N) rfl (by kernel_rfl) (by kernel_rfl) (by kernel_rfl) (by kernel_rfl)
theorem spw_51 : OkE 11 (lsameF) := ok_sm fun N => lsame_w (S := SP) (N := N) rfl (by kernel_rfl) (by kernel_rfl) (by kernel_rfl) (by kernel_rfl) (by kernel_rfl)
theorem spw_52 : OkE 13 (lawakeF) := ok_sm fun N => lawake_w (S := SP) (N := N) rfl (by kernel_rfl) (by kernel_rfl) (by kernel_rfl) (by kernel_rfl) (by kernel_rfl) (by kernel_rfl) (by kernel_rfl) (by kernel_rfl)
theorem spw_53 : OkE 3 (scF) := ok_sm fun N => scopes_w (S := SP) (N := N) spScW
def AllE : List (FuncId × FS) → Prop
 | [] => True
 | p :: l => OkE p.1 p.2 ∧ AllE l
theorem AllE.mem : ∀ {l : List (FuncId × FS)}, AllE l → ∀ p ∈ l, OkE p.1 p.2
 | q :: l, h, p, hp => by
  rcases List.mem_cons.1 hp with rfl | hp
  · exact h.1
  · exact AllE.mem h.2 p hp
theorem all_ok : AllE spT := ⟨spw_0, spw_1, spw_2, spw_3, spw_4, spw_5, spw_6, spw_7, spw_8, spw_9, spw_10, spw_11, spw_12, spw_13, spw_14, spw_15, spw_16, spw_17, spw_18, spw_19, spw_20, spw_21, spw_22, spw_23, spw_24, spw_25, spw_26, spw_27, spw_28, spw_29, spw_30, spw_31, spw_32, spw_33, spw_34, spw_35, spw_36, spw_37, spw_38, spw_39, spw_40, spw_41, spw_42, spw_43, spw_44, spw_45, spw_46, spw_47, spw_48, spw_49, spw_50, spw_51, spw_52, spw_53, trivial⟩
def AllB : List (FuncId × (List AV → Sto → Option (ARes × Sto))) → Prop
 | [] => True
 | p :: l => (CallSound Tryz.prog fun f' args σ => if f' = p.1 then p.2 args σ else none) ∧ AllB l
theorem AllB.mem : ∀ {l : List (FuncId × (List AV → Sto → Option (ARes × Sto)))}, AllB l → ∀ p ∈ l, CallSound Tryz.prog fun f' args σ => if f' = p.1 then p.2 args σ else none
 | q :: l, h, p, hp => by
  rcases List.mem_cons.1 hp with rfl | hp
  · exact h.1
  · exact AllB.mem h.2 p hp
theorem all_b : AllB spB := ⟨primLast_sound, primTrim_sound, primItoa_sound, primRepeat_sound, trivial⟩
theorem SP_ok : ∀ N, EnvOk Tryz.prog (SP.E N) := Sp.ok (fun f fn h => codeP_ok f fn h) (fun f g h => all_b.mem (f, g) (lookB_mem h)) fun N hE f s h a σ hp hN => all_ok.mem (f, s) (look_mem h) N hE a σ hp hN
end
section
open Go.RowKit
def Zall (w : World) (b j : Nat) : Prop := (w.cell? ⟨b, j, none⟩).isSome = true
theorem Match.start (w : World) (hG : ∀ (g : Nat) (l : List Value), globRow g = some l → VR [] (Zall w) w (.eptr (l.map .lit) 0) (.pointer (some ⟨g, 0, none⟩)) ∧ g < w.heap.size ∧ cellsz w g = l.length := by intro g l h; cases h) : Match [] [] (Zall w) w :=
 ⟨rfl, fun id o b h => by simp at h, fun i j b o p h => by simp at h, fun b j h => by
  unfold Zall at h
  rw [Option.isSome_iff_exists] at h
  obtain ⟨u, hu⟩ := h
  have := World.block_lt_of_cell? w _ hu
  exact this, hG, fun id b h => by simp at h⟩
section
variable {H : Type} (P : Program)
def tiles : List Field → Nat → Option Nat
 | [], n => some n
 | f :: fs, n => if f.offset = n then tiles fs (n + P.cellsOf f.type) else none
def avFields (g : TypeId → DataW H → Option (List AV)) : List Field → List (DataW H) → Option (List AV)
 | [], [] => some []
 | f :: fs, d :: ds => match g f.type d, avFields g fs ds with | some a, some b => some (a ++ b) | _, _ => none
 | _, _ => none
def avOf : Nat → TypeId → DataW H → Option (List AV)
 | 0, _, _ => none
 | n + 1, t, d =>
  match P.underlying t, d with
  | some .bool, .lit (.bool b) => some [.lit (.bool b)]
  | some (.int k), .lit (.int _ m) => some [.lit (.int k m)]
  | some .string, .lit (.string l) => some [.lit (.string ⟨l.toArray⟩)]
  | some (.slice _), .nil => some [.sl [] .no]
  | some (.slice e), .slice elems _ => (omap (avOf n e) elems).map fun rows => [.sl rows .no]
  | some (.struct fs), .agg parts => avFields (avOf n) fs.toList parts
  | _, _ => none
def okKind (S : List TypeId) (t : TypeId) : Bool :=
 match P.underlying t with
 | some .bool | some (.int _) | some .string => decide (P.cellsOf t = 1)
 | some (.slice e) => S.contains e && decide (0 < P.cellsOf e) && decide (P.cellsOf t = 1)
 | some (.struct fs) => fs.toList.all (fun f => S.contains f.type) && decide (tiles P fs.toList 0 = some (P.cellsOf t))
 | _ => false
end
theorem omap_some {α β : Type} {f : α → Option β} : ∀ {l : List α}, (∀ (i : Nat) (a : α), l[i]? = some a → ∃ b, f a = some b) → ∃ m, omap f l = some m
 | [], _ => ⟨[], rfl⟩
 | a :: l, h => by
  obtain ⟨b, hb⟩ := h 0 a rfl
  obtain ⟨m, hm⟩ := omap_some (l := l) fun i x hx => h (i + 1) x (by simpa using hx)
  exact ⟨b :: m, by rw [omap, hb, hm]⟩
theorem spot_none {w : World} {a : Addr} {u : Value} (h : w.cell? a = some u) : a = ⟨a.block, a.off, none⟩ := by
 obtain ⟨b, o, s⟩ := a
 cases s with
 | none => rfl
 | some s =>
  simp [World.cell?] at h
  split at h <;> simp at h
theorem add_none (b o n : Nat) : (⟨b, o, none⟩ : Addr).add n = ⟨b, o + n, none⟩ := by
 unfold Addr.add
 split
 · rename_i h; subst h; rfl
 · rfl
theorem cells_at {w : World} {base n : Nat} {a : Addr} {cs : List Value} (h : w.cells? base a n = some cs) : cs.length = n ∧ ∀ (j : Nat) (u : Value), cs[j]? = some u → w.cell? (a.add j) = some u := by
 unfold World.cells? at h
 split at h
 · rw [← omap_mapM] at h
   refine ⟨by rw [omap_len h]; simp, fun j u hu => ?_⟩
   obtain ⟨i, h1, h2⟩ := omap_get h j u hu
   have hj : j < n := by have := (List.getElem?_eq_some_iff.1 hu).1; rw [omap_len h] at this; simpa using this
   rw [List.getElem?_range hj] at h1
   cases h1
   exact h2
 · cases h
section
variable {H : Type} {enc : TypeId × Value → H} {P : Program} {w : World} {ι : List Nat}
theorem struct_open {n : Nat} {cs : List Value} (S : List TypeId)
    (ih : ∀ (t : TypeId) (c : List Value) (d : DataW H) (ps : List MemPlace), t ∈ S → DataW.trod enc P w 0 (fun _ => true) true n t c = some (d, ps) → ∃ acs, avOf P n t d = some acs ∧ CR ι (Zall w) w acs c ∧ acs.length = P.cellsOf t) :
    ∀ (fs : List Field) (o m : Nat) (xs : List (DataW H × List MemPlace)), tiles P fs o = some m → fs.all (fun f => S.contains f.type) = true → m ≤ cs.length → omap (fun f : Field => DataW.trod enc P w 0 (fun _ => true) true n f.type ((cs.drop f.offset).take (P.cellsOf f.type))) fs = some xs →
     ∃ acs, avFields (avOf P n) fs (xs.map (·.1)) = some acs ∧ CR ι (Zall w) w acs ((cs.drop o).take (m - o)) ∧ o + acs.length = m
 | [], o, m, xs, ht, hS, hm, hx => by
  simp [omap] at hx; subst hx
  simp [tiles] at ht; subst ht
  exact ⟨[], rfl, by simpa using CR.nil, by simp⟩
 | f :: fs, o, m, xs, ht, hS, hm, hx => by
  rw [tiles] at ht
  split at ht
  · rename_i hof
    subst hof
    rw [List.all_cons, Bool.and_eq_true] at hS
    rw [omap] at hx
    split at hx
    · rename_i b bs h1 h2
      cases hx
      obtain ⟨d, ps⟩ := b
      obtain ⟨a1, g1, g2, g3⟩ := ih f.type _ d ps (by simpa using hS.1) h1
      obtain ⟨a2, g4, g5, g6⟩ := struct_open S ih fs (f.offset + P.cellsOf f.type) m bs ht hS.2 hm h2
      refine ⟨a1 ++ a2, ?_, ?_, by simp; omega⟩
      · simp only [List.map_cons, avFields, g1, g4]
      · have := g2.append g5
        have e : m - f.offset = P.cellsOf f.type + (m - (f.offset + P.cellsOf f.type)) := by omega
        rw [e, List.take_add, List.drop_drop]
        exact this
    · cases hx
  · cases ht
theorem open_any (S : List TypeId) (hS : S.all (okKind P S) = true) : ∀ (n : Nat) (t : TypeId) (c : List Value) (d : DataW H) (ps : List MemPlace), t ∈ S → DataW.trod enc P w 0 (fun _ => true) true n t c = some (d, ps) →
    ∃ acs, avOf P n t d = some acs ∧ CR ι (Zall w) w acs c ∧ acs.length = P.cellsOf t
 | 0, t, c, d, ps, ht, h => by simp [DataW.trod] at h
 | n + 1, t, c, d, ps, ht, h => by
  have hk := List.all_eq_true.1 hS t ht
  rw [DataW.trod_step] at h
  unfold DataW.trodStep at h
  unfold okKind at hk
  split at h
  · rename_i bb hu
    simp [hu] at hk
    cases h
    exact ⟨[.lit (.bool bb)], by simp [avOf, hu], ⟨rfl, fun j d u hd hu' => by
     cases j with
     | zero => simp at hd hu'; subst hd; subst hu'; exact ⟨rfl, .lit _ rfl⟩
     | succ j => simp at hd⟩, by simp [hk]⟩
  · rename_i k k' m hu
    simp [hu] at hk
    split at h
    · rename_i hc
      obtain ⟨rfl, _⟩ := hc
      cases h
      exact ⟨[.lit (.int k' m)], by simp [avOf, hu], ⟨rfl, fun j d u hd hu' => by
       cases j with
       | zero => simp at hd hu'; subst hd; subst hu'; exact ⟨rfl, .lit _ rfl⟩
       | succ j => simp at hd⟩, by simp [hk]⟩
    · cases h
  · rename_i hu; simp [hu] at hk
  · rename_i s hu
    simp [hu] at hk
    split at h
    · cases h
      exact ⟨[.lit (.string s)], by simp [avOf, hu], ⟨rfl, fun j d u hd hu' => by
       cases j with
       | zero => simp at hd hu'; subst hd; subst hu'; exact ⟨rfl, .lit _ rfl⟩
       | succ j => simp at hd⟩, by simp [hk]⟩
    · cases h
  · rename_i hu; simp [hu] at hk
  · rename_i hu; simp [hu] at hk
  · rename_i e hu
    simp [hu] at hk
    cases h
    exact ⟨[.sl [] .no], by simp [avOf, hu], ⟨rfl, fun j d u hd hu' => by
     cases j with
     | zero => simp at hd hu'; subst hd; subst hu'; exact ⟨rfl, .nils _ _ _ (fun _ => rfl) (.inl rfl)⟩
     | succ j => simp at hd⟩, by simp [hk]⟩
  · rename_i e a len cap hu
    simp [hu] at hk
    obtain ⟨⟨hk1, hk2⟩, hk3⟩ := hk
    dsimp only at h
    split at h
    · rename_i hc
      obtain ⟨_, hc1, hc2⟩ := hc
      rw [Option.bind_eq_some_iff] at h
      obtain ⟨elems, h1, h2⟩ := h
      rw [Option.map_eq_some_iff] at h2
      obtain ⟨rest, h2, h3⟩ := h2
      cases h3
      have hlen : elems.length = len := by rw [← omap_mapM] at h1; rw [omap_len h1]; simp
      have key : ∀ (i : Nat) (x : DataW H × List MemPlace), elems[i]? = some x → ∃ row c', avOf P n e x.1 = some row ∧ row.length = P.cellsOf e ∧ CR ι (Zall w) w row c' ∧ c'.length = P.cellsOf e ∧ ∀ (j : Nat) (u : Value), c'[j]? = some u → w.cell? ((a.add (i * P.cellsOf e)).add j) = some u := by
       intro i x hx
       rw [← omap_mapM] at h1
       obtain ⟨i', e1, e2⟩ := omap_get h1 i x hx
       have hi : i < len := by rw [← hlen]; exact (List.getElem?_eq_some_iff.1 hx).1
       rw [List.getElem?_range hi] at e1
       cases e1
       rw [Option.bind_eq_some_iff] at e2
       obtain ⟨c', f1, f2⟩ := e2
       obtain ⟨l1, l2⟩ := cells_at f1
       obtain ⟨row, r1, r2, r3⟩ := open_any S hS n e c' x.1 x.2 (by simpa using hk1) f2
       exact ⟨row, c', r1, r3, r2, l1, l2⟩
      obtain ⟨rows, hrows⟩ := omap_some (f := avOf P n e) (l := elems.map (·.1)) fun i x hx => by
       rw [List.getElem?_map, Option.map_eq_some_iff] at hx
       obtain ⟨y, hy, rfl⟩ := hx
       obtain ⟨row, _, r1, _⟩ := key i y hy
       exact ⟨row, r1⟩
      have hrl : rows.length = len := by rw [omap_len hrows]; simp [hlen]
      have key2 : ∀ (i : Nat) (row : List AV), rows[i]? = some row → ∃ c', row.length = P.cellsOf e ∧ CR ι (Zall w) w row c' ∧ c'.length = P.cellsOf e ∧ ∀ (j : Nat) (u : Value), c'[j]? = some u → w.cell? ((a.add (i * P.cellsOf e)).add j) = some u := by
       intro i row hr
       obtain ⟨x, e1, e2⟩ := omap_get hrows i row hr
       rw [List.getElem?_map, Option.map_eq_some_iff] at e1
       obtain ⟨y, hy, rfl⟩ := e1
       obtain ⟨row', c', r1, r2, r3, r4, r5⟩ := key i y hy
       rw [e2] at r1
       cases r1
       exact ⟨c', r2, r3, r4, r5⟩
      refine ⟨[.sl rows .no], by simp [avOf, hu, hrows], ⟨rfl, fun j d u hd hu' => ?_⟩, by simp [hk3]⟩
      cases j with
      | succ j => simp at hd
      | zero =>
       simp at hd hu'
       subst hd; subst hu'
       refine ⟨rfl, ?_⟩
       rcases Nat.eq_zero_or_pos len with h0 | h0
       · subst h0
         have : rows = [] := List.eq_nil_of_length_eq_zero hrl
         subst this
         exact .nils _ _ _ (fun h => by cases h) (.inl rfl)
       · have hspot : a = ⟨a.block, a.off, none⟩ := by
          obtain ⟨c', _, _, r4, r5⟩ := key2 0 _ (List.getElem?_eq_getElem (by omega))
          have := r5 0 _ (List.getElem?_eq_getElem (by omega))
          have e0 : (a.add (0 * P.cellsOf e)).add 0 = a := by simp [Addr.add]
          rw [e0] at this
          exact spot_none this
         generalize a.block = b, a.off = o at hspot
         subst hspot
         refine VR.sl b o len cap (P.cellsOf e) rows .no (fun i j => (w.cell? ⟨b, o + i * P.cellsOf e + j, none⟩).getD .nilFunc) hrl h0 hc1 hc2 (fun i row hr => ?_) (fun i j row d hr hd => ?_) trivial (fun i j row d hr hd => ?_)
         · obtain ⟨_, r2, _⟩ := key2 i row hr
           exact r2
         · obtain ⟨c', r2, r3, r4, r5⟩ := key2 i row hr
           obtain ⟨u, u1, u2, u3⟩ := r3.at hd
           have h := r5 j u u1
           rw [add_none, add_none] at h
           exact ⟨u2, by unfold Zall; rw [h]; rfl, by rw [h]; rfl⟩
         · obtain ⟨c', r2, r3, r4, r5⟩ := key2 i row hr
           obtain ⟨u, u1, u2, u3⟩ := r3.at hd
           have h := r5 j u u1
           rw [add_none, add_none] at h
           rw [h]
           exact u3
    · cases h
  · rename_i fs hu
    rw [hu] at hk
    dsimp only at hk
    rw [Bool.and_eq_true] at hk
    split at h
    · rename_i hc
      rw [Option.map_eq_some_iff] at h
      obtain ⟨xs, h1, h2⟩ := h
      cases h2
      rw [← omap_mapM] at h1
      obtain ⟨acs, g1, g2, g3⟩ := struct_open S (fun t c d ps ht h => open_any S hS n t c d ps ht h) fs.toList 0 (P.cellsOf t) xs (of_decide_eq_true hk.2) hk.1 (by omega) h1
      refine ⟨acs, by simp only [avOf, hu, g1], ?_, by omega⟩
      rw [List.drop_zero, Nat.sub_zero, ← hc, List.take_length] at g2
      exact g2
    · cases h
  all_goals first | (rename_i hu; simp [hu] at hk; done) | (rename_i hu _; simp [hu] at hk; done) | (cases h; done) | skip
end
end
section
open Go.RowKit
section
variable {H : Type} (P : Program)
def wfFields (g : TypeId → DataW H → Prop) : List Field → List (DataW H) → Prop
 | f :: fs, d :: ds => g f.type d ∧ wfFields g fs ds
 | _, _ => True
def wfD : Nat → TypeId → DataW H → Prop
 | 0, _, _ => True
 | n + 1, t, d =>
  match P.underlying t, d with
  | some (.int k), .lit (.int k' m) => k' = k ∧ (Lit.int k m).wf = true
  | some (.slice e), .slice elems _ => ∀ x ∈ elems, wfD n e x
  | some (.struct fs), .agg parts => wfFields (wfD n) fs.toList parts
  | _, _ => True
end
section
variable {H : Type} {enc : TypeId × Value → H} {P : Program} {w : World}
theorem wfFields_of {n : Nat} {cs : List Value} (ih : ∀ (t : TypeId) (c : List Value) (d : DataW H) (ps : List MemPlace), DataW.trod enc P w 0 (fun _ => true) true n t c = some (d, ps) → wfD P n t d) :
    ∀ (fs : List Field) (xs : List (DataW H × List MemPlace)), omap (fun f : Field => DataW.trod enc P w 0 (fun _ => true) true n f.type ((cs.drop f.offset).take (P.cellsOf f.type))) fs = some xs → wfFields (wfD P n) fs (xs.map (·.1))
 | [], xs, h => by
  simp [omap] at h; subst h; trivial
 | f :: fs, xs, h => by
  rw [omap] at h
  split at h
  · rename_i b bs h1 h2
    cases h
    obtain ⟨d, ps⟩ := b
    exact ⟨ih f.type _ d ps h1, wfFields_of ih fs bs h2⟩
  · cases h
theorem trod_wf : ∀ (n : Nat) (t : TypeId) (c : List Value) (d : DataW H) (ps : List MemPlace), DataW.trod enc P w 0 (fun _ => true) true n t c = some (d, ps) → wfD P n t d
 | 0, t, c, d, ps, h => trivial
 | n + 1, t, c, d, ps, h => by
  rw [DataW.trod_step] at h
  unfold DataW.trodStep at h
  split at h
  case h_2 k k' m hu =>
   split at h
   · rename_i hc
     obtain ⟨rfl, hw⟩ := hc
     cases h
     unfold wfD
     simp only [hu]
     exact ⟨trivial, hw⟩
   · cases h
  case h_8 e a len cap hu =>
   dsimp only at h
   split at h
   · rw [Option.bind_eq_some_iff] at h
     obtain ⟨els, h1, h2⟩ := h
     rw [Option.map_eq_some_iff] at h2
     obtain ⟨rest, h2, h3⟩ := h2
     cases h3
     unfold wfD
     simp only [hu]
     intro x hx
     obtain ⟨y, hy, rfl⟩ := List.mem_map.1 hx
     rw [← omap_mapM] at h1
     obtain ⟨i, hi⟩ := List.getElem?_of_mem hy
     obtain ⟨i', e1, e2⟩ := omap_get h1 i y hi
     rw [Option.bind_eq_some_iff] at e2
     obtain ⟨c', f1, f2⟩ := e2
     exact trod_wf n e c' y.1 y.2 f2
   · cases h
  case h_9 fs hu =>
   split at h
   · rw [Option.map_eq_some_iff] at h
     obtain ⟨xs, h1, h2⟩ := h
     cases h2
     rw [← omap_mapM] at h1
     unfold wfD
     simp only [hu]
     exact wfFields_of (fun t c d ps h => trod_wf n t c d ps h) fs.toList xs h1
   · cases h
  all_goals
   unfold wfD
   split
   all_goals first
    | trivial
    | (simp_all; done)
end
end
end Go.Proofs.YteajcnilihgheaaGreatDoor
