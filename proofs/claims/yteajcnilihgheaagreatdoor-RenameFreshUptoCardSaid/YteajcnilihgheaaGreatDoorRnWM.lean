/-
 The package rename, plainly: how great what is made anew may be.
-/
import Derived.Test.YteajcnilihgheaaGreatDoorRb6M
import Derived.Lib.ItoaLen
namespace Go.Proofs.YteajcnilihgheaaGreatDoor
set_option linter.unusedSimpArgs false
set_option linter.unusedVariables false
set_option linter.unusedSectionVars false
open Go.RowKit
theorem atmN_leW : ∀ l : List Atm, atmN l ≤ atmW l
 | [] => Nat.le_refl _
 | .mk k nm ng dg tr :: l => by have := atmN_leW l; simp only [atmN, atmW, Atm.n, Atm.w]; omega
mutual
theorem Trm.sm_of : ∀ t : Trm, t.w ≤ 140737488355328 → t.sm
 | .mk k nm ng dg ks, h => by
  simp only [Trm.w] at h
  have := trmW_len ks
  exact ⟨by omega, by omega, by omega, trmSm_of ks (by omega)⟩
theorem trmSm_of : ∀ l : List Trm, trmW l ≤ 140737488355328 → trmSm l
 | [], _ => trivial
 | x :: l, h => by simp only [trmW] at h; exact ⟨Trm.sm_of x (by omega), trmSm_of l (by omega)⟩
end
mutual
theorem Ty.sm_of : ∀ t : Ty, t.w ≤ 140737488355328 → t.sm
 | .mk fn st rf ps rs, h => by
  simp only [Ty.w] at h
  have := prmW_len ps
  have := tyW_len rs
  exact ⟨by omega, Trm.sm_of rf (by omega), by omega, prmSm_of ps (by omega), by omega, tySm_of rs (by omega)⟩
theorem tySm_of : ∀ l : List Ty, tyW l ≤ 140737488355328 → tySm l
 | [], _ => trivial
 | x :: l, h => by simp only [tyW] at h; exact ⟨Ty.sm_of x (by omega), tySm_of l (by omega)⟩
theorem Prm.sm_of : ∀ t : Prm, t.w ≤ 140737488355328 → t.sm
 | .mk nm ty, h => by simp only [Prm.w] at h; exact ⟨by omega, Ty.sm_of ty (by omega)⟩
theorem prmSm_of : ∀ l : List Prm, prmW l ≤ 140737488355328 → prmSm l
 | [], _ => trivial
 | x :: l, h => by simp only [prmW] at h; exact ⟨Prm.sm_of x (by omega), prmSm_of l (by omega)⟩
end
theorem Atm.sm_of : ∀ t : Atm, t.w ≤ 140737488355328 → t.sm
 | .mk k nm ng dg tr, h => by simp only [Atm.w] at h; exact ⟨by omega, by omega⟩
theorem atmSm_of : ∀ l : List Atm, atmW l ≤ 140737488355328 → atmSm l
 | [], _ => trivial
 | x :: l, h => by simp only [atmW] at h; exact ⟨Atm.sm_of x (by omega), atmSm_of l (by omega)⟩
mutual
theorem Exp.sm_of : ∀ t : Exp, t.w ≤ 140737488355328 → t.sm
 | .mk k nm ty rh am ar bd, h => by
  simp only [Exp.w] at h
  have := tyW_len ty
  have := rhsW_len rh
  have := armW_len ar
  have := expW_len bd
  exact ⟨by omega, by omega, tySm_of ty (by omega), by omega, rhsSm_of rh (by omega), Atm.sm_of am (by omega), by omega, armSm_of ar (by omega), by omega, expSm_of bd (by omega)⟩
theorem expSm_of : ∀ l : List Exp, expW l ≤ 140737488355328 → expSm l
 | [], _ => trivial
 | x :: l, h => by simp only [expW] at h; exact ⟨Exp.sm_of x (by omega), expSm_of l (by omega)⟩
theorem Rhs.sm_of : ∀ t : Rhs, t.w ≤ 140737488355328 → t.sm
 | .mk k nm ats ps rs bd ts, h => by
  simp only [Rhs.w] at h
  have := atmW_len ats
  have := prmW_len ps
  have := tyW_len rs
  have := expW_len bd
  have := trmW_len ts
  exact ⟨by omega, by omega, atmSm_of ats (by omega), by omega, prmSm_of ps (by omega), by omega, tySm_of rs (by omega), by omega, expSm_of bd (by omega), by omega, trmSm_of ts (by omega)⟩
theorem rhsSm_of : ∀ l : List Rhs, rhsW l ≤ 140737488355328 → rhsSm l
 | [], _ => trivial
 | x :: l, h => by simp only [rhsW] at h; exact ⟨Rhs.sm_of x (by omega), rhsSm_of l (by omega)⟩
theorem Arm.sm_of : ∀ t : Arm, t.w ≤ 140737488355328 → t.sm
 | .mk cn ns bd, h => by
  simp only [Arm.w] at h
  have := txtW_len ns
  have := expW_len bd
  exact ⟨by omega, by omega, by omega, expSm_of bd (by omega)⟩
theorem armSm_of : ∀ l : List Arm, armW l ≤ 140737488355328 → armSm l
 | [], _ => trivial
 | x :: l, h => by simp only [armW] at h; exact ⟨Arm.sm_of x (by omega), armSm_of l (by omega)⟩
end
mutual
theorem Trm.n_leW : ∀ t : Trm, t.n ≤ t.w
 | .mk k nm ng dg ks => by have := trmN_leW ks; simp only [Trm.n, Trm.w]; omega
theorem trmN_leW : ∀ l : List Trm, trmN l ≤ trmW l
 | [] => Nat.le_refl _
 | x :: l => by have := Trm.n_leW x; have := trmN_leW l; simp only [trmN, trmW]; omega
end
mutual
theorem Ty.n_leW : ∀ t : Ty, t.n ≤ t.w
 | .mk fn st rf ps rs => by rw [Ty.n_eq]; have := Trm.n_leW rf; have := prmN_leW ps; have := tyN_leW rs; simp only [Ty.w]; omega
theorem tyN_leW : ∀ l : List Ty, tyN l ≤ tyW l
 | [] => Nat.le_refl _
 | x :: l => by have := Ty.n_leW x; have := tyN_leW l; simp only [tyN, tyW]; omega
theorem Prm.n_leW : ∀ t : Prm, t.n ≤ t.w
 | .mk nm ty => by rw [Prm.n_eq]; have := Ty.n_leW ty; simp only [Prm.w]; omega
theorem prmN_leW : ∀ l : List Prm, prmN l ≤ prmW l
 | [] => Nat.le_refl _
 | x :: l => by have := Prm.n_leW x; have := prmN_leW l; simp only [prmN, prmW]; omega
end
theorem Atm.n_leW : ∀ t : Atm, t.n ≤ t.w
 | .mk k nm ng dg tr => by simp only [Atm.n, Atm.w]; omega
mutual
theorem Exp.n_leW : ∀ t : Exp, t.n ≤ t.w
 | .mk k nm ty rh am ar bd => by rw [Exp.n_eq]; have := Atm.n_leW am; have := tyN_leW ty; have := rhsN_leW rh; have := armN_leW ar; have := expN_leW bd; simp only [Exp.w]; omega
theorem expN_leW : ∀ l : List Exp, expN l ≤ expW l
 | [] => Nat.le_refl _
 | x :: l => by have := Exp.n_leW x; have := expN_leW l; simp only [expN, expW]; omega
theorem Rhs.n_leW : ∀ t : Rhs, t.n ≤ t.w
 | .mk k nm ats ps rs bd ts => by have := atmN_leW ats; have := prmN_leW ps; have := tyN_leW rs; have := expN_leW bd; have := trmN_leW ts; simp only [Rhs.n, Rhs.w]; omega
theorem rhsN_leW : ∀ l : List Rhs, rhsN l ≤ rhsW l
 | [] => Nat.le_refl _
 | x :: l => by have := Rhs.n_leW x; have := rhsN_leW l; simp only [rhsN, rhsW]; omega
theorem Arm.n_leW : ∀ t : Arm, t.n ≤ t.w
 | .mk cn ns bd => by have := txtW_len ns; have := expN_leW bd; simp only [Arm.n, Arm.w]; omega
theorem armN_leW : ∀ l : List Arm, armN l ≤ armW l
 | [] => Nat.le_refl _
 | x :: l => by have := Arm.n_leW x; have := armN_leW l; simp only [armN, armW]; omega
end
def Fun.w : Fun → Nat
 | .mk nm ps rs bd => 1 + nm.size + prmW ps + rs.w + bd.w
theorem Fun.n_leW : ∀ f : Fun, f.n ≤ f.w
 | .mk nm ps (.mk rsfn rsst (.mk rsrfk rsrfnm rsrfng rsrfdg rsrfks) rsps rsrs) (.mk bdk bdnm bdty bdrh (.mk bdamk bdamnm bdamng bdamdg bdamtr) bdar bdbd) => by
  have := prmN_leW ps; have := trmN_leW rsrfks; have := prmN_leW rsps; have := tyN_leW rsrs; have := tyN_leW bdty; have := rhsN_leW bdrh; have := armN_leW bdar; have := expN_leW bdbd
  simp only [Fun.n, Fun.w, Ty.w, Exp.w, Trm.w, Atm.w]; omega
theorem Fun.sm_of : ∀ f : Fun, f.w ≤ 140737488355328 → f.sm
 | .mk nm ps rs bd, h => by
  simp only [Fun.w] at h
  have := prmW_len ps
  exact ⟨⟨by omega, prmSm_of ps (by omega)⟩, Ty.sm_of rs (by omega), Exp.sm_of bd (by omega)⟩
theorem lamE_w : ∀ f : Fun, (lamE f).w ≤ f.w + 3
 | .mk nm ps rs bd => by
  show 1 + 0 + 0 + ((1 + 0 + 0 + prmW ps + (rs.w + 0) + (bd.w + 0) + 0) + 0) + (1 + 0 + 0) + 0 + 0 ≤ (1 + nm.size + prmW ps + rs.w + bd.w) + 3
  omega
theorem bdOf_w : ∀ f : Fun, expW [f.bdOf] ≤ f.w
 | .mk nm ps rs bd => by simp only [Fun.bdOf, expW, Fun.w]; omega
def BL (b : List ByteArray) (W : Nat) : Prop := b.length ≤ W ∧ ∀ s ∈ b, s.size ≤ W
theorem BL.app {a b : List ByteArray} {x y : Nat} (h : BL a x) (k : BL b y) : BL (a ++ b) (x + y) := by
 refine ⟨by have := h.1; have := k.1; rw [List.length_append]; omega, fun s hs => ?_⟩
 rcases List.mem_append.1 hs with hs | hs
 · have := h.2 s hs; omega
 · have := k.2 s hs; omega
theorem BL.le {a : List ByteArray} {x y : Nat} (h : BL a x) (hx : x ≤ y) : BL a y := ⟨Nat.le_trans h.1 hx, fun s hs => Nat.le_trans (h.2 s hs) hx⟩
theorem BL.no (W : Nat) : BL [] W := ⟨Nat.zero_le _, by simp⟩
theorem BL.one (s : ByteArray) : BL [s] (1 + s.size) := ⟨by simp only [List.length_cons, List.length_nil]; omega, fun x hx => by rw [List.mem_singleton.1 hx]; omega⟩
theorem BL.txt : ∀ l : List ByteArray, BL l (txtW l)
 | [] => BL.no _
 | x :: l => (BL.one x).app (BL.txt l)
mutual
theorem bl_Y : ∀ t : Ty, BL (bY t) t.w
 | .mk fn st rf ps rs => by
  cases fn with
  | false => exact BL.no _
  | true => exact ((bl_Ps ps).app (bl_Ys rs)).le (by simp only [Ty.w]; omega)
theorem bl_P : ∀ t : Prm, BL (bP t) t.w
 | .mk nm ty => by simp only [bP, Prm.w]; exact (BL.one nm).app (bl_Y ty)
theorem bl_Ps : ∀ t : List Prm, BL (bPs t) (prmW t)
 | [] => BL.no _
 | x :: l => by simp only [bPs, prmW]; exact (bl_P x).app (bl_Ps l)
theorem bl_Ys : ∀ t : List Ty, BL (bYs t) (tyW t)
 | [] => BL.no _
 | x :: l => by simp only [bYs, tyW]; exact (bl_Y x).app (bl_Ys l)
end
mutual
theorem bl_E : ∀ t : Exp, BL (bE t) t.w
 | .mk k nm ty rh am ar bd => by
  simp only [bE, Exp.w]
  have h : BL (if k = 1 then [nm] else []) (1 + nm.size) := by
   split
   · exact BL.one nm
   · exact BL.no _
  exact ((((h.app (bl_Ys ty)).app (bl_Rs rh)).app (bl_Es bd)).app (bl_Ms ar)).le (by omega)
theorem bl_Es : ∀ t : List Exp, BL (bEs t) (expW t)
 | [] => BL.no _
 | x :: l => by simp only [bEs, expW]; exact (bl_E x).app (bl_Es l)
theorem bl_R : ∀ t : Rhs, BL (bR t) t.w
 | .mk k nm ats ps rs bd ts => by
  simp only [bR, Rhs.w]
  exact (((bl_Ps ps).app (bl_Ys rs)).app (bl_Es bd)).le (by omega)
theorem bl_Rs : ∀ t : List Rhs, BL (bRs t) (rhsW t)
 | [] => BL.no _
 | x :: l => by simp only [bRs, rhsW]; exact (bl_R x).app (bl_Rs l)
theorem bl_M : ∀ t : Arm, BL (bM t) t.w
 | .mk cn ns bd => by simp only [bM, Arm.w]; exact ((BL.txt ns).app (bl_Es bd)).le (by omega)
theorem bl_Ms : ∀ t : List Arm, BL (bMs t) (armW t)
 | [] => BL.no _
 | x :: l => by simp only [bMs, armW]; exact (bl_M x).app (bl_Ms l)
end
theorem bl_F : ∀ f : Fun, BL (bF f) f.w
 | .mk nm ps rs bd => by simp only [bF, Fun.w]; exact (((bl_Ps ps).app (bl_Y rs)).app (bl_E bd)).le (by omega)
theorem fresh_size (u : List ByteArray) (s : ByteArray) (h : u.length ≤ 1000000000) : (freshB u s).size ≤ 60 := by
 have h1 := leastN_le u (beginL s)
 have h2 : (stemL s.data.toList).length ≤ 30 := by unfold stemL; rw [List.length_take]; omega
 have h3 : (Lib.decDigits (leastN u (beginL s))).length ≤ 20 := by
  rw [Lib.decDigits_length]
  exact Lib.nDigits_le20 _ (by omega)
 have h4 : (freshB u s).size = ((stemL s.data.toList ++ [95]) ++ Lib.decDigits (leastN u (beginL s))).length := by
  simp only [freshB, nameN, beginL, ByteArray.size, List.size_toArray]
 rw [h4]; simp only [List.length_append, List.length_cons, List.length_nil]; omega
def LB (l : Bnd) : Prop := ∀ p ∈ l, p.2.size ≤ 60
theorem LB.now {l : Bnd} (h : LB l) (x : ByteArray) : (nowB l x).size ≤ x.size + 60 := by
 induction l with
 | nil => simp [nowB]
 | cons p l ih =>
  have h1 := h p (by simp)
  have h2 := ih fun q hq => h q (by simp [hq])
  rw [nowB]
  split <;> omega
theorem LB.cons {l : Bnd} (h : LB l) (o n : ByteArray) (hn : n.size ≤ 60) : LB ((o, n) :: l) := fun p hp => by
 rcases List.mem_cons.1 hp with rfl | hp
 · exact hn
 · exact h p hp
section
variable {l : Bnd} (hl : LB l)
include hl
mutual
theorem renT_w : ∀ t : Trm, (renT l t).w ≤ 61 * t.w
 | .mk k nm ng dg ks => by
  have h1 := renTs_w ks
  have h2 : (if k = 1 ∧ nm ≠ vB then nowB l nm else nm).size ≤ nm.size + 60 := by
   have := hl.now nm
   split <;> omega
  simp only [renT, Trm.w]; omega
theorem renTs_w : ∀ t : List Trm, trmW (renTs l t) ≤ 61 * trmW t
 | [] => Nat.le_refl _
 | x :: t => by have := renT_w x; have := renTs_w t; simp only [renTs, trmW]; omega
end
theorem renA_w : ∀ t : Atm, (renA l t).w ≤ 61 * t.w
 | .mk k nm ng dg tr => by
  have h2 : (if k = 1 then nowB l nm else nm).size ≤ nm.size + 60 := by
   have := hl.now nm
   split <;> omega
  simp only [renA, Atm.w]; omega
theorem renAs_w : ∀ t : List Atm, atmW (t.map (renA l)) ≤ 61 * atmW t
 | [] => Nat.le_refl _
 | x :: t => by have := renA_w hl x; have := renAs_w t; simp only [List.map_cons, atmW]; omega
end
section
variable {F : NF} (hF : ∀ u s, u.length ≤ 1000000000 → (F.f u s).size ≤ 60)
include hF
theorem lb_Ps : ∀ (ps : List Prm) (l : Bnd) (u : List ByteArray), LB l → u.length + (bPs ps).length ≤ 1000000000 → LB (renPs F l u ps).2.1
 | [], l, u, h, _ => h
 | p :: ps, l, u, h, hu => by
  simp only [bPs, List.length_append] at hu
  have e := (anew_P l u p (F := F)).len
  simp only [renPs]
  exact lb_Ps ps _ _ (h.cons _ _ (by rw [renP_nm]; exact hF _ _ (by omega))) (by omega)
theorem lb_Ns : ∀ (ns : List ByteArray) (l : Bnd) (u : List ByteArray), LB l → u.length + ns.length ≤ 1000000000 → LB (renNs F l u ns).2.1
 | [], l, u, h, _ => h
 | p :: ps, l, u, h, hu => by
  simp only [List.length_cons] at hu
  simp only [renNs]
  exact lb_Ns ps _ _ (h.cons _ _ (hF _ _ (by omega))) (by simp only [List.length_append, List.length_cons, List.length_nil]; omega)
theorem lb_let {l : Bnd} (u : List ByteArray) (k : Int) (nm : ByteArray) (h : LB l) (hu : u.length ≤ 1000000000) : LB (letN F l u k nm).2.1 ∧ (letN F l u k nm).1.size ≤ nm.size + 60 := by
 have := hF u nm hu
 unfold letN
 split
 · exact ⟨h.cons _ _ this, by show (F.f u nm).size ≤ _; omega⟩
 · exact ⟨h, by show nm.size ≤ _; omega⟩
theorem renNs_w : ∀ (ns : List ByteArray) (l : Bnd) (u : List ByteArray), u.length + ns.length ≤ 1000000000 → txtW (renNs F l u ns).1 ≤ 61 * txtW ns
 | [], l, u, _ => Nat.le_refl _
 | p :: ps, l, u, hu => by
  simp only [List.length_cons] at hu
  have h1 := hF u p (by omega)
  have h2 := renNs_w ps ((p, F.f u p) :: l) (u ++ [F.f u p]) (by simp only [List.length_append, List.length_cons, List.length_nil]; omega)
  simp only [renNs, txtW]; omega
mutual
theorem renY_w : ∀ (t : Ty) (l : Bnd) (u : List ByteArray), LB l → u.length + (bY t).length ≤ 1000000000 → (renY F l u t).1.w ≤ 61 * t.w
 | .mk fn st rf ps rs, l, u, hl, h => by
  have h0 := renT_w hl rf
  cases fn with
  | false => simp only [renY, Bool.false_eq_true, if_false, Ty.w]; omega
  | true =>
   simp only [bY, if_true, List.length_append] at h
   have e := (anew_Ps l u ps (F := F)).len
   have h1 := renPs_w ps l u hl (by omega)
   have h2 := renYs_w rs (renPs F l u ps).2.1 (renPs F l u ps).2.2 (lb_Ps hF ps l u hl (by omega)) (by omega)
   simp only [renY, if_true, Ty.w]; omega
theorem renP_w : ∀ (t : Prm) (l : Bnd) (u : List ByteArray), LB l → u.length + (bP t).length ≤ 1000000000 → (renP F l u t).1.w ≤ 61 * t.w
 | .mk nm ty, l, u, hl, h => by
  simp only [bP, List.length_append, List.length_cons, List.length_nil] at h
  have h1 := hF u nm (by omega)
  have h2 := renY_w ty l (u ++ [F.f u nm]) hl (by simp only [List.length_append, List.length_cons, List.length_nil]; omega)
  simp only [renP, Prm.w]; omega
theorem renPs_w : ∀ (t : List Prm) (l : Bnd) (u : List ByteArray), LB l → u.length + (bPs t).length ≤ 1000000000 → prmW (renPs F l u t).1 ≤ 61 * prmW t
 | [], l, u, hl, h => Nat.le_refl _
 | p :: ps, l, u, hl, h => by
  simp only [bPs, List.length_append] at h
  have e := (anew_P l u p (F := F)).len
  have h1 := renP_w p l u hl (by omega)
  have h2 := renPs_w ps ((p.nmOf, (renP F l u p).1.nmOf) :: l) (renP F l u p).2 (hl.cons _ _ (by rw [renP_nm]; exact hF _ _ (by omega))) (by omega)
  simp only [renPs, prmW]; omega
theorem renYs_w : ∀ (t : List Ty) (l : Bnd) (u : List ByteArray), LB l → u.length + (bYs t).length ≤ 1000000000 → tyW (renYs F l u t).1 ≤ 61 * tyW t
 | [], l, u, hl, h => Nat.le_refl _
 | p :: ps, l, u, hl, h => by
  simp only [bYs, List.length_append] at h
  have e := (anew_Y l u p (F := F)).len
  have h1 := renY_w p l u hl (by omega)
  have h2 := renYs_w ps l (renY F l u p).2 hl (by omega)
  simp only [renYs, tyW]; omega
end
mutual
theorem renE_w : ∀ (t : Exp) (l : Bnd) (u : List ByteArray), LB l → u.length + (bE t).length ≤ 1000000000 → (renE F l u t).1.w ≤ 61 * t.w
 | .mk k nm ty rh am ar bd, l, u, hl, h => by
  simp only [bE, List.length_append] at h
  have e1 := (anew_let l u k nm (F := F)).len
  have h1 := lb_let hF u k nm hl (by omega)
  have e2 := (anew_Ys l (letN F l u k nm).2.2 ty (F := F)).len
  have h2 := renYs_w hF ty l (letN F l u k nm).2.2 hl (by omega)
  have e3 := (anew_Rs l (renYs F l (letN F l u k nm).2.2 ty).2 rh (F := F)).len
  have h3 := renRs_w rh l (renYs F l (letN F l u k nm).2.2 ty).2 hl (by omega)
  have e4 := (anew_Es (letN F l u k nm).2.1 (renRs F l (renYs F l (letN F l u k nm).2.2 ty).2 rh).2 bd (F := F)).len
  have h4 := renEs_w bd (letN F l u k nm).2.1 (renRs F l (renYs F l (letN F l u k nm).2.2 ty).2 rh).2 h1.1 (by omega)
  have h5 := renMs_w ar l (renEs F (letN F l u k nm).2.1 (renRs F l (renYs F l (letN F l u k nm).2.2 ty).2 rh).2 bd).2 hl (by omega)
  have h6 := renA_w hl am
  have h7 := h1.2
  simp only [renE, Exp.w]; omega
theorem renEs_w : ∀ (t : List Exp) (l : Bnd) (u : List ByteArray), LB l → u.length + (bEs t).length ≤ 1000000000 → expW (renEs F l u t).1 ≤ 61 * expW t
 | [], l, u, hl, h => Nat.le_refl _
 | p :: ps, l, u, hl, h => by
  simp only [bEs, List.length_append] at h
  have e := (anew_E l u p (F := F)).len
  have h1 := renE_w p l u hl (by omega)
  have h2 := renEs_w ps l (renE F l u p).2 hl (by omega)
  simp only [renEs, expW]; omega
theorem renR_w : ∀ (t : Rhs) (l : Bnd) (u : List ByteArray), LB l → u.length + (bR t).length ≤ 1000000000 → (renR F l u t).1.w ≤ 61 * t.w
 | .mk k nm ats ps rs bd ts, l, u, hl, h => by
  simp only [bR, List.length_append] at h
  have e1 := (anew_Ps l u ps (F := F)).len
  have b1 := lb_Ps hF ps l u hl (by omega)
  have h1 := renPs_w hF ps l u hl (by omega)
  have e2 := (anew_Ys (renPs F l u ps).2.1 (renPs F l u ps).2.2 rs (F := F)).len
  have h2 := renYs_w hF rs (renPs F l u ps).2.1 (renPs F l u ps).2.2 b1 (by omega)
  have h3 := renEs_w bd (renPs F l u ps).2.1 (renYs F (renPs F l u ps).2.1 (renPs F l u ps).2.2 rs).2 b1 (by omega)
  have h4 := renAs_w hl ats
  have h5 := renTs_w hl ts
  simp only [renR, Rhs.w]; omega
theorem renRs_w : ∀ (t : List Rhs) (l : Bnd) (u : List ByteArray), LB l → u.length + (bRs t).length ≤ 1000000000 → rhsW (renRs F l u t).1 ≤ 61 * rhsW t
 | [], l, u, hl, h => Nat.le_refl _
 | p :: ps, l, u, hl, h => by
  simp only [bRs, List.length_append] at h
  have e := (anew_R l u p (F := F)).len
  have h1 := renR_w p l u hl (by omega)
  have h2 := renRs_w ps l (renR F l u p).2 hl (by omega)
  simp only [renRs, rhsW]; omega
theorem renM_w : ∀ (t : Arm) (l : Bnd) (u : List ByteArray), LB l → u.length + (bM t).length ≤ 1000000000 → (renM F l u t).1.w ≤ 61 * t.w
 | .mk cn ns bd, l, u, hl, h => by
  simp only [bM, List.length_append] at h
  have e1 := (anew_Ns l u ns (F := F)).len
  have b1 := lb_Ns hF ns l u hl (by omega)
  have h1 := renNs_w hF ns l u (by omega)
  have h2 := renEs_w bd (renNs F l u ns).2.1 (renNs F l u ns).2.2 b1 (by omega)
  simp only [renM, Arm.w]; omega
theorem renMs_w : ∀ (t : List Arm) (l : Bnd) (u : List ByteArray), LB l → u.length + (bMs t).length ≤ 1000000000 → armW (renMs F l u t).1 ≤ 61 * armW t
 | [], l, u, hl, h => Nat.le_refl _
 | p :: ps, l, u, hl, h => by
  simp only [bMs, List.length_append] at h
  have e := (anew_M l u p (F := F)).len
  have h1 := renM_w p l u hl (by omega)
  have h2 := renMs_w ps l (renM F l u p).2 hl (by omega)
  simp only [renMs, armW]; omega
end
end
theorem renF_w (u : List ByteArray) : ∀ f : Fun, u.length + (bF f).length ≤ 1000000000 → (renF NFp u f).1.w ≤ 61 * f.w
 | .mk nm ps rs bd, h => by
  have hF : ∀ u s, u.length ≤ 1000000000 → (NFp.f u s).size ≤ 60 := fresh_size
  have hl : LB [] := fun p hp => by cases hp
  simp only [bF, List.length_append] at h
  have e1 := (anew_Ps [] u ps (F := NFp)).len
  have b1 := lb_Ps hF ps [] u hl (by omega)
  have h1 := renPs_w hF ps [] u hl (by omega)
  have e2 := (anew_Y (renPs NFp [] u ps).2.1 (renPs NFp [] u ps).2.2 rs (F := NFp)).len
  have h2 := renY_w hF rs (renPs NFp [] u ps).2.1 (renPs NFp [] u ps).2.2 b1 (by omega)
  have h3 := renE_w hF bd (renPs NFp [] u ps).2.1 (renY NFp (renPs NFp [] u ps).2.1 (renPs NFp [] u ps).2.2 rs).2 b1 (by omega)
  simp only [renF, Fun.w]; omega
end Go.Proofs.YteajcnilihgheaaGreatDoor
