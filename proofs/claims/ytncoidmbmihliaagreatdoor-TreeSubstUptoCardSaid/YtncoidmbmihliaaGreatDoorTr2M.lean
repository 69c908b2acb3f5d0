/-
 EV: the package tree: the maker's methods, as Subst has them (printed by gen_tree.py).
-/
import Derived.Test.YtncoidmbmihliaaGreatDoorTr1M
namespace Go.Proofs.YtncoidmbmihliaaGreatDoor
set_option maxRecDepth 100000
set_option maxHeartbeats 8000000
set_option linter.unusedSimpArgs false
set_option linter.unusedVariables false
open Go.RowKit
variable {S : Sp} {N : Nat}
def Atm.toT : Atm → Trm
 | .mk k nm ng dg tr => if k = 1 then .mk 1 nm false [] [] else if k = 2 then .mk 2 ⟨#[]⟩ ng dg [] else if k = 3 then (if tr then .mk 3 ⟨#[]⟩ false [] [] else .mk 4 ⟨#[]⟩ false [] []) else .mk 0 ⟨#[]⟩ false [] []
theorem Atm.toT_eq {k : Int} {nm : ByteArray} {ng : Bool} {dg : List Int} {tr : Bool} : (Atm.mk k nm ng dg tr).toT = if k = 1 then .mk 1 nm false [] [] else if k = 2 then .mk 2 ⟨#[]⟩ ng dg [] else if k = 3 then (if tr then .mk 3 ⟨#[]⟩ false [] [] else .mk 4 ⟨#[]⟩ false [] []) else .mk 0 ⟨#[]⟩ false [] [] := rfl
theorem Atm.toT_cnt (a : Atm) : a.toT.cnt = 1 := by
 obtain ⟨k, nm, ng, dg, tr⟩ := a
 rw [Atm.toT_eq]
 repeat' split
 all_goals rfl
theorem Atm.toT_n (a : Atm) : a.toT.n ≤ a.n := by
 obtain ⟨k, nm, ng, dg, tr⟩ := a
 rw [Atm.toT_eq]
 repeat' split
 all_goals simp [Trm.n, Atm.n, trmN]
structure MkE where
 mid : Nat
 nid : Nat
 nmid : Nat
 aid : Nat
 lid : Nat
 tid : Nat
 names : List ByteArray
 atoms : List Atm
abbrev MkE.a2 (m : MkE) : A2 := ⟨m.nid, m.nmid, m.aid, m.names, m.atoms⟩
abbrev MkE.ts (m : MkE) : List Trm := (m.atoms.take (min m.names.length m.atoms.length)).map Atm.toT
abbrev MkE.e (m : MkE) : EnvT := ⟨m.names, m.ts, m.tid⟩
abbrev MkE.a3 (m : MkE) : A3 := ⟨m.nmid, m.lid, m.e⟩
abbrev MkE.fA (m : MkE) : AV := .fn (.func 25) [] [.ptr m.nid 0, .ptr m.nmid 0, .ptr m.aid 0]
abbrev MkE.fT (m : MkE) : AV := .fn (.func 27) [] [.ptr m.nmid 0, .ptr m.lid 0]
def MkE.At (m : MkE) (σ : Sto) : Prop := σ[m.mid]? = some (.cells [m.fA, m.fT] 76) ∧ m.a2.At σ ∧ m.a3.At σ
theorem MkE.At.app {m : MkE} {σ : Sto} (h : m.At σ) (l : Sto) : m.At (σ ++ l) := ⟨(st_old (List.getElem?_eq_some_iff.1 h.1).1).trans h.1, h.2.1.app l, h.2.2.app l⟩
theorem MkE.uniq {a b : MkE} {σ : Sto} (h : a.mid = b.mid) (ha : a.At σ) (hb : b.At σ) : a = b := by
 have e := ha.1.symm.trans (h ▸ hb.1)
 simp only [Option.some.injEq, AObj.cells.injEq, List.cons.injEq, AV.fn.injEq, AV.ptr.injEq, and_true, true_and] at e
 obtain ⟨⟨e1, e2, e3⟩, e4, e5⟩ := e
 have f1 := A2.uniq e1 e2 e3 ha.2.1 hb.2.1
 have f2 := A3.uniq e4 e5 ha.2.2 hb.2.2
 obtain ⟨a1, a2, a3, a4, a5, a6, a7, a8⟩ := a; obtain ⟨b1, b2, b3, b4, b5, b6, b7, b8⟩ := b
 simp only [MkE.a2, A2.mk.injEq, MkE.a3, MkE.e, A3.mk.injEq, EnvT.mk.injEq] at f1 f2 h
 obtain ⟨rfl, rfl, rfl, rfl, rfl⟩ := f1
 obtain ⟨_, rfl, _, _, rfl⟩ := f2
 subst h; rfl
abbrev MkE.W (m : MkE) : Nat := atmN m.atoms + trmN m.ts
theorem put_cnt {e : EnvT} (h : ∀ x ∈ e.ts, x.cnt = 1) (n : Nat) : (∀ t : Trm, t.n ≤ n → (e.put t).cnt ≤ t.cnt) ∧ (∀ l : List Trm, trmN l ≤ n → trmCs (e.puts l) ≤ trmCs l) := by
 induction n with
 | zero =>
  refine ⟨fun t ht => absurd t.n_pos (by omega), fun l hl => ?_⟩
  cases l with
  | nil => exact Nat.le_refl _
  | cons t l => have := t.n_pos; simp only [trmN] at hl; omega
 | succ n ih =>
  have h1 : ∀ t : Trm, t.n ≤ n + 1 → (e.put t).cnt ≤ t.cnt := by
   intro t ht
   obtain ⟨k, nm, ng, dg, ks⟩ := t
   rw [EnvT.put]
   split
   · rename_i x hx
     rw [h x (EnvT.find_mem hx)]; simp only [Trm.cnt]; omega
   · simp only [Trm.n] at ht
     have := ih.2 ks (by omega)
     simp only [Trm.cnt]; omega
  refine ⟨h1, fun l => ?_⟩
  induction l with
  | nil => exact fun _ => Nat.le_refl _
  | cons t l ihl =>
   intro hl
   simp only [trmN] at hl
   have := h1 t (by omega)
   have := ihl (by omega)
   simp only [EnvT.puts, trmCs]; omega
theorem MkE.cnt (m : MkE) (t : Trm) : (m.e.put t).cnt ≤ t.cnt := (put_cnt (fun x hx => by obtain ⟨a, _, rfl⟩ := List.mem_map.1 hx; exact a.toT_cnt) _).1 t (Nat.le_refl _)
mutual
def MkE.putY (m : MkE) : Ty → Ty
 | .mk fn st rf ps rs => .mk fn st (m.e.put rf) (m.putPs ps) (m.putYs rs)
def MkE.putP (m : MkE) : Prm → Prm
 | .mk nm ty => .mk nm (m.putY ty)
def MkE.putPs (m : MkE) : List Prm → List Prm
 | [] => []
 | x :: l => m.putP x :: m.putPs l
def MkE.putYs (m : MkE) : List Ty → List Ty
 | [] => []
 | x :: l => m.putY x :: m.putYs l
end
def MkE.putAs (m : MkE) (l : List Atm) : List Atm := l.map m.a2.put
mutual
def MkE.putE (m : MkE) : Exp → Exp
 | .mk k nm ty rh am ar bd => .mk k nm (m.putYs ty) (m.putRs rh) (m.a2.put am) (m.putMs ar) (m.putEs bd)
def MkE.putR (m : MkE) : Rhs → Rhs
 | .mk k nm ats ps rs bd ts => .mk k nm (m.putAs ats) (m.putPs ps) (m.putYs rs) (m.putEs bd) (m.e.puts ts)
def MkE.putM (m : MkE) : Arm → Arm
 | .mk cn ns bd => .mk cn ns (m.putEs bd)
def MkE.putEs (m : MkE) : List Exp → List Exp
 | [] => []
 | x :: l => m.putE x :: m.putEs l
def MkE.putRs (m : MkE) : List Rhs → List Rhs
 | [] => []
 | x :: l => m.putR x :: m.putRs l
def MkE.putMs (m : MkE) : List Arm → List Arm
 | [] => []
 | x :: l => m.putM x :: m.putMs l
end
theorem map_take {α β : Type} {f : α → β} {g : List α → List β} (h0 : g [] = []) (hc : ∀ x l, g (x :: l) = f x :: g l) {l : List α} {i : Nat} (h : i < l.length) : g (l.take (i + 1)) = g (l.take i) ++ [f l[i]] := by
 induction l generalizing i with
 | nil => simp at h
 | cons t l ih =>
  cases i with
  | zero => simp [h0, hc]
  | succ i => simp only [List.take_succ_cons, hc, List.cons_append, List.getElem_cons_succ]; rw [ih (by simpa using h)]
theorem map_length {α β : Type} {f : α → β} {g : List α → List β} (h0 : g [] = []) (hc : ∀ x l, g (x :: l) = f x :: g l) (l : List α) : (g l).length = l.length := by
 induction l with
 | nil => rw [h0]; rfl
 | cons t l ih => rw [hc, List.length_cons, List.length_cons, ih]
-- how many parts of terms a thing has
abbrev Atm.c (_ : Atm) : Nat := 0
abbrev atmC (_ : List Atm) : Nat := 0
mutual
def Ty.c : Ty → Nat
 | .mk _ _ (.mk _ _ _ _ ks) ps rs => 1 + trmCs ks + prmC ps + tyC rs
def tyC : List Ty → Nat
 | [] => 0
 | x :: l => x.c + tyC l
def Prm.c : Prm → Nat
 | .mk _ (.mk _ _ (.mk _ _ _ _ ks) ps rs) => 1 + trmCs ks + prmC ps + tyC rs
def prmC : List Prm → Nat
 | [] => 0
 | x :: l => x.c + prmC l
end
mutual
def Exp.c : Exp → Nat
 | .mk _ _ ty rh _ ar bd => tyC ty + rhsC rh + armC ar + expC bd
def expC : List Exp → Nat
 | [] => 0
 | x :: l => x.c + expC l
def Rhs.c : Rhs → Nat
 | .mk _ _ _ ps rs bd ts => prmC ps + tyC rs + expC bd + trmCs ts
def rhsC : List Rhs → Nat
 | [] => 0
 | x :: l => x.c + rhsC l
def Arm.c : Arm → Nat
 | .mk _ _ bd => expC bd
def armC : List Arm → Nat
 | [] => 0
 | x :: l => x.c + armC l
end
theorem sum_get {α : Type} {c : α → Nat} {s : List α → Nat} (hc : ∀ x l, s (x :: l) = c x + s l) : ∀ {l : List α} {i : Nat} (h : i < l.length), c l[i] ≤ s l
 | [], _, h => by simp at h
 | x :: l, 0, _ => by rw [hc]; exact Nat.le_add_right _ _
 | x :: l, i + 1, h => by rw [hc]; exact Nat.le_trans (sum_get hc (l := l) (i := i) (by simpa using h)) (Nat.le_add_left _ _)
abbrev mkF {α : Type} (A : MkE → α → List AV) (R : MkE → α → AV) (n c : α → Nat) (r : Nat) : FS := ⟨MkE × α, fun p => A p.1 p.2, fun p σ => p.1.At σ ∧ n p.2 ≤ 100000000 ∧ c p.2 ≤ 20000, fun p σ => (.ret (R p.1 p.2), σ), fun p => 16 * (p.1.W + n p.2) + r⟩
theorem call_mk {P : Program} {N r : Nat} {f : FuncId} {α : Type} {A : MkE → α → List AV} {R : MkE → α → AV} {n c : α → Nat} {args : List AV} {σ : Sto} {Q : ARes → Sto → Prop} (m : MkE) (x : α) (h : S.sp f = some (mkF A R n c r)) (hi : ∀ m m' : MkE, ∀ x y : α, ∀ σ, A m x = A m' y → m.At σ → m'.At σ → R m x = R m' y) (ha : nrmR args = A m x) (hp : m.At σ) (hb : n x ≤ 100000000 ∧ c x ≤ 20000) (hN : 16 * (m.W + n x) + r < N)
    (hq : accW (S.E N) f args σ (.ret (R m x)) σ = .lcalls (fun _ => true) → Q (.ret (R m x)) σ) : CallW P (S.E N) f args σ Q :=
 have hu : FS.uniq (mkF A R n c r) := fun a b σ e h1 h2 => by show (_, _) = (_, _); rw [hi _ _ _ _ σ e h1.1 h2.1]
 call_sp (s := mkF A R n c r) (m, x) h hu ha ⟨hp, hb⟩ hN (hq (by have := acc_sp (σ := σ) (s := mkF A R n c r) (m, x) h hu ha hN rfl (fun l => ⟨⟨hp.app l, hb⟩, rfl⟩); rw [kept_self] at this; exact this))
abbrev MkOk (S : Sp) (N : Nat) (f : FuncId) {α : Type} (A : MkE → α → List AV) (R : MkE → α → AV) (n c : α → Nat) (r : Nat) : Prop := ∀ (m : MkE) (a : α) (σ : Sto), m.At σ → n a ≤ 100000000 ∧ c a ≤ 20000 → 16 * (m.W + n a) + r ≤ N → JC Tryz.prog (S.E N) f (A m a) σ fun r σ' => Fgt σ r σ' (.ret (R m a)) σ
theorem mkTy_inj (m m' : MkE) (x y : Ty) (σ : Sto) (e : [AV.ptr m.mid 0, .agg x.cs] = [.ptr m'.mid 0, .agg y.cs]) (h1 : m.At σ) (h2 : m'.At σ) : AV.agg (m.putY x).cs = .agg (m'.putY y).cs := by
 simp only [List.cons.injEq, AV.ptr.injEq, AV.agg.injEq, and_true] at e
 cases MkE.uniq e.1 h1 h2
 rw [Ty.inj e.2]
theorem mkPrm_inj (m m' : MkE) (x y : Prm) (σ : Sto) (e : [AV.ptr m.mid 0, .agg x.cs] = [.ptr m'.mid 0, .agg y.cs]) (h1 : m.At σ) (h2 : m'.At σ) : AV.agg (m.putP x).cs = .agg (m'.putP y).cs := by
 simp only [List.cons.injEq, AV.ptr.injEq, AV.agg.injEq, and_true] at e
 cases MkE.uniq e.1 h1 h2
 rw [Prm.inj e.2]
theorem mkExp_inj (m m' : MkE) (x y : Exp) (σ : Sto) (e : [AV.ptr m.mid 0, .agg x.cs] = [.ptr m'.mid 0, .agg y.cs]) (h1 : m.At σ) (h2 : m'.At σ) : AV.agg (m.putE x).cs = .agg (m'.putE y).cs := by
 simp only [List.cons.injEq, AV.ptr.injEq, AV.agg.injEq, and_true] at e
 cases MkE.uniq e.1 h1 h2
 rw [Exp.inj e.2]
theorem mkRhs_inj (m m' : MkE) (x y : Rhs) (σ : Sto) (e : [AV.ptr m.mid 0, .agg x.cs] = [.ptr m'.mid 0, .agg y.cs]) (h1 : m.At σ) (h2 : m'.At σ) : AV.agg (m.putR x).cs = .agg (m'.putR y).cs := by
 simp only [List.cons.injEq, AV.ptr.injEq, AV.agg.injEq, and_true] at e
 cases MkE.uniq e.1 h1 h2
 rw [Rhs.inj e.2]
theorem mkArm_inj (m m' : MkE) (x y : Arm) (σ : Sto) (e : [AV.ptr m.mid 0, .agg x.cs] = [.ptr m'.mid 0, .agg y.cs]) (h1 : m.At σ) (h2 : m'.At σ) : AV.agg (m.putM x).cs = .agg (m'.putM y).cs := by
 simp only [List.cons.injEq, AV.ptr.injEq, AV.agg.injEq, and_true] at e
 cases MkE.uniq e.1 h1 h2
 rw [Arm.inj e.2]
theorem eachTrm_inj (m m' : MkE) (x y : List Trm) (σ : Sto) (e : [AV.sl (trmR x) .no, m.fT] = [.sl (trmR y) .no, m'.fT]) (h1 : m.At σ) (h2 : m'.At σ) : AV.sl (trmR (m.e.puts x)) .no = .sl (trmR (m'.e.puts y)) .no := by
 simp only [MkE.fA, MkE.fT, List.cons.injEq, AV.ptr.injEq, AV.sl.injEq, AV.fn.injEq, and_true, true_and] at e
 have hA := A3.uniq e.2.1 e.2.2 h1.2.2 h2.2.2
 have e1 := trmR_inj e.1
 subst e1
 show AV.sl (trmR (m.a3.e.puts x)) .no = AV.sl (trmR (m'.a3.e.puts x)) .no
 rw [hA]
theorem eachTy_inj (m m' : MkE) (x y : List Ty) (σ : Sto) (e : [AV.sl (tyR x) .no, .fn (.func 61) [.ptr m.mid 0] []] = [.sl (tyR y) .no, .fn (.func 61) [.ptr m'.mid 0] []]) (h1 : m.At σ) (h2 : m'.At σ) : AV.sl (tyR (m.putYs x)) .no = .sl (tyR (m'.putYs y)) .no := by
 simp only [MkE.fA, MkE.fT, List.cons.injEq, AV.ptr.injEq, AV.sl.injEq, AV.fn.injEq, and_true, true_and] at e
 cases MkE.uniq e.2 h1 h2
 rw [tyR_inj e.1]
theorem eachPrm_inj (m m' : MkE) (x y : List Prm) (σ : Sto) (e : [AV.sl (prmR x) .no, .fn (.func 103) [.ptr m.mid 0] []] = [.sl (prmR y) .no, .fn (.func 103) [.ptr m'.mid 0] []]) (h1 : m.At σ) (h2 : m'.At σ) : AV.sl (prmR (m.putPs x)) .no = .sl (prmR (m'.putPs y)) .no := by
 simp only [MkE.fA, MkE.fT, List.cons.injEq, AV.ptr.injEq, AV.sl.injEq, AV.fn.injEq, and_true, true_and] at e
 cases MkE.uniq e.2 h1 h2
 rw [prmR_inj e.1]
theorem eachAtm_inj (m m' : MkE) (x y : List Atm) (σ : Sto) (e : [AV.sl (atmR x) .no, m.fA] = [.sl (atmR y) .no, m'.fA]) (h1 : m.At σ) (h2 : m'.At σ) : AV.sl (atmR (m.putAs x)) .no = .sl (atmR (m'.putAs y)) .no := by
 simp only [MkE.fA, MkE.fT, List.cons.injEq, AV.ptr.injEq, AV.sl.injEq, AV.fn.injEq, and_true, true_and] at e
 have hA := A2.uniq e.2.1 e.2.2.1 e.2.2.2 h1.2.1 h2.2.1
 have e1 := atmR_inj e.1
 subst e1
 show AV.sl (atmR (x.map m.a2.put)) .no = AV.sl (atmR (x.map m'.a2.put)) .no
 rw [hA]
theorem eachExp_inj (m m' : MkE) (x y : List Exp) (σ : Sto) (e : [AV.sl (expR x) .no, .fn (.func 29) [.ptr m.mid 0] []] = [.sl (expR y) .no, .fn (.func 29) [.ptr m'.mid 0] []]) (h1 : m.At σ) (h2 : m'.At σ) : AV.sl (expR (m.putEs x)) .no = .sl (expR (m'.putEs y)) .no := by
 simp only [MkE.fA, MkE.fT, List.cons.injEq, AV.ptr.injEq, AV.sl.injEq, AV.fn.injEq, and_true, true_and] at e
 cases MkE.uniq e.2 h1 h2
 rw [expR_inj e.1]
theorem eachRhs_inj (m m' : MkE) (x y : List Rhs) (σ : Sto) (e : [AV.sl (rhsR x) .no, .fn (.func 63) [.ptr m.mid 0] []] = [.sl (rhsR y) .no, .fn (.func 63) [.ptr m'.mid 0] []]) (h1 : m.At σ) (h2 : m'.At σ) : AV.sl (rhsR (m.putRs x)) .no = .sl (rhsR (m'.putRs y)) .no := by
 simp only [MkE.fA, MkE.fT, List.cons.injEq, AV.ptr.injEq, AV.sl.injEq, AV.fn.injEq, and_true, true_and] at e
 cases MkE.uniq e.2 h1 h2
 rw [rhsR_inj e.1]
theorem eachArm_inj (m m' : MkE) (x y : List Arm) (σ : Sto) (e : [AV.sl (armR x) .no, .fn (.func 66) [.ptr m.mid 0] []] = [.sl (armR y) .no, .fn (.func 66) [.ptr m'.mid 0] []]) (h1 : m.At σ) (h2 : m'.At σ) : AV.sl (armR (m.putMs x)) .no = .sl (armR (m'.putMs y)) .no := by
 simp only [MkE.fA, MkE.fT, List.cons.injEq, AV.ptr.injEq, AV.sl.injEq, AV.fn.injEq, and_true, true_and] at e
 cases MkE.uniq e.2 h1 h2
 rw [armR_inj e.1]
theorem eachTrm_w (hc : S.code = codeP Tryz.prog) (hm : S.ms 105 = []) (h1 : S.sp 27 = some sub3F) : MkOk S N 105 (fun m l => [.sl (trmR l) .no, m.fT]) (fun m l => .sl (trmR (m.e.puts l)) .no) trmN trmCs 10 := by
 intro m a σ hp hl hN
 refine JC.startF (fn := Tryz.f105) (codeOf hc Tryz.func105 rfl (by kernel_rfl)) rfl hm rfl (zL rfl) fun tm => ?_
 refine CW.hide fun R0 hR0 => ?_
 have hlen : a.length ≤ trmN a := trmN_len a
 have hW : m.W = atmN m.atoms + trmN m.ts := rfl
 have hpk := fun i (h : i < a.length) => map_take (f := m.e.put) (g := m.e.puts) rfl (fun _ _ => rfl) h
 have hpl := map_length (f := m.e.put) (g := m.e.puts) rfl (fun _ _ => rfl)
 refine CW.seqK fun K hK => CW.region ?_
 simp (maxDischargeDepth := 16) [zY]
 refine hK _ _ ?_; clear hK K
 refine CW.seqK fun K hK => CW.region ?_
 simp (maxDischargeDepth := 16) [zY]
 refine hK _ _ ?_; clear hK K
 refine CW.seqK fun K hK => ?_
 refine CW.seqK fun K hK => CW.region ?_
 simp (maxDischargeDepth := 16) [zY]
 refine hK _ _ ?_; clear hK K
 refine CW.block (CW.hide fun R hR => ?_)
 refine CW.loopF (fun p : Nat × Tok × List AObj => [(1, m.fT), (5, .sl (trmR (m.e.puts (a.take p.1))) p.2.1), (8, .sl (trmR a) .no), (9, intV a.length), (10, intV p.1)]) (fun p => σ ++ p.2.2) (fun p => p.1 ≤ a.length ∧ Apd σ 54 (p.1 * 5) p.2.1 p.2.2) (fun p => a.length - p.1) (0, .full, []) (by simp [sub, lk, EnvT.puts, trmR]) (by simp) ⟨by simp, by simpa using Apd.nil σ _ []⟩ ?_
 rintro ⟨i, tok, g⟩ tm ⟨hi, hA⟩
 dsimp only at hi hA ⊢
 refine CW.hide fun R2 hR2 => CW.seqK fun K4 hK4 => CW.region ?_
 rcases Nat.lt_or_ge i a.length with hlt | hge
 · have ha := trmR_get hlt
   have hg := trmN_get hlt
   have hg2 := sum_get (c := Trm.cnt) (s := trmCs) (fun _ _ => rfl) hlt
   have hti : (m.e.puts (a.take i)).length = i := by rw [hpl]; exact List.length_take_of_le hi
   have hpc := hp.app (g ++ [.cells a[i].cs 54])
   obtain ⟨tok', g', acc, hA', hap⟩ := apd (P := Tryz.prog) (M := []) (t := 52) (e := 54) (k := 4) (by_ := 80) (trmR (m.e.puts (a.take i))) [(m.e.put a[i]).cs] (by rw [trmR_len, hti]; exact hA.push [.cells a[i].cs 54]) (by kernel_rfl) (by kernel_rfl) (by kernel_rfl) (by kernel_rfl) (trmR_hd _) (by simp [Trm.len]) (by simp) (by simp only [trmR_len, hti, List.length_singleton]; omega) (by simp only [trmR_len, hti, List.length_singleton]; omega)
   simp (maxDischargeDepth := 16) [zY, hlt]
   refine hK4 _ _ ?_
   refine CW.seqK fun K3 hK3 => ?_
   refine CW.cond (t := true) (by simp [zT, zF, lk]) ?_
   refine CW.skip (hK3 _ _ ?_)
   refine CW.seqK fun K5 hK5 => CW.block ?_
   refine CW.seqK fun K hK => CW.region ?_
   simp (maxDischargeDepth := 16) [zY, ha, Trm.len, Trm.tk, Trm.put, set_last]
   refine hK _ _ ?_; clear hK K
   refine CW.region ?_
   simp (maxDischargeDepth := 16) [zY, Trm.len, Trm.tk]
   refine call_sp (s := sub3F) (m.a3, a[i]) h1 sub3F_uniq (by simp only [nrmR, AV.nrm, Trm.nrm]) ⟨hpc.2.2, by show a[i].n ≤ 1000000000; omega, by have := m.cnt a[i]; show (m.e.put a[i]).cnt ≤ 20000; omega⟩ (by show 16 * (trmN m.ts + a[i].n) + 9 < N; omega) ?_
   simp (maxDischargeDepth := 16) [zY, Trm.len, Trm.tk, Trm.put, hap]
   refine hK5 _ _ ?_
   refine CW.region ?_
   simp (maxDischargeDepth := 16) [zY, wrap_succ (show i ≤ 1000000000000 by omega)]
   refine hR2 _ _ _ ⟨(i + 1, tok', g'), _, _, rfl, ?_, rfl, ⟨hlt, ?_⟩, show a.length - (i + 1) < a.length - i by omega⟩
   · have e : trmR (m.e.puts (a.take (i + 1))) = trmR (m.e.puts (a.take i)) ++ [(m.e.put a[i]).cs] := by rw [hpk i hlt, trmR_app]; rfl
     simp [sub, lk, e, stripRows, Trm.stp]
   · simpa only [trmR_len, hti, List.length_singleton] using hA'
 · simp (maxDischargeDepth := 16) [zY, Nat.not_lt.2 hge]
   refine hK4 _ _ ?_
   refine CW.seqK fun K3 hK3 => ?_
   refine CW.cond (t := false) (by simp [zT, zF, lk]) ?_
   refine CW.exit (hR2 _ _ _ (hR _ _ _ ?_))
   simp only [outOf, if_true, andThen]
   refine hK _ _ ?_
   rw [List.take_of_length_le hge]
   refine CW.seqK fun K hK => CW.region ?_
   simp (maxDischargeDepth := 16) [zY]
   refine hK _ _ ?_; clear hK K
   refine CW.ret (hR0 _ _ _ ⟨.sl (trmR (m.e.puts a)) tok, by simp [zA, omap, zB, zF, lk], done (by simp [AV.pln, trmR_pln]) (by simp [AV.nrm, trmR_nrm])⟩)
theorem eachTy_w (hc : S.code = codeP Tryz.prog) (hm : S.ms 60 = []) (h1 : S.sp 61 = some (mkF (fun m t => [.ptr m.mid 0, .agg t.cs]) (fun m t => .agg (m.putY t).cs) Ty.n Ty.c 11)) : MkOk S N 60 (fun m l => [.sl (tyR l) .no, .fn (.func 61) [.ptr m.mid 0] []]) (fun m l => .sl (tyR (m.putYs l)) .no) tyN tyC 12 := by
 intro m a σ hp hl hN
 refine JC.startF (fn := Tryz.f60) (codeOf hc Tryz.func60 rfl (by kernel_rfl)) rfl hm rfl (zL rfl) fun tm => ?_
 refine CW.hide fun R0 hR0 => ?_
 have hlen : a.length ≤ tyN a := tyN_len a
 have hW : m.W = atmN m.atoms + trmN m.ts := rfl
 have hpk := fun i (h : i < a.length) => map_take (f := m.putY) (g := m.putYs) rfl (fun _ _ => rfl) h
 have hpl := map_length (f := m.putY) (g := m.putYs) rfl (fun _ _ => rfl)
 refine CW.seqK fun K hK => CW.region ?_
 simp (maxDischargeDepth := 16) [zY]
 refine hK _ _ ?_; clear hK K
 refine CW.seqK fun K hK => CW.region ?_
 simp (maxDischargeDepth := 16) [zY]
 refine hK _ _ ?_; clear hK K
 refine CW.seqK fun K hK => ?_
 refine CW.seqK fun K hK => CW.region ?_
 simp (maxDischargeDepth := 16) [zY]
 refine hK _ _ ?_; clear hK K
 refine CW.block (CW.hide fun R hR => ?_)
 refine CW.loopF (fun p : Nat × Tok × List AObj => [(1, .fn (.func 61) [.ptr m.mid 0] []), (5, .sl (tyR (m.putYs (a.take p.1))) p.2.1), (8, .sl (tyR a) .no), (9, intV a.length), (10, intV p.1)]) (fun p => σ ++ p.2.2) (fun p => p.1 ≤ a.length ∧ Apd σ 57 (p.1 * 9) p.2.1 p.2.2) (fun p => a.length - p.1) (0, .full, []) (by simp [sub, lk, MkE.putYs, tyR]) (by simp) ⟨by simp, by simpa using Apd.nil σ _ []⟩ ?_
 rintro ⟨i, tok, g⟩ tm ⟨hi, hA⟩
 dsimp only at hi hA ⊢
 refine CW.hide fun R2 hR2 => CW.seqK fun K4 hK4 => CW.region ?_
 rcases Nat.lt_or_ge i a.length with hlt | hge
 · have ha := tyR_get hlt
   have hg := tyN_get hlt
   have hg2 := sum_get (c := Ty.c) (s := tyC) (fun _ _ => rfl) hlt
   have hti : (m.putYs (a.take i)).length = i := by rw [hpl]; exact List.length_take_of_le hi
   have hpc := hp.app (g ++ [.cells a[i].cs 57])
   obtain ⟨tok', g', acc, hA', hap⟩ := apd (P := Tryz.prog) (M := []) (t := 23) (e := 57) (k := 8) (by_ := 152) (tyR (m.putYs (a.take i))) [(m.putY a[i]).cs] (by rw [tyR_len, hti]; exact hA.push [.cells a[i].cs 57]) (by kernel_rfl) (by kernel_rfl) (by kernel_rfl) (by kernel_rfl) (tyR_hd _) (by simp [Ty.len]) (by simp) (by simp only [tyR_len, hti, List.length_singleton]; omega) (by simp only [tyR_len, hti, List.length_singleton]; omega)
   simp (maxDischargeDepth := 16) [zY, hlt]
   refine hK4 _ _ ?_
   refine CW.seqK fun K3 hK3 => ?_
   refine CW.cond (t := true) (by simp [zT, zF, lk]) ?_
   refine CW.skip (hK3 _ _ ?_)
   refine CW.seqK fun K5 hK5 => CW.block ?_
   refine CW.seqK fun K hK => CW.region ?_
   simp (maxDischargeDepth := 16) [zY, ha, Ty.len, Ty.tk, Ty.put, set_last]
   refine hK _ _ ?_; clear hK K
   refine CW.region ?_
   simp (maxDischargeDepth := 16) [zY, Ty.len, Ty.tk]
   refine call_mk m a[i] h1 mkTy_inj (by simp only [nrmR, AV.nrm, Ty.nrm]) hpc (by omega) (by omega) fun _ => ?_
   simp (maxDischargeDepth := 16) [zY, Ty.len, Ty.tk, Ty.put, hap]
   refine hK5 _ _ ?_
   refine CW.region ?_
   simp (maxDischargeDepth := 16) [zY, wrap_succ (show i ≤ 1000000000000 by omega)]
   refine hR2 _ _ _ ⟨(i + 1, tok', g'), _, _, rfl, ?_, rfl, ⟨hlt, ?_⟩, show a.length - (i + 1) < a.length - i by omega⟩
   · have e : tyR (m.putYs (a.take (i + 1))) = tyR (m.putYs (a.take i)) ++ [(m.putY a[i]).cs] := by rw [hpk i hlt, tyR_app]; rfl
     simp [sub, lk, e, stripRows, Ty.stp]
   · simpa only [tyR_len, hti, List.length_singleton] using hA'
 · simp (maxDischargeDepth := 16) [zY, Nat.not_lt.2 hge]
   refine hK4 _ _ ?_
   refine CW.seqK fun K3 hK3 => ?_
   refine CW.cond (t := false) (by simp [zT, zF, lk]) ?_
   refine CW.exit (hR2 _ _ _ (hR _ _ _ ?_))
   simp only [outOf, if_true, andThen]
   refine hK _ _ ?_
   rw [List.take_of_length_le hge]
   refine CW.seqK fun K hK => CW.region ?_
   simp (maxDischargeDepth := 16) [zY]
   refine hK _ _ ?_; clear hK K
   refine CW.ret (hR0 _ _ _ ⟨.sl (tyR (m.putYs a)) tok, by simp [zA, omap, zB, zF, lk], done (by simp [AV.pln, tyR_pln]) (by simp [AV.nrm, tyR_nrm])⟩)
theorem eachPrm_w (hc : S.code = codeP Tryz.prog) (hm : S.ms 102 = []) (h1 : S.sp 103 = some (mkF (fun m t => [.ptr m.mid 0, .agg t.cs]) (fun m t => .agg (m.putP t).cs) Prm.n Prm.c 12)) : MkOk S N 102 (fun m l => [.sl (prmR l) .no, .fn (.func 103) [.ptr m.mid 0] []]) (fun m l => .sl (prmR (m.putPs l)) .no) prmN prmC 13 := by
 intro m a σ hp hl hN
 refine JC.startF (fn := Tryz.f102) (codeOf hc Tryz.func102 rfl (by kernel_rfl)) rfl hm rfl (zL rfl) fun tm => ?_
 refine CW.hide fun R0 hR0 => ?_
 have hlen : a.length ≤ prmN a := prmN_len a
 have hW : m.W = atmN m.atoms + trmN m.ts := rfl
 have hpk := fun i (h : i < a.length) => map_take (f := m.putP) (g := m.putPs) rfl (fun _ _ => rfl) h
 have hpl := map_length (f := m.putP) (g := m.putPs) rfl (fun _ _ => rfl)
 refine CW.seqK fun K hK => CW.region ?_
 simp (maxDischargeDepth := 16) [zY]
 refine hK _ _ ?_; clear hK K
 refine CW.seqK fun K hK => CW.region ?_
 simp (maxDischargeDepth := 16) [zY]
 refine hK _ _ ?_; clear hK K
 refine CW.seqK fun K hK => ?_
 refine CW.seqK fun K hK => CW.region ?_
 simp (maxDischargeDepth := 16) [zY]
 refine hK _ _ ?_; clear hK K
 refine CW.block (CW.hide fun R hR => ?_)
 refine CW.loopF (fun p : Nat × Tok × List AObj => [(1, .fn (.func 103) [.ptr m.mid 0] []), (5, .sl (prmR (m.putPs (a.take p.1))) p.2.1), (8, .sl (prmR a) .no), (9, intV a.length), (10, intV p.1)]) (fun p => σ ++ p.2.2) (fun p => p.1 ≤ a.length ∧ Apd σ 124 (p.1 * 10) p.2.1 p.2.2) (fun p => a.length - p.1) (0, .full, []) (by simp [sub, lk, MkE.putPs, prmR]) (by simp) ⟨by simp, by simpa using Apd.nil σ _ []⟩ ?_
 rintro ⟨i, tok, g⟩ tm ⟨hi, hA⟩
 dsimp only at hi hA ⊢
 refine CW.hide fun R2 hR2 => CW.seqK fun K4 hK4 => CW.region ?_
 rcases Nat.lt_or_ge i a.length with hlt | hge
 · have ha := prmR_get hlt
   have hg := prmN_get hlt
   have hg2 := sum_get (c := Prm.c) (s := prmC) (fun _ _ => rfl) hlt
   have hti : (m.putPs (a.take i)).length = i := by rw [hpl]; exact List.length_take_of_le hi
   have hpc := hp.app (g ++ [.cells a[i].cs 124])
   obtain ⟨tok', g', acc, hA', hap⟩ := apd (P := Tryz.prog) (M := []) (t := 55) (e := 124) (k := 9) (by_ := 168) (prmR (m.putPs (a.take i))) [(m.putP a[i]).cs] (by rw [prmR_len, hti]; exact hA.push [.cells a[i].cs 124]) (by kernel_rfl) (by kernel_rfl) (by kernel_rfl) (by kernel_rfl) (prmR_hd _) (by simp [Prm.len]) (by simp) (by simp only [prmR_len, hti, List.length_singleton]; omega) (by simp only [prmR_len, hti, List.length_singleton]; omega)
   simp (maxDischargeDepth := 16) [zY, hlt]
   refine hK4 _ _ ?_
   refine CW.seqK fun K3 hK3 => ?_
   refine CW.cond (t := true) (by simp [zT, zF, lk]) ?_
   refine CW.skip (hK3 _ _ ?_)
   refine CW.seqK fun K5 hK5 => CW.block ?_
   refine CW.seqK fun K hK => CW.region ?_
   simp (maxDischargeDepth := 16) [zY, ha, Prm.len, Prm.tk, Prm.put, set_last]
   refine hK _ _ ?_; clear hK K
   refine CW.region ?_
   simp (maxDischargeDepth := 16) [zY, Prm.len, Prm.tk]
   refine call_mk m a[i] h1 mkPrm_inj (by simp only [nrmR, AV.nrm, Prm.nrm]) hpc (by omega) (by omega) fun _ => ?_
   simp (maxDischargeDepth := 16) [zY, Prm.len, Prm.tk, Prm.put, hap]
   refine hK5 _ _ ?_
   refine CW.region ?_
   simp (maxDischargeDepth := 16) [zY, wrap_succ (show i ≤ 1000000000000 by omega)]
   refine hR2 _ _ _ ⟨(i + 1, tok', g'), _, _, rfl, ?_, rfl, ⟨hlt, ?_⟩, show a.length - (i + 1) < a.length - i by omega⟩
   · have e : prmR (m.putPs (a.take (i + 1))) = prmR (m.putPs (a.take i)) ++ [(m.putP a[i]).cs] := by rw [hpk i hlt, prmR_app]; rfl
     simp [sub, lk, e, stripRows, Prm.stp]
   · simpa only [prmR_len, hti, List.length_singleton] using hA'
 · simp (maxDischargeDepth := 16) [zY, Nat.not_lt.2 hge]
   refine hK4 _ _ ?_
   refine CW.seqK fun K3 hK3 => ?_
   refine CW.cond (t := false) (by simp [zT, zF, lk]) ?_
   refine CW.exit (hR2 _ _ _ (hR _ _ _ ?_))
   simp only [outOf, if_true, andThen]
   refine hK _ _ ?_
   rw [List.take_of_length_le hge]
   refine CW.seqK fun K hK => CW.region ?_
   simp (maxDischargeDepth := 16) [zY]
   refine hK _ _ ?_; clear hK K
   refine CW.ret (hR0 _ _ _ ⟨.sl (prmR (m.putPs a)) tok, by simp [zA, omap, zB, zF, lk], done (by simp [AV.pln, prmR_pln]) (by simp [AV.nrm, prmR_nrm])⟩)
theorem eachAtm_w (hc : S.code = codeP Tryz.prog) (hm : S.ms 104 = []) (h1 : S.sp 25 = some sub2F) : MkOk S N 104 (fun m l => [.sl (atmR l) .no, m.fA]) (fun m l => .sl (atmR (m.putAs l)) .no) atmN atmC 10 := by
 intro m a σ hp hl hN
 refine JC.startF (fn := Tryz.f104) (codeOf hc Tryz.func104 rfl (by kernel_rfl)) rfl hm rfl (zL rfl) fun tm => ?_
 refine CW.hide fun R0 hR0 => ?_
 have hlen : a.length ≤ atmN a := atmN_len a
 have hW : m.W = atmN m.atoms + trmN m.ts := rfl
 have hpk := fun i (h : i < a.length) => map_take (f := m.a2.put) (g := m.putAs) rfl (fun _ _ => rfl) h
 have hpl := map_length (f := m.a2.put) (g := m.putAs) rfl (fun _ _ => rfl)
 refine CW.seqK fun K hK => CW.region ?_
 simp (maxDischargeDepth := 16) [zY]
 refine hK _ _ ?_; clear hK K
 refine CW.seqK fun K hK => CW.region ?_
 simp (maxDischargeDepth := 16) [zY]
 refine hK _ _ ?_; clear hK K
 refine CW.seqK fun K hK => ?_
 refine CW.seqK fun K hK => CW.region ?_
 simp (maxDischargeDepth := 16) [zY]
 refine hK _ _ ?_; clear hK K
 refine CW.block (CW.hide fun R hR => ?_)
 refine CW.loopF (fun p : Nat × Tok × List AObj => [(1, m.fA), (5, .sl (atmR (m.putAs (a.take p.1))) p.2.1), (8, .sl (atmR a) .no), (9, intV a.length), (10, intV p.1)]) (fun p => σ ++ p.2.2) (fun p => p.1 ≤ a.length ∧ Apd σ 30 (p.1 * 5) p.2.1 p.2.2) (fun p => a.length - p.1) (0, .full, []) (by simp [sub, lk, MkE.putAs, atmR]) (by simp) ⟨by simp, by simpa using Apd.nil σ _ []⟩ ?_
 rintro ⟨i, tok, g⟩ tm ⟨hi, hA⟩
 dsimp only at hi hA ⊢
 refine CW.hide fun R2 hR2 => CW.seqK fun K4 hK4 => CW.region ?_
 rcases Nat.lt_or_ge i a.length with hlt | hge
 · have ha := atmR_get hlt
   have hg := atmN_get hlt
   have hg2 := sum_get (c := Atm.c) (s := atmC) (fun _ _ => rfl) hlt
   have hti : (m.putAs (a.take i)).length = i := by rw [hpl]; exact List.length_take_of_le hi
   have hpc := hp.app (g ++ [.cells a[i].cs 30])
   obtain ⟨tok', g', acc, hA', hap⟩ := apd (P := Tryz.prog) (M := []) (t := 36) (e := 30) (k := 4) (by_ := 64) (atmR (m.putAs (a.take i))) [(m.a2.put a[i]).cs] (by rw [atmR_len, hti]; exact hA.push [.cells a[i].cs 30]) (by kernel_rfl) (by kernel_rfl) (by kernel_rfl) (by kernel_rfl) (atmR_hd _) (by simp [Atm.len]) (by simp) (by simp only [atmR_len, hti, List.length_singleton]; omega) (by simp only [atmR_len, hti, List.length_singleton]; omega)
   simp (maxDischargeDepth := 16) [zY, hlt]
   refine hK4 _ _ ?_
   refine CW.seqK fun K3 hK3 => ?_
   refine CW.cond (t := true) (by simp [zT, zF, lk]) ?_
   refine CW.skip (hK3 _ _ ?_)
   refine CW.seqK fun K5 hK5 => CW.block ?_
   refine CW.seqK fun K hK => CW.region ?_
   simp (maxDischargeDepth := 16) [zY, ha, Atm.len, Atm.tk, Atm.put, set_last]
   refine hK _ _ ?_; clear hK K
   refine CW.region ?_
   simp (maxDischargeDepth := 16) [zY, Atm.len, Atm.tk]
   refine call_sp (s := sub2F) (m.a2, a[i]) h1 sub2F_uniq (by simp only [nrmR, AV.nrm, Atm.nrm]) ⟨hpc.2.1, by show a[i].n ≤ 1000000000; omega⟩ (by show 16 * (atmN m.atoms + a[i].n) + 9 < N; omega) ?_
   simp (maxDischargeDepth := 16) [zY, Atm.len, Atm.tk, Atm.put, hap]
   refine hK5 _ _ ?_
   refine CW.region ?_
   simp (maxDischargeDepth := 16) [zY, wrap_succ (show i ≤ 1000000000000 by omega)]
   refine hR2 _ _ _ ⟨(i + 1, tok', g'), _, _, rfl, ?_, rfl, ⟨hlt, ?_⟩, show a.length - (i + 1) < a.length - i by omega⟩
   · have e : atmR (m.putAs (a.take (i + 1))) = atmR (m.putAs (a.take i)) ++ [(m.a2.put a[i]).cs] := by rw [hpk i hlt, atmR_app]; rfl
     simp [sub, lk, e, stripRows, Atm.stp]
   · simpa only [atmR_len, hti, List.length_singleton] using hA'
 · simp (maxDischargeDepth := 16) [zY, Nat.not_lt.2 hge]
   refine hK4 _ _ ?_
   refine CW.seqK fun K3 hK3 => ?_
   refine CW.cond (t := false) (by simp [zT, zF, lk]) ?_
   refine CW.exit (hR2 _ _ _ (hR _ _ _ ?_))
   simp only [outOf, if_true, andThen]
   refine hK _ _ ?_
   rw [List.take_of_length_le hge]
   refine CW.seqK fun K hK => CW.region ?_
   simp (maxDischargeDepth := 16) [zY]
   refine hK _ _ ?_; clear hK K
   refine CW.ret (hR0 _ _ _ ⟨.sl (atmR (m.putAs a)) tok, by simp [zA, omap, zB, zF, lk], done (by simp [AV.pln, atmR_pln]) (by simp [AV.nrm, atmR_nrm])⟩)
theorem eachExp_w (hc : S.code = codeP Tryz.prog) (hm : S.ms 64 = []) (h1 : S.sp 29 = some (mkF (fun m t => [.ptr m.mid 0, .agg t.cs]) (fun m t => .agg (m.putE t).cs) Exp.n Exp.c 14)) : MkOk S N 64 (fun m l => [.sl (expR l) .no, .fn (.func 29) [.ptr m.mid 0] []]) (fun m l => .sl (expR (m.putEs l)) .no) expN expC 15 := by
 intro m a σ hp hl hN
 refine JC.startF (fn := Tryz.f64) (codeOf hc Tryz.func64 rfl (by kernel_rfl)) rfl hm rfl (zL rfl) fun tm => ?_
 refine CW.hide fun R0 hR0 => ?_
 have hlen : a.length ≤ expN a := expN_len a
 have hW : m.W = atmN m.atoms + trmN m.ts := rfl
 have hpk := fun i (h : i < a.length) => map_take (f := m.putE) (g := m.putEs) rfl (fun _ _ => rfl) h
 have hpl := map_length (f := m.putE) (g := m.putEs) rfl (fun _ _ => rfl)
 refine CW.seqK fun K hK => CW.region ?_
 simp (maxDischargeDepth := 16) [zY]
 refine hK _ _ ?_; clear hK K
 refine CW.seqK fun K hK => CW.region ?_
 simp (maxDischargeDepth := 16) [zY]
 refine hK _ _ ?_; clear hK K
 refine CW.seqK fun K hK => ?_
 refine CW.seqK fun K hK => CW.region ?_
 simp (maxDischargeDepth := 16) [zY]
 refine hK _ _ ?_; clear hK K
 refine CW.block (CW.hide fun R hR => ?_)
 refine CW.loopF (fun p : Nat × Tok × List AObj => [(1, .fn (.func 29) [.ptr m.mid 0] []), (5, .sl (expR (m.putEs (a.take p.1))) p.2.1), (8, .sl (expR a) .no), (9, intV a.length), (10, intV p.1)]) (fun p => σ ++ p.2.2) (fun p => p.1 ≤ a.length ∧ Apd σ 34 (p.1 * 11) p.2.1 p.2.2) (fun p => a.length - p.1) (0, .full, []) (by simp [sub, lk, MkE.putEs, expR]) (by simp) ⟨by simp, by simpa using Apd.nil σ _ []⟩ ?_
 rintro ⟨i, tok, g⟩ tm ⟨hi, hA⟩
 dsimp only at hi hA ⊢
 refine CW.hide fun R2 hR2 => CW.seqK fun K4 hK4 => CW.region ?_
 rcases Nat.lt_or_ge i a.length with hlt | hge
 · have ha := expR_get hlt
   have hg := expN_get hlt
   have hg2 := sum_get (c := Exp.c) (s := expC) (fun _ _ => rfl) hlt
   have hti : (m.putEs (a.take i)).length = i := by rw [hpl]; exact List.length_take_of_le hi
   have hpc := hp.app (g ++ [.cells a[i].cs 34])
   obtain ⟨tok', g', acc, hA', hap⟩ := apd (P := Tryz.prog) (M := []) (t := 32) (e := 34) (k := 10) (by_ := 184) (expR (m.putEs (a.take i))) [(m.putE a[i]).cs] (by rw [expR_len, hti]; exact hA.push [.cells a[i].cs 34]) (by kernel_rfl) (by kernel_rfl) (by kernel_rfl) (by kernel_rfl) (expR_hd _) (by simp [Exp.len]) (by simp) (by simp only [expR_len, hti, List.length_singleton]; omega) (by simp only [expR_len, hti, List.length_singleton]; omega)
   simp (maxDischargeDepth := 16) [zY, hlt]
   refine hK4 _ _ ?_
   refine CW.seqK fun K3 hK3 => ?_
   refine CW.cond (t := true) (by simp [zT, zF, lk]) ?_
   refine CW.skip (hK3 _ _ ?_)
   refine CW.seqK fun K5 hK5 => CW.block ?_
   refine CW.seqK fun K hK => CW.region ?_
   simp (maxDischargeDepth := 16) [zY, ha, Exp.len, Exp.tk, Exp.put, set_last]
   refine hK _ _ ?_; clear hK K
   refine CW.region ?_
   simp (maxDischargeDepth := 16) [zY, Exp.len, Exp.tk]
   refine call_mk m a[i] h1 mkExp_inj (by simp only [nrmR, AV.nrm, Exp.nrm]) hpc (by omega) (by omega) fun _ => ?_
   simp (maxDischargeDepth := 16) [zY, Exp.len, Exp.tk, Exp.put, hap]
   refine hK5 _ _ ?_
   refine CW.region ?_
   simp (maxDischargeDepth := 16) [zY, wrap_succ (show i ≤ 1000000000000 by omega)]
   refine hR2 _ _ _ ⟨(i + 1, tok', g'), _, _, rfl, ?_, rfl, ⟨hlt, ?_⟩, show a.length - (i + 1) < a.length - i by omega⟩
   · have e : expR (m.putEs (a.take (i + 1))) = expR (m.putEs (a.take i)) ++ [(m.putE a[i]).cs] := by rw [hpk i hlt, expR_app]; rfl
     simp [sub, lk, e, stripRows, Exp.stp]
   · simpa only [expR_len, hti, List.length_singleton] using hA'
 · simp (maxDischargeDepth := 16) [zY, Nat.not_lt.2 hge]
   refine hK4 _ _ ?_
   refine CW.seqK fun K3 hK3 => ?_
   refine CW.cond (t := false) (by simp [zT, zF, lk]) ?_
   refine CW.exit (hR2 _ _ _ (hR _ _ _ ?_))
   simp only [outOf, if_true, andThen]
   refine hK _ _ ?_
   rw [List.take_of_length_le hge]
   refine CW.seqK fun K hK => CW.region ?_
   simp (maxDischargeDepth := 16) [zY]
   refine hK _ _ ?_; clear hK K
   refine CW.ret (hR0 _ _ _ ⟨.sl (expR (m.putEs a)) tok, by simp [zA, omap, zB, zF, lk], done (by simp [AV.pln, expR_pln]) (by simp [AV.nrm, expR_nrm])⟩)
theorem eachRhs_w (hc : S.code = codeP Tryz.prog) (hm : S.ms 62 = []) (h1 : S.sp 63 = some (mkF (fun m t => [.ptr m.mid 0, .agg t.cs]) (fun m t => .agg (m.putR t).cs) Rhs.n Rhs.c 14)) : MkOk S N 62 (fun m l => [.sl (rhsR l) .no, .fn (.func 63) [.ptr m.mid 0] []]) (fun m l => .sl (rhsR (m.putRs l)) .no) rhsN rhsC 15 := by
 intro m a σ hp hl hN
 refine JC.startF (fn := Tryz.f62) (codeOf hc Tryz.func62 rfl (by kernel_rfl)) rfl hm rfl (zL rfl) fun tm => ?_
 refine CW.hide fun R0 hR0 => ?_
 have hlen : a.length ≤ rhsN a := rhsN_len a
 have hW : m.W = atmN m.atoms + trmN m.ts := rfl
 have hpk := fun i (h : i < a.length) => map_take (f := m.putR) (g := m.putRs) rfl (fun _ _ => rfl) h
 have hpl := map_length (f := m.putR) (g := m.putRs) rfl (fun _ _ => rfl)
 refine CW.seqK fun K hK => CW.region ?_
 simp (maxDischargeDepth := 16) [zY]
 refine hK _ _ ?_; clear hK K
 refine CW.seqK fun K hK => CW.region ?_
 simp (maxDischargeDepth := 16) [zY]
 refine hK _ _ ?_; clear hK K
 refine CW.seqK fun K hK => ?_
 refine CW.seqK fun K hK => CW.region ?_
 simp (maxDischargeDepth := 16) [zY]
 refine hK _ _ ?_; clear hK K
 refine CW.block (CW.hide fun R hR => ?_)
 refine CW.loopF (fun p : Nat × Tok × List AObj => [(1, .fn (.func 63) [.ptr m.mid 0] []), (5, .sl (rhsR (m.putRs (a.take p.1))) p.2.1), (8, .sl (rhsR a) .no), (9, intV a.length), (10, intV p.1)]) (fun p => σ ++ p.2.2) (fun p => p.1 ≤ a.length ∧ Apd σ 62 (p.1 * 7) p.2.1 p.2.2) (fun p => a.length - p.1) (0, .full, []) (by simp [sub, lk, MkE.putRs, rhsR]) (by simp) ⟨by simp, by simpa using Apd.nil σ _ []⟩ ?_
 rintro ⟨i, tok, g⟩ tm ⟨hi, hA⟩
 dsimp only at hi hA ⊢
 refine CW.hide fun R2 hR2 => CW.seqK fun K4 hK4 => CW.region ?_
 rcases Nat.lt_or_ge i a.length with hlt | hge
 · have ha := rhsR_get hlt
   have hg := rhsN_get hlt
   have hg2 := sum_get (c := Rhs.c) (s := rhsC) (fun _ _ => rfl) hlt
   have hti : (m.putRs (a.take i)).length = i := by rw [hpl]; exact List.length_take_of_le hi
   have hpc := hp.app (g ++ [.cells a[i].cs 62])
   obtain ⟨tok', g', acc, hA', hap⟩ := apd (P := Tryz.prog) (M := []) (t := 24) (e := 62) (k := 6) (by_ := 144) (rhsR (m.putRs (a.take i))) [(m.putR a[i]).cs] (by rw [rhsR_len, hti]; exact hA.push [.cells a[i].cs 62]) (by kernel_rfl) (by kernel_rfl) (by kernel_rfl) (by kernel_rfl) (rhsR_hd _) (by simp [Rhs.len]) (by simp) (by simp only [rhsR_len, hti, List.length_singleton]; omega) (by simp only [rhsR_len, hti, List.length_singleton]; omega)
   simp (maxDischargeDepth := 16) [zY, hlt]
   refine hK4 _ _ ?_
   refine CW.seqK fun K3 hK3 => ?_
   refine CW.cond (t := true) (by simp [zT, zF, lk]) ?_
   refine CW.skip (hK3 _ _ ?_)
   refine CW.seqK fun K5 hK5 => CW.block ?_
   refine CW.seqK fun K hK => CW.region ?_
   simp (maxDischargeDepth := 16) [zY, ha, Rhs.len, Rhs.tk, Rhs.put, set_last]
   refine hK _ _ ?_; clear hK K
   refine CW.region ?_
   simp (maxDischargeDepth := 16) [zY, Rhs.len, Rhs.tk]
   refine call_mk m a[i] h1 mkRhs_inj (by simp only [nrmR, AV.nrm, Rhs.nrm]) hpc (by omega) (by omega) fun _ => ?_
   simp (maxDischargeDepth := 16) [zY, Rhs.len, Rhs.tk, Rhs.put, hap]
   refine hK5 _ _ ?_
   refine CW.region ?_
   simp (maxDischargeDepth := 16) [zY, wrap_succ (show i ≤ 1000000000000 by omega)]
   refine hR2 _ _ _ ⟨(i + 1, tok', g'), _, _, rfl, ?_, rfl, ⟨hlt, ?_⟩, show a.length - (i + 1) < a.length - i by omega⟩
   · have e : rhsR (m.putRs (a.take (i + 1))) = rhsR (m.putRs (a.take i)) ++ [(m.putR a[i]).cs] := by rw [hpk i hlt, rhsR_app]; rfl
     simp [sub, lk, e, stripRows, Rhs.stp]
   · simpa only [rhsR_len, hti, List.length_singleton] using hA'
 · simp (maxDischargeDepth := 16) [zY, Nat.not_lt.2 hge]
   refine hK4 _ _ ?_
   refine CW.seqK fun K3 hK3 => ?_
   refine CW.cond (t := false) (by simp [zT, zF, lk]) ?_
   refine CW.exit (hR2 _ _ _ (hR _ _ _ ?_))
   simp only [outOf, if_true, andThen]
   refine hK _ _ ?_
   rw [List.take_of_length_le hge]
   refine CW.seqK fun K hK => CW.region ?_
   simp (maxDischargeDepth := 16) [zY]
   refine hK _ _ ?_; clear hK K
   refine CW.ret (hR0 _ _ _ ⟨.sl (rhsR (m.putRs a)) tok, by simp [zA, omap, zB, zF, lk], done (by simp [AV.pln, rhsR_pln]) (by simp [AV.nrm, rhsR_nrm])⟩)
theorem eachArm_w (hc : S.code = codeP Tryz.prog) (hm : S.ms 65 = []) (h1 : S.sp 66 = some (mkF (fun m t => [.ptr m.mid 0, .agg t.cs]) (fun m t => .agg (m.putM t).cs) Arm.n Arm.c 14)) : MkOk S N 65 (fun m l => [.sl (armR l) .no, .fn (.func 66) [.ptr m.mid 0] []]) (fun m l => .sl (armR (m.putMs l)) .no) armN armC 15 := by
 intro m a σ hp hl hN
 refine JC.startF (fn := Tryz.f65) (codeOf hc Tryz.func65 rfl (by kernel_rfl)) rfl hm rfl (zL rfl) fun tm => ?_
 refine CW.hide fun R0 hR0 => ?_
 have hlen : a.length ≤ armN a := armN_len a
 have hW : m.W = atmN m.atoms + trmN m.ts := rfl
 have hpk := fun i (h : i < a.length) => map_take (f := m.putM) (g := m.putMs) rfl (fun _ _ => rfl) h
 have hpl := map_length (f := m.putM) (g := m.putMs) rfl (fun _ _ => rfl)
 refine CW.seqK fun K hK => CW.region ?_
 simp (maxDischargeDepth := 16) [zY]
 refine hK _ _ ?_; clear hK K
 refine CW.seqK fun K hK => CW.region ?_
 simp (maxDischargeDepth := 16) [zY]
 refine hK _ _ ?_; clear hK K
 refine CW.seqK fun K hK => ?_
 refine CW.seqK fun K hK => CW.region ?_
 simp (maxDischargeDepth := 16) [zY]
 refine hK _ _ ?_; clear hK K
 refine CW.block (CW.hide fun R hR => ?_)
 refine CW.loopF (fun p : Nat × Tok × List AObj => [(1, .fn (.func 66) [.ptr m.mid 0] []), (5, .sl (armR (m.putMs (a.take p.1))) p.2.1), (8, .sl (armR a) .no), (9, intV a.length), (10, intV p.1)]) (fun p => σ ++ p.2.2) (fun p => p.1 ≤ a.length ∧ Apd σ 88 (p.1 * 3) p.2.1 p.2.2) (fun p => a.length - p.1) (0, .full, []) (by simp [sub, lk, MkE.putMs, armR]) (by simp) ⟨by simp, by simpa using Apd.nil σ _ []⟩ ?_
 rintro ⟨i, tok, g⟩ tm ⟨hi, hA⟩
 dsimp only at hi hA ⊢
 refine CW.hide fun R2 hR2 => CW.seqK fun K4 hK4 => CW.region ?_
 rcases Nat.lt_or_ge i a.length with hlt | hge
 · have ha := armR_get hlt
   have hg := armN_get hlt
   have hg2 := sum_get (c := Arm.c) (s := armC) (fun _ _ => rfl) hlt
   have hti : (m.putMs (a.take i)).length = i := by rw [hpl]; exact List.length_take_of_le hi
   have hpc := hp.app (g ++ [.cells a[i].cs 88])
   obtain ⟨tok', g', acc, hA', hap⟩ := apd (P := Tryz.prog) (M := []) (t := 31) (e := 88) (k := 2) (by_ := 64) (armR (m.putMs (a.take i))) [(m.putM a[i]).cs] (by rw [armR_len, hti]; exact hA.push [.cells a[i].cs 88]) (by kernel_rfl) (by kernel_rfl) (by kernel_rfl) (by kernel_rfl) (armR_hd _) (by simp [Arm.len]) (by simp) (by simp only [armR_len, hti, List.length_singleton]; omega) (by simp only [armR_len, hti, List.length_singleton]; omega)
   simp (maxDischargeDepth := 16) [zY, hlt]
   refine hK4 _ _ ?_
   refine CW.seqK fun K3 hK3 => ?_
   refine CW.cond (t := true) (by simp [zT, zF, lk]) ?_
   refine CW.skip (hK3 _ _ ?_)
   refine CW.seqK fun K5 hK5 => CW.block ?_
   refine CW.seqK fun K hK => CW.region ?_
   simp (maxDischargeDepth := 16) [zY, ha, Arm.len, Arm.tk, Arm.put, set_last]
   refine hK _ _ ?_; clear hK K
   refine CW.region ?_
   simp (maxDischargeDepth := 16) [zY, Arm.len, Arm.tk]
   refine call_mk m a[i] h1 mkArm_inj (by simp only [nrmR, AV.nrm, Arm.nrm]) hpc (by omega) (by omega) fun _ => ?_
   simp (maxDischargeDepth := 16) [zY, Arm.len, Arm.tk, Arm.put, hap]
   refine hK5 _ _ ?_
   refine CW.region ?_
   simp (maxDischargeDepth := 16) [zY, wrap_succ (show i ≤ 1000000000000 by omega)]
   refine hR2 _ _ _ ⟨(i + 1, tok', g'), _, _, rfl, ?_, rfl, ⟨hlt, ?_⟩, show a.length - (i + 1) < a.length - i by omega⟩
   · have e : armR (m.putMs (a.take (i + 1))) = armR (m.putMs (a.take i)) ++ [(m.putM a[i]).cs] := by rw [hpk i hlt, armR_app]; rfl
     simp [sub, lk, e, stripRows, Arm.stp]
   · simpa only [armR_len, hti, List.length_singleton] using hA'
 · simp (maxDischargeDepth := 16) [zY, Nat.not_lt.2 hge]
   refine hK4 _ _ ?_
   refine CW.seqK fun K3 hK3 => ?_
   refine CW.cond (t := false) (by simp [zT, zF, lk]) ?_
   refine CW.exit (hR2 _ _ _ (hR _ _ _ ?_))
   simp only [outOf, if_true, andThen]
   refine hK _ _ ?_
   rw [List.take_of_length_le hge]
   refine CW.seqK fun K hK => CW.region ?_
   simp (maxDischargeDepth := 16) [zY]
   refine hK _ _ ?_; clear hK K
   refine CW.ret (hR0 _ _ _ ⟨.sl (armR (m.putMs a)) tok, by simp [zA, omap, zB, zF, lk], done (by simp [AV.pln, armR_pln]) (by simp [AV.nrm, armR_nrm])⟩)
end Go.Proofs.YtncoidmbmihliaaGreatDoor
