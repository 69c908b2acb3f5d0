/-
 EV: the package rename: fun, whole.
-/
import Derived.Test.YteajcnilihgheaaGreatDoorRw7M
namespace Go.Proofs.YteajcnilihgheaaGreatDoor
set_option maxRecDepth 100000
set_option maxHeartbeats 8000000
set_option linter.unusedSimpArgs false
set_option linter.unusedVariables false
section
open Go.RowKit
variable {S : Sp} {N : Nat}
theorem renPs_len : ∀ (ps : List Prm) (l : Bnd) (u : List ByteArray), (renPs NFp l u ps).1.length = ps.length
 | [], l, u => by rw [renPs]
 | p :: ps, l, u => by rw [renPs, List.length_cons, renPs_len ps, List.length_cons]
theorem prmR_stp (l : List Prm) : stripRows (prmR l) = prmR l := by
 rw [stripRows, prmR_map, List.map_map]
 exact List.map_congr_left fun x _ => x.stp
theorem app_full {P : Program} {M : List TypeId} {σ : Sto} {es fs : List (List AV)} {t e k by_ : Nat} (ht : P.underlying t = some (.slice e)) (hk : szOf P e = some (k + 1)) (hb : bytesOf P e = some by_) (hz : ((P.info? e).bind fun x => x.zero).map (fun z => z.cells.size) = some (k + 1))
    (h1 : es.head?.all (·.length == k + 1) = true) (h2 : fs.head?.all (·.length == k + 1) = true) (hby : (es.length + fs.length) * by_ ≤ 140737488355328) (hle : es.length + fs.length ≤ 140737488355328) (hMt : M.contains t = false := by rfl) :
    ∃ t' σ' acc, ((σ' = σ ∧ acc = .pure) ∨ ∃ o, σ' = σ ++ [o] ∧ acc = .news σ.length) ∧ ∀ (tm : List AV) (ds : Option Tmp) (ty : TypeId) (po : String) (af : Array Edge) (gu : Option (Nat × Bool)) (x y : Operand) (tk : Tok), evx tm x = some (.sl es .full) → evx tm y = some (.sl fs tk) →
     evStep P M (evx tm) σ ⟨ds, .call ⟨.builtin .append, #[x, y], #[t, t]⟩, ty, po, af, gu⟩ = some (.val (.sl (es ++ stripRows fs) t') σ' acc) := by
 have hap : ∀ (tm : List AV) (ds : Option Tmp) (ty : TypeId) (po : String) (af : Array Edge) (gu : Option (Nat × Bool)) (x y : Operand), evx tm x = some (.sl es .full) → evStep P M (evx tm) σ ⟨ds, .call ⟨.builtin .append, #[x, y], #[t, t]⟩, ty, po, af, gu⟩ = evAppend P (evx tm) σ t x y := by
  intro tm ds ty po af gu x y hx
  have hlit : evLit P (evx tm) σ ⟨ds, .call ⟨.builtin .append, #[x, y], #[t, t]⟩, ty, po, af, gu⟩ = none := by
   unfold evLit
   simp [Op.operands, Call.operands, hx, conc, conc2]
  unfold evStep
  rw [if_neg (by simp only [mutOp, hMt]; exact Bool.false_ne_true), hlit]
  simp [evPure, evMem]
 by_cases hf : fs.length = 0
 · obtain rfl := List.eq_nil_of_length_eq_zero hf
   refine ⟨.full, σ, .pure, .inl ⟨rfl, rfl⟩, fun tm ds ty po af gu x y tk hx hy => ?_⟩
   rw [hap _ _ _ _ _ _ _ _ hx]
   unfold evAppend
   simp only [ht, hx, hy, hk, hb, hz]
   rw [if_pos ⟨trivial, h1, h2, hby, hle⟩, if_pos hf]
   simp [stripRows]
 · refine ⟨.own σ.length, _, .news σ.length, .inr ⟨.tok ((es.length + fs.length) * (k + 1)) e, rfl, rfl⟩, fun tm ds ty po af gu x y tk hx hy => ?_⟩
   rw [hap _ _ _ _ _ _ _ _ hx]
   unfold evAppend
   simp only [ht, hx, hy, hk, hb, hz]
   rw [if_pos ⟨trivial, h1, h2, hby, hle⟩, if_neg hf]
theorem funS_j (H : RnH S) (hN : 0 < N) (p : Prm) (ps : List Prm) (rs : List Ty) (hp : OneJ S N 57 Ty.cs (renY NFp) bY p.tyOf) (ih : FunJ S N ps rs) : FunJ S N (p :: ps) rs := by
 intro q u u2 st l V R tf tc tk1 tk2 σ h hl hu hu1 hbp hbr hlp hlr hV ht
 obtain ⟨nm, ⟨fn, st0, ⟨rfk, rfnm, rfng, rfdg, rfks⟩, tps, trs⟩⟩ := p
 rw [renPs, renP] at hu1 ht ⊢
 simp only [Prm.nmOf] at hu1 ht ⊢
 have hnm : nm.size ≤ 1000000000 := hbp nm (by simp [bPs, bP])
 have hbt : ∀ s ∈ bY (.mk fn st0 (.mk rfk rfnm rfng rfdg rfks) tps trs), s.size ≤ 1000000000 := fun s hs => hbp s (by simp only [bPs, bP, List.mem_append, List.mem_cons]; exact .inl (.inr hs))
 have hbq : ∀ s ∈ bPs ps, s.size ≤ 1000000000 := fun s hs => hbp s (by simp only [bPs, List.mem_append]; exact .inr hs)
 generalize hfr : NFp.f u nm = f at *
 have an1 : (u ++ [f]).length = u.length + 1 := by simp
 have an2 := (anew_Y (F := NFp) l (u ++ [f]) (.mk fn st0 (.mk rfk rfnm rfng rfdg rfks) tps trs)).len
 have hone := hp q (u ++ [f]) st l
 simp only [Prm.tyOf, Ty.cs] at hone
 generalize hty : (renY NFp l (u ++ [f]) (.mk fn st0 (.mk rfk rfnm rfng rfdg rfks) tps trs)).1 = ty' at *
 generalize hut : (renY NFp l (u ++ [f]) (.mk fn st0 (.mk rfk rfnm rfng rfdg rfks) tps trs)).2 = ut at *
 obtain ⟨fn', st2, ⟨rfk', rfnm', rfng', rfdg', rfks'⟩, tps', trs'⟩ := ty'
 have an3 := (anew_Ps (F := NFp) ((nm, f) :: l) ut ps).len
 have an4 := (anew_Ys (F := NFp) (renPs NFp ((nm, f) :: l) ut ps).2.1 (renPs NFp ((nm, f) :: l) ut ps).2.2 rs).len
 refine J.callNrm (R := fun r σ' => (∃ tok, r = .ret (.tup [.sl (prmR (.mk f (.mk fn' st2 (.mk rfk' rfnm' rfng' rfdg' rfks') tps' trs') :: (renPs NFp ((nm, f) :: l) ut ps).1)) tok, .sl (tyR (renYs NFp (renPs NFp ((nm, f) :: l) ut ps).2.1 (renPs NFp ((nm, f) :: l) ut ps).2.2 rs).1) .no])) ∧ St q u2 st σ' ∧ Fr q V σ σ' ∧ ∃ σ2, R σ2 ∧ Fr q V σ σ2 ∧ Fr q (fun p => σ.length ≤ p) σ2 σ') ?_ (fun v σ' h => ?_) (fun v σ' h => by obtain ⟨⟨tok, e⟩, _⟩ := h; cases e)
 rotate_left
 · obtain ⟨⟨tok, e⟩, h2⟩ := h
   cases e
   exact ⟨by simp only [AV.nrm, nrmR, prmR_nrm, tyR_nrm], h2⟩
 simp only [nrmR, AV.nrm, tyR_nrm, prmR_nrm]
 rw [prmR]
 simp only [Prm.cs]
 generalize hc : ([.lit (.string nm), .lit (.bool fn), .lit (.string st0), .lit (.int .u8 rfk), .lit (.string rfnm), .lit (.bool rfng), .sl (limR rfdg) .no, .sl (trmR rfks) .no, .sl (prmR tps) .no, .sl (tyR trs) .no] : List AV) = c
 have hc10 : c.length = 10 := by rw [← hc]; rfl
 refine JC.startG (fn := Tryz.f31) (codeOf H.code Tryz.func31 rfl (by kernel_rfl)) rfl H.fn rfl (zL rfl) fun tm => ?_
 refine JD.hide fun R0 hR0 => ?_
 refine JD.seqK fun K hK => J.cw (CW.region ?_)
 simp (maxDischargeDepth := 16) [zY]
 refine hK _ _ ?_; clear hK K
 obtain ⟨g4, g5, g6, g7, g8, g9, hla⟩ := box6 σ (.cells [.ptr q.rid 0] 93) (.cells [.sl (c :: prmR ps) .no] 31) (.cells [.sl (tyR rs) .no] 32) (.cells [.fn (.func tf) [] tc] 1) (.cells [.sl [] .full] 31) (.cells [.sl [] .full] 32)
 have hSa := h.app [.cells [.ptr q.rid 0] 93, .cells [.sl (c :: prmR ps) .no] 31, .cells [.sl (tyR rs) .no] 32, .cells [.fn (.func tf) [] tc] 1, .cells [.sl [] .full] 31, .cells [.sl [] .full] 32]
 have hFa := h.frA nV [.cells [.ptr q.rid 0] 93, .cells [.sl (c :: prmR ps) .no] 31, .cells [.sl (tyR rs) .no] 32, .cells [.fn (.func tf) [] tc] 1, .cells [.sl [] .full] 31, .cells [.sl [] .full] 32]
 have hno := fun p hp => h.newA [.cells [.ptr q.rid 0] 93, .cells [.sl (c :: prmR ps) .no] 31, .cells [.sl (tyR rs) .no] 32, .cells [.fn (.func tf) [] tc] 1, .cells [.sl [] .full] 31, .cells [.sl [] .full] 32] (p := p) hp
 generalize hP : σ.length = P at *
 generalize σ ++ [_, _, _, _, _, _] = σa at *
 have hlne : ¬ ((ps.length : Int) + 1 = 0) := by omega
 have hlb : ((ps.length : Int) + 1 == 0) = false := by simpa using hlne
 refine JD.seqK fun KA hKA => ?_
 refine JD.seqK fun K hK => J.cw (CW.region ?_)
 simp (maxDischargeDepth := 16) [zY, g5, prmR_len, hlb]
 refine hK _ _ ?_; clear hK K
 refine JD.cond (t := false) (by simp [zT, zF, lk]) ?_
 refine JD.skip (hKA _ _ ?_)
 refine JD.keep [4, 5, 6, 7, 8, 9] fun tm => ?_
 simp only [sel, List.contains_cons, List.contains_nil, Bool.or_false, Nat.reduceBEq, Bool.false_eq_true, if_false, if_true, Bool.or_true, Bool.true_or]
 have hun : u.length ≤ 1000000000 := by omega
 have hfc : ∀ σ, St q u st σ → CallW Tryz.prog (S.E N) 58 [.ptr q.rid 0, .lit (.string nm)] σ fun r σ' => r = .ret (.lit (.string f)) ∧ St q (u ++ [f]) st σ' ∧ Fr q nV σ σ' := fun σ hσ => by
  have := fresh_c (N := N) H.toFrH hσ nm hun hnm hN
  rw [show freshB u nm = f from hfr] at this
  exact this
 refine JD.seqK fun K hK => ?_
 have fin : ∀ (x : Nat) (σb : Sto) (fr : List (Nat × AV)) (tm : List AV), St q (u ++ [f]) st σb → Fr q nV σa σb → ¬ Own q σb x → P + 6 ≤ x → σb[x]? = some (.cells [.lit (.string f), .lit (.bool false), .lit (.string ⟨#[]⟩), .lit (.int .u8 0), .lit (.string ⟨#[]⟩), .lit (.bool false), .sl [] .full, .sl [] .full, .sl [] .full, .sl [] .full] 37) → sub [(4, .ptr P 0), (5, .ptr (P + 1) 0), (6, .ptr (P + 2) 0), (7, .ptr (P + 3) 0), (8, .ptr (P + 4) 0), (9, .ptr (P + 5) 0), (10, .ptr x 0)] fr → K (fm 53 fr tm) σb := by
  intro x σb fr tm hSb hFb hox hx gx hfr0
  rw [fm_sub hfr0]
  refine hK _ _ ?_
  have hbl := hFb.len
  have f5 : ∀ k, P ≤ k → k < P + 6 → σb[k]? = σa[k]? ∧ ¬ Own q σb k := fun k h1 h2 => ⟨hFb.keep k (by omega) (hno k h1) (fun x => x), hFb.not (hno k h1) (by omega)⟩
  have b4 := (f5 P (by omega) (by omega)).1.trans g4
  have b5 := (f5 (P + 1) (by omega) (by omega)).1.trans g5
  subst hc
  refine JD.seqK fun K hK => JD.draw1 [0, 1, 2, 3, 4, 5, 6, 7] [5] [P, P + 1] (by simp) [.reads 0, .reads 1, .pure, .pure, .pure, .any, .pure, .any] [] (by kernel_rfl) ?_
  simp (maxDischargeDepth := 16) [zY, symD, b4, b5]
  refine (hone σb hSb hl (by omega) hbt).mono ?_
  rintro r σc ⟨rfl, hSc, hFc⟩
  simp only [Ty.cs]
  have gx' := hFc.get hox (fun x => x) gx
  simp (maxDischargeDepth := 16) [zY, symD, gx', all_nil]
  refine hK _ _ ?_; clear hK K
  have hcl := hFc.len
  have hox' := hFc.not hox (List.getElem?_eq_some_iff.1 gx).1
  have hxl := (List.getElem?_eq_some_iff.1 gx').1
  have f6 : ∀ k, P ≤ k → k < P + 6 → σc[k]? = σa[k]? ∧ ¬ Own q σc k := fun k h1 h2 => ⟨(hFc.keep k (by omega) (f5 k h1 h2).2 (fun x => x)).trans (f5 k h1 h2).1, hFc.not (f5 k h1 h2).2 (by omega)⟩
  have hSd := hSc.set hox' (.cells [.lit (.string f), .lit (.bool fn'), .lit (.string st2), .lit (.int .u8 rfk'), .lit (.string rfnm'), .lit (.bool rfng'), .sl (limR rfdg') .no, .sl (trmR rfks') .no, .sl (prmR tps') .no, .sl (tyR trs') .no] 37)
  have hFd := hSc.frS (V := fun p => P + 6 ≤ p) hox' (.inl hx) (.cells [.lit (.string f), .lit (.bool fn'), .lit (.string st2), .lit (.int .u8 rfk'), .lit (.string rfnm'), .lit (.bool rfng'), .sl (limR rfdg') .no, .sl (trmR rfks') .no, .sl (prmR tps') .no, .sl (tyR trs') .no] 37)
  have dx : (σc.set x (.cells [.lit (.string f), .lit (.bool fn'), .lit (.string st2), .lit (.int .u8 rfk'), .lit (.string rfnm'), .lit (.bool rfng'), .sl (limR rfdg') .no, .sl (trmR rfks') .no, .sl (prmR tps') .no, .sl (tyR trs') .no] 37))[x]? = some (.cells [.lit (.string f), .lit (.bool fn'), .lit (.string st2), .lit (.int .u8 rfk'), .lit (.string rfnm'), .lit (.bool rfng'), .sl (limR rfdg') .no, .sl (trmR rfks') .no, .sl (prmR tps') .no, .sl (tyR trs') .no] 37) := by rw [List.getElem?_set_self (by omega)]
  have f7 : ∀ k, P ≤ k → k < P + 6 → (σc.set x (.cells [.lit (.string f), .lit (.bool fn'), .lit (.string st2), .lit (.int .u8 rfk'), .lit (.string rfnm'), .lit (.bool rfng'), .sl (limR rfdg') .no, .sl (trmR rfks') .no, .sl (prmR tps') .no, .sl (tyR trs') .no] 37))[k]? = σa[k]? := fun k h1 h2 => by rw [List.getElem?_set_ne (by omega)]; exact (f6 k h1 h2).1
  have hdl : (σc.set x (.cells [.lit (.string f), .lit (.bool fn'), .lit (.string st2), .lit (.int .u8 rfk'), .lit (.string rfnm'), .lit (.bool rfng'), .sl (limR rfdg') .no, .sl (trmR rfks') .no, .sl (prmR tps') .no, .sl (tyR trs') .no] 37)).length = σc.length := by simp
  generalize σc.set x (.cells [.lit (.string f), .lit (.bool fn'), .lit (.string st2), .lit (.int .u8 rfk'), .lit (.string rfnm'), .lit (.bool rfng'), .sl (limR rfdg') .no, .sl (trmR rfks') .no, .sl (prmR tps') .no, .sl (tyR trs') .no] 37) = σd at *
  have d4 := (f7 P (by omega) (by omega)).trans g4
  have d5 := (f7 (P + 1) (by omega) (by omega)).trans g5
  have d8 := (f7 (P + 4) (by omega) (by omega)).trans g8
  have d9 := (f7 (P + 5) (by omega) (by omega)).trans g9
  have nd : ∀ k, P ≤ k → k < P + 6 → ¬ Own q σd k := fun k h1 h2 => hFd.not (f6 k h1 h2).2 (by omega)
  have hFad : Fr q nV σ σd := ((hFa.trans0 (hFb.trans0 hFc)).trans hFd fun p hp => .inr (by omega))
  refine JD.seqK fun K hK => JD.draw1 [0, 1, 2, 3, 4, 5, 6, 7, 8, 9, 10] [10] [P, P + 1, x] (by simp; omega) [.reads 0, .pure, .reads 1, .pure, .pure, .pure, .pure, .reads 2, .pure, .pure, .any] [] (by kernel_rfl) ?_
  simp (maxDischargeDepth := 16) [zY, symD, d4, d5, dx]
  have hd6 := (f7 (P + 2) (by omega) (by omega)).trans g6
  have hd7 := (f7 (P + 3) (by omega) (by omega)).trans g7
  generalize hC : ([.lit (.string nm), .lit (.bool fn), .lit (.string st0), .lit (.int .u8 rfk), .lit (.string rfnm), .lit (.bool rfng), .sl (limR rfdg) .no, .sl (trmR rfks) .no, .sl (prmR tps) .no, .sl (tyR trs) .no] : List AV) = C at *
  have hC10 : C.length = 10 := by rw [← hC]; rfl
  have hwj := within_j (N := N) H.code H.wis H.wib H.wi q ut u2 st [(nm, f)] .full 60 [.ptr P 0, .ptr (P + 1) 0, .ptr (P + 2) 0, .ptr (P + 3) 0, .ptr (P + 4) 0, .ptr (P + 5) 0] (fun p => V p ∨ p = P + 4 ∨ p = P + 5)
   (fun σ' => σ'[P + 4]? = some (.cells [.sl (prmR (renPs NFp ((nm, f) :: l) ut ps).1) .no] 31) ∧ σ'[P + 5]? = some (.cells [.sl (tyR (renYs NFp (renPs NFp ((nm, f) :: l) ut ps).2.1 (renPs NFp ((nm, f) :: l) ut ps).2.2 rs).1) .no] 32) ∧ ∃ σ2, R σ2 ∧ Fr q V σ σ2 ∧ Fr q (fun p => P ≤ p) σ2 σ') σd hSd (by simp) (by omega) hu (fun s => by have := h.h s; simp only [List.length_singleton]; omega)
   (fun σ1 hS1 hF1 => by
    have hl1 := hF1.len
    have gk : ∀ k, P ≤ k → k < P + 6 → σ1[k]? = σa[k]? := fun k h1 h2 => (hF1.keep k (by omega) (nd k h1 h2) (fun x => x)).trans (f7 k h1 h2)
    refine (funC_j H hN C hC10 ps rs ih q ut u2 (pushN st [(nm, f)]) ((nm, f) :: l) V R tf tc P (.sl [] .full) (.sl [] .full) σ1 hS1 (by simpa using hl.push [(nm, f)]) hu hu1 hbq hbr (by simp only [List.length_cons] at hlp; omega) hlr ((gk P (by omega) (by omega)).trans g4) ((gk (P + 1) (by omega) (by omega)).trans g5) ((gk (P + 2) (by omega) (by omega)).trans g6) ((gk (P + 3) (by omega) (by omega)).trans g7) ((gk (P + 4) (by omega) (by omega)).trans g8) ((gk (P + 5) (by omega) (by omega)).trans g9) (fun k h1 h2 => hF1.not (nd k h1 h2) (by omega)) hV (fun st1 σ2 hS hT hF => ht st1 σ2 hS hT ((hFad.trans0 hF1).trans0 hF))).mono ?_
    rintro r σ3 ⟨rfl, hS3, hF3, r8, r9, σ2, hR, hF4, hF5⟩
    exact ⟨rfl, hS3, hF3, r8, r9, σ2, hR, (hFad.trans0 hF1).none.trans0 hF4, hF5⟩)
  simp only [prR, prC, List.map_cons, List.map_nil] at hwj
  refine hwj.mono ?_
  clear hwj
  rintro r σe ⟨rfl, hSe, hFe, σ2, ⟨r8, r9, σ3, hR, hF3, hF4⟩, hS2, hF5, hF6⟩
  have hl6 := hF6.len
  have hl5 := hF5.len
  have m8 := hF6.not (nd (P + 4) (by omega) (by omega)) (by omega)
  have m9 := hF6.not (nd (P + 5) (by omega) (by omega)) (by omega)
  have e8 := hF5.get m8 (fun x => x) r8
  have e9 := hF5.get m9 (fun x => x) r9
  have hoxd := hFd.not hox' (by omega)
  have ex := hFe.get hoxd (fun v => by rcases v with v | v | v <;> first | (have := hV _ v; omega) | omega) dx
  have n8 := hFe.not (nd (P + 4) (by omega) (by omega)) (by omega)
  have n9 := hFe.not (nd (P + 5) (by omega) (by omega)) (by omega)
  simp (maxDischargeDepth := 16) [zY, symD, all_nil]
  refine hK _ _ ?_; clear hK K
  refine JD.keep [8, 9, 10] fun tm => ?_
  simp only [sel, List.contains_cons, List.contains_nil, Bool.or_false, Nat.reduceBEq, Bool.false_eq_true, if_false, if_true, Bool.or_true, Bool.true_or]
  have hpl : (renPs NFp ((nm, f) :: l) ut ps).1.length ≤ 1000000000 := by rw [renPs_len]; simp only [List.length_cons] at hlp; omega
  generalize (renPs NFp ((nm, f) :: l) ut ps).1 = ps' at *
  generalize (renYs NFp (renPs NFp ((nm, f) :: l) ut ps).2.1 (renPs NFp ((nm, f) :: l) ut ps).2.2 rs).1 = rs' at *
  obtain ⟨tok', σf, acc, hacc, hap⟩ := app_full (P := Tryz.prog) (M := []) (σ := σe) (t := 31) (e := 37) (k := 9) (by_ := 168) (es := [[.lit (.string f), .lit (.bool fn'), .lit (.string st2), .lit (.int .u8 rfk'), .lit (.string rfnm'), .lit (.bool rfng'), .sl (limR rfdg') .no, .sl (trmR rfks') .no, .sl (prmR tps') .no, .sl (tyR trs') .no]]) (fs := prmR ps') (by kernel_rfl) (by kernel_rfl) (by kernel_rfl) (by kernel_rfl) (by simp) (prmR_hd _) (by simp only [prmR_len, List.length_singleton]; omega) (by simp only [prmR_len, List.length_singleton]; omega)
  have hrow : [[.lit (.string f), .lit (.bool fn'), .lit (.string st2), .lit (.int .u8 rfk'), .lit (.string rfnm'), .lit (.bool rfng'), .sl (limR rfdg') .no, .sl (trmR rfks') .no, .sl (prmR tps') .no, .sl (tyR trs') .no]] ++ stripRows (prmR ps') = prmR (.mk f (.mk fn' st2 (.mk rfk' rfnm' rfng' rfdg' rfks') tps' trs') :: ps') := by
   rw [prmR, Prm.cs, prmR_stp]; rfl
  rw [hrow] at hap
  generalize hrr : prmR (.mk f (.mk fn' st2 (.mk rfk' rfnm' rfng' rfdg' rfks') tps' trs') :: ps') = rr at *
  have hfg : St q u2 st σf ∧ Fr q nV σe σf ∧ σf[P + 4]? = some (.cells [.sl (prmR ps') .no] 31) ∧ σf[P + 5]? = some (.cells [.sl (tyR rs') .no] 32) ∧ ¬ Own q σf (P + 4) ∧ ¬ Own q σf (P + 5) := by
   have hel := (List.getElem?_eq_some_iff.1 e9).1
   rcases hacc with ⟨rfl, _⟩ | ⟨o, rfl, _⟩
   · exact ⟨hSe, .refl _ _ _, e8, e9, n8, n9⟩
   · exact ⟨hSe.app _, hSe.frA nV _, (st_old (by omega)).trans e8, (st_old (by omega)).trans e9, (hSe.frA V _).not n8 (by omega), (hSe.frA V _).not n9 (by omega)⟩
  obtain ⟨hSf, hFf, p8, p9, o8, o9⟩ := hfg
  have hfl := (List.getElem?_eq_some_iff.1 p9).1
  have q9 : (σf.set (P + 4) (.cells [.sl rr tok'] 31))[P + 5]? = some (.cells [.sl (tyR rs') .no] 32) := by rw [List.getElem?_set_ne (by omega)]; exact p9
  have hS1 := hSf.set o8 (.cells [.sl rr tok'] 31)
  have hF1 := hSf.frS (V := fun p => P ≤ p) o8 (.inl (by show P ≤ P + 4; omega)) (.cells [.sl rr tok'] 31)
  have o9' := hF1.not o9 (by omega)
  have hS2' := hS1.set o9' (.cells [.sl (tyR rs') .no] 32)
  have hF2 := hS1.frS (V := fun p => P ≤ p) o9' (.inl (by show P ≤ P + 5; omega)) (.cells [.sl (tyR rs') .no] 32)
  have s8 : ((σf.set (P + 4) (.cells [.sl rr tok'] 31)).set (P + 5) (.cells [.sl (tyR rs') .no] 32))[P + 4]? = some (.cells [.sl rr tok'] 31) := by rw [List.getElem?_set_ne (by omega), List.getElem?_set_self (by omega)]
  have s9 : ((σf.set (P + 4) (.cells [.sl rr tok'] 31)).set (P + 5) (.cells [.sl (tyR rs') .no] 32))[P + 5]? = some (.cells [.sl (tyR rs') .no] 32) := by rw [List.getElem?_set_self (by simp; omega)]
  have hxe := (List.getElem?_eq_some_iff.1 ex).1
  have fin2 : ∀ fr tm, sub [(8, .ptr (P + 4) 0), (9, .ptr (P + 5) 0)] fr → R0 .ret (fm 53 fr tm) ((σf.set (P + 4) (.cells [.sl rr tok'] 31)).set (P + 5) (.cells [.sl (tyR rs') .no] 32)) := fun fr tm hfr => by
   rw [fm_sub hfr]
   generalize (σf.set (P + 4) (.cells [.sl rr tok'] 31)).set (P + 5) (.cells [.sl (tyR rs') .no] 32) = σg at *
   refine hR0 _ _ _ ⟨.tup [.sl rr tok', .sl (tyR rs') .no], by simp [zA, omap, zC, zX, s8, s9], ⟨tok', rfl⟩, hS2', ?_, σ3, hR, hF3, ?_⟩
   · exact (((hFad.none.trans (V' := fun p => V p ∨ p = P + 4 ∨ p = P + 5) hFe fun p hp => by rcases hp with hp | hp | hp; exact .inl hp; exact .inr (by omega); exact .inr (by omega)).trans0 hFf.none).trans hF1 fun p hp => .inr (by omega)).trans hF2 fun p hp => .inr (by omega)
   · exact ((hF4.trans0 hF5.none).trans0 hFf.none).trans0 (hF1.trans0 hF2)
  rcases hacc with ⟨e1, rfl⟩ | ⟨o, e1, rfl⟩
  · refine JD.seqK fun K hK => J.cw (CW.draw (by kernel_rfl) ?_)
    simp (maxDischargeDepth := 16) [zY, ex, e8, hap, p8, p9, q9]
    refine ⟨drawOk_ren [x, P + 4, P + 5] (by simp; omega) [.reads 0, .pure, .reads 1, .pure, .reads 2, .writes 1, .writes 2] (by kernel_rfl) (by kernel_rfl), hK _ _ ?_⟩
    exact JD.ret (fin2 _ _ (by simp [sub, lk]))
  · refine JD.seqK fun K hK => J.cw (CW.draw (by kernel_rfl) ?_)
    simp (maxDischargeDepth := 16) [zY, ex, e8, hap, p8, p9, q9]
    refine ⟨drawOk_ren [x, P + 4, P + 5, σe.length] (by simp; omega) [.reads 0, .pure, .reads 1, .news 3, .reads 2, .writes 1, .writes 2] (by kernel_rfl) (by kernel_rfl), hK _ _ ?_⟩
    exact JD.ret (fin2 _ _ (by simp [sub, lk]))
 refine JD.draw [0, 1, 2, 3, 4, 5, 6, 9, 7, 8, 10] [0, 1, 2, 3, 4, 5, 6, 7, 8, 9, 10] 9 7 [7] [P, P + 1, σa.length] (by rw [hla]; simp) [.reads 0, .pure, .pure, .reads 1, .pure, .pure, .pure, .any, .pure, .news 2, .any] [.reads 0, .pure, .pure, .reads 1, .pure, .pure, .pure, .any, .pure, .any, .any] [] (by kernel_rfl) ?_ ?_
 · subst hc
   simp (maxDischargeDepth := 16) [zY, symD, g4, g5]
   refine (hfc _ (hSa.app _)).toJ.mono ?_
   rintro r σ3 ⟨rfl, hS3, hF3⟩
   have ho3 := hSa.newA [.cells [.lit (.string ⟨#[]⟩), .lit (.bool false), .lit (.string ⟨#[]⟩), .lit (.int .u8 0), .lit (.string ⟨#[]⟩), .lit (.bool false), .sl [] .full, .sl [] .full, .sl [] .full, .sl [] .full] 37] (Nat.le_refl _)
   have hx3 := hF3.get ho3 (fun x => x) (show _ = some (.cells [.lit (.string ⟨#[]⟩), .lit (.bool false), .lit (.string ⟨#[]⟩), .lit (.int .u8 0), .lit (.string ⟨#[]⟩), .lit (.bool false), .sl [] .full, .sl [] .full, .sl [] .full, .sl [] .full] 37) by simp)
   have hl3 := hF3.len
   have hn3 := hF3.not ho3 (by simp)
   simp only [List.length_append, List.length_singleton] at hl3
   simp (maxDischargeDepth := 16) [zY, symD, hx3, all_nil]
   refine fin σa.length _ _ _ (hS3.set hn3 _) (((hSa.frA nV _).trans0 hF3).trans (hS3.frS (V := fun p => p = σa.length) hn3 (.inl rfl) _) fun p hp => .inr (by rw [hp]; exact Nat.le_refl _)) (hS3.frS (V := fun p => p = σa.length) hn3 (.inl rfl) _ |>.not hn3 (by omega)) (by omega) (by rw [List.getElem?_set_self (by omega)]) (by simp [sub, lk])
 · subst hc
   simp (maxDischargeDepth := 16) [zY, symD, g4, g5]
   refine (hfc _ hSa).toJ.mono ?_
   rintro r σ3 ⟨rfl, hS3, hF3⟩
   have hl3 := hF3.len
   simp (maxDischargeDepth := 16) [zY, symD, set_last, all_nil]
   refine fin σ3.length _ _ _ (hS3.app _) (hF3.trans0 (hS3.frA nV _)) (hS3.newA _ (Nat.le_refl _)) (by omega) (by simp) (by simp [sub, lk])
end
section
open Go.RowKit
variable {S : Sp} {N : Nat}
theorem fun_j (H : RnH S) (hN : 0 < N) (rs : List Ty) (hk : ∀ x ∈ rs, OneJ S N 57 Ty.cs (renY NFp) bY x) : ∀ ps : List Prm, (∀ p ∈ ps, OneJ S N 57 Ty.cs (renY NFp) bY p.tyOf) → FunJ S N ps rs
 | [], _ => fun0_j H hN rs hk
 | p :: ps, hp => funS_j H hN p ps rs (hp p (by simp)) (fun_j H hN rs hk ps fun p h => hp p (by simp [h]))
theorem Prm.tyOf_n (p : Prm) : p.tyOf.n = p.n := by obtain ⟨nm, ⟨fn, st, ⟨rfk, rfnm, rfng, rfdg, rfks⟩, ps, rs⟩⟩ := p; rfl
theorem thenN (H : RnH S) (q : RQ) (u1 : List ByteArray) (l1 : Bnd) (σ : Sto) : ThenJ S N q u1 u1 l1 nV (fun _ => True) 90 [] σ := by
 intro st1 σ1 h hl hF
 refine JC.startG (fn := Tryz.f90) (codeOf H.code Tryz.func90 rfl (by kernel_rfl)) rfl H.kd1 rfl (zL rfl) fun tm => ?_
 exact JD.skip ⟨.tup [], by simp [zA, omap], rfl, h, .refl _ _ _, trivial⟩
theorem box3 (σ : Sto) (a b c : AObj) : (σ ++ [a, b, c])[σ.length]? = some a ∧ (σ ++ [a, b, c])[σ.length + 1]? = some b ∧ (σ ++ [a, b, c])[σ.length + 2]? = some c ∧ (σ ++ [a, b, c]).length = σ.length + 3 := by simp
theorem kind_s (H : RnH S) (fn : Bool) (st0 : ByteArray) (rfk : Int) (rfnm : ByteArray) (rfng : Bool) (rfdg : List Int) (rfks : List Trm) (ps : List Prm) (rs : List Ty) (hn : (Ty.mk fn st0 (.mk rfk rfnm rfng rfdg rfks) ps rs).n ≤ 1000000000) (hN : 16 * (Ty.mk fn st0 (.mk rfk rfnm rfng rfdg rfks) ps rs).n + 4 < N) (hf : FunJ S N ps rs) :
    OneJ S N 57 Ty.cs (renY NFp) bY (.mk fn st0 (.mk rfk rfnm rfng rfdg rfks) ps rs) := by
 intro q u st l σ h hl hu hb
 refine J.callNrm (R := fun r σ' => r = .ret (.agg (renY NFp l u (.mk fn st0 (.mk rfk rfnm rfng rfdg rfks) ps rs)).1.cs) ∧ St q (renY NFp l u (.mk fn st0 (.mk rfk rfnm rfng rfdg rfks) ps rs)).2 st σ' ∧ Fr q nV σ σ') ?_ (fun v σ' h => ?_) (fun v σ' h => by cases h.1)
 rotate_left
 · obtain ⟨e, h2⟩ := h
   cases e
   exact ⟨by simp only [AV.nrm, Ty.nrm], h2⟩
 simp only [nrmR, AV.nrm, Ty.nrm]
 refine JC.startG (fn := Tryz.f57) (codeOf H.code Tryz.func57 rfl (by kernel_rfl)) rfl H.kd rfl (zL rfl) fun tm => ?_
 refine JD.hide fun R0 hR0 => ?_
 have hkp := fun (σ : Sto) (Q : ARes → Sto → Prop) (args : List AV) (ha : nrmR args = [.agg (Ty.mk fn st0 (.mk rfk rfnm rfng rfdg rfks) ps rs).cs]) (hq : Q (.ret (.agg (Ty.mk fn st0 (.mk rfk rfnm rfng rfdg rfks) ps rs).cs)) σ) => call_pure (P := Tryz.prog) (σ := σ) (Q := Q) (args := args) (Ty.mk fn st0 (.mk rfk rfnm rfng rfdg rfks) ps rs) H.kp ty1_inj ha hn hN fun _ => hq
 simp only [Ty.cs] at hkp ⊢
 refine JD.seqK fun K hK => J.cw (CW.region ?_)
 simp (maxDischargeDepth := 16) [zY]
 refine hK _ _ ?_; clear hK K
 refine JD.seqK fun K hK => J.cw (CW.region ?_)
 simp (maxDischargeDepth := 16) [zY]
 refine hkp _ _ _ (by simp only [nrmR, AV.nrm, limR_nrm, trmR_nrm, prmR_nrm, tyR_nrm]) ?_
 simp (maxDischargeDepth := 16) [zY]
 refine hK _ _ ?_; clear hK K
 obtain ⟨g3, g4, g5, hla⟩ := box3 σ (.cells [.lit (.bool fn), .lit (.string st0), .lit (.int .u8 rfk), .lit (.string rfnm), .lit (.bool rfng), .sl (limR rfdg) .no, .sl (trmR rfks) .no, .sl (prmR ps) .no, .sl (tyR rs) .no] 34) (.cells [.lit (.bool false), .lit (.string ⟨#[]⟩), .lit (.int .u8 0), .lit (.string ⟨#[]⟩), .lit (.bool false), .sl [] .full, .sl [] .full, .sl [] .full, .sl [] .full] 34) (.cells [.lit (.bool fn), .lit (.string st0), .lit (.int .u8 rfk), .lit (.string rfnm), .lit (.bool rfng), .sl (limR rfdg) .no, .sl (trmR rfks) .no, .sl (prmR ps) .no, .sl (tyR rs) .no] 34)
 have hSa := h.app [.cells [.lit (.bool fn), .lit (.string st0), .lit (.int .u8 rfk), .lit (.string rfnm), .lit (.bool rfng), .sl (limR rfdg) .no, .sl (trmR rfks) .no, .sl (prmR ps) .no, .sl (tyR rs) .no] 34, .cells [.lit (.bool false), .lit (.string ⟨#[]⟩), .lit (.int .u8 0), .lit (.string ⟨#[]⟩), .lit (.bool false), .sl [] .full, .sl [] .full, .sl [] .full, .sl [] .full] 34, .cells [.lit (.bool fn), .lit (.string st0), .lit (.int .u8 rfk), .lit (.string rfnm), .lit (.bool rfng), .sl (limR rfdg) .no, .sl (trmR rfks) .no, .sl (prmR ps) .no, .sl (tyR rs) .no] 34]
 have hFa := h.frA nV [.cells [.lit (.bool fn), .lit (.string st0), .lit (.int .u8 rfk), .lit (.string rfnm), .lit (.bool rfng), .sl (limR rfdg) .no, .sl (trmR rfks) .no, .sl (prmR ps) .no, .sl (tyR rs) .no] 34, .cells [.lit (.bool false), .lit (.string ⟨#[]⟩), .lit (.int .u8 0), .lit (.string ⟨#[]⟩), .lit (.bool false), .sl [] .full, .sl [] .full, .sl [] .full, .sl [] .full] 34, .cells [.lit (.bool fn), .lit (.string st0), .lit (.int .u8 rfk), .lit (.string rfnm), .lit (.bool rfng), .sl (limR rfdg) .no, .sl (trmR rfks) .no, .sl (prmR ps) .no, .sl (tyR rs) .no] 34]
 have hno := fun p hp => h.newA [.cells [.lit (.bool fn), .lit (.string st0), .lit (.int .u8 rfk), .lit (.string rfnm), .lit (.bool rfng), .sl (limR rfdg) .no, .sl (trmR rfks) .no, .sl (prmR ps) .no, .sl (tyR rs) .no] 34, .cells [.lit (.bool false), .lit (.string ⟨#[]⟩), .lit (.int .u8 0), .lit (.string ⟨#[]⟩), .lit (.bool false), .sl [] .full, .sl [] .full, .sl [] .full, .sl [] .full] 34, .cells [.lit (.bool fn), .lit (.string st0), .lit (.int .u8 rfk), .lit (.string rfnm), .lit (.bool rfng), .sl (limR rfdg) .no, .sl (trmR rfks) .no, .sl (prmR ps) .no, .sl (tyR rs) .no] 34] (p := p) hp
 generalize hP : σ.length = P at *
 generalize σ ++ [_, _, _] = σa at *
 refine JD.keep [0, 3, 4, 5] fun tm => ?_
 simp only [sel, List.contains_cons, List.contains_nil, Bool.or_false, Nat.reduceBEq, Bool.false_eq_true, if_false, if_true, Bool.or_true, Bool.true_or]
 refine JD.seqK fun KA hKA => ?_
 cases fn with
 | true =>
  refine JD.seqK fun K hK => J.cw (CW.region ?_)
  simp (maxDischargeDepth := 16) [zY, g3]
  refine hK _ _ ?_; clear hK K
  refine JD.cond (t := true) (by simp [zT, zF, lk]) ?_
  refine JD.seqK fun K hK => JD.region ?_
  simp (maxDischargeDepth := 16) [zY, symL, g3]
  have e1 : renY NFp l u (.mk true st0 (.mk rfk rfnm rfng rfdg rfks) ps rs) = (.mk true st0 (.mk rfk rfnm rfng rfdg rfks) (renPs NFp l u ps).1 (renYs NFp (renPs NFp l u ps).2.1 (renPs NFp l u ps).2.2 rs).1, (renYs NFp (renPs NFp l u ps).2.1 (renPs NFp l u ps).2.2 rs).2) := by rw [renY]; rfl
  have an1 := (anew_Ps (F := NFp) l u ps).len
  have an2 := (anew_Ys (F := NFp) (renPs NFp l u ps).2.1 (renPs NFp l u ps).2.2 rs).len
  have hbb : bY (.mk true st0 (.mk rfk rfnm rfng rfdg rfks) ps rs) = bPs ps ++ bYs rs := by rw [bY]; rfl
  rw [hbb] at hu hb
  rw [List.length_append] at hu
  rw [e1] at hR0
  simp only [Ty.n] at hn
  have hlp := prmN_len ps
  have hlr := tyN_len rs
  refine (hf q u _ st l nV (fun _ => True) 90 [] .no .no σa hSa hl (by omega) (Nat.le_refl _) (fun s hs => hb s (List.mem_append_left _ hs)) (fun s hs => hb s (List.mem_append_right _ hs)) (by omega) (by omega) (fun p hp => hp.elim) (thenN H q _ _ σa)).mono ?_
  rintro r σb ⟨rfl, hSb, hFb, _⟩
  generalize (renPs NFp l u ps).1 = ps' at *
  generalize (renYs NFp (renPs NFp l u ps).2.1 (renPs NFp l u ps).2.2 rs).1 = rs' at *
  generalize (renYs NFp (renPs NFp l u ps).2.1 (renPs NFp l u ps).2.2 rs).2 = us at *
  have hbl := hFb.len
  have b4 := hFb.get (hno (P + 1) (by omega)) (fun x => x) g4
  have b5 := hFb.get (hno (P + 2) (by omega)) (fun x => x) g5
  have n4 := hFb.not (hno (P + 1) (by omega)) (by omega)
  have n5 := hFb.not (hno (P + 2) (by omega)) (by omega)
  have s5 : ∀ o, (σb.set (P + 2) o)[P + 2]? = some o := fun o => List.getElem?_set_self (by omega)
  have s4 : ∀ o, (σb.set (P + 2) o)[P + 1]? = some (.cells [.lit (.bool false), .lit (.string ⟨#[]⟩), .lit (.int .u8 0), .lit (.string ⟨#[]⟩), .lit (.bool false), .sl [] .full, .sl [] .full, .sl [] .full, .sl [] .full] 34) := fun o => by rw [List.getElem?_set_ne (by omega)]; exact b4
  simp (maxDischargeDepth := 16) [zY, symL, b5, s5]
  refine hK _ _ ?_; clear hK K
  refine JD.seqK fun K hK => J.cw (CW.region ?_)
  simp (maxDischargeDepth := 16) [zY, s5, s4]
  refine hK _ _ ?_; clear hK K
  have hS1 := hSb.set n5 (.cells [.lit (.bool true), .lit (.string st0), .lit (.int .u8 rfk), .lit (.string rfnm), .lit (.bool rfng), .sl (limR rfdg) .no, .sl (trmR rfks) .no, .sl (prmR ps') .no, .sl (tyR rs') .no] 34)
  have hF1 := hSb.frS (V := fun p => P ≤ p) n5 (.inl (by show P ≤ P + 2; omega)) (.cells [.lit (.bool true), .lit (.string st0), .lit (.int .u8 rfk), .lit (.string rfnm), .lit (.bool rfng), .sl (limR rfdg) .no, .sl (trmR rfks) .no, .sl (prmR ps') .no, .sl (tyR rs') .no] 34)
  have n4' := hF1.not n4 (by omega)
  have hS2 := hS1.set n4' (.cells [.lit (.bool true), .lit (.string st0), .lit (.int .u8 rfk), .lit (.string rfnm), .lit (.bool rfng), .sl (limR rfdg) .no, .sl (trmR rfks) .no, .sl (prmR ps') .no, .sl (tyR rs') .no] 34)
  have hF2 := hS1.frS (V := fun p => P ≤ p) n4' (.inl (by show P ≤ P + 1; omega)) (.cells [.lit (.bool true), .lit (.string st0), .lit (.int .u8 rfk), .lit (.string rfnm), .lit (.bool rfng), .sl (limR rfdg) .no, .sl (trmR rfks) .no, .sl (prmR ps') .no, .sl (tyR rs') .no] 34)
  have r4 : ((σb.set (P + 2) (.cells [.lit (.bool true), .lit (.string st0), .lit (.int .u8 rfk), .lit (.string rfnm), .lit (.bool rfng), .sl (limR rfdg) .no, .sl (trmR rfks) .no, .sl (prmR ps') .no, .sl (tyR rs') .no] 34)).set (P + 1) (.cells [.lit (.bool true), .lit (.string st0), .lit (.int .u8 rfk), .lit (.string rfnm), .lit (.bool rfng), .sl (limR rfdg) .no, .sl (trmR rfks) .no, .sl (prmR ps') .no, .sl (tyR rs') .no] 34))[P + 1]? = some (.cells [.lit (.bool true), .lit (.string st0), .lit (.int .u8 rfk), .lit (.string rfnm), .lit (.bool rfng), .sl (limR rfdg) .no, .sl (trmR rfks) .no, .sl (prmR ps') .no, .sl (tyR rs') .no] 34) := List.getElem?_set_self (by simp; omega)
  refine JD.ret (hR0 _ _ _ ⟨.agg [.lit (.bool true), .lit (.string st0), .lit (.int .u8 rfk), .lit (.string rfnm), .lit (.bool rfng), .sl (limR rfdg) .no, .sl (trmR rfks) .no, .sl (prmR ps') .no, .sl (tyR rs') .no], by simp [zA, omap, zC, zX, r4], by simp only [Ty.cs], hS2, ?_⟩)
  exact (hFa.trans0 hFb).trans (hF1.trans0 hF2) fun p hp => .inr (by omega)
 | false =>
  refine JD.seqK fun K hK => J.cw (CW.region ?_)
  simp (maxDischargeDepth := 16) [zY, g3]
  refine hK _ _ ?_; clear hK K
  refine JD.cond (t := false) (by simp [zT, zF, lk]) ?_
  refine JD.skip (hKA _ _ ?_)
  have e1 : renY NFp l u (.mk false st0 (.mk rfk rfnm rfng rfdg rfks) ps rs) = (.mk false st0 (renT l (.mk rfk rfnm rfng rfdg rfks)) ps rs, u) := by rw [renY]; rfl
  rw [e1] at hR0
  have hun : u.length ≤ 1000000000 := by omega
  have hte := fun (σ : Sto) (Q : ARes → Sto → Prop) (args : List AV) (hA : (⟨q.rid, l⟩ : RS).At σ) (ha : nrmR args = [.ptr q.rid 0, .agg (Trm.mk rfk rfnm rfng rfdg rfks).cs]) (hq : Q (.ret (.agg (renT l (.mk rfk rfnm rfng rfdg rfks)).cs)) σ) => call_rterm (P := Tryz.prog) (N := N) (σ := σ) (Q := Q) (args := args) ⟨q.rid, l⟩ (.mk rfk rfnm rfng rfdg rfks) H.tm ha hA (by simp only [Ty.n] at hn; simp only [Trm.n]; omega) (by simp only [Ty.n] at hN; simp only [Trm.n]; omega) fun _ => hq
  generalize renT l (.mk rfk rfnm rfng rfdg rfks) = t' at *
  obtain ⟨rfk', rfnm', rfng', rfdg', rfks'⟩ := t'
  simp only [Trm.cs] at hte
  have b5 := g5
  have s5 : ∀ o, (σa.set (P + 2) o)[P + 2]? = some o := fun o => List.getElem?_set_self (by omega)
  have s4 : ∀ o, (σa.set (P + 2) o)[P + 1]? = some (.cells [.lit (.bool false), .lit (.string ⟨#[]⟩), .lit (.int .u8 0), .lit (.string ⟨#[]⟩), .lit (.bool false), .sl [] .full, .sl [] .full, .sl [] .full, .sl [] .full] 34) := fun o => by rw [List.getElem?_set_ne (by omega)]; exact g4
  refine JD.seqK fun K hK => J.cw (CW.region ?_)
  simp (maxDischargeDepth := 16) [zY, g3]
  refine hte _ _ _ (hSa.rs hl hun) (by simp only [nrmR, AV.nrm, limR_nrm, trmR_nrm]) ?_
  simp (maxDischargeDepth := 16) [zY, g5]
  refine hK _ _ ?_; clear hK K
  refine JD.seqK fun K hK => J.cw (CW.region ?_)
  simp (maxDischargeDepth := 16) [zY, s5, s4]
  refine hK _ _ ?_; clear hK K
  have n5 := hno (P + 2) (by omega)
  have n4 := hno (P + 1) (by omega)
  have hS1 := hSa.set n5 (.cells [.lit (.bool false), .lit (.string st0), .lit (.int .u8 rfk'), .lit (.string rfnm'), .lit (.bool rfng'), .sl (limR rfdg') .no, .sl (trmR rfks') .no, .sl (prmR ps) .no, .sl (tyR rs) .no] 34)
  have hF1 := hSa.frS (V := fun p => P ≤ p) n5 (.inl (by show P ≤ P + 2; omega)) (.cells [.lit (.bool false), .lit (.string st0), .lit (.int .u8 rfk'), .lit (.string rfnm'), .lit (.bool rfng'), .sl (limR rfdg') .no, .sl (trmR rfks') .no, .sl (prmR ps) .no, .sl (tyR rs) .no] 34)
  have n4' := hF1.not n4 (by omega)
  have hS2 := hS1.set n4' (.cells [.lit (.bool false), .lit (.string st0), .lit (.int .u8 rfk'), .lit (.string rfnm'), .lit (.bool rfng'), .sl (limR rfdg') .no, .sl (trmR rfks') .no, .sl (prmR ps) .no, .sl (tyR rs) .no] 34)
  have hF2 := hS1.frS (V := fun p => P ≤ p) n4' (.inl (by show P ≤ P + 1; omega)) (.cells [.lit (.bool false), .lit (.string st0), .lit (.int .u8 rfk'), .lit (.string rfnm'), .lit (.bool rfng'), .sl (limR rfdg') .no, .sl (trmR rfks') .no, .sl (prmR ps) .no, .sl (tyR rs) .no] 34)
  have r4 : ((σa.set (P + 2) (.cells [.lit (.bool false), .lit (.string st0), .lit (.int .u8 rfk'), .lit (.string rfnm'), .lit (.bool rfng'), .sl (limR rfdg') .no, .sl (trmR rfks') .no, .sl (prmR ps) .no, .sl (tyR rs) .no] 34)).set (P + 1) (.cells [.lit (.bool false), .lit (.string st0), .lit (.int .u8 rfk'), .lit (.string rfnm'), .lit (.bool rfng'), .sl (limR rfdg') .no, .sl (trmR rfks') .no, .sl (prmR ps) .no, .sl (tyR rs) .no] 34))[P + 1]? = some (.cells [.lit (.bool false), .lit (.string st0), .lit (.int .u8 rfk'), .lit (.string rfnm'), .lit (.bool rfng'), .sl (limR rfdg') .no, .sl (trmR rfks') .no, .sl (prmR ps) .no, .sl (tyR rs) .no] 34) := List.getElem?_set_self (by simp; omega)
  refine JD.ret (hR0 _ _ _ ⟨.agg [.lit (.bool false), .lit (.string st0), .lit (.int .u8 rfk'), .lit (.string rfnm'), .lit (.bool rfng'), .sl (limR rfdg') .no, .sl (trmR rfks') .no, .sl (prmR ps) .no, .sl (tyR rs) .no], by simp [zA, omap, zC, zX, r4], by simp only [Ty.cs], hS2, ?_⟩)
  exact hFa.trans (hF1.trans0 hF2) fun p hp => .inr (by omega)
theorem kind_j (H : RnH S) : ∀ n : Nat, ∀ t : Ty, t.n ≤ n → t.n ≤ 1000000000 → 16 * t.n + 4 < N → OneJ S N 57 Ty.cs (renY NFp) bY t := by
 intro n
 induction n with
 | zero => intro t h; have := t.n_pos; omega
 | succ n ih =>
  intro t h hn hN
  obtain ⟨fn, st0, ⟨rfk, rfnm, rfng, rfdg, rfks⟩, ps, rs⟩ := t
  refine kind_s H fn st0 rfk rfnm rfng rfdg rfks ps rs hn hN (fun_j H (by omega) rs (fun x hx => ?_) ps fun p hp => ?_)
  · have := tyN_mem hx
    simp only [Ty.n] at h hn hN
    exact ih x (by omega) (by omega) (by omega)
  · have := prmN_mem hp
    have e := p.tyOf_n
    simp only [Ty.n] at h hn hN
    exact ih p.tyOf (by omega) (by omega) (by omega)
end
end Go.Proofs.YteajcnilihgheaaGreatDoor
