/-
 EV: the package rename: expressions, right sides, arms, however great; Fresh.
-/
import Derived.Test.YteajcnilihgheaaGreatDoorRw12M
import Derived.Test.YteajcnilihgheaaGreatDoorRw14M
import Derived.Test.YteajcnilihgheaaGreatDoorTBaseM
import Derived.Test.YteajcnilihgheaaGreatDoorRw6M
namespace Go.Proofs.YteajcnilihgheaaGreatDoor
set_option maxRecDepth 100000
set_option maxHeartbeats 8000000
set_option linter.unusedSimpArgs false
set_option linter.unusedVariables false
section
open Go.RowKit
variable {S : Sp} {N : Nat}
theorem all_j (H : RnH S) : ∀ n : Nat, (∀ x : Exp, x.n ≤ n → x.n ≤ 1000000000 → 16 * x.n + 4 < N → OneJ S N 33 Exp.cs (renE NFp) bE x) ∧ (∀ x : Rhs, x.n ≤ n → x.n ≤ 1000000000 → 16 * x.n + 4 < N → OneJ S N 63 Rhs.cs (renR NFp) bR x) ∧ (∀ x : Arm, x.n ≤ n → x.n ≤ 1000000000 → 16 * x.n + 4 < N → OneJ S N 67 Arm.cs (renM NFp) bM x) := by
 intro n
 induction n with
 | zero => exact ⟨fun x h => by have := x.n_pos; omega, fun x h => by have := x.n_pos; omega, fun x h => by have := x.n_pos; omega⟩
 | succ n ih =>
  obtain ⟨i1, i2, i3⟩ := ih
  refine ⟨fun x h hn hN => ?_, fun x h hn hN => ?_, fun x h hn hN => ?_⟩
  · obtain ⟨k, nm, ty, rh, ⟨amk, amnm, amng, amdg, amtr⟩, ar, bd⟩ := x
    have h' := h
    have hn' := hn
    have hN' := hN
    simp only [Exp.n] at h' hn' hN'
    exact expr_s H k nm ty rh amk amnm amng amdg amtr ar bd hn hN (fun y hy => by have := rhsN_mem hy; exact i2 y (by omega) (by omega) (by omega)) (fun y hy => by have := armN_mem hy; exact i3 y (by omega) (by omega) (by omega)) (fun y hy => by have := expN_mem hy; exact i1 y (by omega) (by omega) (by omega))
  · obtain ⟨k, nm, ats, ps, rs, bd, ts⟩ := x
    have h' := h
    have hn' := hn
    have hN' := hN
    simp only [Rhs.n] at h' hn' hN'
    exact rhs_j H k nm ats ps rs bd ts hn hN (fun y hy => by have := expN_mem hy; exact i1 y (by omega) (by omega) (by omega))
  · obtain ⟨cn, ns, bd⟩ := x
    have h' := h
    have hn' := hn
    have hN' := hN
    simp only [Arm.n] at h' hn' hN'
    exact arm_j H cn ns bd hn hN (fun y hy => by have := expN_mem hy; exact i1 y (by omega) (by omega) (by omega))
theorem extOf {σ σ' : Sto} (hl : σ.length ≤ σ'.length) (hk : ∀ p, p < σ.length → σ'[p]? = σ[p]?) : ∃ g, σ' = σ ++ g := by
 refine ⟨σ'.drop σ.length, ?_⟩
 refine List.ext_getElem? fun i => ?_
 rcases Nat.lt_or_ge i σ.length with h | h
 · rw [List.getElem?_append_left h, hk i h]
 · rw [List.getElem?_append_right h, List.getElem?_drop]
   congr 1; omega
theorem isOk0 : isOk [] [] := ⟨fun _ h => (by cases h), fun s => .inr ⟨by simp, rfl⟩⟩
theorem nextOk0 (u : List ByteArray) : nextOk u [] := ⟨fun _ h => (by cases h), fun b => ⟨0, Nat.zero_le _, .inl ⟨rfl, rfl⟩, fun j a b => (by omega)⟩⟩
theorem BS0 (σ : Sto) : BS (fun _ => []) [] σ := ⟨fun _ h => (by cases h), fun s => .inl ⟨rfl, rfl⟩, fun s s' id n n' h => (by cases h)⟩
theorem box7 (σ : Sto) (a b c d e f g : AObj) : (σ ++ [a, b, c, d, e, f, g])[σ.length]? = some a ∧ (σ ++ [a, b, c, d, e, f, g])[σ.length + 1]? = some b ∧ (σ ++ [a, b, c, d, e, f, g])[σ.length + 2]? = some c ∧ (σ ++ [a, b, c, d, e, f, g])[σ.length + 3]? = some d ∧ (σ ++ [a, b, c, d, e, f, g])[σ.length + 4]? = some e ∧ (σ ++ [a, b, c, d, e, f, g])[σ.length + 5]? = some f ∧ (σ ++ [a, b, c, d, e, f, g])[σ.length + 6]? = some g ∧ (σ ++ [a, b, c, d, e, f, g]).length = σ.length + 7 := by simp
theorem FreshC_j (H : RnH S) (hm1 : S.ms 32 = []) (y : List AV) (hy : y.length = 11) (x : List AV) (hx : x.length = 11) (bdk : Int) (bdnm : ByteArray) (bdty : List Ty) (bdrh : List Rhs) (bdamk : Int) (bdamnm : ByteArray) (bdamng : Bool) (bdamdg : List Int) (bdamtr : Bool) (bdar : List Arm) (bdbd : List Exp) (he : OneJ S N 33 Exp.cs (renE NFp) bE (.mk bdk bdnm bdty bdrh (.mk bdamk bdamnm bdamng bdamdg bdamtr) bdar bdbd)) (q : RQ) (u : List ByteArray) (st : ByteArray → List ByteArray) (l : Bnd) (p0 p1 p2 : Nat) (z : List AV) (hz : z.length = 11) (σ : Sto) (h : St q u st σ) (hl : Top l st) (hu : u.length + (bE (.mk bdk bdnm bdty bdrh (.mk bdamk bdamnm bdamng bdamdg bdamtr) bdar bdbd)).length ≤ 1000000000) (hb : ∀ s ∈ bE (.mk bdk bdnm bdty bdrh (.mk bdamk bdamnm bdamng bdamdg bdamtr) bdar bdbd), s.size ≤ 1000000000)
    (g0 : σ[p0]? = some (.cells [.ptr q.rid 0] 93)) (g1 : σ[p1]? = some (.cells (y ++ [.lit (.int .u8 bdk), .lit (.string bdnm), .sl (tyR bdty) .no, .sl (rhsR bdrh) .no, .lit (.int .u8 bdamk), .lit (.string bdamnm), .lit (.bool bdamng), .sl (limR bdamdg) .no, .lit (.bool bdamtr), .sl (armR bdar) .no, .sl (expR bdbd) .no]) 58)) (g2 : σ[p2]? = some (.cells (x ++ z) 58)) (hno : ¬ Own q σ p2) :
    JC Tryz.prog (S.E N) 32 [.ptr p0 0, .ptr p1 0, .ptr p2 0] σ fun r σ' => r = .ret (.tup []) ∧ St q (renE NFp l u (.mk bdk bdnm bdty bdrh (.mk bdamk bdamnm bdamng bdamdg bdamtr) bdar bdbd)).2 st σ' ∧ Fr q (fun p => p = p2) σ σ' ∧ σ'[p2]? = some (.cells (x ++ (renE NFp l u (.mk bdk bdnm bdty bdrh (.mk bdamk bdamnm bdamng bdamdg bdamtr) bdar bdbd)).1.cs) 58) := by
 obtain ⟨y0, y1, y2, y3, y4, y5, y6, y7, y8, y9, y10, rfl⟩ : ∃ a b c d e f g h i j k, y = [a, b, c, d, e, f, g, h, i, j, k] := by
  match y, hy with
  | [a, b, c, d, e, f, g, h, i, j, k], _ => exact ⟨a, b, c, d, e, f, g, h, i, j, k, rfl⟩
 obtain ⟨x0, x1, x2, x3, x4, x5, x6, x7, x8, x9, x10, rfl⟩ : ∃ a b c d e f g h i j k, x = [a, b, c, d, e, f, g, h, i, j, k] := by
  match x, hx with
  | [a, b, c, d, e, f, g, h, i, j, k], _ => exact ⟨a, b, c, d, e, f, g, h, i, j, k, rfl⟩
 obtain ⟨z0, z1, z2, z3, z4, z5, z6, z7, z8, z9, z10, rfl⟩ : ∃ a b c d e f g h i j k, z = [a, b, c, d, e, f, g, h, i, j, k] := by
  match z, hz with
  | [a, b, c, d, e, f, g, h, i, j, k], _ => exact ⟨a, b, c, d, e, f, g, h, i, j, k, rfl⟩
 refine JC.startG (fn := Tryz.f32) (codeOf H.code Tryz.func32 rfl (by kernel_rfl)) rfl hm1 rfl (zL rfl) fun tm => ?_
 refine JD.hide fun R0 hR0 => JD.region ?_
 have hone := he q u st l σ h hl hu hb
 generalize (renE NFp l u (.mk bdk bdnm bdty bdrh (.mk bdamk bdamnm bdamng bdamdg bdamtr) bdar bdbd)).1 = e' at *
 generalize (renE NFp l u (.mk bdk bdnm bdty bdrh (.mk bdamk bdamnm bdamng bdamdg bdamtr) bdar bdbd)).2 = u' at *
 obtain ⟨bdk', bdnm', bdty', bdrh', ⟨bdamk', bdamnm', bdamng', bdamdg', bdamtr'⟩, bdar', bdbd'⟩ := e'
 simp only [Exp.cs, List.cons_append, List.nil_append] at hone hR0 g1 g2
 simp (maxDischargeDepth := 16) [zY, symL, g0, g1]
 refine hone.mono ?_
 rintro r σ1 ⟨rfl, hS1, hF1⟩
 have b2 := hF1.get hno (fun x => x) g2
 have n2 := hF1.not hno (List.getElem?_eq_some_iff.1 g2).1
 have hl1 := (List.getElem?_eq_some_iff.1 b2).1
 simp (maxDischargeDepth := 16) [zY, symL, b2]
 exact hR0 _ _ _ ⟨.tup [], by simp [zA, omap], rfl, hS1.set n2 _, hF1.none.trans0 (hS1.frS (V := fun p => p = p2) n2 (.inl rfl) _), List.getElem?_set_self hl1⟩
structure FreshOk (p : List ByteArray × Fun) : Prop where
 n : p.2.n ≤ 1000000000
 u : p.1.length + (bF p.2).length ≤ 1000000000
 s : ∀ s ∈ bF p.2, s.size ≤ 1000000000
abbrev freshF : FS := smF (fun p : List ByteArray × Fun => [.sl (txtR p.1) .no, .agg p.2.cs]) (fun p => .tup [.agg (renF NFp p.1 p.2).1.cs, .sl (txtR (renF NFp p.1 p.2).2) .no]) FreshOk (fun p => p.2.n) 5
theorem Fresh_w (H : RnH S) (hm : S.ms 15 = []) (hm1 : S.ms 32 = []) : SmOk Tryz.prog S N 15 (fun p : List ByteArray × Fun => [.sl (txtR p.1) .no, .agg p.2.cs]) (fun p => .tup [.agg (renF NFp p.1 p.2).1.cs, .sl (txtR (renF NFp p.1 p.2).2) .no]) FreshOk (fun p => p.2.n) 5 := by
 rintro ⟨u, f⟩ σ ⟨hn, hu, hb⟩ hN
 dsimp only at hn hu hb hN ⊢
 refine JC.startG (fn := Tryz.f15) (codeOf H.code Tryz.func15 rfl (by kernel_rfl)) rfl hm rfl (zL rfl) fun tm => ?_
 refine JD.hide fun R0 hR0 => ?_
 obtain ⟨nm, ps, ⟨rsfn, rsst, ⟨rsrfk, rsrfnm, rsrfng, rsrfdg, rsrfks⟩, rsps, rsrs⟩, ⟨bdk, bdnm, bdty, bdrh, ⟨bdamk, bdamnm, bdamng, bdamdg, bdamtr⟩, bdar, bdbd⟩⟩ := f
 simp only [Fun.n] at hn hN
 simp only [Fun.cs]
 have mk1 := fun (ρ : Operand → Option AV) (σ : Sto) (ds : Option Tmp) (ty : TypeId) (po : String) (af : Array Edge) (gu : Option (Nat × Bool)) => es_mk (P := Tryz.prog) (M := []) (ρ := ρ) (σ := σ) (ds := ds) (ty := ty) (po := po) (af := af) (gu := gu) (t := 66) (kt := 9) (e := 4) (q := .str) (by kernel_rfl) (by kernel_rfl)
 have mk2 := fun (ρ : Operand → Option AV) (σ : Sto) (ds : Option Tmp) (ty : TypeId) (po : String) (af : Array Edge) (gu : Option (Nat × Bool)) => es_mk (P := Tryz.prog) (M := []) (ρ := ρ) (σ := σ) (ds := ds) (ty := ty) (po := po) (af := af) (gu := gu) (t := 94) (kt := 9) (e := 3) (q := .str) (by kernel_rfl) (by kernel_rfl)
 have mk3 := fun (ρ : Operand → Option AV) (σ : Sto) (ds : Option Tmp) (ty : TypeId) (po : String) (af : Array Edge) (gu : Option (Nat × Bool)) => es_mk (P := Tryz.prog) (M := []) (ρ := ρ) (σ := σ) (ds := ds) (ty := ty) (po := po) (af := af) (gu := gu) (t := 97) (kt := 9) (e := 23) (q := .str) (by kernel_rfl) (by kernel_rfl)
 refine JD.seqK fun K hK => J.cw (CW.region ?_)
 simp (maxDischargeDepth := 16) [zY]
 refine hK _ _ ?_; clear hK K
 refine JD.seqK fun K hK => J.cw (CW.region ?_)
 simp (maxDischargeDepth := 16) [zY, mk1, mk2, mk3]
 refine hK _ _ ?_; clear hK K
 obtain ⟨g0, g1, g2, g3, g4, g5, g6, hla⟩ := box7 σ (AObj.cells [.lit (.string nm), .sl (prmR ps) .no, .lit (.bool rsfn), .lit (.string rsst), .lit (.int .u8 rsrfk), .lit (.string rsrfnm), .lit (.bool rsrfng), .sl (limR rsrfdg) .no, .sl (trmR rsrfks) .no, .sl (prmR rsps) .no, .sl (tyR rsrs) .no, .lit (.int .u8 bdk), .lit (.string bdnm), .sl (tyR bdty) .no, .sl (rhsR bdrh) .no, .lit (.int .u8 bdamk), .lit (.string bdamnm), .lit (.bool bdamng), .sl (limR bdamdg) .no, .lit (.bool bdamtr), .sl (armR bdar) .no, .sl (expR bdbd) .no] 58) (AObj.cells [.lit (.string ⟨#[]⟩), .sl [] .full, .lit (.bool false), .lit (.string ⟨#[]⟩), .lit (.int .u8 0), .lit (.string ⟨#[]⟩), .lit (.bool false), .sl [] .full, .sl [] .full, .sl [] .full, .sl [] .full, .lit (.int .u8 0), .lit (.string ⟨#[]⟩), .sl [] .full, .sl [] .full, .lit (.int .u8 0), .lit (.string ⟨#[]⟩), .lit (.bool false), .sl [] .full, .lit (.bool false), .sl [] .full, .sl [] .full] 58) (.map .str []) (.map .str []) (.map .str []) (.cells [.sl [] .full, .mp (σ.length + 2), .mp (σ.length + 3), .mp (σ.length + 4)] 99) (.cells [.ptr (σ.length + 5) 0] 93)
 have hkA : ∀ p, p < σ.length → (σ ++ [(AObj.cells [.lit (.string nm), .sl (prmR ps) .no, .lit (.bool rsfn), .lit (.string rsst), .lit (.int .u8 rsrfk), .lit (.string rsrfnm), .lit (.bool rsrfng), .sl (limR rsrfdg) .no, .sl (trmR rsrfks) .no, .sl (prmR rsps) .no, .sl (tyR rsrs) .no, .lit (.int .u8 bdk), .lit (.string bdnm), .sl (tyR bdty) .no, .sl (rhsR bdrh) .no, .lit (.int .u8 bdamk), .lit (.string bdamnm), .lit (.bool bdamng), .sl (limR bdamdg) .no, .lit (.bool bdamtr), .sl (armR bdar) .no, .sl (expR bdbd) .no] 58), (AObj.cells [.lit (.string ⟨#[]⟩), .sl [] .full, .lit (.bool false), .lit (.string ⟨#[]⟩), .lit (.int .u8 0), .lit (.string ⟨#[]⟩), .lit (.bool false), .sl [] .full, .sl [] .full, .sl [] .full, .sl [] .full, .lit (.int .u8 0), .lit (.string ⟨#[]⟩), .sl [] .full, .sl [] .full, .lit (.int .u8 0), .lit (.string ⟨#[]⟩), .lit (.bool false), .sl [] .full, .lit (.bool false), .sl [] .full, .sl [] .full] 58), .map .str [], .map .str [], .map .str [], .cells [.sl [] .full, .mp (σ.length + 2), .mp (σ.length + 3), .mp (σ.length + 4)] 99, .cells [.ptr (σ.length + 5) 0] 93])[p]? = σ[p]? := fun p hp => st_old hp
 generalize hP : σ.length = P at *
 generalize σ ++ [_, _, _, _, _, _, _] = σa at *
 refine JD.keep [0, 3, 4, 5, 6] fun tm => ?_
 simp only [sel, List.contains_cons, List.contains_nil, Bool.or_false, Nat.reduceBEq, Bool.false_eq_true, if_false, if_true, Bool.or_true, Bool.true_or]
 have hA : (⟨P + 5, P + 2, P + 3, P + 4, .full, []⟩ : NS).AtV ([] ++ u) σa := ⟨g5, .inl ⟨rfl, rfl⟩, ⟨[], g2, isOk0⟩, ⟨[], g3, nextOk0 _⟩, by show P + 2 ≠ P + 3; omega⟩
 refine JD.seqK fun K hK => J.cw (CW.region ?_)
 simp (maxDischargeDepth := 16) [zY, g6]
 refine (use_ev (N := N) H.code H.us H.usb H.usm ⟨P + 5, P + 2, P + 3, P + 4, .full, []⟩ u .no σa hA (by simp only [List.length_nil]; omega)).mono ?_
 rintro r σb ⟨rfl, tok', hAb, htk, hKp⟩
 simp (maxDischargeDepth := 16) [zY]
 refine hK _ _ ?_; clear hK K
 have hbl := hKp.len
 have hnm : ∀ p, p < P ∨ p = P ∨ p = P + 1 ∨ p = P + 4 ∨ p = P + 6 → ¬ (⟨P + 5, P + 2, P + 3, P + 4, .full, []⟩ : NS).own p := fun p hp ho => by
  rcases ho with e | e | e | e
  · dsimp only at e; omega
  · dsimp only at e; omega
  · dsimp only at e; omega
  · cases e
 have b0 := (hKp.keep P (by omega) (hnm P (by omega))).trans g0
 have b1 := (hKp.keep (P + 1) (by omega) (hnm (P + 1) (by omega))).trans g1
 have b4 := (hKp.keep (P + 4) (by omega) (hnm (P + 4) (by omega))).trans g4
 have b6 := (hKp.keep (P + 6) (by omega) (hnm (P + 6) (by omega))).trans g6
 obtain ⟨q, hq⟩ : ∃ q : RQ, q = ⟨P + 5, P + 2, P + 3, P + 4⟩ := ⟨_, rfl⟩
 have hSb : St q u (fun _ => []) σb := by
  subst hq
  exact ⟨⟨tok', hAb⟩, ⟨[], b4, BS0 _⟩, fun s => Nat.zero_le _, by show P + 2 ≠ P + 4; omega, by show P + 3 ≠ P + 4; omega⟩
 have hob : ∀ p, p < P ∨ p = P ∨ p = P + 1 ∨ p = P + 6 → ¬ Own q σb p := fun p hp ho => by
  subst hq
  rcases ho with e | e | e | e | ⟨_, _, _, _, e⟩ | ⟨bs, s, n, e1, e2⟩
  · dsimp only at e; omega
  · dsimp only at e; omega
  · dsimp only at e; omega
  · dsimp only at e; omega
  · have := hAb.r
    dsimp only at this e
    rw [this] at e
    simp only [Option.some.injEq, AObj.cells.injEq, List.cons.injEq, AV.sl.injEq, and_true] at e
    rcases htk p e.1.2 with g | g
    · cases g
    · omega
  · dsimp only at e1
    rw [b4] at e1
    cases e1
    cases e2
 have hrid : q.rid = P + 5 := by rw [hq]
 have hT0 : Top [] (fun _ => []) := fun s => rfl
 have hkB : ∀ p, p < P → σb[p]? = σ[p]? := fun p hp => (hKp.keep p (by omega) (hnm p (.inl hp))).trans (hkA p hp)
 refine JD.seqK fun K hK => J.cw (CW.region ?_)
 simp (maxDischargeDepth := 16) [zY, b0]
 refine hK _ _ ?_; clear hK K
 have hSc := hSb.app [(AObj.cells [.lit (.string nm), .sl [] .full, .lit (.bool false), .lit (.string ⟨#[]⟩), .lit (.int .u8 0), .lit (.string ⟨#[]⟩), .lit (.bool false), .sl [] .full, .sl [] .full, .sl [] .full, .sl [] .full, .lit (.int .u8 0), .lit (.string ⟨#[]⟩), .sl [] .full, .sl [] .full, .lit (.int .u8 0), .lit (.string ⟨#[]⟩), .lit (.bool false), .sl [] .full, .lit (.bool false), .sl [] .full, .sl [] .full] 58)]
 have hFc := hSb.frA nV [(AObj.cells [.lit (.string nm), .sl [] .full, .lit (.bool false), .lit (.string ⟨#[]⟩), .lit (.int .u8 0), .lit (.string ⟨#[]⟩), .lit (.bool false), .sl [] .full, .sl [] .full, .sl [] .full, .sl [] .full, .lit (.int .u8 0), .lit (.string ⟨#[]⟩), .sl [] .full, .sl [] .full, .lit (.int .u8 0), .lit (.string ⟨#[]⟩), .lit (.bool false), .sl [] .full, .lit (.bool false), .sl [] .full, .sl [] .full] 58)]
 have c0 := (st_old (l := [(AObj.cells [.lit (.string nm), .sl [] .full, .lit (.bool false), .lit (.string ⟨#[]⟩), .lit (.int .u8 0), .lit (.string ⟨#[]⟩), .lit (.bool false), .sl [] .full, .sl [] .full, .sl [] .full, .sl [] .full, .lit (.int .u8 0), .lit (.string ⟨#[]⟩), .sl [] .full, .sl [] .full, .lit (.int .u8 0), .lit (.string ⟨#[]⟩), .lit (.bool false), .sl [] .full, .lit (.bool false), .sl [] .full, .sl [] .full] 58)]) (show P < σb.length by omega)).trans b0
 have c1 := (st_old (l := [(AObj.cells [.lit (.string nm), .sl [] .full, .lit (.bool false), .lit (.string ⟨#[]⟩), .lit (.int .u8 0), .lit (.string ⟨#[]⟩), .lit (.bool false), .sl [] .full, .sl [] .full, .sl [] .full, .sl [] .full, .lit (.int .u8 0), .lit (.string ⟨#[]⟩), .sl [] .full, .sl [] .full, .lit (.int .u8 0), .lit (.string ⟨#[]⟩), .lit (.bool false), .sl [] .full, .lit (.bool false), .sl [] .full, .sl [] .full] 58)]) (show P + 1 < σb.length by omega)).trans b1
 have c6 := (st_old (l := [(AObj.cells [.lit (.string nm), .sl [] .full, .lit (.bool false), .lit (.string ⟨#[]⟩), .lit (.int .u8 0), .lit (.string ⟨#[]⟩), .lit (.bool false), .sl [] .full, .sl [] .full, .sl [] .full, .sl [] .full, .lit (.int .u8 0), .lit (.string ⟨#[]⟩), .sl [] .full, .sl [] .full, .lit (.int .u8 0), .lit (.string ⟨#[]⟩), .lit (.bool false), .sl [] .full, .lit (.bool false), .sl [] .full, .sl [] .full] 58)]) (show P + 6 < σb.length by omega)).trans b6
 have cX : (σb ++ [(AObj.cells [.lit (.string nm), .sl [] .full, .lit (.bool false), .lit (.string ⟨#[]⟩), .lit (.int .u8 0), .lit (.string ⟨#[]⟩), .lit (.bool false), .sl [] .full, .sl [] .full, .sl [] .full, .sl [] .full, .lit (.int .u8 0), .lit (.string ⟨#[]⟩), .sl [] .full, .sl [] .full, .lit (.int .u8 0), .lit (.string ⟨#[]⟩), .lit (.bool false), .sl [] .full, .lit (.bool false), .sl [] .full, .sl [] .full] 58)])[σb.length]? = some (AObj.cells [.lit (.string nm), .sl [] .full, .lit (.bool false), .lit (.string ⟨#[]⟩), .lit (.int .u8 0), .lit (.string ⟨#[]⟩), .lit (.bool false), .sl [] .full, .sl [] .full, .sl [] .full, .sl [] .full, .lit (.int .u8 0), .lit (.string ⟨#[]⟩), .sl [] .full, .sl [] .full, .lit (.int .u8 0), .lit (.string ⟨#[]⟩), .lit (.bool false), .sl [] .full, .lit (.bool false), .sl [] .full, .sl [] .full] 58) := by simp
 have oX := hSb.newA [(AObj.cells [.lit (.string nm), .sl [] .full, .lit (.bool false), .lit (.string ⟨#[]⟩), .lit (.int .u8 0), .lit (.string ⟨#[]⟩), .lit (.bool false), .sl [] .full, .sl [] .full, .sl [] .full, .sl [] .full, .lit (.int .u8 0), .lit (.string ⟨#[]⟩), .sl [] .full, .sl [] .full, .lit (.int .u8 0), .lit (.string ⟨#[]⟩), .lit (.bool false), .sl [] .full, .lit (.bool false), .sl [] .full, .sl [] .full] 58)] (Nat.le_refl _)
 have hcl : (σb ++ [(AObj.cells [.lit (.string nm), .sl [] .full, .lit (.bool false), .lit (.string ⟨#[]⟩), .lit (.int .u8 0), .lit (.string ⟨#[]⟩), .lit (.bool false), .sl [] .full, .sl [] .full, .sl [] .full, .sl [] .full, .lit (.int .u8 0), .lit (.string ⟨#[]⟩), .sl [] .full, .sl [] .full, .lit (.int .u8 0), .lit (.string ⟨#[]⟩), .lit (.bool false), .sl [] .full, .lit (.bool false), .sl [] .full, .sl [] .full] 58)]).length = σb.length + 1 := by simp
 generalize hX : σb.length = X at *
 generalize σb ++ [(AObj.cells [.lit (.string nm), .sl [] .full, .lit (.bool false), .lit (.string ⟨#[]⟩), .lit (.int .u8 0), .lit (.string ⟨#[]⟩), .lit (.bool false), .sl [] .full, .sl [] .full, .sl [] .full, .sl [] .full, .lit (.int .u8 0), .lit (.string ⟨#[]⟩), .sl [] .full, .sl [] .full, .lit (.int .u8 0), .lit (.string ⟨#[]⟩), .lit (.bool false), .sl [] .full, .lit (.bool false), .sl [] .full, .sl [] .full] 58)] = σc at *
 have hoc : ∀ p, p < P ∨ p = P ∨ p = P + 1 ∨ p = P + 6 → ¬ Own q σc p := fun p hp => hFc.not (hob p hp) (by omega)
 refine JD.seqK fun K hK => J.cw (CW.region ?_)
 simp (maxDischargeDepth := 16) [zY]
 refine hK _ _ ?_; clear hK K
 refine JD.keep [3, 4, 6, 7] fun tm => ?_
 simp only [sel, List.contains_cons, List.contains_nil, Bool.or_false, Nat.reduceBEq, Bool.false_eq_true, if_false, if_true, Bool.or_true, Bool.true_or]
 have hbF : bF (.mk nm ps (.mk rsfn rsst (.mk rsrfk rsrfnm rsrfng rsrfdg rsrfks) rsps rsrs) (.mk bdk bdnm bdty bdrh (.mk bdamk bdamnm bdamng bdamdg bdamtr) bdar bdbd)) = bPs ps ++ bY (.mk rsfn rsst (.mk rsrfk rsrfnm rsrfng rsrfdg rsrfks) rsps rsrs) ++ bE (.mk bdk bdnm bdty bdrh (.mk bdamk bdamnm bdamng bdamdg bdamtr) bdar bdbd) := rfl
 rw [hbF] at hu hb
 simp only [List.length_append] at hu
 have hbY : bYs [Ty.mk rsfn rsst (.mk rsrfk rsrfnm rsrfng rsrfdg rsrfks) rsps rsrs] = bY (.mk rsfn rsst (.mk rsrfk rsrfnm rsrfng rsrfdg rsrfks) rsps rsrs) := by simp [bYs]
 have an1 := (anew_Ps (F := NFp) [] u ps).len
 have an2 := (anew_Ys (F := NFp) (renPs NFp [] u ps).2.1 (renPs NFp [] u ps).2.2 [Ty.mk rsfn rsst (.mk rsrfk rsrfnm rsrfng rsrfdg rsrfks) rsps rsrs]).len
 have an3 := (anew_E (F := NFp) (renPs NFp [] u ps).2.1 (renYs NFp (renPs NFp [] u ps).2.1 (renPs NFp [] u ps).2.2 [Ty.mk rsfn rsst (.mk rsrfk rsrfnm rsrfng rsrfdg rsrfks) rsps rsrs]).2 (.mk bdk bdnm bdty bdrh (.mk bdamk bdamnm bdamng bdamdg bdamtr) bdar bdbd)).len
 rw [hbY] at an2
 have hlp := prmN_len ps
 have hfun := fun_j (N := N) H (by omega) [Ty.mk rsfn rsst (.mk rsrfk rsrfnm rsrfng rsrfdg rsrfks) rsps rsrs] (fun x hx => by
  rw [List.mem_singleton] at hx
  subst hx
  exact kind_j H _ _ (Nat.le_refl _) (by simp only [Ty.n]; omega) (by simp only [Ty.n]; omega)) ps (fun p hp => by
  have h1 := prmN_mem hp
  have h2 := p.tyOf_n
  exact kind_j H p.tyOf.n p.tyOf (Nat.le_refl _) (by omega) (by omega))
 have hexp := (all_j (N := N) H (Exp.mk bdk bdnm bdty bdrh (.mk bdamk bdamnm bdamng bdamdg bdamtr) bdar bdbd).n).1 (.mk bdk bdnm bdty bdrh (.mk bdamk bdamnm bdamng bdamdg bdamtr) bdar bdbd) (Nat.le_refl _) (by simp only [Exp.n]; omega) (by simp only [Exp.n]; omega)
 have hcall := hfun q u (renE NFp (renPs NFp [] u ps).2.1 (renYs NFp (renPs NFp [] u ps).2.1 (renPs NFp [] u ps).2.2 [Ty.mk rsfn rsst (.mk rsrfk rsrfnm rsrfng rsrfdg rsrfks) rsps rsrs]).2 (.mk bdk bdnm bdty bdrh (.mk bdamk bdamnm bdamng bdamdg bdamtr) bdar bdbd)).2 (fun _ => []) [] (fun p => p = X) (fun σ' => σ'[X]? = some (.cells ([.lit (.string nm), .sl [] .full, .lit (.bool false), .lit (.string ⟨#[]⟩), .lit (.int .u8 0), .lit (.string ⟨#[]⟩), .lit (.bool false), .sl [] .full, .sl [] .full, .sl [] .full, .sl [] .full] ++ (renE NFp (renPs NFp [] u ps).2.1 (renYs NFp (renPs NFp [] u ps).2.1 (renPs NFp [] u ps).2.2 [Ty.mk rsfn rsst (.mk rsrfk rsrfnm rsrfng rsrfdg rsrfks) rsps rsrs]).2 (.mk bdk bdnm bdty bdrh (.mk bdamk bdamnm bdamng bdamdg bdamtr) bdar bdbd)).1.cs) 58)) 32 [.ptr (P + 6) 0, .ptr P 0, .ptr X 0] .no .full σc hSc hT0 (by omega) (by omega) (fun s hs => hb s (by simp [hs])) (fun s hs => hb s (by rw [hbY] at hs; simp [hs])) (by omega) (by simp) (fun p hp => by omega)
  (fun st1 σ1 hS1 hT1 hF1 => FreshC_j H hm1 [.lit (.string nm), .sl (prmR ps) .no, .lit (.bool rsfn), .lit (.string rsst), .lit (.int .u8 rsrfk), .lit (.string rsrfnm), .lit (.bool rsrfng), .sl (limR rsrfdg) .no, .sl (trmR rsrfks) .no, .sl (prmR rsps) .no, .sl (tyR rsrs) .no] rfl [.lit (.string nm), .sl [] .full, .lit (.bool false), .lit (.string ⟨#[]⟩), .lit (.int .u8 0), .lit (.string ⟨#[]⟩), .lit (.bool false), .sl [] .full, .sl [] .full, .sl [] .full, .sl [] .full] rfl bdk bdnm bdty bdrh bdamk bdamnm bdamng bdamdg bdamtr bdar bdbd hexp q _ st1 _ (P + 6) P X [.lit (.int .u8 0), .lit (.string ⟨#[]⟩), .sl [] .full, .sl [] .full, .lit (.int .u8 0), .lit (.string ⟨#[]⟩), .lit (.bool false), .sl [] .full, .lit (.bool false), .sl [] .full, .sl [] .full] rfl σ1 hS1 hT1 (by omega) (fun s hs => hb s (by simp [hs])) (hF1.get (hoc _ (by omega)) (fun x => x) (by rw [hrid]; exact c6)) (hF1.get (hoc _ (by omega)) (fun x => x) c0) (hF1.get oX (fun x => x) cX) (hF1.not oX (by omega)))
 have eF : renF NFp u (.mk nm ps (.mk rsfn rsst (.mk rsrfk rsrfnm rsrfng rsrfdg rsrfks) rsps rsrs) (.mk bdk bdnm bdty bdrh (.mk bdamk bdamnm bdamng bdamdg bdamtr) bdar bdbd)) = (.mk nm (renPs NFp [] u ps).1 (renY NFp (renPs NFp [] u ps).2.1 (renPs NFp [] u ps).2.2 (.mk rsfn rsst (.mk rsrfk rsrfnm rsrfng rsrfdg rsrfks) rsps rsrs)).1 (renE NFp (renPs NFp [] u ps).2.1 (renYs NFp (renPs NFp [] u ps).2.1 (renPs NFp [] u ps).2.2 [Ty.mk rsfn rsst (.mk rsrfk rsrfnm rsrfng rsrfdg rsrfks) rsps rsrs]).2 (.mk bdk bdnm bdty bdrh (.mk bdamk bdamnm bdamng bdamdg bdamtr) bdar bdbd)).1, (renE NFp (renPs NFp [] u ps).2.1 (renYs NFp (renPs NFp [] u ps).2.1 (renPs NFp [] u ps).2.2 [Ty.mk rsfn rsst (.mk rsrfk rsrfnm rsrfng rsrfdg rsrfks) rsps rsrs]).2 (.mk bdk bdnm bdty bdrh (.mk bdamk bdamnm bdamng bdamdg bdamtr) bdar bdbd)).2) := by
  rw [renYs, renYs]; rfl
 have eY : (renYs NFp (renPs NFp [] u ps).2.1 (renPs NFp [] u ps).2.2 [Ty.mk rsfn rsst (.mk rsrfk rsrfnm rsrfng rsrfdg rsrfks) rsps rsrs]).1 = [(renY NFp (renPs NFp [] u ps).2.1 (renPs NFp [] u ps).2.2 (.mk rsfn rsst (.mk rsrfk rsrfnm rsrfng rsrfdg rsrfks) rsps rsrs)).1] := by rw [renYs, renYs]
 rw [eY] at hcall
 rw [eF] at hR0
 rw [hrid] at hcall
 generalize (renY NFp (renPs NFp [] u ps).2.1 (renPs NFp [] u ps).2.2 (.mk rsfn rsst (.mk rsrfk rsrfnm rsrfng rsrfdg rsrfks) rsps rsrs)).1 = rs' at *
 generalize (renE NFp (renPs NFp [] u ps).2.1 (renYs NFp (renPs NFp [] u ps).2.1 (renPs NFp [] u ps).2.2 [Ty.mk rsfn rsst (.mk rsrfk rsrfnm rsrfng rsrfdg rsrfks) rsps rsrs]).2 (.mk bdk bdnm bdty bdrh (.mk bdamk bdamnm bdamng bdamdg bdamtr) bdar bdbd)).1 = bd' at *
 generalize (renE NFp (renPs NFp [] u ps).2.1 (renYs NFp (renPs NFp [] u ps).2.1 (renPs NFp [] u ps).2.2 [Ty.mk rsfn rsst (.mk rsrfk rsrfnm rsrfng rsrfdg rsrfks) rsps rsrs]).2 (.mk bdk bdnm bdty bdrh (.mk bdamk bdamnm bdamng bdamdg bdamtr) bdar bdbd)).2 = u' at *
 generalize (renPs NFp [] u ps).1 = ps' at *
 obtain ⟨rsfn', rsst', ⟨rsrfk', rsrfnm', rsrfng', rsrfdg', rsrfks'⟩, rsps', rsrs'⟩ := rs'
 obtain ⟨bdk', bdnm', bdty', bdrh', ⟨bdamk', bdamnm', bdamng', bdamdg', bdamtr'⟩, bdar', bdbd'⟩ := bd'
 simp only [tyR, Ty.cs, Exp.cs, Fun.cs, List.cons_append, List.nil_append] at hcall hR0
 clear hfun hexp hbF
 refine JD.seqK fun K hK => JD.region ?_
 simp (maxDischargeDepth := 16) [zY, symL, c6, c0]
 refine hcall.mono ?_
 clear hcall
 rintro r σd ⟨rfl, hSd, hFd, σ2, hR, hF2, hF3⟩
 have dX := hF3.get (hF2.not oX (by omega)) (fun v => by omega) hR
 have d1 := hFd.get (hoc (P + 1) (by omega)) (fun v => by omega) c1
 have d6 := hFd.get (hoc (P + 6) (by omega)) (fun v => by omega) c6
 have oX' := hFd.not oX (by omega)
 have o1 := hFd.not (hoc (P + 1) (by omega)) (by omega)
 have hdl := hFd.len
 have sX : ∀ o, (σd.set X o)[X]? = some o := fun o => List.getElem?_set_self (by omega)
 have s1 : ∀ o, (σd.set X o)[P + 1]? = some (AObj.cells [.lit (.string ⟨#[]⟩), .sl [] .full, .lit (.bool false), .lit (.string ⟨#[]⟩), .lit (.int .u8 0), .lit (.string ⟨#[]⟩), .lit (.bool false), .sl [] .full, .sl [] .full, .sl [] .full, .sl [] .full, .lit (.int .u8 0), .lit (.string ⟨#[]⟩), .sl [] .full, .sl [] .full, .lit (.int .u8 0), .lit (.string ⟨#[]⟩), .lit (.bool false), .sl [] .full, .lit (.bool false), .sl [] .full, .sl [] .full] 58) := fun o => by rw [List.getElem?_set_ne (by omega)]; exact d1
 have s6 : ∀ o, (σd.set X o)[P + 6]? = some (.cells [.ptr (P + 5) 0] 93) := fun o => by rw [List.getElem?_set_ne (by omega)]; exact d6
 obtain ⟨tok2, bs2, is2, nx2, hr2, _⟩ := hSd.get
 rw [hrid] at hr2
 have s5 : ∀ o, (σd.set X o)[P + 5]? = some (.cells [.sl (txtR u') tok2, .mp q.iid, .mp q.nid, .mp q.bid] 99) := fun o => by rw [List.getElem?_set_ne (by omega)]; exact hr2
 simp (maxDischargeDepth := 16) [zY, symL, dX]
 refine hK _ _ ?_; clear hK K
 refine JD.seqK fun K hK => J.cw (CW.region ?_)
 simp (maxDischargeDepth := 16) [zY, sX]
 refine hK _ _ ?_; clear hK K
 refine JD.seqK fun K hK => J.cw (CW.draw (by kernel_rfl) ?_)
 simp (maxDischargeDepth := 16) [zY, sX, s1, s6, s5]
 refine ⟨drawOk_ren [X, P + 6, P + 5, P + 1] (by simp; omega) [.reads 0, .reads 1, .pure, .pure, .pure, .reads 2, .writes 3, .pure] (by kernel_rfl) (by kernel_rfl), hK _ _ ?_⟩; clear hK K
 have hS1 := hSd.set oX' (AObj.cells [.lit (.string nm), .sl (prmR ps') .no, .lit (.bool rsfn'), .lit (.string rsst'), .lit (.int .u8 rsrfk'), .lit (.string rsrfnm'), .lit (.bool rsrfng'), .sl (limR rsrfdg') .no, .sl (trmR rsrfks') .no, .sl (prmR rsps') .no, .sl (tyR rsrs') .no, .lit (.int .u8 bdk'), .lit (.string bdnm'), .sl (tyR bdty') .no, .sl (rhsR bdrh') .no, .lit (.int .u8 bdamk'), .lit (.string bdamnm'), .lit (.bool bdamng'), .sl (limR bdamdg') .no, .lit (.bool bdamtr'), .sl (armR bdar') .no, .sl (expR bdbd') .no] 58)
 have hF4 := hSd.frS (V := fun p => P ≤ p) oX' (.inl (by show P ≤ X; omega)) (AObj.cells [.lit (.string nm), .sl (prmR ps') .no, .lit (.bool rsfn'), .lit (.string rsst'), .lit (.int .u8 rsrfk'), .lit (.string rsrfnm'), .lit (.bool rsrfng'), .sl (limR rsrfdg') .no, .sl (trmR rsrfks') .no, .sl (prmR rsps') .no, .sl (tyR rsrs') .no, .lit (.int .u8 bdk'), .lit (.string bdnm'), .sl (tyR bdty') .no, .sl (rhsR bdrh') .no, .lit (.int .u8 bdamk'), .lit (.string bdamnm'), .lit (.bool bdamng'), .sl (limR bdamdg') .no, .lit (.bool bdamtr'), .sl (armR bdar') .no, .sl (expR bdbd') .no] 58)
 have o1' := hF4.not o1 (by omega)
 have hF5 := hS1.frS (V := fun p => P ≤ p) o1' (.inl (by show P ≤ P + 1; omega)) (AObj.cells [.lit (.string nm), .sl (prmR ps') .no, .lit (.bool rsfn'), .lit (.string rsst'), .lit (.int .u8 rsrfk'), .lit (.string rsrfnm'), .lit (.bool rsrfng'), .sl (limR rsrfdg') .no, .sl (trmR rsrfks') .no, .sl (prmR rsps') .no, .sl (tyR rsrs') .no, .lit (.int .u8 bdk'), .lit (.string bdnm'), .sl (tyR bdty') .no, .sl (rhsR bdrh') .no, .lit (.int .u8 bdamk'), .lit (.string bdamnm'), .lit (.bool bdamng'), .sl (limR bdamdg') .no, .lit (.bool bdamtr'), .sl (armR bdar') .no, .sl (expR bdbd') .no] 58)
 have r1 : ((σd.set X (AObj.cells [.lit (.string nm), .sl (prmR ps') .no, .lit (.bool rsfn'), .lit (.string rsst'), .lit (.int .u8 rsrfk'), .lit (.string rsrfnm'), .lit (.bool rsrfng'), .sl (limR rsrfdg') .no, .sl (trmR rsrfks') .no, .sl (prmR rsps') .no, .sl (tyR rsrs') .no, .lit (.int .u8 bdk'), .lit (.string bdnm'), .sl (tyR bdty') .no, .sl (rhsR bdrh') .no, .lit (.int .u8 bdamk'), .lit (.string bdamnm'), .lit (.bool bdamng'), .sl (limR bdamdg') .no, .lit (.bool bdamtr'), .sl (armR bdar') .no, .sl (expR bdbd') .no] 58)).set (P + 1) (AObj.cells [.lit (.string nm), .sl (prmR ps') .no, .lit (.bool rsfn'), .lit (.string rsst'), .lit (.int .u8 rsrfk'), .lit (.string rsrfnm'), .lit (.bool rsrfng'), .sl (limR rsrfdg') .no, .sl (trmR rsrfks') .no, .sl (prmR rsps') .no, .sl (tyR rsrs') .no, .lit (.int .u8 bdk'), .lit (.string bdnm'), .sl (tyR bdty') .no, .sl (rhsR bdrh') .no, .lit (.int .u8 bdamk'), .lit (.string bdamnm'), .lit (.bool bdamng'), .sl (limR bdamdg') .no, .lit (.bool bdamtr'), .sl (armR bdar') .no, .sl (expR bdbd') .no] 58))[P + 1]? = some (AObj.cells [.lit (.string nm), .sl (prmR ps') .no, .lit (.bool rsfn'), .lit (.string rsst'), .lit (.int .u8 rsrfk'), .lit (.string rsrfnm'), .lit (.bool rsrfng'), .sl (limR rsrfdg') .no, .sl (trmR rsrfks') .no, .sl (prmR rsps') .no, .sl (tyR rsrs') .no, .lit (.int .u8 bdk'), .lit (.string bdnm'), .sl (tyR bdty') .no, .sl (rhsR bdrh') .no, .lit (.int .u8 bdamk'), .lit (.string bdamnm'), .lit (.bool bdamng'), .sl (limR bdamdg') .no, .lit (.bool bdamtr'), .sl (armR bdar') .no, .sl (expR bdbd') .no] 58) := List.getElem?_set_self (by simp; omega)
 have hFz : Fr q (fun p => P ≤ p) σb ((σd.set X (AObj.cells [.lit (.string nm), .sl (prmR ps') .no, .lit (.bool rsfn'), .lit (.string rsst'), .lit (.int .u8 rsrfk'), .lit (.string rsrfnm'), .lit (.bool rsrfng'), .sl (limR rsrfdg') .no, .sl (trmR rsrfks') .no, .sl (prmR rsps') .no, .sl (tyR rsrs') .no, .lit (.int .u8 bdk'), .lit (.string bdnm'), .sl (tyR bdty') .no, .sl (rhsR bdrh') .no, .lit (.int .u8 bdamk'), .lit (.string bdamnm'), .lit (.bool bdamng'), .sl (limR bdamdg') .no, .lit (.bool bdamtr'), .sl (armR bdar') .no, .sl (expR bdbd') .no] 58)).set (P + 1) (AObj.cells [.lit (.string nm), .sl (prmR ps') .no, .lit (.bool rsfn'), .lit (.string rsst'), .lit (.int .u8 rsrfk'), .lit (.string rsrfnm'), .lit (.bool rsrfng'), .sl (limR rsrfdg') .no, .sl (trmR rsrfks') .no, .sl (prmR rsps') .no, .sl (tyR rsrs') .no, .lit (.int .u8 bdk'), .lit (.string bdnm'), .sl (tyR bdty') .no, .sl (rhsR bdrh') .no, .lit (.int .u8 bdamk'), .lit (.string bdamnm'), .lit (.bool bdamng'), .sl (limR bdamdg') .no, .lit (.bool bdamtr'), .sl (armR bdar') .no, .sl (expR bdbd') .no] 58)) := ((hFc.none.trans0 (hFd.more fun p hp => .inl (by omega))).trans0 hF4).trans0 hF5
 obtain ⟨g, hg⟩ := extOf (σ := σ) (σ' := (σd.set X (AObj.cells [.lit (.string nm), .sl (prmR ps') .no, .lit (.bool rsfn'), .lit (.string rsst'), .lit (.int .u8 rsrfk'), .lit (.string rsrfnm'), .lit (.bool rsrfng'), .sl (limR rsrfdg') .no, .sl (trmR rsrfks') .no, .sl (prmR rsps') .no, .sl (tyR rsrs') .no, .lit (.int .u8 bdk'), .lit (.string bdnm'), .sl (tyR bdty') .no, .sl (rhsR bdrh') .no, .lit (.int .u8 bdamk'), .lit (.string bdamnm'), .lit (.bool bdamng'), .sl (limR bdamdg') .no, .lit (.bool bdamtr'), .sl (armR bdar') .no, .sl (expR bdbd') .no] 58)).set (P + 1) (AObj.cells [.lit (.string nm), .sl (prmR ps') .no, .lit (.bool rsfn'), .lit (.string rsst'), .lit (.int .u8 rsrfk'), .lit (.string rsrfnm'), .lit (.bool rsrfng'), .sl (limR rsrfdg') .no, .sl (trmR rsrfks') .no, .sl (prmR rsps') .no, .sl (tyR rsrs') .no, .lit (.int .u8 bdk'), .lit (.string bdnm'), .sl (tyR bdty') .no, .sl (rhsR bdrh') .no, .lit (.int .u8 bdamk'), .lit (.string bdamnm'), .lit (.bool bdamng'), .sl (limR bdamdg') .no, .lit (.bool bdamtr'), .sl (armR bdar') .no, .sl (expR bdbd') .no] 58)) (by have := hFz.len; omega) fun p hp => (hFz.keep p (by omega) (hob p (.inl (by omega))) (by omega)).trans (hkB p (by omega))
 refine JD.ret (hR0 _ _ _ ⟨.tup [.agg [.lit (.string nm), .sl (prmR ps') .no, .lit (.bool rsfn'), .lit (.string rsst'), .lit (.int .u8 rsrfk'), .lit (.string rsrfnm'), .lit (.bool rsrfng'), .sl (limR rsrfdg') .no, .sl (trmR rsrfks') .no, .sl (prmR rsps') .no, .sl (tyR rsrs') .no, .lit (.int .u8 bdk'), .lit (.string bdnm'), .sl (tyR bdty') .no, .sl (rhsR bdrh') .no, .lit (.int .u8 bdamk'), .lit (.string bdamnm'), .lit (.bool bdamng'), .sl (limR bdamdg') .no, .lit (.bool bdamtr'), .sl (armR bdar') .no, .sl (expR bdbd') .no], .sl (txtR u') tok2], ?_, ?_⟩)
 · simp [zA, omap, zC, zB, zX, r1]
 · rw [hg]
   exact done (by simp [AV.pln, plnR, trmR_pln, prmR_pln, tyR_pln, rhsR_pln, armR_pln, expR_pln]) (by simp [AV.nrm, nrmR, trmR_nrm, prmR_nrm, tyR_nrm, rhsR_nrm, armR_nrm, expR_nrm])
end
section
open Go.RowKit
variable {S : Sp} {N : Nat}
structure Gw (σ : Sto) (tok : Tok) (σ' : Sto) (m : Nat) (tok' : Tok) : Prop where
 t : TokS σ' m 9 tok'
 len : σ.length ≤ σ'.length
 keep : ∀ p, p < σ.length → tok ≠ .own p → σ'[p]? = σ[p]?
 own : ∀ i, tok' = .own i → tok = .own i ∨ σ.length ≤ i
theorem Gw.refl {σ : Sto} {m : Nat} {tok : Tok} (h : TokS σ m 9 tok) : Gw σ tok σ m tok := ⟨h, Nat.le_refl _, fun _ _ _ => rfl, fun i e => .inl e⟩
theorem Gw.trans {σ σ1 σ2 : Sto} {m1 m2 : Nat} {tok tok1 tok2 : Tok} (h : Gw σ tok σ1 m1 tok1) (g : Gw σ1 tok1 σ2 m2 tok2) : Gw σ tok σ2 m2 tok2 := by
 have hl := h.len
 refine ⟨g.t, Nat.le_trans h.len g.len, fun p hp hn => ?_, fun i e => ?_⟩
 · rw [g.keep p (by omega) fun e => ?_, h.keep p hp hn]
   rcases h.own p e with e | e
   · exact hn e
   · omega
 · rcases g.own i e with e | e
   · exact h.own i e
   · exact .inr (by omega)
theorem Gw.app {σ : Sto} {m : Nat} {tok : Tok} (h : TokS σ m 9 tok) (l : Sto) : Gw σ tok (σ ++ l) m tok := by
 refine ⟨?_, by simp, fun p hp _ => List.getElem?_append_left hp, fun i e => .inl e⟩
 rcases h with g | ⟨i, e1, e2⟩
 · exact .inl g
 · exact .inr ⟨i, e1, (st_old (List.getElem?_eq_some_iff.1 e2).1).trans e2⟩
theorem Gw.get {σ σ' : Sto} {m m0 : Nat} {tok tok' : Tok} (h : Gw σ tok σ' m tok') (h0 : TokS σ m0 9 tok) {p : Nat} {cs : List AV} {T : TypeId} (ho : σ[p]? = some (.cells cs T)) : σ'[p]? = some (.cells cs T) := by
 rw [h.keep p (List.getElem?_eq_some_iff.1 ho).1 (h0.ne ho fun m e => by cases e)]; exact ho
theorem app_txt {σ : Sto} {o : List ByteArray} {tok : Tok} (h : TokS σ o.length 9 tok) (l : List ByteArray) (hl : o.length + l.length ≤ 1000000000) :
    ∃ t' σ' acc, Gw σ tok σ' (o.length + l.length) t' ∧ ∀ (tm : List AV) (ds : Option Tmp) (ty : TypeId) (po : String) (af : Array Edge) (gu : Option (Nat × Bool)) (x y : Operand) (tk : Tok), evx tm x = some (.sl (txtR o) tok) → evx tm y = some (.sl (txtR l) tk) →
     evStep Tryz.prog [] (evx tm) σ ⟨ds, .call ⟨.builtin .append, #[x, y], #[23, 23]⟩, ty, po, af, gu⟩ = some (.val (.sl (txtR (o ++ l)) t') σ' acc) := by
 obtain ⟨t', σ', acc, t1, t2, t3, t4, hap⟩ := app_own (P := Tryz.prog) (M := []) (σ := σ) (t := 23) (e := 9) (k := 0) (by_ := 16) (es := txtR o) (fs := txtR l) (by kernel_rfl) (by kernel_rfl) (by kernel_rfl) (by kernel_rfl) (by simpa using h) (txtR_hd _) (txtR_hd _) (by simp only [txtR_len]; omega) (by simp only [txtR_len]; omega)
 refine ⟨t', σ', acc, ⟨by simpa using t1, t2, t3, t4⟩, ?_⟩
 rw [show txtR o ++ stripRows (txtR l) = txtR (o ++ l) by rw [txtR_app]; congr 1; exact txtR_stp l] at hap
 exact hap
theorem bPs_f : ∀ a : List Prm, bPs a = a.flatMap bP
 | [] => by rw [bPs]; rfl
 | x :: a => by rw [bPs, List.flatMap_cons, bPs_f a]
theorem flat_take {T : Type} {b : T → List ByteArray} {a : List T} {i : Nat} (h : i < a.length) : (a.take (i + 1)).flatMap b = (a.take i).flatMap b ++ b a[i] ∧ ((a.take i).flatMap b).length + (b a[i]).length ≤ (a.flatMap b).length := by
 have e : a = a.take i ++ a[i] :: a.drop (i + 1) := by rw [← List.drop_eq_getElem_cons h, List.take_append_drop]
 refine ⟨by rw [List.take_succ_eq_append_getElem h, List.flatMap_append]; simp, ?_⟩
 have : (a.flatMap b).length = ((a.take i).flatMap b).length + (b a[i]).length + ((a.drop (i + 1)).flatMap b).length := by
  conv => lhs; rw [e]
  rw [List.flatMap_append, List.length_append, List.flatMap_cons, List.length_append]
  omega
 omega
end
end Go.Proofs.YteajcnilihgheaaGreatDoor
