/-
 EV: the package term: what is put for a name.
-/
import Derived.Test.YtncoidmbmihliaaGreatDoorEvDeferM
namespace Go.Proofs.YtncoidmbmihliaaGreatDoor
set_option maxRecDepth 100000
set_option maxHeartbeats 8000000
set_option linter.unusedSimpArgs false
set_option linter.unusedVariables false
section
open Go.RowKit
variable {S : Sp} {N : Nat}
def seek {α : Type} (names : List ByteArray) (ts : List α) (nm : ByteArray) : Nat → Option α
 | 0 => none
 | j + 1 => if names[j]? = some nm then ts[j]? else seek names ts nm j
structure EnvT where
 names : List ByteArray
 ts : List Trm
 tid : Nat
def EnvT.lv (e : EnvT) (t : Tok) : AV := if e.ts.length = 0 then .sl [] t else .asl e.tid 0 e.ts.length 5
def EnvT.held (e : EnvT) (σ : Sto) : Prop := if e.ts.length = 0 then e.tid = 0 else σ[e.tid]? = some (.cells (trmR e.ts).flatten 54)
theorem EnvT.lv_zero {e : EnvT} {t : Tok} (h : e.ts.length = 0) : e.lv t = .sl [] t := if_pos h
theorem EnvT.lv_pos {e : EnvT} {t : Tok} (h : 0 < e.ts.length) : e.lv t = .asl e.tid 0 e.ts.length 5 := if_neg (by omega)
theorem EnvT.held_pos {e : EnvT} {σ : Sto} (h : 0 < e.ts.length) : e.held σ = (σ[e.tid]? = some (.cells (trmR e.ts).flatten 54)) := if_neg (by omega)
theorem EnvT.held_zero {e : EnvT} {σ : Sto} (h : e.ts.length = 0) : e.held σ = (e.tid = 0) := if_pos h
theorem EnvT.held.app {e : EnvT} {σ : Sto} (h : e.held σ) (l : Sto) : e.held (σ ++ l) := by
 rcases Nat.eq_zero_or_pos e.ts.length with hz | hz
 · rw [EnvT.held_zero hz] at h ⊢; exact h
 · rw [EnvT.held_pos hz] at h ⊢
   rw [List.getElem?_append_left (List.getElem?_eq_some_iff.1 h).1]; exact h
theorem EnvT.lv_nrm {e : EnvT} {t : Tok} : (e.lv t).nrm = e.lv .no := by
 rcases Nat.eq_zero_or_pos e.ts.length with hz | hz
 · rw [EnvT.lv_zero hz, EnvT.lv_zero hz]; rfl
 · rw [EnvT.lv_pos hz, EnvT.lv_pos hz]; rfl
def EnvT.At (e : EnvT) (m : MkT) (σ : Sto) : Prop := σ[m.nid]? = some (.cells [intV (min e.names.length e.ts.length : Nat)] 3) ∧ σ[m.lid]? = some (.cells [.sl (txtR e.names) .no] 35) ∧ σ[m.tsid]? = some (.cells [e.lv .no] 52) ∧ e.held σ ∧ e.names.length ≤ 1000000000 ∧ trmN e.ts ≤ 500000000
theorem EnvT.At.app {e : EnvT} {m : MkT} {σ : Sto} (h : e.At m σ) (l : Sto) : e.At m (σ ++ l) := by
 obtain ⟨h1, h2, h3, h4, h5⟩ := h
 refine ⟨?_, ?_, ?_, h4.app l, h5⟩
 all_goals (rw [List.getElem?_append_left (List.getElem?_eq_some_iff.1 (by assumption)).1]; assumption)
theorem flat_len (ts : List Trm) : (trmR ts).flatten.length = ts.length * 5 := by
 induction ts with
 | nil => rfl
 | cons t l ih => simp only [trmR, List.flatten_cons, List.length_append, t.len, ih, List.length_cons]; omega
theorem flat_get {ts : List Trm} {j : Nat} (h : j < ts.length) : ((trmR ts).flatten.drop (j * 5)).take 5 = ts[j].cs := by
 induction ts generalizing j with
 | nil => simp at h
 | cons t l ih =>
  cases j with
  | zero => simp only [trmR, List.flatten_cons, Nat.zero_mul, List.drop_zero, List.getElem_cons_zero]; rw [List.take_append_of_le_length (by rw [t.len]; exact Nat.le_refl _), t.tk]
  | succ j =>
   have := ih (j := j) (by simpa using h)
   simp only [trmR, List.flatten_cons, List.getElem_cons_succ]
   rw [List.drop_append, List.drop_eq_nil_of_le (by rw [t.len]; omega), t.len, show (j + 1) * 5 - 5 = j * 5 by omega, List.nil_append]
   exact this
theorem flat_inj : ∀ {a b : List Trm}, (trmR a).flatten = (trmR b).flatten → a = b
 | [], [], _ => rfl
 | [], t :: l, h => by have := congrArg List.length h; rw [flat_len, flat_len] at this; simp at this
 | t :: l, [], h => by have := congrArg List.length h; rw [flat_len, flat_len] at this; simp at this
 | t :: l, u :: k, h => by
  simp only [trmR, List.flatten_cons] at h
  obtain ⟨h1, h2⟩ := List.append_inj h (by rw [t.len, u.len])
  rw [Trm.inj h1, flat_inj h2]
theorem EnvT.lv_inj {a b : EnvT} {t : Tok} {σ : Sto} (e : a.lv t = b.lv t) (ha : a.held σ) (hb : b.held σ) : a.ts = b.ts ∧ a.tid = b.tid := by
 rcases Nat.eq_zero_or_pos a.ts.length with hz | hz <;> rcases Nat.eq_zero_or_pos b.ts.length with hy | hy
 · rw [EnvT.held_zero hz] at ha; rw [EnvT.held_zero hy] at hb
   rw [List.eq_nil_of_length_eq_zero hz, List.eq_nil_of_length_eq_zero hy, ha, hb]
   exact ⟨rfl, rfl⟩
 · rw [EnvT.lv_zero hz, EnvT.lv_pos hy] at e; cases e
 · rw [EnvT.lv_pos hz, EnvT.lv_zero hy] at e; cases e
 · rw [EnvT.held_pos hz] at ha; rw [EnvT.held_pos hy] at hb
   rw [EnvT.lv_pos hz, EnvT.lv_pos hy] at e
   simp only [AV.asl.injEq, and_true, true_and] at e
   rw [e.1] at ha
   have e4 := ha.symm.trans hb
   simp only [Option.some.injEq, AObj.cells.injEq, and_true] at e4
   exact ⟨flat_inj e4, e.1⟩
theorem EnvT.uniq {a b : EnvT} {m : MkT} {σ : Sto} (ha : a.At m σ) (hb : b.At m σ) : a = b := by
 obtain ⟨_, a2, a3, a4, _⟩ := ha
 obtain ⟨_, b2, b3, b4, _⟩ := hb
 have e2 := a2.symm.trans b2
 have e3 := a3.symm.trans b3
 simp only [Option.some.injEq, AObj.cells.injEq, List.cons.injEq, AV.sl.injEq, and_true, true_and] at e2 e3
 obtain ⟨h1, h2⟩ := EnvT.lv_inj e3 a4 b4
 obtain ⟨an, ats, at_⟩ := a; obtain ⟨bn, bts, bt⟩ := b
 have h3 := txtR_inj e2
 dsimp only at h1 h2 h3
 subst h1 h2 h3
 rfl
def EnvT.find (e : EnvT) : Trm → Option Trm
 | .mk k nm _ _ _ => if k = 1 then seek e.names e.ts nm (min e.names.length e.ts.length) else none
theorem seek_mem {α : Type} {names : List ByteArray} {ts : List α} {nm : ByteArray} : ∀ {j : Nat} {x : α}, seek names ts nm j = some x → x ∈ ts
 | 0, x, h => by cases h
 | j + 1, x, h => by
  rw [seek] at h
  split at h
  · exact List.mem_of_getElem? h
  · exact seek_mem h
theorem EnvT.find_eq {e : EnvT} {k : Int} {nm : ByteArray} {ng : Bool} {dg : List Int} {ks : List Trm} : e.find (.mk k nm ng dg ks) = if k = 1 then seek e.names e.ts nm (min e.names.length e.ts.length) else none := rfl
theorem EnvT.find_mem {e : EnvT} {t x : Trm} (h : e.find t = some x) : x ∈ e.ts := by
 obtain ⟨k, nm, ng, dg, ks⟩ := t
 rw [EnvT.find_eq] at h
 split at h
 · exact seek_mem h
 · cases h
def putR (m : MkT) (t : Trm) (σ : Sto) : Option Trm → ARes × Sto
 | some x => (.ret (.tup [.agg x.cs, .lit (.bool true)]), σ.set m.mid (m.obj x.cnt))
 | none => (.ret (.tup [.agg t.cs, .lit (.bool false)]), σ)
abbrev putF : FS := ⟨MkT × EnvT × Trm, fun p => [.ptr p.1.mid 0, .agg p.2.2.cs, .ptr p.1.nid 0, .ptr p.1.lid 0, .ptr p.1.tsid 0], fun p σ => p.1.At σ ∧ p.2.1.At p.1 σ ∧ p.2.2.n ≤ 1000000000 ∧ ∀ x, p.2.1.find p.2.2 = some x → p.1.made + x.cnt ≤ 20000, fun p σ => putR p.1 p.2.2 σ (p.2.1.find p.2.2), fun p => 16 * trmN p.2.1.ts + 4⟩
theorem putF_uniq : FS.uniq putF := fun a b σ e ha hb => by
 obtain ⟨m, en, t⟩ := a; obtain ⟨m', en', t'⟩ := b
 simp only [List.cons.injEq, AV.ptr.injEq, AV.agg.injEq, and_true] at e
 cases MkT.uniq e.1 ha.1 hb.1
 cases Trm.inj e.2.1
 cases EnvT.uniq ha.2.1 hb.2.1
 rfl
theorem call_put {P : Program} {args : List AV} {σ : Sto} {Q : ARes → Sto → Prop} (m : MkT) (en : EnvT) (t : Trm) (h : S.sp 97 = some putF) (ha : nrmR args = [.ptr m.mid 0, .agg t.cs, .ptr m.nid 0, .ptr m.lid 0, .ptr m.tsid 0]) (hp : m.At σ) (he : en.At m σ) (hn : t.n ≤ 1000000000) (hb : ∀ x, en.find t = some x → m.made + x.cnt ≤ 20000) (hN : 16 * trmN en.ts + 4 < N)
    (hq : accW (S.E N) 97 args σ (putR m t σ (en.find t)).1 (putR m t σ (en.find t)).2 = .lcalls (keptB σ (putR m t σ (en.find t)).2) → Q (putR m t σ (en.find t)).1 (putR m t σ (en.find t)).2) : CallW P (S.E N) 97 args σ Q :=
 call_sp (s := putF) (m, en, t) h putF_uniq ha ⟨hp, he, hn, hb⟩ hN (hq (acc_sp (s := putF) (m, en, t) h putF_uniq ha hN (by show (putR _ _ _ _).2.length = _; cases en.find t <;> simp [putR]) fun l => ⟨⟨hp.app l, he.app l, hn, hb⟩, by
  show putR _ _ _ _ = ((putR _ _ _ _).1, (putR _ _ _ _).2 ++ l)
  cases en.find t
  · rfl
  · simp only [putR, List.set_append_left _ _ hp.lt]⟩))
theorem put_w (hc : S.code = codeP Tryz.prog) (hm : S.ms 97 = []) (h3 : S.sp 98 = some copiedF) (m : MkT) (en : EnvT) (t : Trm) (σ : Sto) (hp : m.At σ) (he : en.At m σ) (hl : t.n ≤ 1000000000) (hb : ∀ x, en.find t = some x → m.made + x.cnt ≤ 20000) (hN : 16 * trmN en.ts + 4 ≤ N) :
    JC Tryz.prog (S.E N) 97 [.ptr m.mid 0, .agg t.cs, .ptr m.nid 0, .ptr m.lid 0, .ptr m.tsid 0] σ fun r σ' => Fgt σ r σ' (putR m t σ (en.find t)).1 (putR m t σ (en.find t)).2 := by
 refine JC.startF (fn := Tryz.f97) (codeOf hc Tryz.func97 rfl (by kernel_rfl)) rfl hm rfl (zL rfl) fun tm => ?_
 refine CW.hide fun R0 hR0 => ?_
 obtain ⟨k, nm, ng, dg, ks⟩ := t
 have hlt := hp.lt
 obtain ⟨g1, g2, g3, g4, g5, g6⟩ := he
 have l1 := (List.getElem?_eq_some_iff.1 g1).1
 have l2 := (List.getElem?_eq_some_iff.1 g2).1
 have l3 := (List.getElem?_eq_some_iff.1 g3).1
 have htl := trmN_len en.ts
 generalize hmin : min en.names.length en.ts.length = n at g1
 have hn1 : n ≤ en.names.length := by omega
 have hn2 : n ≤ en.ts.length := by omega
 have hwn : IntKind.i64.wrap ((n : Int) - 1) = (n : Int) - 1 := IntWalk.i64_in _ ⟨by omega, by omega⟩
 simp only [Trm.cs]
 refine CW.seqK fun K hK => CW.region ?_
 simp (maxDischargeDepth := 16) [zY]
 refine hK _ _ ?_; clear hK K
 refine CW.seqK fun K hK => ?_
 refine CW.seqK fun K hK => CW.region ?_
 simp (maxDischargeDepth := 16) [zY, st_old l1, g1, hwn]
 refine hK _ _ ?_; clear hK K
 refine CW.block (CW.hide fun R hR => ?_)
 refine CW.loopF (fun j : Nat => [(0, .ptr m.mid 0), (2, .ptr m.nid 0), (3, .ptr m.lid 0), (4, .ptr m.tsid 0), (6, .ptr σ.length 0), (7, .ptr (σ.length + 1) 0), (9, intV ((j : Int) - 1))])
  (fun _ => σ ++ [.cells [.lit (.int .u8 k), .lit (.string nm), .lit (.bool ng), .sl (limR dg) .no, .sl (trmR ks) .no] 54, .cells [.lit (.int .u8 0), .lit (.string ⟨#[]⟩), .lit (.bool false), .sl [] .full, .sl [] .full] 54])
  (fun j => j ≤ n ∧ (k = 1 → seek en.names en.ts nm n = seek en.names en.ts nm j)) (fun j => j) n (by simp [sub, lk]) rfl ⟨Nat.le_refl _, fun _ => rfl⟩ ?_
 rintro j tm ⟨hj, hs⟩
 refine CW.hide fun R2 hR2 => CW.seqK fun K3 hK3 => CW.seqK fun K4 hK4 => CW.region ?_
 have out : (en.find (.mk k nm ng dg ks) = none) → ∀ (fr : List (Nat × AV)) (tm : List AV), sub [(6, .ptr σ.length 0), (7, .ptr (σ.length + 1) 0)] fr → CW Tryz.prog (S.E N) [] (.exit 0) (fm 35 fr tm) (σ ++ [.cells [.lit (.int .u8 k), .lit (.string nm), .lit (.bool ng), .sl (limR dg) .no, .sl (trmR ks) .no] 54, .cells [.lit (.int .u8 0), .lit (.string ⟨#[]⟩), .lit (.bool false), .sl [] .full, .sl [] .full] 54]) (andThen K3 R2) := by
  intro hno fr tm hfr
  rw [fm_sub hfr]
  refine CW.exit (hR2 _ _ _ (hR _ _ _ ?_))
  simp only [outOf, if_true, andThen]
  refine hK _ _ ?_
  refine CW.seqK fun K hK => CW.region ?_
  simp (maxDischargeDepth := 16) [zY]
  refine hK _ _ ?_; clear hK K
  refine CW.ret (hR0 _ _ _ ⟨.tup [.agg [.lit (.int .u8 k), .lit (.string nm), .lit (.bool ng), .sl (limR dg) .no, .sl (trmR ks) .no], .lit (.bool false)], by simp [zA, omap, zC, zB, zX], ?_⟩)
  rw [hno]
  exact done (by simp [AV.pln, plnR, trmR_pln]) (by simp [AV.nrm, nrmR, trmR_nrm, Trm.cs])
 cases j with
 | zero =>
  simp (maxDischargeDepth := 16) [zY]
  refine hK4 _ _ ?_
  refine CW.cond (t := false) (by simp [zT, zF, lk]) ?_
  simp only [Bool.false_eq_true, if_false]
  refine out ?_ _ _ ?_
  · rw [EnvT.find_eq]
    split
    · rename_i hk; rw [hmin, hs hk]; rfl
    · rfl
  · simp [sub, lk]
 | succ j =>
  have hjj : ((j + 1 : Nat) : Int) - 1 = (j : Int) := by omega
  simp only [hjj]
  rcases Classical.em (k = 1) with hk | hk
  · subst hk
    simp (maxDischargeDepth := 16) [zY]
    refine hK4 _ _ ?_
    refine CW.cond (t := true) (by simp [zT, zF, lk]) ?_
    refine CW.skip (hK3 _ _ ?_)
    refine CW.seqK fun K5 hK5 => CW.block ?_
    have hjn : j < en.names.length := by omega
    have hjt : j < en.ts.length := by omega
    have ha := txtR_get hjn
    rcases Classical.em (en.names[j] = nm) with e | e
    · have hf : en.find (.mk 1 nm ng dg ks) = some en.ts[j] := by
       rw [EnvT.find_eq, if_pos rfl, hmin, hs rfl, seek, if_pos (by rw [List.getElem?_eq_getElem hjn, e])]
       exact List.getElem?_eq_getElem hjt
      have hx := hb _ hf
      have hfl := flat_get hjt
      have hfn := flat_len en.ts
      have htn := trmN_get hjt
      have hz : 0 < en.ts.length := by omega
      rw [EnvT.lv_pos hz] at g3
      rw [EnvT.held_pos hz] at g4
      have l4 := (List.getElem?_eq_some_iff.1 g4).1
      refine CW.seqK fun K hK => CW.draw (by kernel_rfl) ?_
      simp (maxDischargeDepth := 16) [zY, st_old l2, g2, ha, e]
      refine ⟨by kernel_rfl, hK _ _ ?_⟩; clear hK K
      refine CW.cond (t := true) (by simp [zT, zF, lk, e]) ?_
      refine CW.seqK fun K hK => CW.region ?_
      generalize (trmR en.ts).flatten = FL at g4 hfl hfn
      have hfn5 : j * 5 + 5 ≤ FL.length := by omega
      have hm5 : (j : Int) < en.ts.length := by omega
      simp (maxDischargeDepth := 16) [zY, st_old l3, st_old l4, g3, g4, hfl, hfn5, hjt, hm5]
      refine call_copied m en.ts[j] h3 (by simp only [nrmR, AV.nrm, Trm.nrm]) (hp.app _) hx (by omega) (by omega) fun _ => ?_
      simp (maxDischargeDepth := 16) [zY, st_setold hlt, Trm.put, Trm.len]
      refine hK _ _ ?_
      refine CW.ret (hR2 _ _ _ (hR _ _ _ (hR0 _ _ _ ⟨.tup [.agg en.ts[j].cs, .lit (.bool true)], by simp [zA, omap, zC, zB, zX, Trm.tk, Trm.len], ?_⟩)))
      rw [hf]
      exact Fgt.wrote ⟨_, rfl⟩ hp.1 trivial (MkT.bel hp _) (frzN (by simp [AV.pln, plnR, Trm.pln]) (by simp [AV.nrm, nrmR, Trm.nrm]))
    · have e2 := eqb_ne e
      refine CW.seqK fun K hK => CW.draw (by kernel_rfl) ?_
      simp (maxDischargeDepth := 16) [zY, st_old l2, g2, ha, beqL, e2]
      refine ⟨by kernel_rfl, hK _ _ ?_⟩; clear hK K
      refine CW.cond (t := false) (by simp [zT, zF, lk, e2]) ?_
      refine CW.skip (hK5 _ _ ?_)
      have hwj : IntKind.i64.wrap ((j : Int) - 1) = (j : Int) - 1 := IntWalk.i64_in _ ⟨by omega, by omega⟩
      refine CW.region ?_
      simp (maxDischargeDepth := 16) [zY, hwj]
      refine hR2 _ _ _ ⟨j, _, _, rfl, by simp [sub, lk], rfl, ⟨by omega, fun h => ?_⟩, by omega⟩
      rw [hs h, seek, if_neg (by rw [List.getElem?_eq_getElem hjn]; simpa using e)]
  · simp (maxDischargeDepth := 16) [zY, hk]
    refine hK4 _ _ ?_
    refine CW.cond (t := false) (by simp [zT, zF, lk, hk]) ?_
    simp only [Bool.false_eq_true, if_false]
    refine out ?_ _ _ ?_
    · rw [EnvT.find_eq, if_neg hk]
    · simp [sub, lk]
end
section
open Go.RowKit
variable {S : Sp} {N : Nat}
mutual
def EnvT.put (e : EnvT) : Trm → Trm
 | .mk k nm ng dg ks => match e.find (.mk k nm ng dg ks) with
  | some x => x
  | none => .mk k nm ng dg (e.puts ks)
def EnvT.puts (e : EnvT) : List Trm → List Trm
 | [] => []
 | t :: l => e.put t :: e.puts l
end
theorem EnvT.puts_len (e : EnvT) (l : List Trm) : (e.puts l).length = l.length := by induction l with | nil => rfl | cons t l ih => simp [EnvT.puts, ih]
theorem EnvT.puts_take (e : EnvT) {l : List Trm} {i : Nat} (h : i < l.length) : e.puts (l.take (i + 1)) = e.puts (l.take i) ++ [e.put l[i]] := by
 induction l generalizing i with
 | nil => simp at h
 | cons t l ih =>
  cases i with
  | zero => simp [EnvT.puts]
  | succ i => simp only [List.take_succ_cons, EnvT.puts, List.cons_append, List.getElem_cons_succ]; rw [ih (by simpa using h)]
theorem trmCs_app (a b : List Trm) : trmCs (a ++ b) = trmCs a + trmCs b := by induction a with | nil => simp [trmCs] | cons t l ih => simp only [List.cons_append, trmCs, ih]; omega
theorem EnvT.puts_le (e : EnvT) {l : List Trm} {i : Nat} : trmCs (e.puts (l.take i)) ≤ trmCs (e.puts l) := by
 induction l generalizing i with
 | nil => simp
 | cons t l ih =>
  cases i with
  | zero => simp [EnvT.puts, trmCs]
  | succ i => simp only [List.take_succ_cons, EnvT.puts, trmCs]; have := @ih i; omega
theorem MkT.ne {m : MkT} {σ : Sto} {i : Nat} {cs : List AV} {T : TypeId} (h : m.At σ) (hi : σ[i]? = some (.cells cs T)) (hT : T ≠ 147) : m.mid ≠ i := fun e => by
 have := h.1.symm.trans (e ▸ hi)
 simp only [Option.some.injEq, MkT.obj, AObj.cells.injEq] at this
 exact hT this.2.symm
theorem EnvT.At.up {e : EnvT} {m : MkT} {σ : Sto} (h : e.At m σ) (hm : m.At σ) (k : Nat) (o : AObj) (l : Sto) : e.At (m.up k) (σ.set m.mid o ++ l) := by
 obtain ⟨h1, h2, h3, h4, h5⟩ := h
 refine EnvT.At.app ⟨?_, ?_, ?_, ?_, h5⟩ l
 · rw [List.getElem?_set_ne (MkT.ne hm h1 (by decide))]; exact h1
 · rw [List.getElem?_set_ne (MkT.ne hm h2 (by decide))]; exact h2
 · rw [List.getElem?_set_ne (MkT.ne hm h3 (by decide))]; exact h3
 · rcases Nat.eq_zero_or_pos e.ts.length with hz | hz
   · rw [EnvT.held_zero hz] at h4 ⊢; exact h4
   · rw [EnvT.held_pos hz] at h4 ⊢
     rw [List.getElem?_set_ne (MkT.ne hm h4 (by decide))]; exact h4
abbrev ofF : FS := ⟨MkT × EnvT × Trm, fun p => [.ptr p.1.mid 0, .agg p.2.2.cs], fun p σ => p.1.At σ ∧ p.2.1.At p.1 σ ∧ p.2.2.n ≤ 1000000000 ∧ p.1.made + (p.2.1.put p.2.2).cnt ≤ 20000, fun p σ => (.ret (.agg (p.2.1.put p.2.2).cs), σ.set p.1.mid (p.1.obj (p.2.1.put p.2.2).cnt)), fun p => 16 * (trmN p.2.1.ts + p.2.2.n) + 5⟩
theorem ofF_uniq : FS.uniq ofF := fun a b σ e ha hb => by
 obtain ⟨m, en, t⟩ := a; obtain ⟨m', en', t'⟩ := b
 simp only [List.cons.injEq, AV.ptr.injEq, AV.agg.injEq, and_true] at e
 cases MkT.uniq e.1 ha.1 hb.1
 cases Trm.inj e.2
 cases EnvT.uniq ha.2.1 hb.2.1
 rfl
theorem call_of {P : Program} {args : List AV} {σ : Sto} {Q : ARes → Sto → Prop} (m : MkT) (en : EnvT) (t : Trm) (h : S.sp 59 = some ofF) (ha : nrmR args = [.ptr m.mid 0, .agg t.cs]) (hp : m.At σ) (he : en.At m σ) (hn : t.n ≤ 1000000000) (hb : m.made + (en.put t).cnt ≤ 20000) (hN : 16 * (trmN en.ts + t.n) + 5 < N)
    (hq : accW (S.E N) 59 args σ (.ret (.agg (en.put t).cs)) (σ.set m.mid (m.obj (en.put t).cnt)) = .lcalls (keptB σ (σ.set m.mid (m.obj (en.put t).cnt))) → Q (.ret (.agg (en.put t).cs)) (σ.set m.mid (m.obj (en.put t).cnt))) : CallW P (S.E N) 59 args σ Q :=
 call_sp (s := ofF) (m, en, t) h ofF_uniq ha ⟨hp, he, hn, hb⟩ hN (hq (acc_sp (s := ofF) (m, en, t) h ofF_uniq ha hN (by simp) fun l => ⟨⟨hp.app l, he.app l, hn, hb⟩, by simp only [List.set_append_left _ _ hp.lt]⟩))
theorem of_w (hc : S.code = codeP Tryz.prog) (hm : S.ms 59 = []) (h0 : S.sp 97 = some putF) (h1 : S.sp 100 = some moreF) (h2 : S.sp 101 = some aloneF) (h3 : S.sp 59 = some ofF) (m : MkT) (en : EnvT) (t : Trm) (σ : Sto) (hp : m.At σ) (he : en.At m σ) (hl : t.n ≤ 1000000000) (hb : m.made + (en.put t).cnt ≤ 20000) (hN : 16 * (trmN en.ts + t.n) + 5 ≤ N) :
    JC Tryz.prog (S.E N) 59 [.ptr m.mid 0, .agg t.cs] σ fun r σ' => Fgt σ r σ' (.ret (.agg (en.put t).cs)) (σ.set m.mid (m.obj (en.put t).cnt)) := by
 refine JC.startF (fn := Tryz.f59) (codeOf hc Tryz.func59 rfl (by kernel_rfl)) rfl hm rfl (zL rfl) fun tm => ?_
 refine CW.hide fun R0 hR0 => ?_
 have hlt := hp.lt
 have hp0 := hp.1
 simp only [MkT.obj, pfA, Int.natCast_zero, Int.add_zero] at hp0
 have hbx : ∀ x, en.find t = some x → en.put t = x := fun x hx => by obtain ⟨k, nm, ng, dg, ks⟩ := t; rw [EnvT.put, hx]
 have hps : ∀ l, (σ ++ l)[m.mid]? = some (.cells [intV m.made, .fn (.func 97) [] [.ptr m.nid 0, .ptr m.lid 0, .ptr m.tsid 0]] 147) := fun l => (st_old hlt).trans hp0
 refine CW.seqK fun K hK => CW.region ?_
 simp (maxDischargeDepth := 16) [zY]
 refine hK _ _ ?_; clear hK K
 refine CW.seqK fun K hK => ?_
 refine CW.seqK fun K1 hK1 => CW.draw (by kernel_rfl) ?_
 simp (maxDischargeDepth := 16) [zY, hps, Trm.tk, Trm.len]
 refine call_put m en t h0 (by simp only [nrmR, AV.nrm, Trm.nrm]) (hp.app _) (he.app _) hl (fun x hx => by rw [← hbx x hx]; exact hb) (by omega) ?_
 cases hf : en.find t with
 | some x =>
  rw [hbx x hf] at hR0 hb
  intro hac
  simp only [putR, st_setold hlt] at hac ⊢
  simp (maxDischargeDepth := 16) [zY, hac, Trm.put, Trm.len, Trm.tk]
  refine ⟨drawOk_sim [m.mid, σ.length, σ.length + 2] [.pure, .pure, .pure, .reads 0, .pure, .reads 1, .lcalls (fun i => i != 0), .pure, .pure, .pure, .news 2, .writes 2, .pure] (.cons (by simp; omega) (.cons (by simp) (.cons (by simp) .nil)))
   (.cons .pure (.cons .pure (.cons .pure (.cons (.reads 0 _ rfl) (.cons .pure (.cons (.reads 1 _ rfl) (.cons (.lcalls _ _ fun i a ha hi => ?_) (.cons .pure (.cons .pure (.cons .pure (.cons (.news 2 _ rfl) (.cons (.writes 2 _ rfl) (.cons .pure .nil))))))))))))) (by kernel_rfl), hK1 _ _ ?_⟩
  · match i with
    | 0 => cases hi
    | 1 => cases ha; simp [keptB_iff, zF]
    | 2 => cases ha; simp [keptB_iff, zF]
    | i + 3 => simp at ha
  refine CW.seqK fun K hK => CW.region ?_
  simp (maxDischargeDepth := 16) [zY]
  refine hK _ _ ?_; clear hK K
  refine CW.cond (t := true) (by simp [zT, zF, lk]) ?_
  refine CW.seqK fun K2 hK2 => CW.region ?_
  simp (maxDischargeDepth := 16) [zY, Trm.put, Trm.len, Trm.tk]
  refine hK2 _ _ (CW.ret (hR0 _ _ _ ⟨.agg x.cs, by simp [zA, omap, zC, zX, Trm.tk, Trm.len], ?_⟩))
  exact Fgt.wrote ⟨_, rfl⟩ hp.1 trivial (MkT.bel hp _) (frzN (by simp [AV.pln, Trm.pln]) (by simp [AV.nrm, Trm.nrm]))
 | none =>
  obtain ⟨k, nm, ng, dg, ks⟩ := t
  have hpt : en.put (.mk k nm ng dg ks) = .mk k nm ng dg (en.puts ks) := by rw [EnvT.put, hf]
  rw [hpt] at hR0 hb
  simp only [Trm.n] at hl hN
  simp only [Trm.cnt] at hb hR0
  have hlen := trmN_len ks
  intro hac
  simp only [putR, Trm.cs] at hac ⊢
  simp (maxDischargeDepth := 16) [zY, hac, kept_self]
  refine ⟨drawOk_sim [m.mid, σ.length, σ.length + 2] [.pure, .pure, .pure, .reads 0, .pure, .reads 1, .lcalls (fun _ => true), .pure, .pure, .pure, .news 2, .writes 2, .pure] (.cons (by simp; omega) (.cons (by simp) (.cons (by simp) .nil)))
   (.cons .pure (.cons .pure (.cons .pure (.cons (.reads 0 _ rfl) (.cons .pure (.cons (.reads 1 _ rfl) (.cons (.lcalls _ _ fun i a ha hi => rfl) (.cons .pure (.cons .pure (.cons .pure (.cons (.news 2 _ rfl) (.cons (.writes 2 _ rfl) (.cons .pure .nil))))))))))))) (by kernel_rfl), hK1 _ _ ?_⟩
  refine CW.seqK fun K hK => CW.region ?_
  simp (maxDischargeDepth := 16) [zY]
  refine hK _ _ ?_; clear hK K
  refine CW.cond (t := false) (by simp [zT, zF, lk]) ?_
  refine CW.skip (hK _ _ ?_); clear hK K hK1 K1
  refine CW.seqK fun K hK => CW.region ?_
  simp (maxDischargeDepth := 16) [zY]
  refine call_more m h1 rfl (hp.app _) (by omega) (by omega) ?_
  simp (maxDischargeDepth := 16) [zY, st_setold hlt]
  refine hK _ _ ?_; clear hK K
  refine CW.seqK fun K hK => CW.region ?_
  simp (maxDischargeDepth := 16) [zY]
  refine call_pure (Trm.mk k nm ng dg ks) h2 trm1_inj (by simp only [nrmR, AV.nrm, limR_nrm, trmR_nrm, Trm.cs]) (by simp only [Trm.n]; omega) (by simp only [Trm.n]; omega) fun _ => ?_
  simp only [Trm.bareC]
  simp (maxDischargeDepth := 16) [zY]
  refine hK _ _ ?_; clear hK K
  refine CW.seqK fun K hK => ?_
  refine CW.seqK fun K hK => CW.region ?_
  simp (maxDischargeDepth := 16) [zY]
  refine hK _ _ ?_; clear hK K
  refine CW.block (CW.hide fun R hR => ?_)
  refine CW.loopF (fun p : Nat × Tok × List AObj => [(0, .ptr m.mid 0), (4, .ptr (σ.length + 1) 0), (7, .ptr (σ.length + 3) 0), (29, .sl (trmR ks) .no), (30, intV ks.length), (31, intV p.1)])
   (fun p => σ.set m.mid (m.obj (1 + trmCs (en.puts (ks.take p.1)))) ++ (.cells [.lit (.int .u8 k), .lit (.string nm), .lit (.bool ng), .sl (limR dg) .no, .sl (trmR ks) .no] 54 :: .cells [.lit (.int .u8 0), .lit (.string ⟨#[]⟩), .lit (.bool false), .sl [] .full, .sl [] .full] 54 :: .cells [.lit (.int .u8 k), .lit (.string nm), .lit (.bool ng), .sl (limR dg) .no, .sl (trmR ks) .no] 54 :: .cells [.lit (.int .u8 k), .lit (.string nm), .lit (.bool ng), .sl (limR dg) .no, .sl (trmR (en.puts (ks.take p.1))) p.2.1] 54 :: p.2.2))
   (fun p => p.1 ≤ ks.length ∧ Apd (σ ++ [.dead, .dead, .dead, .dead]) 54 (p.1 * 5) p.2.1 p.2.2) (fun p => ks.length - p.1) (0, .full, []) ?_ ?_ ?_ ?_
  · simp [sub, lk]
  · simp [EnvT.puts, trmCs, trmR]
  · exact ⟨by simp, by simpa using Apd.nil _ _ []⟩
  rintro ⟨i, tok, g⟩ tm ⟨hi, hA⟩
  dsimp only at hi hA ⊢
  refine CW.hide fun R2 hR2 => CW.seqK fun K4 hK4 => CW.region ?_
  rcases Nat.lt_or_ge i ks.length with hlt2 | hge
  · have ha := trmR_get hlt2
    have hg := trmN_get hlt2
    have hti : (en.puts (ks.take i)).length = i := by rw [EnvT.puts_len]; exact List.length_take_of_le hi
    have hpk := EnvT.puts_take en hlt2
    have hcn := @EnvT.puts_le en ks (i + 1)
    rw [hpk, trmCs_app] at hcn
    simp only [trmCs, Nat.add_zero] at hcn
    have hset : ∀ (o o' : AObj) (L : Sto), (σ.set m.mid o ++ L).set m.mid o' = σ.set m.mid o' ++ L := fun o o' L => by rw [st_setold (by simpa using hlt), List.set_set]
    obtain ⟨tok', g', acc, hA', hap, hn1, hn2⟩ := apdN (P := Tryz.prog) (M := []) (σ := σ.set m.mid (m.obj (1 + trmCs (en.puts (ks.take i)) + (en.put ks[i]).cnt)) ++ [.cells [.lit (.int .u8 k), .lit (.string nm), .lit (.bool ng), .sl (limR dg) .no, .sl (trmR ks) .no] 54, .cells [.lit (.int .u8 0), .lit (.string ⟨#[]⟩), .lit (.bool false), .sl [] .full, .sl [] .full] 54, .cells [.lit (.int .u8 k), .lit (.string nm), .lit (.bool ng), .sl (limR dg) .no, .sl (trmR ks) .no] 54, .cells [.lit (.int .u8 k), .lit (.string nm), .lit (.bool ng), .sl (limR dg) .no, .sl (trmR (en.puts (ks.take i))) tok] 54])
     (t := 52) (e := 54) (k := 4) (by_ := 80) (trmR (en.puts (ks.take i))) [(en.put ks[i]).cs] (by rw [trmR_len, hti]; exact (hA.push [.cells ks[i].cs 54]).len (by simp)) (by kernel_rfl) (by kernel_rfl) (by kernel_rfl) (by kernel_rfl) (trmR_hd _) (by simp [(en.put ks[i]).len]) (by simp) (by simp only [trmR_len, hti, List.length_singleton]; omega) (by simp only [trmR_len, hti, List.length_singleton]; omega)
    simp only [List.append_assoc, List.cons_append, List.nil_append] at hap
    simp (maxDischargeDepth := 16) [zY, hlt2]
    refine hK4 _ _ ?_
    refine CW.seqK fun K3 hK3 => ?_
    refine CW.cond (t := true) (by simp [zT, zF, lk]) ?_
    refine CW.skip (hK3 _ _ ?_)
    refine CW.seqK fun K5 hK5 => CW.block ?_
    refine CW.seqK fun K hK => CW.region ?_
    simp (maxDischargeDepth := 16) [zY, ha, Trm.len, Trm.tk, Trm.put, set_last]
    refine hK _ _ ?_; clear hK K
    refine CW.draw (by kernel_rfl) ?_
    simp (maxDischargeDepth := 16) [zY, Trm.len, Trm.tk]
    have hup := hp.up (1 + trmCs (en.puts (ks.take i)))
    refine call_of (m.up (1 + trmCs (en.puts (ks.take i)))) en ks[i] h3 (by simp only [nrmR, AV.nrm, Trm.nrm]) (hup _) (he.up hp _ _ _) (by omega) (by show m.made + _ + _ ≤ _; omega) (by omega) ?_
    intro hac
    simp only [MkT.up_obj, hset] at hac ⊢
    simp (maxDischargeDepth := 16) [zY, Trm.len, Trm.tk, Trm.put, hac, hap, stripRows, Trm.stp]
    refine ⟨drawOk_keep ?_ (by kernel_rfl), hK5 _ _ ?_⟩
    · simp [hn1, hn2, keptB_iff, zF]
    refine CW.region ?_
    simp (maxDischargeDepth := 16) [zY, wrap_succ (show i ≤ 1000000000000 by omega)]
    have e1 : trmR (en.puts (ks.take (i + 1))) = trmR (en.puts (ks.take i)) ++ [(en.put ks[i]).cs] := by rw [hpk, trmR_app]; rfl
    have e2 : trmCs (en.puts (ks.take (i + 1))) = trmCs (en.puts (ks.take i)) + (en.put ks[i]).cnt := by rw [hpk, trmCs_app]; simp [trmCs]
    refine hR2 _ _ _ ⟨(i + 1, tok', g'), _, _, rfl, by simp [sub, lk], ?_, ⟨hlt2, ?_⟩, show ks.length - (i + 1) < ks.length - i by omega⟩
    · dsimp only
      rw [e1, e2, Nat.add_assoc]
    · simp only [trmR_len, hti, List.length_singleton] at hA'
      exact hA'.len (by simp)
  · simp (maxDischargeDepth := 16) [zY, Nat.not_lt.2 hge]
    refine hK4 _ _ ?_
    refine CW.seqK fun K3 hK3 => ?_
    refine CW.cond (t := false) (by simp [zT, zF, lk]) ?_
    refine CW.exit (hR2 _ _ _ (hR _ _ _ ?_))
    simp only [outOf, if_true, andThen]
    refine hK _ _ ?_
    rw [List.take_of_length_le hge]
    refine CW.seqK fun K hK => CW.region ?_
    simp (maxDischargeDepth := 16) [zY]
    refine hK _ _ ?_; clear hK K
    exact CW.ret (hR0 _ _ _ ⟨.agg [.lit (.int .u8 k), .lit (.string nm), .lit (.bool ng), .sl (limR dg) .no, .sl (trmR (en.puts ks)) tok], by simp [zA, omap, zC, zX], Fgt.wrote ⟨_, rfl⟩ hp.1 trivial (MkT.bel hp _) (frzN (by simp [AV.pln, plnR, trmR_pln]) (by simp [AV.nrm, nrmR, trmR_nrm, Trm.cs]))⟩)
end
section
open Go.RowKit
theorem pureRun_bind {P : Program} {α β : Type} : ∀ {m : Go.Sem α} {a : α} (f : α → Go.Sem β), pureRun P m = some (.inl a) → pureRun P (m.bind f) = pureRun P (f a)
 | .pure _, _, f, h => by simp [pureRun] at h; subst h; rfl
 | .program k, _, f, h => by rw [pureRun] at h; simpa [Sem.bind, pureRun] using pureRun_bind (m := k P) f h
 | .halt x, _, f, h => by cases x <;> simp [pureRun] at h
 | .load .., _, _, h | .store .., _, _, h | .new .., _, _, h | .shape .., _, _, h | .freeze .., _, _, h | .frozen .., _, _, h | .getObj .., _, _, h | .setObj .., _, _, h | .choose .., _, _, h | .sys .., _, _, h | .mark .., _, _, h => by simp [pureRun] at h
section
variable {P : Program} {M : List TypeId} {σ : Sto} {ρ : Operand → Option AV} {ds : Option Tmp} {ty : TypeId} {po : String} {af : Array Edge} {gu : Option (Nat × Bool)}
theorem es_min {x y : Operand} {ts : Array TypeId} {a b : Int} (hx : ρ x = some (.lit (.int .i64 a))) (hy : ρ y = some (.lit (.int .i64 b))) :
    evStep P M ρ σ ⟨ds, .call ⟨.builtin .min, #[x, y], ts⟩, ty, po, af, gu⟩ = some (.val (.lit (.int .i64 (if b < a then b else a))) σ .pure) := by
 have e : execOp (fun x => ((ρ x).bind conc).getD undef) ⟨ds, .call ⟨.builtin .min, #[x, y], ts⟩, ty, po, af, gu⟩ = Sem.pure (.value (.int .i64 (if b < a then b else a))) := by
  unfold execOp
  simp only [resolve, List.map_toArray, List.map_cons, List.map_nil, hx, hy, Option.bind_some, conc, conc2, Option.getD_some]
  rfl
 have hl : evLit P ρ σ ⟨ds, .call ⟨.builtin .min, #[x, y], ts⟩, ty, po, af, gu⟩ = some (.val (.lit (.int .i64 (if b < a then b else a))) σ .pure) := by
  unfold evLit
  dsimp only
  rw [e]
  have hall : ((Op.call ⟨.builtin .min, #[x, y], ts⟩).operands.all fun x => ((ρ x).bind conc).isSome) = true := by simp [Op.operands, Call.operands, hx, hy, conc, conc2]
  rw [if_pos hall]
  rfl
 unfold evStep
 rw [if_neg (by simp [mutOp]), hl]
 simp [evPure]
theorem es_nilNeq {t u : TypeId} {x : Operand} {ms : Array (String × TypeId)} (ht : P.underlying t = some (.interface ms)) (hx : ρ x = some (.lit .nilIface)) (hcy : ρ (.const .nilIface) = some (.lit .nilIface)) :
    evStep P M ρ σ ⟨ds, .binOp .neq t x (.const .nilIface) u, ty, po, af, gu⟩ = some (.val (.lit (.bool false)) σ .pure) := by
 have heq : ∀ k, pureRun P (Op.equalIn (k + 1) t .nilIface .nilIface) = some (.inl true) := by
  intro k
  rw [Op.equalIn]
  simp [underlying, program, ht, pureRun, bind, pure, Sem.bind]
 have hr : pureRun P (execOp (fun x => ((ρ x).bind conc).getD undef) ⟨ds, .binOp .neq t x (.const .nilIface) u, ty, po, af, gu⟩) = some (.inl (.value (.bool false))) := by
  unfold execOp
  simp only [hx, hcy, Option.bind_some, conc, conc2, Option.getD_some]
  unfold eqGuard Go.binOp Op.equal
  simp only [Op.maxDepth, bind, pure, Sem.bind]
  have h1 := heq 9999
  simp only [Sem.bind_assoc', Bool.or_true, if_true, ite_self]
  rw [pureRun_bind (a := ()) _ rfl]
  show pureRun P ((Op.equalIn (9999 + 1) t Value.nilIface Value.nilIface).bind _) = _
  rw [pureRun_bind _ h1]
  rfl
 have hl : evLit P ρ σ ⟨ds, .binOp .neq t x (.const .nilIface) u, ty, po, af, gu⟩ = some (.val (.lit (.bool false)) σ .pure) := by
  unfold evLit
  dsimp only
  rw [hr]
  have hall : ((Op.binOp BinOp.neq t x (.const .nilIface) u).operands.all fun x => ((ρ x).bind conc).isSome) = true := by simp [Op.operands, hx, hcy, conc, conc2]
  rw [if_pos hall]
  rfl
 rw [es_binOp]
 unfold evStepU
 rw [hl]
 simp [evPure, hx, hcy, binL]
end
end
section
open Go.RowKit
variable {S : Sp} {N : Nat}
structure SubT where
 mv : Nat
 tv : Nat
 m : MkT
 e : EnvT
 t : Trm
def SubT.At (s : SubT) (σ : Sto) : Prop := σ[s.mv]? = some (.cells [.ptr s.m.mid 0] 112) ∧ σ[s.tv]? = some (.cells s.t.cs 54) ∧ s.m.At σ ∧ s.e.At s.m σ ∧ s.t.n ≤ 1000000000 ∧ s.m.made + (s.e.put s.t).cnt ≤ 20000
theorem SubT.At.app {s : SubT} {σ : Sto} (h : s.At σ) (l : Sto) : s.At (σ ++ l) :=
 ⟨(st_old (List.getElem?_eq_some_iff.1 h.1).1).trans h.1, (st_old (List.getElem?_eq_some_iff.1 h.2.1).1).trans h.2.1, h.2.2.1.app l, h.2.2.2.1.app l, h.2.2.2.2⟩
theorem SubT.uniq {a b : SubT} {σ : Sto} (h1 : a.mv = b.mv) (h2 : a.tv = b.tv) (ha : a.At σ) (hb : b.At σ) : a = b := by
 obtain ⟨a1, a2, am, ae, at_⟩ := a; obtain ⟨b1, b2, bm, be, bt⟩ := b
 dsimp only at h1 h2
 subst h1 h2
 have e1 := ha.1.symm.trans hb.1
 have e2 := ha.2.1.symm.trans hb.2.1
 simp only [Option.some.injEq, AObj.cells.injEq, List.cons.injEq, AV.ptr.injEq, and_true] at e1 e2
 have := MkT.uniq e1 ha.2.2.1 hb.2.2.1
 subst this
 have := EnvT.uniq ha.2.2.2.1 hb.2.2.2.1
 subst this
 rw [Trm.inj e2]
abbrev SubT.st (s : SubT) (σ : Sto) : Sto := σ.set s.m.mid (s.m.obj (s.e.put s.t).cnt)
abbrev sub1F : FS := ⟨SubT, fun s => [.ptr s.mv 0, .ptr s.tv 0], fun s σ => s.At σ, fun s σ => (.ret (.agg (s.e.put s.t).cs), s.st σ), fun s => 16 * (trmN s.e.ts + s.t.n) + 6⟩
theorem sub1F_uniq : FS.uniq sub1F := fun a b σ e ha hb => by
 simp only [List.cons.injEq, AV.ptr.injEq, and_true] at e
 cases SubT.uniq e.1 e.2 ha hb
 rfl
theorem sub1_w (hc : S.code = codeP Tryz.prog) (hm : S.ms 58 = []) (h1 : S.sp 59 = some ofF) (s : SubT) (σ : Sto) (hp : s.At σ) (hN : 16 * (trmN s.e.ts + s.t.n) + 6 ≤ N) :
    JC Tryz.prog (S.E N) 58 [.ptr s.mv 0, .ptr s.tv 0] σ fun r σ' => Fgt σ r σ' (.ret (.agg (s.e.put s.t).cs)) (s.st σ) := by
 refine JC.startF (fn := Tryz.f58) (codeOf hc Tryz.func58 rfl (by kernel_rfl)) rfl hm rfl (zL rfl) fun tm => ?_
 refine CW.hide fun R0 hR0 => ?_
 obtain ⟨g1, g2, g3, g4, g5, g6⟩ := hp
 have l1 := (List.getElem?_eq_some_iff.1 g1).1
 have l2 := (List.getElem?_eq_some_iff.1 g2).1
 refine CW.seqK fun K hK => CW.region ?_
 simp (maxDischargeDepth := 16) [zY]
 refine hK _ _ ?_; clear hK K
 refine CW.seqK fun K hK => CW.region ?_
 simp (maxDischargeDepth := 16) [zY, st_old l1, st_old l2, g1, g2, Trm.tk, Trm.len]
 refine call_of s.m s.e s.t h1 (by simp only [nrmR, AV.nrm, Trm.nrm]) (g3.app _) (g4.app _) g5 g6 (by omega) fun _ => ?_
 simp (maxDischargeDepth := 16) [zY, st_setold g3.lt, Trm.put, Trm.len]
 refine hK _ _ (CW.ret (hR0 _ _ _ ⟨.agg (s.e.put s.t).cs, by simp [zA, omap, zC, zX, Trm.tk, Trm.len], ?_⟩))
 exact Fgt.wrote ⟨_, rfl⟩ g3.1 trivial (MkT.bel g3 _) (frzN (by simp [AV.pln, Trm.pln]) (by simp [AV.nrm, Trm.nrm]))
abbrev triedF : FS := ⟨SubT, fun s => [.fn (.func 58) [] [.ptr s.mv 0, .ptr s.tv 0]], fun s σ => s.At σ, fun s σ => (.ret (.tup [.agg (s.e.put s.t).cs, .lit (.int .i64 0)]), s.st σ), fun s => 16 * (trmN s.e.ts + s.t.n) + 7⟩
theorem triedF_uniq : FS.uniq triedF := fun a b σ e ha hb => by
 simp only [List.cons.injEq, AV.fn.injEq, AV.ptr.injEq, and_true, true_and] at e
 cases SubT.uniq e.1 e.2 ha hb
 rfl
theorem tried_w (hc : S.code = codeP Tryz.prog) (hE : EnvOk Tryz.prog (S.E N)) (hm : S.ms 57 = []) (hm2 : S.ms 99 = []) (h1 : S.sp 58 = some sub1F) (s : SubT) (σ : Sto) (hp : s.At σ) (hN : 16 * (trmN s.e.ts + s.t.n) + 7 ≤ N) :
    FS.Ok Tryz.prog triedF 57 s σ := by
 refine defer_call (by kernel_rfl) hE (fn := Tryz.f57) (gn := Tryz.f99) (codeOf hc Tryz.func57 rfl (by kernel_rfl)) rfl (codeOf hc Tryz.func99 rfl (by kernel_rfl)) rfl (zL rfl) (zL rfl) ?_
 rw [num_fm (zL rfl)]
 show JD _ (S.E N) (S.ms _) _ (fm 7 (num 0 [.fn (.func 58) [] [.ptr s.mv 0, .ptr s.tv 0]]) _) _ _
 rw [hm]
 have hp' := hp
 obtain ⟨g1, g2, g3, g4, g5, g6⟩ := hp'
 refine J.cw (CW.hide fun R hR => CW.region ?_)
 simp (maxDischargeDepth := 16) [zY]
 refine hR _ _ _ ⟨rfl, by rw [fm_len]; exact zL rfl, [.ptr (σ.length + 1) 0, .ptr σ.length 0], by simp [omap, zX], ?_⟩
 show JD _ (S.E N) (S.ms _) _ _ _ _
 rw [hm, set_fm]
 simp only [pt]
 refine J.cw (CW.hide fun R2 hR2 => CW.seqK fun K hK => CW.region ?_)
 simp (maxDischargeDepth := 16) [zY]
 refine call_sp (s := sub1F) s h1 sub1F_uniq rfl (hp.app _) (by show 16 * _ + 6 < N; omega) ?_
 dsimp only [SubT.st]
 simp (maxDischargeDepth := 16) [zY, st_setold g3.lt, Trm.put, Trm.len]
 refine hK _ _ (CW.ret (hR2 _ _ _ ⟨_, rfl, ?_⟩))
 show JD _ (S.E N) (S.ms _) _ _ _ _
 rw [hm2, num_fm (zL rfl)]
 simp only [set_fm, num, pt]
 have hif : Tryz.prog.underlying 20 = some (.interface #[]) := by kernel_rfl
 rw [show (Tryz.f99).ntmps = 17 from rfl]
 refine J.cw (CW.hide fun R3 hR3 => CW.seqK fun K hK => CW.region ?_)
 simp (maxDischargeDepth := 16) [zY, es_nilNeq hif]
 refine hK _ _ ?_
 refine CW.cond (t := false) (by simp [zT, zF, lk]) ?_
 refine CW.skip (hR3 _ _ _ ⟨.tup [], by simp [zA, omap], ⟨_, rfl⟩, .tup [.agg (s.e.put s.t).cs, .lit (.int .i64 0)], by simp [zA, omap, zC, zX, Trm.tk, Trm.len], ?_⟩)
 exact Fgt.wrote ⟨_, rfl⟩ g3.1 trivial (MkT.bel g3 _) (frzN (by simp [AV.pln, plnR, Trm.pln]) (by simp [AV.nrm, nrmR, Trm.nrm]))
def SubE.At (e : EnvT) (t : Trm) (σ : Sto) : Prop := e.held σ ∧ e.names.length ≤ 1000000000 ∧ trmN e.ts ≤ 500000000 ∧ t.n ≤ 1000000000 ∧ (e.put t).cnt ≤ 20000
abbrev substF : FS := ⟨EnvT × Trm, fun p => [.agg p.2.cs, .sl (txtR p.1.names) .no, p.1.lv .no], fun p σ => SubE.At p.1 p.2 σ, fun p σ => (.ret (.tup [.agg (p.1.put p.2).cs, .lit (.int .i64 0)]), σ), fun p => 16 * (trmN p.1.ts + p.2.n) + 8⟩
theorem substF_uniq : FS.uniq substF := fun a b σ e ha hb => by
 obtain ⟨a, t⟩ := a; obtain ⟨b, u⟩ := b
 simp only [List.cons.injEq, AV.agg.injEq, AV.sl.injEq, and_true, true_and] at e
 obtain ⟨e1, e2, e3⟩ := e
 obtain ⟨h1, h2⟩ := EnvT.lv_inj e3 ha.1 hb.1
 obtain ⟨an, ats, ai⟩ := a; obtain ⟨bn, bts, bi⟩ := b
 dsimp only at h1 h2 e2
 subst h1 h2
 cases Trm.inj e1; cases txtR_inj e2
 rfl
theorem prim_none {f : FuncId} (h : S.sp f = none) (hb : S.base f = none) : (S.E N).prim f = none := by
 show (match S.sp f with | some s => some (relPrim (s.S N)) | none => S.base f) = _
 rw [h]; exact hb
theorem subst_w (hc : S.code = codeP Tryz.prog) (hm : S.ms 28 = []) (hm2 : S.ms 56 = []) (hn : S.sp 56 = none) (hnb : S.base 56 = none) (h1 : S.sp 57 = some triedF) (e : EnvT) (t : Trm) (σ : Sto) (hp : SubE.At e t σ) (hN : 16 * (trmN e.ts + t.n) + 8 ≤ N) :
    JC Tryz.prog (S.E N) 28 [.agg t.cs, .sl (txtR e.names) .no, e.lv .no] σ fun r σ' => Fgt σ r σ' (.ret (.tup [.agg (e.put t).cs, .lit (.int .i64 0)])) σ := by
 refine JC.startF (fn := Tryz.f28) (codeOf hc Tryz.func28 rfl (by kernel_rfl)) rfl hm rfl (zL rfl) fun tm => ?_
 refine CW.hide fun R0 hR0 => ?_
 obtain ⟨g1, g2, g3, g4, g5⟩ := hp
 rcases Nat.eq_zero_or_pos e.ts.length with hz | hz
 · rw [EnvT.lv_zero hz]
   refine CW.seqK fun K hK => CW.region ?_
   simp (maxDischargeDepth := 16) [zY]
   refine hK _ _ ?_; clear hK K
   refine CW.seqK fun K hK => CW.region ?_
   simp (maxDischargeDepth := 16) [zY]
   refine CallW.startF (fn := Tryz.f56) (M := []) (prim_none hn hnb) (codeOf hc Tryz.func56 rfl (by kernel_rfl)) rfl hm2 rfl (zL rfl) fun tm => ?_
   refine CW.hide fun R1 hR1 => ?_
   have hmn : (if (0 : Int) < e.names.length then (0 : Int) else e.names.length) = 0 := by split <;> omega
   refine CW.seqK fun K hK => CW.region ?_
   simp (maxDischargeDepth := 16) [zY]
   refine hK _ _ ?_; clear hK K
   refine CW.seqK fun K2 hK2 => CW.region ?_
   simp (maxDischargeDepth := 16) [zY, es_min, hmn]
   refine hK2 _ _ ?_; clear hK2 K2
   refine CW.seqK fun K hK => CW.region ?_
   simp (maxDischargeDepth := 16) [zY]
   refine hK _ _ ?_; clear hK K
   refine CW.ret (hR1 _ _ _ ⟨.ptr (σ.length + 5) 0, by simp [zA, omap, zB, zF, lk], ?_⟩)
   simp (maxDischargeDepth := 16) [zY]
   refine hK _ _ ?_; clear hK K hR1 R1
   refine CW.seqK fun K hK => CW.region ?_
   simp (maxDischargeDepth := 16) [zY]
   refine call_sp (s := triedF) ⟨σ.length + 6, σ.length, ⟨σ.length + 5, σ.length + 4, σ.length + 2, σ.length + 3, 0⟩, e, t⟩ h1 triedF_uniq rfl ?_ (by show 16 * (trmN e.ts + t.n) + 7 < N; omega) ?_
   · refine ⟨by simp [zF], by simp [zF], ⟨by simp [zF, MkT.obj], by simp, by simp, by simp, by simp⟩, ⟨by rw [hz]; simp [zF], by simp [zF], by rw [EnvT.lv_zero hz]; simp [zF], g1.app _, g2, g3⟩, g4, by show (0 : Int) + ((e.put t).cnt : Int) ≤ 20000; omega⟩
   dsimp only [SubT.st]
   simp (maxDischargeDepth := 16) [zY, Trm.put, Trm.len]
   refine hK _ _ (CW.ret (hR0 _ _ _ ⟨.tup [.agg (e.put t).cs, .lit (.int .i64 0)], by simp [zA, omap, zC, zB, zX, Trm.tk, Trm.len], ?_⟩))
   exact done (by simp [AV.pln, plnR, Trm.pln]) (by simp [AV.nrm, nrmR, Trm.nrm])
 · rw [EnvT.lv_pos hz]
   refine CW.seqK fun K hK => CW.region ?_
   simp (maxDischargeDepth := 16) [zY]
   refine hK _ _ ?_; clear hK K
   refine CW.seqK fun K hK => CW.region ?_
   simp (maxDischargeDepth := 16) [zY]
   refine CallW.startF (fn := Tryz.f56) (M := []) (prim_none hn hnb) (codeOf hc Tryz.func56 rfl (by kernel_rfl)) rfl hm2 rfl (zL rfl) fun tm => ?_
   refine CW.hide fun R1 hR1 => ?_
   have hmn : (if e.ts.length < e.names.length then (e.ts.length : Int) else e.names.length) = ((min e.names.length e.ts.length : Nat) : Int) := by split <;> omega
   refine CW.seqK fun K hK => CW.region ?_
   simp (maxDischargeDepth := 16) [zY]
   refine hK _ _ ?_; clear hK K
   refine CW.seqK fun K2 hK2 => CW.region ?_
   simp (maxDischargeDepth := 16) [zY, es_min, hmn]
   refine hK2 _ _ ?_; clear hK2 K2
   refine CW.seqK fun K hK => CW.region ?_
   simp (maxDischargeDepth := 16) [zY]
   refine hK _ _ ?_; clear hK K
   refine CW.ret (hR1 _ _ _ ⟨.ptr (σ.length + 5) 0, by simp [zA, omap, zB, zF, lk], ?_⟩)
   simp (maxDischargeDepth := 16) [zY]
   refine hK _ _ ?_; clear hK K hR1 R1
   refine CW.seqK fun K hK => CW.region ?_
   simp (maxDischargeDepth := 16) [zY]
   refine call_sp (s := triedF) ⟨σ.length + 6, σ.length, ⟨σ.length + 5, σ.length + 4, σ.length + 2, σ.length + 3, 0⟩, e, t⟩ h1 triedF_uniq rfl ?_ (by show 16 * (trmN e.ts + t.n) + 7 < N; omega) ?_
   · refine ⟨by simp [zF], by simp [zF], ⟨by simp [zF, MkT.obj], by simp, by simp, by simp, by simp⟩, ⟨by simp [zF], by simp [zF], by rw [EnvT.lv_pos hz]; simp [zF], g1.app _, g2, g3⟩, g4, by show (0 : Int) + ((e.put t).cnt : Int) ≤ 20000; omega⟩
   dsimp only [SubT.st]
   simp (maxDischargeDepth := 16) [zY, Trm.put, Trm.len]
   refine hK _ _ (CW.ret (hR0 _ _ _ ⟨.tup [.agg (e.put t).cs, .lit (.int .i64 0)], by simp [zA, omap, zC, zB, zX, Trm.tk, Trm.len], ?_⟩))
   exact done (by simp [AV.pln, plnR, Trm.pln]) (by simp [AV.nrm, nrmR, Trm.nrm])
end
end Go.Proofs.YtncoidmbmihliaaGreatDoor
