/-
 EV: the document's answer for layer 19: a term's copy whose kids are an object still; now, and, atom, term.
-/
import Derived.Test.YteajcnilihgheaaGreatDoorEvDeferM
import Derived.Test.YteajcnilihgheaaGreatDoorRw6M
import Derived.Test.YteajcnilihgheaaGreatDoorRStemM
import Derived.Test.YteajcnilihgheaaGreatDoorEvDrawJM
namespace Go.Proofs.YteajcnilihgheaaGreatDoor
set_option maxRecDepth 100000
set_option maxHeartbeats 8000000
set_option linter.unusedSimpArgs false
set_option linter.unusedVariables false
section
open Go.RowKit
variable {S : Sp} {N : Nat}
theorem Held.set {σ : Sto} {e : TypeId} {k : Nat} {es : List (List AV)} {lv : AV} {d : Option Nat} (h : Held σ e k es lv d) {j : Nat} (hj : ∀ x, d = some x → x ≠ j) (o : AObj) : Held (σ.set j o) e k es lv d := by
 rcases h with h | ⟨i, h1, h2, h3⟩
 · exact .inl h
 · exact .inr ⟨i, h1, h2, by rw [List.getElem?_set_ne (hj i h1).symm]; exact h3⟩
theorem Held.cl {σ : Sto} {e : TypeId} {k : Nat} {es : List (List AV)} {lv : AV} {d : Option Nat} (h : Held σ e k es lv d) : lv.cells = [lv] ∧ lv.notTup = true ∧ conc lv = none ∧ conc2 lv = none := by
 rcases h with ⟨_, rfl, _⟩ | ⟨i, _, rfl, _⟩ <;> exact ⟨rfl, rfl, rfl, rfl⟩
theorem CopyTerm_j (hc : S.code = codeP Tryz.prog) (hm0 : S.ms 161 = [28]) (h1 : S.sp 133 = some (copyF (fun t : Trm => .agg t.cs) Trm.n 2)) (hm : S.ms 133 = []) (hI : S.sp 136 = some (copyF intA intN 1)) (k : Int) (nm : ByteArray) (ng : Bool) (dg : List Int) (ks : List Trm) (σ : Sto) (hl : (Trm.mk k nm ng dg ks).n ≤ 1000000000) (hN : 16 * (Trm.mk k nm ng dg ks).n + 2 ≤ N) :
    JC Tryz.prog (S.E N) 133 [.agg (Trm.mk k nm ng dg ks).cs] σ fun r σ' => ∃ lv d g, r = .ret (.agg [.lit (.int .u8 k), .lit (.string nm), .lit (.bool ng), .sl (limR dg) .no, lv]) ∧ Held σ' 30 5 (trmR ks) lv d ∧ (∀ x, d = some x → σ.length ≤ x) ∧ σ' = σ ++ g := by
 refine JC.startG (fn := Tryz.f133) (codeOf hc Tryz.func133 rfl (by kernel_rfl)) rfl hm rfl (zL rfl) fun tm => ?_
 refine JD.hide fun R0 hR0 => ?_
 simp only [Trm.n] at hl hN
 simp only [Trm.cs]
 refine JD.seqK fun K hK => J.cw (CW.region ?_)
 simp (maxDischargeDepth := 16) [zY]
 refine hK _ _ ?_; clear hK K
 refine JD.seqK fun K hK => J.cw (CW.region ?_)
 simp (maxDischargeDepth := 16) [zY]
 refine call_copy ((ng, dg)) hI intA_inj (by simp only [nrmR, AV.nrm, limR_nrm]) (by simp only [intN]; omega) (by simp only [intN]; omega) fun _ => ?_
 simp (maxDischargeDepth := 16) [zY, limR_nrm]
 refine hK _ _ ?_; clear hK K
 have a0 : (σ ++ [AObj.cells [.lit (.int .u8 k), .lit (.string nm), .lit (.bool ng), .sl (limR dg) .no, .sl (trmR ks) .no] 30, AObj.cells [.lit (.int .u8 0), .lit (.string ⟨#[]⟩), .lit (.bool false), .sl [] .full, .sl [] .full] 30])[σ.length]? = some (AObj.cells [.lit (.int .u8 k), .lit (.string nm), .lit (.bool ng), .sl (limR dg) .no, .sl (trmR ks) .no] 30) := by simp
 have a1 : (σ ++ [AObj.cells [.lit (.int .u8 k), .lit (.string nm), .lit (.bool ng), .sl (limR dg) .no, .sl (trmR ks) .no] 30, AObj.cells [.lit (.int .u8 0), .lit (.string ⟨#[]⟩), .lit (.bool false), .sl [] .full, .sl [] .full] 30])[σ.length + 1]? = some (AObj.cells [.lit (.int .u8 0), .lit (.string ⟨#[]⟩), .lit (.bool false), .sl [] .full, .sl [] .full] 30) := by simp
 obtain ⟨l0, hl0, hl2⟩ : ∃ l0 : Sto, σ ++ [AObj.cells [.lit (.int .u8 k), .lit (.string nm), .lit (.bool ng), .sl (limR dg) .no, .sl (trmR ks) .no] 30, AObj.cells [.lit (.int .u8 0), .lit (.string ⟨#[]⟩), .lit (.bool false), .sl [] .full, .sl [] .full] 30] = σ ++ l0 ∧ l0.length = 2 := ⟨_, rfl, rfl⟩
 rw [hl0] at a0 a1 ⊢
 clear hl0
 refine JD.keep [1, 2] fun tm => ?_
 simp only [sel, List.contains_cons, List.contains_nil, Bool.or_false, Nat.reduceBEq, Bool.false_eq_true, if_false, if_true, Bool.or_true, Bool.true_or]
 refine JD.seqK fun K hK => JD.region ?_
 have hj := CopyTerms_j (N := N) hc hm0 h1 ks (σ ++ l0) (by omega) (by omega)
 have b0 := fun g : Sto => (st_old (l := g) (List.getElem?_eq_some_iff.1 a0).1).trans a0
 have b1 := fun g : Sto => (st_old (l := g) (List.getElem?_eq_some_iff.1 a1).1).trans a1
 have hll : σ.length + 1 < (σ ++ l0).length := by rw [List.length_append, hl2]; omega
 have hset : ∀ (g : Sto) (o o' : AObj), ∃ g', (((σ ++ l0) ++ g).set σ.length o).set (σ.length + 1) o' = σ ++ g' := fun g o o' => by
  refine ⟨((l0 ++ g).set 0 o).set 1 o', ?_⟩
  rw [List.append_assoc, List.set_append_right _ _ (Nat.le_refl _), Nat.sub_self, List.set_append_right _ _ (by omega), Nat.add_sub_cancel_left]
 generalize σ ++ l0 = σa at *
 generalize hP : σ.length = P at *
 simp (maxDischargeDepth := 16) [zY, symL, a0]
 refine hj.mono ?_
 rintro r σ4 ⟨lv, d, g, rfl, hH, hd, rfl⟩
 replace b0 := b0 g
 replace b1 := b1 g
 replace hset := hset g
 have hone := hH.ren
 obtain ⟨c1, c2, c3, c4⟩ := hH.cl
 have hlt0 := (List.getElem?_eq_some_iff.1 b0).1
 have hlt1 := (List.getElem?_eq_some_iff.1 b1).1
 generalize σa ++ g = τ at *
 have b0' : ∀ o, (τ.set P o)[P]? = some o := fun o => List.getElem?_set_self hlt0
 have b1' : ∀ o, (τ.set P o)[P + 1]? = some (AObj.cells [.lit (.int .u8 0), .lit (.string ⟨#[]⟩), .lit (.bool false), .sl [] .full, .sl [] .full] 30) := fun o => by rw [List.getElem?_set_ne (by omega)]; exact b1
 have hf : ∀ o o', ((τ.set P o).set (P + 1) o')[P + 1]? = some o' := fun o o' => List.getElem?_set_self (by rw [List.length_set]; exact hlt1)
 have hHf : ∀ o o', Held ((τ.set P o).set (P + 1) o') 30 5 (trmR ks) lv d := fun o o' => (hH.set (fun x hx => by have := hd x hx; omega) o).set (fun x hx => by have := hd x hx; omega) o'
 simp (maxDischargeDepth := 16) [zY, symL, b0, hone, b0', b1', c1, c2, c3, c4]
 refine hK _ _ ?_; clear hK K
 refine JD.seqK fun K hK => J.cw (CW.region ?_)
 simp (maxDischargeDepth := 16) [zY, b0, hone, b0', b1', hf, c1, c2, c3, c4]
 refine hK _ _ ?_; clear hK K
 obtain ⟨g', hg'⟩ := hset (AObj.cells [.lit (.int .u8 k), .lit (.string nm), .lit (.bool ng), .sl (limR dg) .no, lv] 30) (AObj.cells [.lit (.int .u8 k), .lit (.string nm), .lit (.bool ng), .sl (limR dg) .no, lv] 30)
 exact JD.ret (hR0 _ _ _ ⟨.agg [.lit (.int .u8 k), .lit (.string nm), .lit (.bool ng), .sl (limR dg) .no, lv], by simp [zA, omap, zC, zX, hf], lv, d, g', rfl, hHf _ _, fun x hx => by have := hd x hx; omega, hg'⟩)
def bndR : List (ByteArray × ByteArray) → List (List AV)
 | [] => []
 | p :: l => [.lit (.string p.1), .lit (.string p.2)] :: bndR l
theorem bndR_map (l : List (ByteArray × ByteArray)) : bndR l = l.map fun p => [.lit (.string p.1), .lit (.string p.2)] := by induction l with | nil => rfl | cons p l ih => rw [bndR, ih]; rfl
@[simp] theorem bndR_len (l : List (ByteArray × ByteArray)) : (bndR l).length = l.length := by rw [bndR_map, List.length_map]
theorem bndR_get {l : List (ByteArray × ByteArray)} {i : Nat} (h : i < l.length) : (bndR l)[i]? = some [.lit (.string l[i].1), .lit (.string l[i].2)] := by rw [bndR_map, List.getElem?_map, List.getElem?_eq_getElem h]; rfl
theorem bndR_app (a b : List (ByteArray × ByteArray)) : bndR (a ++ b) = bndR a ++ bndR b := by simp only [bndR_map, List.map_append]
theorem bndR_hd (l : List (ByteArray × ByteArray)) : (bndR l).head?.all (·.length == 2) = true := by cases l with | nil => rfl | cons x l => rfl
theorem bndR_nrm (l : List (ByteArray × ByteArray)) : nrmRR (bndR l) = bndR l := by induction l with | nil => rfl | cons p l ih => rw [bndR, nrmRR, ih]; rfl
theorem bndR_pln (l : List (ByteArray × ByteArray)) : plnRR (bndR l) = true := by induction l with | nil => rfl | cons p l ih => rw [bndR, plnRR, ih]; rfl
theorem bndR_stp (l : List (ByteArray × ByteArray)) : stripRows (bndR l) = bndR l := by
 unfold stripRows
 rw [bndR_map, List.map_map]
 rfl
theorem bndR_inj : ∀ {a b : List (ByteArray × ByteArray)}, bndR a = bndR b → a = b
 | [], [], _ => rfl
 | [], _ :: _, h => by cases h
 | _ :: _, [], h => by cases h
 | x :: a, y :: b, h => by
  simp only [bndR, List.cons.injEq, AV.lit.injEq, Value.string.injEq, and_true] at h
  rw [bndR_inj h.2, Prod.ext h.1.1 h.1.2]
theorem nowB_take {l : List (ByteArray × ByteArray)} {i : Nat} (h : i < l.length) (s : ByteArray) : nowB (l.take (i + 1)).reverse s = if l[i].1 = s then l[i].2 else nowB (l.take i).reverse s := by
 rw [List.take_succ_eq_append_getElem h, List.reverse_append, List.reverse_singleton, List.singleton_append, nowB]
theorem str_ne {a b : ByteArray} (h : ¬ a = b) : (a.toList = b.toList) = False := eq_false fun e => h ((tlR a b).1 e)
theorem ext_of9 {σ σ' : Sto} (hl : σ.length ≤ σ'.length) (h : ∀ p, p < σ.length → σ'[p]? = σ[p]?) : ∃ g, σ' = σ ++ g := by
 refine ⟨σ'.drop σ.length, List.ext_getElem? fun i => ?_⟩
 rcases Nat.lt_or_ge i σ.length with hi | hi
 · rw [List.getElem?_append_left hi, h i hi]
 · rw [List.getElem?_append_right hi, List.getElem?_drop]; congr 1; omega
abbrev now9F : FS := smF (fun p : List (ByteArray × ByteArray) × ByteArray => [.sl (bndR p.1) .no, .lit (.string p.2)]) (fun p => .lit (.string (nowB p.1.reverse p.2))) (fun p => p.1.length ≤ 1000000000) (fun _ => 0) 0
theorem now9_w (hc : S.code = codeP Tryz.prog) (hm : S.ms 114 = []) : SmOk Tryz.prog S N 114 (fun p : List (ByteArray × ByteArray) × ByteArray => [.sl (bndR p.1) .no, .lit (.string p.2)]) (fun p => .lit (.string (nowB p.1.reverse p.2))) (fun p => p.1.length ≤ 1000000000) (fun _ => 0) 0 := by
 rintro ⟨l, s⟩ σ hl hN
 dsimp only at hl hN ⊢
 refine JC.startF (fn := Tryz.f114) (codeOf hc Tryz.func114 rfl (by kernel_rfl)) rfl hm rfl (zL rfl) fun tm => ?_
 refine CW.hide fun R0 hR0 => ?_
 have hw : IntKind.i64.wrap ((l.length : Int) - 1) = (l.length : Int) - 1 := IntWalk.i64_in _ (by omega)
 refine CW.seqK fun K hK => CW.region ?_
 simp (maxDischargeDepth := 16) [zY]
 refine hK _ _ ?_; clear hK K
 refine CW.seqK fun KL hKL => ?_
 refine CW.seqK fun K hK => CW.region ?_
 simp (maxDischargeDepth := 16) [zY, hw]
 refine hK _ _ ?_; clear hK K
 refine CW.block (CW.hide fun R hR => ?_)
 refine CW.loopF (fun p : Nat => [(0, .sl (bndR l) .no), (1, .lit (.string s)), (5, .lit (.int .i64 ((p : Int) - 1)))]) (fun _ => σ) (fun p => p ≤ l.length ∧ nowB l.reverse s = nowB (l.take p).reverse s) (fun p => p) l.length (by simp [sub, lk]) rfl ⟨Nat.le_refl _, by rw [List.take_length]⟩ ?_
 rintro p tm ⟨hp, hq⟩
 refine CW.hide fun R2 hR2 => CW.seqK fun K3 hK3 => CW.seqK fun K4 hK4 => CW.region ?_
 rcases p with _ | i
 · simp (maxDischargeDepth := 16) [zY]
   refine hK4 _ _ ?_
   refine CW.cond (t := false) (by simp [zT, zF, lk]) ?_
   refine CW.exit (hR2 _ _ _ (hR _ _ _ ?_))
   simp only [outOf, if_true, andThen]
   refine hKL _ _ ?_
   refine CW.seqK fun K hK => CW.region ?_
   simp (maxDischargeDepth := 16) [zY]
   refine hK _ _ ?_; clear hK K
   refine CW.ret (hR0 _ _ _ ⟨.lit (.string s), by simp [zA, omap, zB, zF, lk], ?_⟩)
   rw [hq]
   exact done0 rfl rfl
 · have hlt : i < l.length := hp
   have ha := bndR_get hlt
   rw [nowB_take hlt s] at hq
   have e : (((i + 1 : Nat) : Int) - 1) = (i : Int) := by omega
   have h0 : ((0 : Int) ≤ (i : Int)) = True := eq_true (Int.natCast_nonneg i)
   have hw2 : IntKind.i64.wrap ((i : Int) - 1) = (i : Int) - 1 := IntWalk.i64_in _ (by omega)
   rw [e]
   clear e
   generalize l[i] = x at *
   simp (maxDischargeDepth := 16) [zY, h0]
   refine hK4 _ _ ?_
   refine CW.cond (t := true) (by simp [zT, zF, lk]) ?_
   refine CW.skip (hK3 _ _ ?_)
   refine CW.seqK fun K5 hK5 => CW.block ?_
   refine CW.seqK fun K6 hK6 => CW.region ?_
   rcases Classical.em (x.1 = s) with hx | hx
   · rw [if_pos hx] at hq
     simp (maxDischargeDepth := 16) [zY, ha, hx]
     refine hK6 _ _ ?_
     refine CW.cond (t := true) (by simp [zT, zF, lk]) ?_
     refine CW.seqK fun K hK => CW.region ?_
     simp (maxDischargeDepth := 16) [zY, ha]
     refine hK _ _ ?_; clear hK K
     refine CW.ret (hR2 _ _ _ (hR _ _ _ (hR0 _ _ _ ⟨.lit (.string x.2), by simp [zA, omap, zB, zF, lk], ?_⟩)))
     rw [hq]
     exact done0 rfl rfl
   · rw [if_neg hx] at hq
     have hx2 := str_ne hx
     simp (maxDischargeDepth := 16) [zY, ha, hx, hx2]
     refine hK6 _ _ ?_
     refine CW.cond (t := false) (by simp [zT, zF, lk, hx2]) ?_
     refine CW.skip (hK5 _ _ ?_)
     refine CW.region ?_
     simp (maxDischargeDepth := 16) [zY, hw2]
     exact hR2 _ _ _ ⟨i, _, _, rfl, by simp [sub, lk], rfl, ⟨by omega, hq⟩, Nat.lt_succ_self i⟩
abbrev and9F : FS := smF (fun p : List (ByteArray × ByteArray) × ByteArray × ByteArray => [.sl (bndR p.1) .no, .lit (.string p.2.1), .lit (.string p.2.2)]) (fun p => .sl (bndR (p.1 ++ [p.2])) .no) (fun p => p.1.length ≤ 1000000000) (fun _ => 0) 0
theorem and9_w (hc : S.code = codeP Tryz.prog) (hm : S.ms 75 = []) : SmOk Tryz.prog S N 75 (fun p : List (ByteArray × ByteArray) × ByteArray × ByteArray => [.sl (bndR p.1) .no, .lit (.string p.2.1), .lit (.string p.2.2)]) (fun p => .sl (bndR (p.1 ++ [p.2])) .no) (fun p => p.1.length ≤ 1000000000) (fun _ => 0) 0 := by
 rintro ⟨l, a, b⟩ σ hl hN
 dsimp only at hl hN ⊢
 refine JC.startF (fn := Tryz.f75) (codeOf hc Tryz.func75 rfl (by kernel_rfl)) rfl hm rfl (zL rfl) fun tm => ?_
 refine CW.hide fun R0 hR0 => ?_
 refine CW.seqK fun K hK => CW.region ?_
 simp (maxDischargeDepth := 16) [zY]
 refine hK _ _ ?_; clear hK K
 refine CW.seqK fun K hK => CW.region ?_
 obtain ⟨t1, σ1, acc1, u1, u2, u3, u4, hap1⟩ := app_own (P := Tryz.prog) (M := []) (σ := σ) (t := 120) (e := 203) (k := 1) (by_ := 32) (es := []) (fs := bndR l) (tok := .full) (by kernel_rfl) (by kernel_rfl) (by kernel_rfl) (by kernel_rfl) (.inl ⟨rfl, rfl⟩) rfl (bndR_hd _) (by simp only [List.length_nil, bndR_len]; omega) (by simp only [List.length_nil, bndR_len]; omega)
 simp only [List.nil_append, bndR_stp] at hap1
 obtain ⟨t2, σ2, acc2, v1, v2, v3, v4, hap2⟩ := app_own (P := Tryz.prog) (M := []) (σ := σ1) (t := 120) (e := 203) (k := 1) (by_ := 32) (es := bndR l) (fs := [[.lit (.string a), .lit (.string b)]]) (tok := t1) (by kernel_rfl) (by kernel_rfl) (by kernel_rfl) (by kernel_rfl) (by simpa using u1) (bndR_hd _) rfl (by simp only [List.length_singleton, bndR_len]; omega) (by simp only [List.length_singleton, bndR_len]; omega)
 rw [show bndR l ++ stripRows [[.lit (.string a), .lit (.string b)]] = bndR (l ++ [(a, b)]) by rw [bndR_app]; rfl] at hap2
 have hex : ∃ g, σ2 = σ ++ g := ext_of9 (by omega) fun p hp => by
  rw [v3 p (by omega) fun e => ?_, u3 p hp (by simp)]
  rcases u4 p e with e | e
  · cases e
  · omega
 simp (maxDischargeDepth := 16) [zY, hap1, hap2]
 refine hK _ _ ?_
 exact CW.ret (hR0 _ _ _ ⟨.sl (bndR (l ++ [(a, b)])) t2, by simp [zA, omap, zB, zF, lk], Fgt.pure hex (by
  have := Frz.nrm (σ := σ2) (n := σ.length) (v := .sl (bndR (l ++ [(a, b)])) t2) (by simp only [AV.pln, bndR_pln])
  rwa [AV.nrm, bndR_nrm] at this)⟩)
end
section
open Go.RowKit
variable {S : Sp} {N : Nat}
theorem put_rows {k : Nat} {es : List (List AV)} (h : ∀ r ∈ es, r.length = k) {i : Nat} (hi : i < es.length) {r : List AV} (hr : r.length = k) : putCells es.flatten (i * k) r = (es.set i r).flatten := by
 have hl := rows_len es h
 have ht : (es.take i).flatten.length = i * k := by rw [rows_len _ fun x hx => h x (List.mem_of_mem_take hx), List.length_take, Nat.min_eq_left (Nat.le_of_lt hi)]
 have hx : es[i].length = k := h _ (List.getElem_mem hi)
 have e : es.flatten = (es.take i).flatten ++ (es[i] ++ (es.drop (i + 1)).flatten) := by
  conv => lhs; rw [← List.take_append_drop i es, List.drop_eq_getElem_cons hi]
  rw [List.flatten_append, List.flatten_cons]
 have hle : i * k + k ≤ es.flatten.length := by
  rw [hl, ← Nat.succ_mul]; exact Nat.mul_le_mul_right _ hi
 rw [putCells_eq _ _ _ (by rw [hr]; exact hle), List.set_eq_take_append_cons_drop, if_pos hi, List.flatten_append, List.flatten_cons, hr, e, ← ht, List.take_left, List.append_assoc]
 congr 2
 rw [← List.append_assoc]
 have : (es.take i).flatten.length + k = ((es.take i).flatten ++ es[i]).length := by rw [List.length_append, hx]
 rw [this, List.drop_left]
abbrev atom9F : FS := smF (fun p : List (ByteArray × ByteArray) × Atm => [.sl (bndR p.1) .no, .agg p.2.cs]) (fun p => .agg (renA p.1.reverse p.2).cs) (fun p => p.1.length ≤ 1000000000 ∧ p.2.n ≤ 1000000000) (fun p => p.2.n) 3
theorem now9_inj (a b : List (ByteArray × ByteArray) × ByteArray) (e : [AV.sl (bndR a.1) .no, .lit (.string a.2)] = [.sl (bndR b.1) .no, .lit (.string b.2)]) : a = b := by
 simp only [List.cons.injEq, AV.sl.injEq, AV.lit.injEq, Value.string.injEq, and_true] at e
 exact Prod.ext (bndR_inj e.1) e.2
theorem atom9_w (hc : S.code = codeP Tryz.prog) (hm : S.ms 76 = []) (h1 : S.sp 113 = some (copyF (fun t : Atm => .agg t.cs) Atm.n 2)) (h2 : S.sp 114 = some now9F) : SmOk Tryz.prog S N 76 (fun p : List (ByteArray × ByteArray) × Atm => [.sl (bndR p.1) .no, .agg p.2.cs]) (fun p => .agg (renA p.1.reverse p.2).cs) (fun p => p.1.length ≤ 1000000000 ∧ p.2.n ≤ 1000000000) (fun p => p.2.n) 3 := by
 rintro ⟨l, a⟩ σ ⟨hl, hn⟩ hN
 dsimp only at hl hn hN ⊢
 refine JC.startF (fn := Tryz.f76) (codeOf hc Tryz.func76 rfl (by kernel_rfl)) rfl hm rfl (zL rfl) fun tm => ?_
 refine CW.hide fun R0 hR0 => ?_
 have hcp := fun (σ : Sto) (Q : ARes → Sto → Prop) hq => call_copy (P := Tryz.prog) (S := S) (N := N) (σ := σ) (Q := Q) (args := [.agg a.cs]) a h1 (agg_inj Atm.inj) (by simp only [nrmR, AV.nrm, Atm.nrm]) hn (by omega) hq
 obtain ⟨k, nm, ng, dg, tr⟩ := a
 simp only [Atm.cs] at hcp ⊢
 simp only [renA, Atm.cs] at hR0
 refine CW.seqK fun K hK => CW.region ?_
 simp (maxDischargeDepth := 16) [zY]
 refine hK _ _ ?_; clear hK K
 refine CW.seqK fun K hK => CW.region ?_
 simp (maxDischargeDepth := 16) [zY]
 refine hcp _ _ fun _ => ?_
 simp (maxDischargeDepth := 16) [zY]
 refine hK _ _ ?_; clear hK K
 refine CW.seqK fun K hK => CW.seqK fun K2 hK2 => CW.region ?_
 rcases Classical.em (k = 1) with hk | hk
 · subst hk
   rw [if_pos rfl] at hR0
   simp (maxDischargeDepth := 16) [zY]
   refine hK2 _ _ ?_; clear hK2 K2
   refine CW.cond (t := true) (by simp [zT, zF, lk]) ?_
   refine CW.region ?_
   simp (maxDischargeDepth := 16) [zY]
   refine call_sm (l, nm) h2 now9_inj (by simp only [nrmR, AV.nrm, bndR_nrm]) hl (by omega) fun _ => ?_
   simp (maxDischargeDepth := 16) [zY]
   refine hK _ _ ?_; clear hK K
   refine CW.seqK fun K hK => CW.region ?_
   simp (maxDischargeDepth := 16) [zY]
   refine hK _ _ ?_; clear hK K
   exact CW.ret (hR0 _ _ _ ⟨.agg [.lit (.int .u8 1), .lit (.string (nowB l.reverse nm)), .lit (.bool ng), .sl (limR dg) .no, .lit (.bool tr)], by simp [zA, omap, zC, zX], done (by simp [AV.pln, plnR, limR_pln]) (by simp [AV.nrm, nrmR, limR_nrm, Atm.cs])⟩)
 · rw [if_neg hk] at hR0
   simp (maxDischargeDepth := 16) [zY, hk]
   refine hK2 _ _ ?_; clear hK2 K2
   refine CW.cond (t := false) (by simp [zT, zF, lk, hk]) ?_
   refine CW.skip (hK _ _ ?_); clear hK K
   refine CW.seqK fun K hK => CW.region ?_
   simp (maxDischargeDepth := 16) [zY]
   refine hK _ _ ?_; clear hK K
   exact CW.ret (hR0 _ _ _ ⟨.agg [.lit (.int .u8 k), .lit (.string nm), .lit (.bool ng), .sl (limR dg) .no, .lit (.bool tr)], by simp [zA, omap, zC, zX], done (by simp [AV.pln, plnR, limR_pln]) (by simp [AV.nrm, nrmR, limR_nrm, Atm.cs])⟩)
abbrev term9F : FS := smF (fun p : List (ByteArray × ByteArray) × Trm => [.sl (bndR p.1) .no, .agg p.2.cs]) (fun p => .agg (renT p.1.reverse p.2).cs) (fun p => p.1.length ≤ 1000000000 ∧ p.2.n ≤ 1000000000) (fun p => p.2.n) 4
theorem term9_inj (a b : List (ByteArray × ByteArray) × Trm) (e : [AV.sl (bndR a.1) .no, .agg a.2.cs] = [.sl (bndR b.1) .no, .agg b.2.cs]) : a = b := by
 simp only [List.cons.injEq, AV.sl.injEq, AV.agg.injEq, and_true] at e
 exact Prod.ext (bndR_inj e.1) (Trm.inj e.2)
theorem renTs_len (l : Bnd) : ∀ ts : List Trm, (renTs l ts).length = ts.length
 | [] => by rw [renTs]
 | t :: ts => by rw [renTs, List.length_cons, renTs_len l ts, List.length_cons]
theorem renTs_app (l : Bnd) : ∀ a b : List Trm, renTs l (a ++ b) = renTs l a ++ renTs l b
 | [], b => by rw [renTs]; rfl
 | t :: ts, b => by rw [List.cons_append, renTs, renTs_app l ts b, renTs]; rfl
structure T9 (τ σ : Sto) (P X : Nat) (k : Int) (nm nm2 : ByteArray) (ng : Bool) (dg : List Int) (ks : List Trm) (lv : AV) (d : Option Nat) : Prop where
 p : τ[P]? = some (AObj.cells [.lit (.int .u8 k), .lit (.string nm), .lit (.bool ng), .sl (limR dg) .no, .sl (trmR ks) .no] 30)
 q : P + 1 < τ.length
 z : ∃ z, τ[P + 1]? = some (AObj.cells z 30) ∧ z.length = 5
 x : τ[X]? = some (AObj.cells [.lit (.int .u8 k), .lit (.string nm2), .lit (.bool ng), .sl (limR dg) .no, lv] 30)
 h : Held τ 30 5 (trmR ks) lv d
 d : ∀ y, d = some y → P + 1 < y ∧ y ≠ X
 px : P + 1 < X
 e : ∃ g, τ = σ ++ g
 l : σ.length = P
def sndC : Code → Code
 | .seq _ b => b
 | c => c
def tailC : Nat → Code → Code
 | 0, c => c
 | n + 1, c => tailC n (sndC c)
noncomputable abbrev term9B : Code := Tryz.f112.body.getD .skip
theorem term9_3 (hT : S.sp 112 = some term9F) {l : List (ByteArray × ByteArray)} {τ σ : Sto} {P X : Nat} {k : Int} {nm nm2 : ByteArray} {ng : Bool} {dg : List Int} {ks : List Trm} {lv : AV} {d : Option Nat} (H : T9 τ σ P X k nm nm2 ng dg ks lv d) (hl : l.length ≤ 1000000000) (hn : trmN ks ≤ 1000000000) (hN : 16 * trmN ks + 4 < N)
    {R0 : AExit → List AV → Sto → Prop} (hR : ∀ fr tm σ', σ'[P + 1]? = some (AObj.cells [.lit (.int .u8 k), .lit (.string nm2), .lit (.bool ng), .sl (limR dg) .no, lv] 30) → (∀ d, lk 4 fr d = .ptr (P + 1) 0) → Held σ' 30 5 (trmR (renTs l.reverse ks)) lv d → (∃ g, σ' = σ ++ g) → R0 .ret (fm 41 fr tm) σ') (tm : List AV) :
    CW Tryz.prog (S.E N) [] (tailC 3 term9B) (fm 41 [(0, .sl (bndR l) .no), (3, .ptr P 0), (4, .ptr (P + 1) 0), (5, .ptr X 0)] tm) τ R0 := by
 refine CW.seqK fun KL hKL => ?_
 refine CW.seqK fun K hK => CW.region ?_
 simp (maxDischargeDepth := 16) [zY]
 refine hK _ _ ?_; clear hK K
 refine CW.block (CW.hide fun R hR1 => ?_)
 refine CW.loopF (fun p : Nat × Sto => [(0, .sl (bndR l) .no), (3, .ptr P 0), (4, .ptr (P + 1) 0), (5, .ptr X 0), (6, intV p.1)]) (fun p => p.2) (fun p => p.1 ≤ ks.length ∧ p.2[P]? = some (AObj.cells [.lit (.int .u8 k), .lit (.string nm), .lit (.bool ng), .sl (limR dg) .no, .sl (trmR ks) .no] 30) ∧ (∃ z, p.2[P + 1]? = some (AObj.cells z 30) ∧ z.length = 5) ∧ p.2[X]? = some (AObj.cells [.lit (.int .u8 k), .lit (.string nm2), .lit (.bool ng), .sl (limR dg) .no, lv] 30) ∧ Held p.2 30 5 (trmR (renTs l.reverse (ks.take p.1) ++ ks.drop p.1)) lv d ∧ ∃ g, p.2 = σ ++ g) (fun p => ks.length - p.1) (0, τ) (by simp [sub, lk]) rfl ⟨by simp, H.p, H.z, H.x, by simpa [renTs] using H.h, H.e⟩ ?_
 rintro ⟨i, τ1⟩ tm ⟨hi, g0, gz, gx, hH, hex⟩
 dsimp only at hi g0 gz gx hH hex ⊢
 rcases Nat.lt_or_ge i ks.length with hlt | hge
 · have ha := trmR_get hlt
   have hgn := trmN_get hlt
   have hes : ∀ r ∈ trmR (renTs l.reverse (ks.take i) ++ ks.drop i), r.length = 5 := fun r hr => by rw [trmR_map] at hr; obtain ⟨x, _, rfl⟩ := List.mem_map.1 hr; exact x.len
   have hrl : (renTs l.reverse (ks.take i)).length = i := by rw [renTs_len, List.length_take_of_le hi]
   have hel : (renTs l.reverse (ks.take i) ++ ks.drop i).length = ks.length := by rw [List.length_append, hrl, List.length_drop]; omega
   have hesl : (trmR (renTs l.reverse (ks.take i) ++ ks.drop i)).length = ks.length := by rw [trmR_len, hel]
   have hset : (trmR (renTs l.reverse (ks.take i) ++ ks.drop i)).set i (renT l.reverse ks[i]).cs = trmR (renTs l.reverse (ks.take (i + 1)) ++ ks.drop (i + 1)) := by
    rw [List.take_succ_eq_append_getElem hlt, renTs_app, List.drop_eq_getElem_cons hlt, trmR_app, trmR_app, trmR_app, List.set_append_right _ _ (by rw [trmR_len, hrl]; exact Nat.le_refl _), trmR_len, hrl, Nat.sub_self, List.append_assoc]
    rfl
   have hput := put_rows hes (i := i) (by rw [hesl]; exact hlt) (renT l.reverse ks[i]).len
   rw [hset] at hput
   have hfl := rows_len _ hes
   rw [hesl] at hfl
   obtain ⟨id, hd, hlv, hcs⟩ : ∃ id, d = some id ∧ lv = .asl id 0 ks.length 5 ∧ τ1[id]? = some (.cells (trmR (renTs l.reverse (ks.take i) ++ ks.drop i)).flatten 30) := by
    rcases hH with ⟨_, _, h⟩ | ⟨id, h1, h2, h3⟩
    · have := congrArg List.length h; rw [hesl] at this; exact absurd this (by show ks.length ≠ 0; omega)
    · rw [hesl] at h2; exact ⟨id, h1, h2, h3⟩
   subst hlv
   have hid := H.d id hd
   have hle : i * 5 + 5 ≤ (trmR (renTs l.reverse (ks.take i) ++ ks.drop i)).flatten.length := by rw [hfl]; omega
   have hidl : id < τ1.length := (List.getElem?_eq_some_iff.1 hcs).1
   have e0 : ∀ o, (τ1.set id o)[P]? = τ1[P]? := fun o => List.getElem?_set_ne (by omega)
   have e1 : ∀ o, (τ1.set id o)[P + 1]? = τ1[P + 1]? := fun o => List.getElem?_set_ne (by omega)
   have e2 : ∀ o, (τ1.set id o)[X]? = τ1[X]? := fun o => List.getElem?_set_ne hid.2
   have hH2 : Held (τ1.set id (.cells (trmR (renTs l.reverse (ks.take (i + 1)) ++ ks.drop (i + 1))).flatten 30)) 30 5 (trmR (renTs l.reverse (ks.take (i + 1)) ++ ks.drop (i + 1))) (.asl id 0 ks.length 5) d := by
    refine .inr ⟨id, hd, by rw [← hset, List.length_set, hesl], List.getElem?_set_self hidl⟩
   have hex2 : ∀ o, ∃ g, τ1.set id o = σ ++ g := fun o => by
    obtain ⟨g, e⟩ := hex
    exact ⟨_, by rw [e]; exact List.set_append_right _ _ (by have := H.l; omega)⟩
   have hw := wrap_succ (show i ≤ 1000000000000 by have := trmN_len ks; omega)
   have hltI : ((i : Int) < (ks.length : Int)) = True := eq_true (Int.ofNat_lt.2 hlt)
   have h0I : ((0 : Int) ≤ (i : Int)) = True := eq_true (Int.natCast_nonneg i)
   have hcall : ∀ (σ2 : Sto) (Q : ARes → Sto → Prop), (accW (S.E N) 112 [.sl (bndR l) .no, .agg ks[i].cs] σ2 (.ret (.agg (renT l.reverse ks[i]).cs)) σ2 = .lcalls (fun _ => true) → Q (.ret (.agg (renT l.reverse ks[i]).cs)) σ2) → CallW Tryz.prog (S.E N) 112 [.sl (bndR l) .no, .agg ks[i].cs] σ2 Q := fun σ2 Q hq => call_sm (l, ks[i]) hT term9_inj (by simp only [nrmR, AV.nrm, bndR_nrm, Trm.nrm]) ⟨hl, by dsimp only; omega⟩ (by dsimp only; omega) hq
   have hylen := (renT l.reverse ks[i]).len
   have htlen := ks[i].len
   have httk := ks[i].tk
   clear hset hes hrl hel hesl hH hfl hgn
   generalize (renT l.reverse ks[i]).cs = yc at *
   generalize ks[i].cs = xc at *
   generalize (trmR (renTs l.reverse (ks.take i) ++ ks.drop i)).flatten = fl at *
   refine CW.hide fun R2 hR2 => CW.seqK fun K3 hK3 => CW.seqK fun K4 hK4 => CW.region ?_
   simp (maxDischargeDepth := 16) [zY, g0, hlt]
   refine hK4 _ _ ?_
   refine CW.cond (t := true) (by simp [zT, zF, lk]) ?_
   refine CW.skip (hK3 _ _ ?_)
   refine CW.seqK fun K5 hK5 => CW.block ?_
   refine CW.draw (by kernel_rfl) ?_
   simp (maxDischargeDepth := 16) [zY, gx, g0, ha, htlen, httk]
   refine hcall _ _ fun hac => ?_
   simp (maxDischargeDepth := 16) [zY, hac, hcs, hltI, h0I, hle, hylen, hput, AV.notTup]
   refine ⟨drawOk_sim [X, P, id] [.pure, .reads 0, .pure, .pure, .pure, .reads 1, .pure, .pure, .pure, .lcalls (fun _ => true), .pure, .writes 2] (.cons (by simp only [List.mem_cons, List.not_mem_nil, or_false, not_or]; exact ⟨by have := H.px; omega, hid.2.symm⟩) (.cons (by simp only [List.mem_cons, List.not_mem_nil, or_false]; omega) (.cons (by simp) .nil))) (.cons .pure (.cons (.reads 0 _ rfl) (.cons .pure (.cons .pure (.cons .pure (.cons (.reads 1 _ rfl) (.cons .pure (.cons .pure (.cons .pure (.cons (.lcalls _ _ fun i a ha hi => rfl) (.cons .pure (.cons (.writes 2 _ rfl) .nil)))))))))))) (by kernel_rfl), hK5 _ _ ?_⟩; clear hK5 K5
   refine CW.region ?_
   simp (maxDischargeDepth := 16) [zY, hw]
   exact hR2 _ _ _ ⟨(i + 1, _), _, _, rfl, by simp [sub, lk], rfl, ⟨hlt, by rw [e0]; exact g0, by rw [e1]; exact gz, by rw [e2]; exact gx, hH2, hex2 _⟩, show ks.length - (i + 1) < ks.length - i by omega⟩
 · obtain rfl : i = ks.length := by omega
   rw [List.take_length, List.drop_length, List.append_nil] at hH
   obtain ⟨z, gz1, gz2⟩ := gz
   have hql : P + 1 < τ1.length := (List.getElem?_eq_some_iff.1 gz1).1
   have hcl := hH.cl
   refine CW.hide fun R2 hR2 => CW.seqK fun K3 hK3 => CW.seqK fun K4 hK4 => CW.region ?_
   simp (maxDischargeDepth := 16) [zY, g0, Nat.not_lt.2 hge]
   refine hK4 _ _ ?_
   refine CW.cond (t := false) (by simp [zT, zF, lk]) ?_
   refine CW.exit (hR2 _ _ _ (hR1 _ _ _ ?_))
   simp only [outOf, if_true, andThen]
   refine hKL _ _ ?_
   clear hK3 hK4 hR2 hKL hR1 R2 R KL K3
   refine CW.seqK fun K hK => CW.region ?_
   simp (maxDischargeDepth := 16) [zY, gx, gz1, gz2, hcl.1, hcl.2.1, hcl.2.2.1, hcl.2.2.2, hH.ren]
   refine hK _ _ ?_
   refine CW.ret (hR _ _ _ ?_ (fun d => by simp [lk]) (hH.set (fun y hy => by have := H.d y hy; omega) _) ?_)
   · rw [List.getElem?_set_self hql]
     match z, gz2 with
     | [z0, z1, z2, z3, z4], _ => rfl
   · obtain ⟨g, e⟩ := hex
     exact ⟨_, by rw [e]; exact List.set_append_right _ _ (by have := H.l; omega)⟩
theorem frz_trm {σ g : Sto} (k : Int) (nm : ByteArray) (ng : Bool) (dg : List Int) {lv : AV} {L : List Trm} (h : Frz (σ ++ g) σ.length lv (.sl (trmR L) .no)) : Frz (σ ++ g) σ.length (.agg [.lit (.int .u8 k), .lit (.string nm), .lit (.bool ng), .sl (limR dg) .no, lv]) (.agg (Trm.mk k nm ng dg L).cs) := by
 refine .agg _ _ rfl fun j d d' h1 h2 => ?_
 rw [Trm.cs] at h2
 match j, h1, h2 with
 | 0, h1, h2 => cases h1; cases h2; exact .same _ (.lit _)
 | 1, h1, h2 => cases h1; cases h2; exact .same _ (.lit _)
 | 2, h1, h2 => cases h1; cases h2; exact .same _ (.lit _)
 | 3, h1, h2 =>
  cases h1; cases h2
  have := Frz.nrm (σ := σ ++ g) (n := σ.length) (v := .sl (limR dg) .no) (by simp only [AV.pln, limR_pln])
  rwa [AV.nrm, limR_nrm] at this
 | 4, h1, h2 => cases h1; cases h2; exact h
 | j + 5, h1, h2 => simp at h1
theorem term9_w (hc : S.code = codeP Tryz.prog) (hm : S.ms 112 = []) (hm0 : S.ms 161 = [28]) (h1 : S.sp 133 = some (copyF (fun t : Trm => .agg t.cs) Trm.n 2)) (hm1 : S.ms 133 = []) (hI : S.sp 136 = some (copyF intA intN 1)) (h2 : S.sp 114 = some now9F) (hT : S.sp 112 = some term9F) : SmOk Tryz.prog S N 112 (fun p : List (ByteArray × ByteArray) × Trm => [.sl (bndR p.1) .no, .agg p.2.cs]) (fun p => .agg (renT p.1.reverse p.2).cs) (fun p => p.1.length ≤ 1000000000 ∧ p.2.n ≤ 1000000000) (fun p => p.2.n) 4 := by
 rintro ⟨l, k, nm, ng, dg, ks⟩ σ ⟨hl, hn⟩ hN
 dsimp only at hl hn hN ⊢
 have hcp := fun σ => CopyTerm_j (S := S) (N := N) hc hm0 h1 hm1 hI k nm ng dg ks σ hn (by omega)
 simp only [Trm.n] at hn hN
 refine JC.startG (fn := Tryz.f112) (codeOf hc Tryz.func112 rfl (by kernel_rfl)) rfl hm rfl (zL rfl) fun tm => ?_
 refine JD.hide fun R0 hR0 => ?_
 simp only [Trm.cs] at hcp ⊢
 have hfin : ∀ (nm2 : ByteArray), nm2 = (if k = 1 ∧ nm ≠ vB then nowB l.reverse nm else nm) → ∀ lv d fr tm σ', σ'[σ.length + 1]? = some (AObj.cells [.lit (.int .u8 k), .lit (.string nm2), .lit (.bool ng), .sl (limR dg) .no, lv] 30) → (∀ d, lk 4 fr d = .ptr (σ.length + 1) 0) → Held σ' 30 5 (trmR (renTs l.reverse ks)) lv d → (∀ y, d = some y → σ.length ≤ y) → (∃ g, σ' = σ ++ g) → R0 .ret (fm 41 fr tm) σ' := by
  rintro nm2 hnm lv d fr tm σ' h1 h2 h3 h4 ⟨g, rfl⟩
  refine hR0 _ _ _ ⟨.agg [.lit (.int .u8 k), .lit (.string nm2), .lit (.bool ng), .sl (limR dg) .no, lv], by simp [zA, omap, zC, zX, h1, h2], Fgt.pure ⟨g, rfl⟩ ?_⟩
  rw [renT, ← hnm]
  exact frz_trm k nm2 ng dg (h3.frz h4)
 clear hR0
 refine JD.seqK fun K hK => J.cw (CW.region ?_)
 simp (maxDischargeDepth := 16) [zY]
 refine hK _ _ ?_; clear hK K
 have a0 : (σ ++ [AObj.cells [.lit (.int .u8 k), .lit (.string nm), .lit (.bool ng), .sl (limR dg) .no, .sl (trmR ks) .no] 30, AObj.cells [.lit (.int .u8 0), .lit (.string ⟨#[]⟩), .lit (.bool false), .sl [] .full, .sl [] .full] 30])[σ.length]? = some (AObj.cells [.lit (.int .u8 k), .lit (.string nm), .lit (.bool ng), .sl (limR dg) .no, .sl (trmR ks) .no] 30) := by simp
 have a1 : (σ ++ [AObj.cells [.lit (.int .u8 k), .lit (.string nm), .lit (.bool ng), .sl (limR dg) .no, .sl (trmR ks) .no] 30, AObj.cells [.lit (.int .u8 0), .lit (.string ⟨#[]⟩), .lit (.bool false), .sl [] .full, .sl [] .full] 30])[σ.length + 1]? = some (AObj.cells [.lit (.int .u8 0), .lit (.string ⟨#[]⟩), .lit (.bool false), .sl [] .full, .sl [] .full] 30) := by simp
 obtain ⟨l0, hl0, hl2⟩ : ∃ l0 : Sto, σ ++ [AObj.cells [.lit (.int .u8 k), .lit (.string nm), .lit (.bool ng), .sl (limR dg) .no, .sl (trmR ks) .no] 30, AObj.cells [.lit (.int .u8 0), .lit (.string ⟨#[]⟩), .lit (.bool false), .sl [] .full, .sl [] .full] 30] = σ ++ l0 ∧ l0.length = 2 := ⟨_, rfl, rfl⟩
 rw [hl0] at a0 a1 ⊢
 clear hl0
 refine JD.keep [0, 3, 4] fun tm => ?_
 simp only [sel, List.contains_cons, List.contains_nil, Bool.or_false, Nat.reduceBEq, Bool.false_eq_true, if_false, if_true, Bool.or_true, Bool.true_or]
 replace hcp := hcp (σ ++ l0)
 have b0 := fun g : Sto => (st_old (l := g) (List.getElem?_eq_some_iff.1 a0).1).trans a0
 have b1 := fun g : Sto => (st_old (l := g) (List.getElem?_eq_some_iff.1 a1).1).trans a1
 have hll : (σ ++ l0).length = σ.length + 2 := by rw [List.length_append, hl2]
 have hxx : ∀ g : Sto, ∃ g', (σ ++ l0) ++ g = σ ++ g' := fun g => ⟨l0 ++ g, List.append_assoc _ _ _⟩
 have key : ∀ (nm2 : ByteArray), nm2 = (if k = 1 ∧ nm ≠ vB then nowB l.reverse nm else nm) → ∀ τ X lv d tm, T9 τ σ σ.length X k nm nm2 ng dg ks lv d → CW Tryz.prog (S.E N) [] (tailC 3 term9B) (fm 41 [(0, .sl (bndR l) .no), (3, .ptr σ.length 0), (4, .ptr (σ.length + 1) 0), (5, .ptr X 0)] tm) τ R0 := fun nm2 hnm τ X lv d tm H =>
  term9_3 hT H hl (by omega) (by omega) (fun fr tm σ' g1 g2 g3 g4 => hfin nm2 hnm lv d fr tm σ' g1 g2 g3 (fun y hy => by have := H.d y hy; omega) g4) tm
 clear hfin
 generalize σ ++ l0 = σa at *
 refine JD.seqK fun K hK => JD.region ?_
 simp (maxDischargeDepth := 16) [zY, symL, a0]
 refine hcp.mono ?_
 rintro r σ4 ⟨lv, d, g, rfl, hH, hd, rfl⟩
 replace b0 := b0 g
 replace b1 := b1 g
 obtain ⟨g', hg'⟩ := hxx g
 have hcl := hH.cl
 have hone := hH.ren
 have hlt0 := (List.getElem?_eq_some_iff.1 b0).1
 have hlt1 := (List.getElem?_eq_some_iff.1 b1).1
 generalize σa ++ g = τ at *
 clear hcp hxx
 simp (maxDischargeDepth := 16) [zY, symL, b0, hone, hcl.1, hcl.2.1, hcl.2.2.1, hcl.2.2.2]
 refine hK _ _ ?_; clear hK K
 have hT9 : ∀ nm2, T9 (τ ++ [AObj.cells [.lit (.int .u8 k), .lit (.string nm2), .lit (.bool ng), .sl (limR dg) .no, lv] 30]) σ σ.length τ.length k nm nm2 ng dg ks lv d := fun nm2 => by
  have hdl : ∀ y, d = some y → y < τ.length := fun y hy => by
   rcases hH with ⟨h, _⟩ | ⟨i, h, _, h3⟩
   · rw [h] at hy; cases hy
   · rw [h] at hy; cases hy; exact (List.getElem?_eq_some_iff.1 h3).1
  exact { p := (st_old hlt0).trans b0, q := by simp; omega, z := ⟨_, (st_old hlt1).trans b1, rfl⟩, x := by simp, h := hH.app _, d := fun y hy => ⟨by have := hd y hy; omega, by have := hdl y hy; omega⟩, px := hlt1, e := ⟨g' ++ [AObj.cells [.lit (.int .u8 k), .lit (.string nm2), .lit (.bool ng), .sl (limR dg) .no, lv] 30], by rw [hg', List.append_assoc]⟩, l := rfl }
 have c0 : ∀ o, (τ ++ [o])[σ.length]? = some (AObj.cells [.lit (.int .u8 k), .lit (.string nm), .lit (.bool ng), .sl (limR dg) .no, .sl (trmR ks) .no] 30) := fun o => (st_old hlt0).trans b0
 clear hH hd hcl hone b0 b1 hll hg' a0 a1 hl2
 refine JD.keep [0, 3, 4, 5] fun tm => ?_
 simp only [sel, List.contains_cons, List.contains_nil, Bool.or_false, Nat.reduceBEq, Bool.false_eq_true, if_false, if_true, Bool.or_true, Bool.true_or]
 refine JD.seqK fun K hK => ?_
 have fin : ∀ (x : ByteArray) (fr : List (Nat × AV)) (tm : List AV), x = (if k = 1 ∧ nm ≠ vB then nowB l.reverse nm else nm) → sub [(0, .sl (bndR l) .no), (3, .ptr σ.length 0), (4, .ptr (σ.length + 1) 0), (5, .ptr τ.length 0)] fr → K (fm 41 fr tm) (τ ++ [AObj.cells [.lit (.int .u8 k), .lit (.string x), .lit (.bool ng), .sl (limR dg) .no, lv] 30]) := by
  intro x fr tm hx hs
  rw [fm_sub hs]
  exact hK _ _ (J.cw (key x hx _ _ lv d _ (hT9 x)))
 rcases Classical.em (k = 1) with hk | hk
 · have hk' := eq_true hk
   have hk2 : (k == 1) = true := by simp [hk]
   rcases Classical.em (nm = vB) with hv | hv
   · have hv' : (nm.toList = [118]) = True := eq_true (by rw [hv, vB_l])
     refine JD.seqK fun K hK => J.cw (CW.region ?_)
     simp (maxDischargeDepth := 16) [zY, c0, hk', hv']
     refine hK _ _ ?_; clear hK K
     refine JD.cond (t := false) (by simp [zT, zF, lk, hk', hk2, hv']) ?_
     exact JD.skip (fin nm _ _ (by simp [hk, hv]) (by simp [sub, lk]))
   · have hv' : (nm.toList = [118]) = False := eq_false (fun h => hv ((tlR nm vB).1 (h.trans vB_l.symm)))
     refine JD.seqK fun K hK => J.cw (CW.region ?_)
     simp (maxDischargeDepth := 16) [zY, c0, hk', hv']
     refine hK _ _ ?_; clear hK K
     refine JD.cond (t := true) (by simp [zT, zF, lk, hk', hk2, hv']) ?_
     refine J.cw (CW.region ?_)
     simp (maxDischargeDepth := 16) [zY, c0]
     refine call_sm (l, nm) h2 now9_inj (by simp only [nrmR, AV.nrm, bndR_nrm]) hl (by omega) fun _ => ?_
     generalize hr : nowB l.reverse nm = r at fin
     simp (maxDischargeDepth := 16) [zY, c0, set_last]
     exact fin r _ _ (by simp [hk, hv]) (by simp [sub, lk])
 · have hk' := eq_false hk
   have hk2 : (k == 1) = false := by simp [hk]
   refine JD.seqK fun K hK => J.cw (CW.region ?_)
   simp (maxDischargeDepth := 16) [zY, c0, hk']
   refine hK _ _ ?_; clear hK K
   refine JD.cond (t := false) (by simp [zT, zF, lk, hk', hk2]) ?_
   exact JD.skip (fin nm _ _ (by simp [hk]) (by simp [sub, lk]))
end
end Go.Proofs.YteajcnilihgheaaGreatDoor
