/-
 EV: num: zero, made, out, of.
-/
import Derived.Test.YtkkblmdgedmdfaaGreatDoorEvCarriedM
namespace Go.Proofs.YtkkblmdgedmdfaaGreatDoor
set_option linter.unusedSimpArgs false
set_option linter.unusedVariables false
section
open Go.RowKit
theorem Ext.at {σ σ' : Sto} {x : AObj} {l : List AObj} (h : Ext (σ ++ x :: l) σ') : σ'[σ.length]? = some x ∧ σ.length < σ'.length := by
 have := h.get (i := σ.length) (x := x) (by simp)
 exact ⟨this, (List.getElem?_eq_some_iff.1 this).1⟩
theorem Ext.of_push {σ σ' : Sto} {l : List AObj} (h : Ext (σ ++ l) σ') : Ext σ σ' := (Ext.push (Ext.refl σ) l).trans h
set_option maxRecDepth 100000 in
theorem zero_ev (l : List Nat) (tok : Tok) (σ : Sto) : CallW Tryz.prog EV 225 [.agg [.sl (d32 l) tok]] σ fun r σ' => r = .ret (.lit (.bool (l.length == 0))) ∧ Ext σ σ' := by
 refine CallW.start (fn := Tryz.f225) (M := []) rfl rfl rfl rfl (by simp) fun tm hlen hs => ?_
 have h0 := hs 0 _ rfl
 clear hs
 simp at hlen
 refine CW.hide fun R0 hR0 => ?_
 refine CW.seqK fun K hK => CW.region ?_
 simp (maxDischargeDepth := 16) [symB, List.length_set, andThen, hlen, h0]
 refine hK _ _ ?_; clear hK K
 refine CW.seqK fun K hK => CW.region ?_
 simp (maxDischargeDepth := 16) [symB, List.length_set, andThen, hlen, d32_len]
 refine hK _ _ ?_
 refine CW.ret (hR0 _ _ _ ⟨.lit (.bool (l.length == 0)), ?_, rfl, ⟨_, rfl⟩⟩)
 simp (maxDischargeDepth := 16) [resultsA, omap, res_tmp, slot_eq, slot_ne, hlen]
 try rw [Bool.eq_iff_iff]; simp
set_option maxRecDepth 100000 in
theorem made_ev (l : List Nat) (neg : Bool) (tok : Tok) (σ : Sto) (hl : l.length ≤ 1000000000) (hx : ∀ x ∈ l, x < 4294967296) : CallW Tryz.prog EV 199 [.sl (d32 l) tok, .lit (.bool neg)] σ fun r σ' => ∃ t, r = .ret (.agg [.sl (d32 (normD l)) t, .lit (.bool (neg && !((normD l).length == 0)))]) ∧ Ext σ σ' := by
 refine CallW.start (fn := Tryz.f199) (M := []) rfl rfl rfl rfl (by simp) fun tm hlen hs => ?_
 have h0 := hs 0 _ rfl
 have h1 := hs 1 _ rfl
 clear hs
 simp at hlen
 refine CW.hide fun R0 hR0 => ?_
 refine CW.seqK fun K hK => CW.region ?_
 simp (maxDischargeDepth := 16) [symB, List.length_set, andThen, hlen, h0]
 refine hK _ _ ?_; clear hK K
 refine CW.seqK fun K hK => CW.region ?_
 simp (maxDischargeDepth := 16) [symB, List.length_set, andThen, hlen, h0]
 refine (Trim_ev l tok _ hl hx).mono ?_
 rintro r σ2 ⟨t, rfl, hext⟩
 generalize normD l = m at *
 simp (maxDischargeDepth := 16) [symB, List.length_set, andThen, hlen, retK]
 refine hK _ _ ?_; clear hK K
 obtain ⟨hob, hlt⟩ := hext.at
 have hob2 : (σ2 ++ [AObj.cells [.sl (d32 m) t] 320])[σ.length]? = some (.cells [.sl [] .full, .lit (.bool false)] 322) := by rw [List.getElem?_append_left hlt]; exact hob
 have hext2 : Ext σ (σ2 ++ [AObj.cells [.sl (d32 m) t] 320]) := hext.of_push.push _
 refine CW.seqK fun K hK => CW.draw (by kernel_rfl) ?_
 have hst : ∀ x : AObj, Ext σ ((σ2 ++ [AObj.cells [.sl (d32 m) t] 320]).set σ.length x) := fun x => hext2.set (Nat.le_refl _)
 have hlt2 : σ.length < (σ2 ++ [AObj.cells [.sl (d32 m) t] 320]).length := by simp; omega
 have hob5 : (σ2 ++ [AObj.cells [.sl (d32 m) t] 320])[σ2.length]? = some (.cells [.sl (d32 m) t] 320) := by simp
 generalize (σ2 ++ [AObj.cells [.sl (d32 m) t] 320]) = σ3 at *
 cases neg with
 | false =>
  simp (maxDischargeDepth := 16) [symB, List.length_set, andThen, hlen, h1, hob2, hob5]
  refine ⟨by kernel_rfl, hK _ _ ?_⟩
  refine CW.ret (hR0 _ _ _ ⟨.agg [.sl (d32 m) t, .lit (.bool false)], ?_, t, by simp, hst _⟩)
  simp (maxDischargeDepth := 16) [resultsA, omap, res_cell, slot_eq, slot_ne, hlen, hlt2, partA, aggT]
 | true =>
  simp (maxDischargeDepth := 16) [symB, List.length_set, andThen, hlen, h1, hob2, hob5]
  refine (zero_ev m t σ3).mono ?_
  rintro r σ4 ⟨rfl, hext4⟩
  have hob6 := hext4.get hob2
  have hlt4 : σ.length < σ4.length := (List.getElem?_eq_some_iff.1 hob6).1
  simp (maxDischargeDepth := 16) [symB, List.length_set, retK, andThen, hlen, h1, hob6, extB_of hext4]
  refine ⟨by kernel_rfl, hK _ _ ?_⟩
  refine CW.ret (hR0 _ _ _ ⟨.agg [.sl (d32 m) t, .lit (.bool (!(m.length == 0)))], ?_, t, by simp, (hext2.trans hext4).set (Nat.le_refl _)⟩)
  simp (maxDischargeDepth := 16) [resultsA, omap, res_cell, slot_eq, slot_ne, hlen, hlt4, partA, aggT]
set_option maxRecDepth 100000 in
theorem out_ev (l : List Nat) (neg : Bool) (tok : Tok) (σ : Sto) : CallW Tryz.prog EV 200 [.agg [.sl (d32 l) tok, .lit (.bool neg)]] σ fun r σ' => r = .ret (.agg [.lit (.bool neg), .sl (d32 l) tok]) ∧ Ext σ σ' := by
 refine CallW.start (fn := Tryz.f200) (M := []) rfl rfl rfl rfl (by simp) fun tm hlen hs => ?_
 have h0 := hs 0 _ rfl
 clear hs
 simp at hlen
 refine CW.hide fun R0 hR0 => ?_
 refine CW.seqK fun K hK => CW.region ?_
 simp (maxDischargeDepth := 16) [symB, List.length_set, andThen, hlen, h0]
 refine hK _ _ ?_; clear hK K
 refine CW.seqK fun K hK => CW.region ?_
 simp (maxDischargeDepth := 16) [symB, List.length_set, andThen, hlen]
 refine hK _ _ ?_
 refine CW.ret (hR0 _ _ _ ⟨.agg [.lit (.bool neg), .sl (d32 l) tok], ?_, rfl, ?_⟩)
 · simp (maxDischargeDepth := 16) [resultsA, omap, res_cell, slot_eq, slot_ne, hlen, partA, aggT]
 · exact ⟨_, rfl⟩
def normI (neg : Bool) (l : List Nat) : Bool × List Nat := (neg && !((normD l).length == 0), normD l)
end
section
open Go.RowKit
def bs (l : List UInt8) : ByteArray := ⟨l.toArray⟩
theorem bs_def (l : List UInt8) : (⟨l.toArray⟩ : ByteArray) = bs l := rfl
theorem bsz (l : List UInt8) : (bs l).size = l.length := by simp [bs, ByteArray.size]
theorem bs_ext (l : List UInt8) (a b : Nat) : (bs l).extract a b = bs ((l.take b).drop a) := by
 apply ByteArray.ext
 simp only [bs, ByteArray.data_extract, List.extract_toArray, List.extract_eq_take_drop, List.drop_take]
theorem bs_list (l : List UInt8) : (bs l).toList = l := by rw [Lib.toList_data]; simp [bs]
theorem bs_get (l : List UInt8) (i : Nat) : (bs l)[i]? = l[i]? := by
 unfold bs
 by_cases h : i < l.length
 · have h2 : i < (⟨l.toArray⟩ : ByteArray).size := by simpa [ByteArray.size] using h
   rw [List.getElem?_eq_getElem h, getElem?_pos _ i h2]
   rfl
 · rw [List.getElem?_eq_none (by omega), getElem?_neg]
   simpa [ByteArray.size] using h
theorem has1_ev (l : List UInt8) (c : UInt8) (σ : Sto) (hl : l.length ≤ 140737488355328) : CallW Tryz.prog EV 237 [.lit (.string (bs l)), .lit (.string (bs [c]))] σ fun r σ' => r = .ret (.lit (.bool (l.head? == some c))) ∧ σ' = σ := by
 refine CallW.start (fn := Tryz.f237) (M := []) rfl rfl rfl rfl (by simp) fun tm hlen hs => ?_
 have h0 := hs 0 _ rfl
 have h1 := hs 1 _ rfl
 clear hs
 simp at hlen
 refine CW.hide fun R0 hR0 => ?_
 refine CW.seqK fun K hK => CW.region ?_
 simp (maxDischargeDepth := 16) [symB, List.length_set, andThen, hlen, h0]
 refine hK _ _ ?_; clear hK K
 refine CW.seqK fun K hK => CW.region ?_
 cases l with
 | nil =>
  simp (maxDischargeDepth := 16) [symB, List.length_set, andThen, hlen, h0, h1, bsz]
  refine hK _ _ ?_
  refine CW.ret (hR0 _ _ _ ⟨.lit (.bool false), ?_, rfl, rfl⟩)
  simp (maxDischargeDepth := 16) [resultsA, omap, res_tmp, slot_eq, slot_ne, hlen]
 | cons b r =>
  have hle : (1 : Int) ≤ (r.length : Int) + 1 := by omega
  simp (maxDischargeDepth := 16) [symB, List.length_set, andThen, hlen, h0, h1, bsz, hle, bs_ext, bs_list]
  refine hK _ _ ?_
  refine CW.ret (hR0 _ _ _ ⟨.lit (.bool ((b :: r).head? == some c)), ?_, rfl, rfl⟩)
  simp (maxDischargeDepth := 16) [resultsA, omap, res_tmp, slot_eq, slot_ne, hlen]
set_option maxRecDepth 100000 in
theorem cut1i_ev (l : List UInt8) (c : UInt8) (σ : Sto) (hl : l.length ≤ 140737488355328) : CallW Tryz.prog EV 219 [.lit (.string (bs l)), .lit (.string (bs [c]))] σ fun r σ' => r = .ret (.tup [.lit (.string (bs (if l.head? = some c then l.tail else l))), .lit (.bool (l.head? == some c))]) ∧ σ' = σ := by
 refine CallW.start (fn := Tryz.f219) (M := []) rfl rfl rfl rfl (by simp) fun tm hlen hs => ?_
 have h0 := hs 0 _ rfl
 have h1 := hs 1 _ rfl
 clear hs
 simp at hlen
 refine CW.hide fun R0 hR0 => ?_
 refine CW.seqK fun K hK => CW.region ?_
 simp (maxDischargeDepth := 16) [symB, List.length_set, andThen, hlen, h0]
 refine hK _ _ ?_; clear hK K
 refine CW.seqK fun K hK => ?_
 refine CW.seqK fun K2 hK2 => CW.region ?_
 simp (maxDischargeDepth := 16) [symB, List.length_set, andThen, hlen, h0, h1]
 refine (has1_ev l c σ hl).mono ?_
 rintro r σ2 ⟨rfl, rfl⟩
 by_cases hc : l.head? = some c
 · have hb : (l.head? == some c) = true := by simp [hc]
   rw [hb]
   simp (maxDischargeDepth := 16) [symB, List.length_set, andThen, hlen, retK]
   refine hK2 _ _ ?_; clear hK2 K2
   refine CW.cond (t := false) (by simp (maxDischargeDepth := 16) [evx_tmp, slot_eq, slot_ne, hlen]) ?_
   refine CW.skip ?_
   simp only [andThen]
   refine hK _ _ ?_
   cases l with
   | nil => cases hc
   | cons b r =>
    have hle : (1 : Int) ≤ (r.length : Int) + 1 := by omega
    have hn : ((r.length : Int) + 1).toNat = r.length + 1 := by omega
    refine CW.seqK fun K hK => CW.region ?_
    simp (maxDischargeDepth := 16) [symB, List.length_set, andThen, hlen, h0, h1, bsz, hle, bs_ext, hn]
    refine hK _ _ ?_; clear hK K
    refine CW.ret (hR0 _ _ _ ⟨.tup [.lit (.string (bs r)), .lit (.bool true)], ?_, by simp [hc], rfl⟩)
    simp (maxDischargeDepth := 16) [resultsA, omap, res_tmp, slot_eq, slot_ne, hlen]
 · have hb : (l.head? == some c) = false := by simp [hc]
   rw [hb]
   simp (maxDischargeDepth := 16) [symB, List.length_set, andThen, hlen, retK]
   refine hK2 _ _ ?_; clear hK2 K2
   refine CW.cond (t := true) (by simp (maxDischargeDepth := 16) [evx_tmp, slot_eq, slot_ne, hlen]) ?_
   refine CW.seqK fun K hK => CW.region ?_
   simp (maxDischargeDepth := 16) [symB, List.length_set, andThen, hlen, h0]
   refine hK _ _ ?_; clear hK K
   refine CW.ret ?_
   simp only [andThen]
   refine hR0 _ _ _ ⟨.tup [.lit (.string (bs l)), .lit (.bool false)], ?_, by simp [hc], rfl⟩
   simp (maxDischargeDepth := 16) [resultsA, omap, res_tmp, slot_eq, slot_ne, hlen, h0]
set_option maxRecDepth 100000 in
theorem cut1_ev (l : List UInt8) (c : UInt8) (σ : Sto) (hl : l.length ≤ 140737488355328) : CallW Tryz.prog EV 197 [.lit (.string (bs l)), .lit (.string (bs [c]))] σ fun r σ' => r = .ret (.tup [.lit (.string (bs (if l.head? = some c then l.tail else l))), .lit (.bool (l.head? == some c))]) ∧ σ' = σ := by
 refine CallW.start (fn := Tryz.f197) (M := []) rfl rfl rfl rfl (by simp) fun tm hlen hs => ?_
 have h0 := hs 0 _ rfl
 have h1 := hs 1 _ rfl
 clear hs
 simp at hlen
 refine CW.hide fun R0 hR0 => ?_
 refine CW.seqK fun K hK => CW.region ?_
 simp (maxDischargeDepth := 16) [symB, List.length_set, andThen, hlen, h0]
 refine hK _ _ ?_; clear hK K
 refine CW.seqK fun K hK => CW.region ?_
 simp (maxDischargeDepth := 16) [symB, List.length_set, andThen, hlen, h0, h1]
 refine (cut1i_ev l c σ hl).mono ?_
 rintro r σ2 ⟨rfl, rfl⟩
 generalize (if l.head? = some c then l.tail else l) = q at *
 generalize (l.head? == some c) = b at *
 simp (maxDischargeDepth := 16) [symB, List.length_set, andThen, hlen, retK]
 refine hK _ _ ?_
 refine CW.ret (hR0 _ _ _ ⟨.tup [.lit (.string (bs q)), .lit (.bool b)], ?_, rfl, rfl⟩)
 simp (maxDischargeDepth := 16) [resultsA, omap, res_tmp, slot_eq, slot_ne, hlen]
set_option maxRecDepth 100000 in
theorem decimal_ev (l : List UInt8) (σ : Sto) (hl : l.length ≤ 1000000000) : CallW Tryz.prog EV 220 [.lit (.string (bs l))] σ fun r σ' => r = .ret (.lit (.bool (isDec l))) ∧ σ' = σ := by
 refine CallW.start (fn := Tryz.f220) (M := []) rfl rfl rfl rfl (by simp) fun tm hlen hs => ?_
 have h0 := hs 0 _ rfl
 clear hs
 simp at hlen
 refine CW.hide fun R0 hR0 => ?_
 refine CW.seqK fun K hK => CW.region ?_
 simp (maxDischargeDepth := 16) [symB, List.length_set, andThen, hlen, h0]
 refine hK _ _ ?_; clear hK K
 refine CW.seqK fun K hK => ?_
 refine CW.seqK fun K2 hK2 => CW.region ?_
 simp (maxDischargeDepth := 16) [symB, List.length_set, andThen, hlen, h0, bsz]
 refine hK2 _ _ ?_; clear hK2 K2
 refine CW.block ?_
 refine CW.hide fun R hR => ?_
 refine CW.loopI (fun r tm σ1 => ∃ i, r = l.length - i ∧ i ≤ l.length ∧ isDec (l.drop i) = isDec l ∧ tm.length = 20 ∧ slot tm 0 = .lit (.string (bs l)) ∧ slot tm 5 = .lit (.int .i64 l.length) ∧ slot tm 6 = .lit (.int .i64 i) ∧ σ1 = σ) ?_ _ _ _
  ⟨0, rfl, by omega, by simp, by simp [hlen], by simp [slot_ne, h0], by simp (maxDischargeDepth := 16) [slot_ne, slot_eq, hlen], by simp (maxDischargeDepth := 16) [slot_eq, hlen], rfl⟩
 clear h0 hlen tm
 rintro r tm σ1 ⟨i, rfl, hi, hdec, hlen, h0, h5, h6, rfl⟩
 refine CW.hide fun R2 hR2 => ?_
 refine CW.seqK fun K4 hK4 => CW.region ?_
 by_cases hlt : i < l.length
 · have hlt' : (i : Int) < l.length := by omega
   simp (maxDischargeDepth := 16) [symB, List.length_set, andThen, hlen, h5, h6, hlt', hlt]
   refine hK4 _ _ ?_
   refine CW.seqK fun K3 hK3 => ?_
   refine CW.cond (t := true) (by simp (maxDischargeDepth := 16) [evx_tmp, slot_eq, slot_ne, hlen]) ?_
   refine CW.skip ?_
   simp only [andThen]
   refine hK3 _ _ ?_
   have hg : (bs l)[i]? = some l[i] := by rw [bs_get, List.getElem?_eq_getElem hlt]
   rw [List.drop_eq_getElem_cons hlt] at hdec
   generalize l[i] = c at *
   have hwk : IntKind.i64.wrap ((i : Int) + 1) = ((i + 1 : Nat) : Int) := wrap_succ (by omega)
   refine CW.seqK fun K5 hK5 => CW.block ?_
   refine CW.seqK fun K hK => CW.region ?_
   simp (maxDischargeDepth := 16) [symB, List.length_set, andThen, hlen, h6]
   refine hK _ _ ?_; clear hK K
   refine CW.seqK fun K6 hK6 => CW.region ?_
   by_cases h1 : c.toNat < 48
   · have h1' : (c.toNat : Int) < 48 := by omega
     simp (maxDischargeDepth := 16) [symB, List.length_set, andThen, hlen, h0, hg, h1, h1']
     refine hK6 _ _ ?_
     refine CW.cond (t := true) (by simp (maxDischargeDepth := 16) [evx_tmp, slot_eq, slot_ne, hlen]) ?_
     refine CW.seqK fun K hK => CW.region ?_
     simp (maxDischargeDepth := 16) [symB, List.length_set, andThen, hlen]
     refine hK _ _ ?_; clear hK K
     refine CW.ret ?_
     simp only [andThen, outOf]
     refine hR2 _ _ _ (hR _ _ _ (hR0 _ _ _ ⟨.lit (.bool false), ?_, ?_, rfl⟩))
     · simp (maxDischargeDepth := 16) [resultsA, omap, res_tmp, slot_eq, slot_ne, hlen]
     · rw [← hdec]; simp [isDec]; omega
   · by_cases h2 : 57 < c.toNat
     · have h1' : ¬ (c.toNat : Int) < 48 := by omega
       have h2' : (57 : Int) < (c.toNat : Int) := by omega
       simp (maxDischargeDepth := 16) [symB, List.length_set, andThen, hlen, h0, hg, h1, h1', h2, h2']
       refine hK6 _ _ ?_
       refine CW.cond (t := true) (by simp (maxDischargeDepth := 16) [evx_tmp, slot_eq, slot_ne, hlen]) ?_
       refine CW.seqK fun K hK => CW.region ?_
       simp (maxDischargeDepth := 16) [symB, List.length_set, andThen, hlen]
       refine hK _ _ ?_; clear hK K
       refine CW.ret ?_
       simp only [andThen, outOf]
       refine hR2 _ _ _ (hR _ _ _ (hR0 _ _ _ ⟨.lit (.bool false), ?_, ?_, rfl⟩))
       · simp (maxDischargeDepth := 16) [resultsA, omap, res_tmp, slot_eq, slot_ne, hlen]
       · rw [← hdec]; simp [isDec]; omega
     · have h1' : ¬ (c.toNat : Int) < 48 := by omega
       have h2' : ¬ (57 : Int) < (c.toNat : Int) := by omega
       simp (maxDischargeDepth := 16) [symB, List.length_set, andThen, hlen, h0, hg, h1, h1', h2, h2']
       refine hK6 _ _ ?_
       refine CW.cond (t := false) (by simp (maxDischargeDepth := 16) [evx_tmp, slot_eq, slot_ne, hlen]) ?_
       refine CW.skip ?_
       simp only [andThen, outOf]
       refine hK5 _ _ ?_
       refine CW.region ?_
       simp (maxDischargeDepth := 16) [symB, List.length_set, andThen, hlen, h6, hwk]
       refine hR2 _ _ _ ⟨l.length - (i + 1), by omega, i + 1, rfl, hlt, ?_, by simp [hlen], by simp [slot_ne, h0], by simp [slot_ne, h5], by simp (maxDischargeDepth := 16) [slot_eq, hlen], rfl⟩
       rw [← hdec]; simp [isDec]; omega
 · have hlt' : ¬ (i : Int) < l.length := by omega
   have hil : i = l.length := by omega
   subst hil
   simp (maxDischargeDepth := 16) [symB, List.length_set, andThen, hlen, h5, h6]
   refine hK4 _ _ ?_
   refine CW.seqK fun K3 hK3 => ?_
   refine CW.cond (t := false) (by simp (maxDischargeDepth := 16) [evx_tmp, slot_eq, slot_ne, hlen]) ?_
   refine CW.exit ?_
   simp only [andThen]
   refine hR2 _ _ _ (hR _ _ _ ?_)
   simp only [outOf, if_true, andThen]
   refine hK _ _ ?_
   refine CW.seqK fun K hK => CW.region ?_
   simp (maxDischargeDepth := 16) [symB, List.length_set, andThen, hlen]
   refine hK _ _ ?_; clear hK K
   refine CW.ret (hR0 _ _ _ ⟨.lit (.bool true), ?_, ?_, rfl⟩)
   · simp (maxDischargeDepth := 16) [resultsA, omap, res_tmp, slot_eq, slot_ne, hlen]
   · rw [← hdec]; simp [isDec]
theorem CallW.run {P : Program} {E : Env} {f : FuncId} {args : List AV} {σ σ' : Sto} {r : ARes} {Q : ARes → Sto → Prop} (N : Nat) (h : ∀ n, evCall P E (n + N) f args σ = some (r, σ')) (hq : Q r σ') : CallW P E f args σ Q :=
 ⟨r, σ', N, fun n hn => by obtain ⟨m, rfl⟩ : ∃ m, n = m + N := ⟨n - N, by omega⟩; exact h m, hq⟩
end
section
open Go.RowKit
def strR (l : List (List UInt8)) : List (List AV) := l.map fun s => [.lit (.string (bs s))]
theorem strR_len (l : List (List UInt8)) : (strR l).length = l.length := by simp [strR]
theorem strR_get {l : List (List UInt8)} {i : Nat} (h : i < l.length) : (strR l)[i]? = some [.lit (.string (bs l[i]))] := by unfold strR; rw [List.getElem?_map, List.getElem?_eq_getElem h]; rfl
def nch (b : UInt8) : Bool := (decide (97 ≤ b.toNat) && decide (b.toNat ≤ 122)) || (decide (48 ≤ b.toNat) && decide (b.toNat ≤ 57)) || b.toNat == 95
def resv : List (List UInt8) := [[116, 114, 117, 101], [102, 97, 108, 115, 101], [116, 97, 103], [97, 110, 100], [111, 114], [110, 111, 116], [105, 102, 102], [107, 97, 112, 112, 97]]
def nameOk (s : List UInt8) : Bool :=
 match s with
 | [] => false
 | c :: r => decide ((c :: r).length ≤ 40) && (decide (97 ≤ c.toNat) && decide (c.toNat ≤ 122)) && ((c :: r).all nch && !resv.contains (c :: r))
theorem nameOk_head {c : UInt8} {r : List UInt8} (h : ¬ ((c :: r).length ≤ 40 ∧ 97 ≤ c.toNat ∧ c.toNat ≤ 122)) : nameOk (c :: r) = false := by
 unfold nameOk
 rw [Bool.and_eq_false_iff]
 left
 rw [Bool.eq_false_iff]
 intro h2
 simp only [Bool.and_eq_true, decide_eq_true_eq] at h2
 exact h ⟨h2.1, h2.2.1, h2.2.2⟩
theorem nameOk_all {s : List UInt8} (h : s.all nch = false) : nameOk s = false := by
 unfold nameOk
 split
 · rfl
 · rw [h]; simp
theorem nameOk_rest {c : UInt8} {r : List UInt8} (h : (c :: r).length ≤ 40 ∧ 97 ≤ c.toNat ∧ c.toNat ≤ 122) (h2 : (c :: r).all nch = true) : nameOk (c :: r) = !resv.contains (c :: r) := by
 show (decide ((c :: r).length ≤ 40) && (decide (97 ≤ c.toNat) && decide (c.toNat ≤ 122)) && ((c :: r).all nch && !resv.contains (c :: r))) = _
 rw [h2, decide_eq_true h.1, decide_eq_true h.2.1, decide_eq_true h.2.2]
 simp
set_option maxRecDepth 100000 in
set_option maxHeartbeats 1000000 in
theorem index_ev (l : List (List UInt8)) (tok : Tok) (s : List UInt8) (σ : Sto) (hl : l.length ≤ 1000000) : CallW Tryz.prog EV 32 [.sl (strR l) tok, .lit (.string (bs s))] σ fun r σ' => (∃ n : Int, r = .ret (.lit (.int .i64 n)) ∧ (0 ≤ n ↔ s ∈ l)) ∧ σ' = σ := by
 refine CallW.start (fn := Tryz.f32) (M := []) rfl rfl rfl rfl (by simp) fun tm hlen hs => ?_
 have h0 := hs 0 _ rfl
 have h1 := hs 1 _ rfl
 clear hs
 simp at hlen
 refine CW.hide fun R0 hR0 => ?_
 have done : ∀ (n : Int) (tm : List AV), (0 ≤ n ↔ s ∈ l) → tm.length = 19 → slot tm 4 = .lit (.int .i64 n) → R0 .ret tm σ := by
  intro n tm hc hlen h2
  refine hR0 _ _ _ ⟨.lit (.int .i64 n), ?_, ⟨n, rfl, hc⟩, rfl⟩
  simp (maxDischargeDepth := 16) [resultsA, omap, res_tmp, slot_eq, slot_ne, hlen, h2]
 clear hR0
 refine CW.seqK fun K hK => CW.region ?_
 simp (maxDischargeDepth := 16) [symB, List.length_set, andThen, hlen]
 refine hK _ _ ?_; clear hK K
 refine CW.seqK fun K hK => ?_
 refine CW.seqK fun K hK => CW.region ?_
 simp (maxDischargeDepth := 16) [symB, List.length_set, andThen, hlen, h0, strR_len]
 refine hK _ _ ?_; clear hK K
 refine CW.block ?_
 refine CW.hide fun R hR => ?_
 refine CW.loopI (fun r tm σ1 => ∃ i, r = l.length - i ∧ i ≤ l.length ∧ s ∉ l.take i ∧ tm.length = 19 ∧ slot tm 0 = .sl (strR l) tok ∧ slot tm 1 = .lit (.string (bs s)) ∧ slot tm 7 = .lit (.int .i64 l.length) ∧ slot tm 8 = .lit (.int .i64 i) ∧ σ1 = σ) ?_ _ _ _
  ⟨0, rfl, by omega, by simp, by simp [hlen], by simp [slot_ne, h0], by simp [slot_ne, h1], by simp (maxDischargeDepth := 16) [slot_eq, slot_ne, hlen], by simp (maxDischargeDepth := 16) [slot_eq, hlen], rfl⟩
 clear h0 h1 hlen tm
 rintro r tm σ1 ⟨i, rfl, hi, hw, hlen, h0, h1, h7, h8, rfl⟩
 refine CW.hide fun R2 hR2 => ?_
 refine CW.seqK fun K3 hK3 => CW.region ?_
 by_cases hlt : i < l.length
 · have hlt' : (i : Int) < l.length := by omega
   simp (maxDischargeDepth := 16) [symB, List.length_set, andThen, hlen, h7, h8, hlt', hlt]
   refine hK3 _ _ ?_
   refine CW.seqK fun K4 hK4 => ?_
   refine CW.cond (t := true) (by simp (maxDischargeDepth := 16) [evx_tmp, slot_eq, slot_ne, hlen]) ?_
   refine CW.skip ?_
   simp only [andThen]
   refine hK4 _ _ ?_
   have hg : (strR l)[i]? = some [.lit (.string (bs l[i]))] := strR_get hlt
   have htk : l.take (i + 1) = l.take i ++ [l[i]] := by rw [List.take_add_one, List.getElem?_eq_getElem hlt]; rfl
   have hmem := List.getElem_mem hlt
   generalize l[i] = c at *
   have hwk : IntKind.i64.wrap ((i : Int) + 1) = ((i + 1 : Nat) : Int) := wrap_succ (by omega)
   refine CW.seqK fun K5 hK5 => CW.block ?_
   refine CW.seqK fun K hK => CW.region ?_
   simp (maxDischargeDepth := 16) [symB, List.length_set, andThen, hlen, h8]
   refine hK _ _ ?_; clear hK K
   refine CW.seqK fun K6 hK6 => CW.region ?_
   by_cases hcs : s = c
   · subst hcs
     simp (maxDischargeDepth := 16) [symB, List.length_set, andThen, hlen, h0, h1, hg, bs_list]
     refine hK6 _ _ ?_
     refine CW.cond (t := true) (by simp (maxDischargeDepth := 16) [evx_tmp, slot_eq, slot_ne, hlen]) ?_
     refine CW.seqK fun K7 hK7 => CW.region ?_
     simp (maxDischargeDepth := 16) [symB, List.length_set, andThen, hlen]
     refine hK7 _ _ ?_
     refine CW.ret ?_
     simp only [andThen, outOf]
     exact hR2 _ _ _ (hR _ _ _ (done i _ (by constructor <;> intro _ <;> first | exact hmem | omega) (by simp [hlen]) (by simp (maxDischargeDepth := 16) [slot_eq, slot_ne, hlen])))
   · simp (maxDischargeDepth := 16) [symB, List.length_set, andThen, hlen, h0, h1, hg, bs_list, hcs]
     refine hK6 _ _ ?_
     refine CW.cond (t := false) (by simp (maxDischargeDepth := 16) [evx_tmp, slot_eq, slot_ne, hlen, hcs]) ?_
     refine CW.skip ?_
     simp only [andThen, outOf]
     refine hK5 _ _ ?_
     refine CW.region ?_
     simp (maxDischargeDepth := 16) [symB, List.length_set, andThen, hlen, h8, hwk]
     refine hR2 _ _ _ ⟨l.length - (i + 1), by omega, i + 1, rfl, hlt, ?_, by simp [hlen], by simp [slot_ne, h0], by simp [slot_ne, h1], by simp [slot_ne, h7], by simp (maxDischargeDepth := 16) [slot_eq, hlen], rfl⟩
     rw [htk, List.mem_append, List.mem_singleton]
     rintro (h | h)
     · exact hw h
     · exact hcs h
 · have hlt' : ¬ (i : Int) < l.length := by omega
   rw [List.take_of_length_le (by omega)] at hw
   simp (maxDischargeDepth := 16) [symB, List.length_set, andThen, hlen, h7, h8, hlt', hlt]
   refine hK3 _ _ ?_
   refine CW.seqK fun K4 hK4 => ?_
   refine CW.cond (t := false) (by simp (maxDischargeDepth := 16) [evx_tmp, slot_eq, slot_ne, hlen, hlt]) ?_
   refine CW.exit ?_
   simp only [andThen]
   refine hR2 _ _ _ (hR _ _ _ ?_)
   simp only [outOf, if_true, andThen]
   refine hK _ _ ?_
   refine CW.seqK fun K hK => CW.region ?_
   simp (maxDischargeDepth := 16) [symB, List.length_set, andThen, hlen]
   refine hK _ _ ?_; clear hK K
   refine CW.ret (done (-1) _ ?_ (by simp [hlen]) (by simp (maxDischargeDepth := 16) [slot_eq, slot_ne, hlen]))
   constructor
   · intro h; omega
   · intro h; exact absurd h hw
set_option maxRecDepth 100000 in
theorem contains_ev (l : List (List UInt8)) (tok : Tok) (s : List UInt8) (σ : Sto) (hl : l.length ≤ 1000000) : CallW Tryz.prog EV 18 [.sl (strR l) tok, .lit (.string (bs s))] σ fun r σ' => r = .ret (.lit (.bool (l.contains s))) ∧ σ' = σ := by
 refine CallW.start (fn := Tryz.f18) (M := []) rfl rfl rfl rfl (by simp) fun tm hlen hs => ?_
 have h0 := hs 0 _ rfl
 have h1 := hs 1 _ rfl
 clear hs
 simp at hlen
 refine CW.hide fun R0 hR0 => ?_
 refine CW.seqK fun K hK => CW.region ?_
 simp (maxDischargeDepth := 16) [symB, List.length_set, andThen, hlen]
 refine hK _ _ ?_; clear hK K
 refine CW.seqK fun K hK => CW.region ?_
 simp (maxDischargeDepth := 16) [symB, List.length_set, andThen, hlen, h0, h1]
 refine (index_ev l tok s σ hl).mono ?_
 rintro r σ' ⟨⟨n, rfl, hn⟩, rfl⟩
 by_cases h : 0 ≤ n
 · have hc : l.contains s = true := by simpa using hn.1 h
   simp (maxDischargeDepth := 16) [symB, List.length_set, andThen, hlen, retK, h]
   refine hK _ _ ?_
   refine CW.ret (hR0 _ _ _ ⟨.lit (.bool true), ?_, by rw [hc], rfl⟩)
   simp (maxDischargeDepth := 16) [resultsA, omap, res_tmp, slot_eq, slot_ne, hlen]
 · have hc : l.contains s = false := by
    rw [Bool.eq_false_iff]
    intro hc
    exact h (hn.2 (by simpa using hc))
   simp (maxDischargeDepth := 16) [symB, List.length_set, andThen, hlen, retK, h]
   refine hK _ _ ?_
   refine CW.ret (hR0 _ _ _ ⟨.lit (.bool false), ?_, by rw [hc], rfl⟩)
   simp (maxDischargeDepth := 16) [resultsA, omap, res_tmp, slot_eq, slot_ne, hlen, h]
theorem nch_cases (c : UInt8) : (97 ≤ c.toNat ∧ c.toNat ≤ 122 ∧ nch c = true) ∨ (¬ 97 ≤ c.toNat ∧ 48 ≤ c.toNat ∧ c.toNat ≤ 57 ∧ nch c = true) ∨ (¬ 97 ≤ c.toNat ∧ 48 ≤ c.toNat ∧ ¬ c.toNat ≤ 57 ∧ c.toNat = 95 ∧ nch c = true) ∨
    (97 ≤ c.toNat ∧ ¬ c.toNat ≤ 122 ∧ 48 ≤ c.toNat ∧ ¬ c.toNat ≤ 57 ∧ ¬ c.toNat = 95 ∧ nch c = false) ∨ (¬ 97 ≤ c.toNat ∧ ¬ 48 ≤ c.toNat ∧ ¬ c.toNat = 95 ∧ nch c = false) ∨ (¬ 97 ≤ c.toNat ∧ 48 ≤ c.toNat ∧ ¬ c.toNat ≤ 57 ∧ ¬ c.toNat = 95 ∧ nch c = false) := by
 unfold nch
 generalize c.toNat = n
 rcases Nat.lt_or_ge n 97 with h1 | h1 <;> rcases Nat.lt_or_ge n 48 with h2 | h2 <;> rcases Nat.lt_or_ge 57 n with h3 | h3 <;> rcases Nat.lt_or_ge 122 n with h4 | h4 <;> by_cases h5 : n = 95 <;> simp_all <;> omega
set_option maxRecDepth 100000 in
set_option maxHeartbeats 2000000 in
theorem name_ev (s : List UInt8) (σ : Sto) (hl : s.length ≤ 140737488355328) : CallW Tryz.prog EV 9 [.lit (.string (bs s))] σ fun r σ' => r = .ret (.lit (.bool (nameOk s))) ∧ σ' = σ := by
 refine CallW.start (fn := Tryz.f9) (M := []) rfl rfl rfl rfl (by simp) fun tm hlen hs => ?_
 have h0 := hs 0 _ rfl
 clear hs
 simp at hlen
 refine CW.hide fun R0 hR0 => ?_
 have done : ∀ (c : Bool) (tm : List AV), c = nameOk s → tm.length = 54 → slot tm 2 = .lit (.bool c) → R0 .ret tm σ := by
  intro c tm hc hlen h2
  refine hR0 _ _ _ ⟨.lit (.bool c), ?_, by rw [hc], rfl⟩
  simp (maxDischargeDepth := 16) [resultsA, omap, res_tmp, slot_eq, slot_ne, hlen, h2]
 clear hR0
 refine CW.seqK fun K hK => CW.region ?_
 simp (maxDischargeDepth := 16) [symB, List.length_set, andThen, hlen]
 refine hK _ _ ?_; clear hK K
 refine CW.seqK fun K hK => ?_
 refine CW.seqK fun K2 hK2 => CW.region ?_
 have no : nameOk s = false → ∀ tm : List AV, tm.length = 54 → slot tm 21 = .lit (.bool true) → K2 tm σ := by
  intro hno tm hlen h21
  refine hK2 _ _ ?_
  refine CW.cond (t := true) (by simp (maxDischargeDepth := 16) [evx_tmp, slot_eq, slot_ne, hlen, h21]) ?_
  refine CW.seqK fun K7 hK7 => CW.region ?_
  simp (maxDischargeDepth := 16) [symB, List.length_set, andThen, hlen]
  refine hK7 _ _ ?_
  refine CW.ret ?_
  simp only [andThen, outOf]
  exact done false _ hno.symm (by simp [hlen]) (by simp (maxDischargeDepth := 16) [slot_eq, slot_ne, hlen])
 have rest : ∀ c r, s = c :: r → (c :: r).length ≤ 40 ∧ 97 ≤ c.toNat ∧ c.toNat ≤ 122 → ∀ tm : List AV, tm.length = 54 → slot tm 0 = .lit (.string (bs s)) → slot tm 21 = .lit (.bool false) → K2 tm σ := by
  intro c0 r0 hs0 hc0 tm hlen h0 h21
  have hrest := nameOk_rest hc0
  rw [← hs0] at hrest hc0
  refine hK2 _ _ ?_
  refine CW.cond (t := false) (by simp (maxDischargeDepth := 16) [evx_tmp, slot_eq, slot_ne, hlen, h21]) ?_
  refine CW.skip ?_
  simp only [andThen]
  refine hK _ _ ?_; clear hK K hK2 K2 no
  refine CW.seqK fun K hK => ?_
  refine CW.seqK fun K hK => CW.region ?_
  simp (maxDischargeDepth := 16) [symB, List.length_set, andThen, hlen, h0, bsz]
  refine hK _ _ ?_; clear hK K
  refine CW.block ?_
  refine CW.hide fun R hR => ?_
  refine CW.loopI (fun r tm σ1 => ∃ i, r = s.length - i ∧ i ≤ s.length ∧ (s.take i).all nch = true ∧ tm.length = 54 ∧ slot tm 0 = .lit (.string (bs s)) ∧ slot tm 23 = .lit (.int .i64 s.length) ∧ slot tm 24 = .lit (.int .i64 i) ∧ σ1 = σ) ?_ _ _ _
   ⟨0, rfl, by omega, rfl, by simp [hlen], by simp [slot_ne, h0], by simp (maxDischargeDepth := 16) [slot_eq, slot_ne, hlen], by simp (maxDischargeDepth := 16) [slot_eq, hlen], rfl⟩
  clear h0 h21 hlen tm
  rintro r tm σ1 ⟨i, rfl, hi, hw, hlen, h0, h23, h24, rfl⟩
  refine CW.hide fun R2 hR2 => ?_
  refine CW.seqK fun K3 hK3 => CW.region ?_
  by_cases hlt : i < s.length
  · have hlt' : (i : Int) < s.length := by omega
    simp (maxDischargeDepth := 16) [symB, List.length_set, andThen, hlen, h23, h24, hlt', hlt]
    refine hK3 _ _ ?_
    refine CW.seqK fun K4 hK4 => ?_
    refine CW.cond (t := true) (by simp (maxDischargeDepth := 16) [evx_tmp, slot_eq, slot_ne, hlen]) ?_
    refine CW.skip ?_
    simp only [andThen]
    refine hK4 _ _ ?_
    have hg : (bs s)[i]? = some s[i] := by rw [bs_get, List.getElem?_eq_getElem hlt]
    have htk : s.take (i + 1) = s.take i ++ [s[i]] := by rw [List.take_add_one, List.getElem?_eq_getElem hlt]; rfl
    have hmem := List.getElem_mem hlt
    generalize s[i] = c at *
    have hwk : IntKind.i64.wrap ((i : Int) + 1) = ((i + 1 : Nat) : Int) := wrap_succ (by omega)
    refine CW.seqK fun K5 hK5 => CW.block ?_
    refine CW.seqK fun K hK => CW.region ?_
    simp (maxDischargeDepth := 16) [symB, List.length_set, andThen, hlen, h24]
    refine hK _ _ ?_; clear hK K
    refine CW.seqK fun K hK => CW.region ?_
    simp (maxDischargeDepth := 16) [symB, List.length_set, andThen, hlen, h0, hg]
    refine hK _ _ ?_; clear hK K
    refine CW.reset (fun tm => tm.length = 54 ∧ slot tm 0 = .lit (.string (bs s)) ∧ slot tm 4 = .lit (.int .u8 c.toNat) ∧ slot tm 23 = .lit (.int .i64 s.length) ∧ slot tm 24 = .lit (.int .i64 i)) ⟨by simp [hlen], by simp [slot_ne, h0], by simp (maxDischargeDepth := 16) [slot_eq, slot_ne, hlen], by simp [slot_ne, h23], by simp [slot_ne, h24]⟩ ?_
    clear h0 h23 h24 hlen tm
    rintro tm ⟨hlen, h0, h4, h23, h24⟩
    refine CW.seqK fun K6 hK6 => CW.region ?_
    have good : nch c = true → ∀ tm : List AV, tm.length = 54 → slot tm 0 = .lit (.string (bs s)) → slot tm 23 = .lit (.int .i64 s.length) → slot tm 24 = .lit (.int .i64 i) → slot tm 48 = .lit (.bool false) → K6 tm σ1 := by
     intro hc tm hlen h0 h23 h24 h48
     refine hK6 _ _ ?_
     refine CW.cond (t := false) (by simp (maxDischargeDepth := 16) [evx_tmp, slot_eq, slot_ne, hlen, h48]) ?_
     refine CW.skip ?_
     simp only [andThen, outOf]
     refine hK5 _ _ ?_
     refine CW.region ?_
     simp (maxDischargeDepth := 16) [symB, List.length_set, andThen, hlen, h24, hwk]
     refine hR2 _ _ _ ⟨s.length - (i + 1), by omega, i + 1, rfl, hlt, ?_, by simp [hlen], by simp [slot_ne, h0], by simp [slot_ne, h23], by simp (maxDischargeDepth := 16) [slot_eq, hlen], rfl⟩
     rw [htk, List.all_append, hw]
     simp [hc]
    have bad : nch c = false → ∀ tm : List AV, tm.length = 54 → slot tm 48 = .lit (.bool true) → K6 tm σ1 := by
     intro hc tm hlen h48
     refine hK6 _ _ ?_
     refine CW.cond (t := true) (by simp (maxDischargeDepth := 16) [evx_tmp, slot_eq, slot_ne, hlen, h48]) ?_
     refine CW.seqK fun K7 hK7 => CW.region ?_
     simp (maxDischargeDepth := 16) [symB, List.length_set, andThen, hlen]
     refine hK7 _ _ ?_
     refine CW.ret ?_
     simp only [andThen, outOf]
     refine hR2 _ _ _ (hR _ _ _ (done false _ ?_ (by simp [hlen]) (by simp (maxDischargeDepth := 16) [slot_eq, slot_ne, hlen])))
     symm
     refine nameOk_all ?_
     rw [Bool.eq_false_iff]
     intro hall
     have := List.all_eq_true.1 hall c hmem
     rw [hc] at this; cases this
    rcases nch_cases c with ⟨a1, a2, hn⟩ | ⟨a1, a3, a4, hn⟩ | ⟨a1, a3, a4, a5, hn⟩ | ⟨a1, a2, a3, a4, a5, hn⟩ | ⟨a1, a3, a5, hn⟩ | ⟨a1, a3, a4, a5, hn⟩
    · have b1 : (97 : Int) ≤ (c.toNat : Int) := by omega
      have b2 : (c.toNat : Int) ≤ 122 := by omega
      simp (maxDischargeDepth := 16) [symB, List.length_set, andThen, hlen, h4, a1, a2, b1, b2]
      exact good hn _ (by simp [hlen]) (by simp [slot_ne, h0]) (by simp [slot_ne, h23]) (by simp [slot_ne, h24]) (by simp (maxDischargeDepth := 16) [slot_eq, slot_ne, hlen])
    · have b1 : ¬ (97 : Int) ≤ (c.toNat : Int) := by omega
      have b3 : (48 : Int) ≤ (c.toNat : Int) := by omega
      have b4 : (c.toNat : Int) ≤ 57 := by omega
      simp (maxDischargeDepth := 16) [symB, List.length_set, andThen, hlen, h4, a1, a3, a4, b1, b3, b4]
      exact good hn _ (by simp [hlen]) (by simp [slot_ne, h0]) (by simp [slot_ne, h23]) (by simp [slot_ne, h24]) (by simp (maxDischargeDepth := 16) [slot_eq, slot_ne, hlen])
    · have b1 : ¬ (97 : Int) ≤ (c.toNat : Int) := by omega
      have b3 : (48 : Int) ≤ (c.toNat : Int) := by omega
      have b4 : ¬ (c.toNat : Int) ≤ 57 := by omega
      have b5 : (c.toNat : Int) = 95 := by omega
      simp (maxDischargeDepth := 16) [symB, List.length_set, andThen, hlen, h4, a1, a3, a4, a5, b1, b3, b4, b5]
      exact good hn _ (by simp [hlen]) (by simp [slot_ne, h0]) (by simp [slot_ne, h23]) (by simp [slot_ne, h24]) (by simp (maxDischargeDepth := 16) [slot_eq, slot_ne, hlen])
    · have b1 : (97 : Int) ≤ (c.toNat : Int) := by omega
      have b2 : ¬ (c.toNat : Int) ≤ 122 := by omega
      have b3 : (48 : Int) ≤ (c.toNat : Int) := by omega
      have b4 : ¬ (c.toNat : Int) ≤ 57 := by omega
      have b5 : ¬ (c.toNat : Int) = 95 := by omega
      simp (maxDischargeDepth := 16) [symB, List.length_set, andThen, hlen, h4, a1, a2, a3, a4, a5, b1, b2, b3, b4, b5]
      exact bad hn _ (by simp [hlen]) (by simp (maxDischargeDepth := 16) [slot_eq, slot_ne, hlen, a1, a2, a3, a4, a5, b1, b2, b3, b4, b5])
    · have b1 : ¬ (97 : Int) ≤ (c.toNat : Int) := by omega
      have b3 : ¬ (48 : Int) ≤ (c.toNat : Int) := by omega
      have b5 : ¬ (c.toNat : Int) = 95 := by omega
      simp (maxDischargeDepth := 16) [symB, List.length_set, andThen, hlen, h4, a1, a3, a5, b1, b3, b5]
      exact bad hn _ (by simp [hlen]) (by simp (maxDischargeDepth := 16) [slot_eq, slot_ne, hlen, a1, a3, a5, b1, b3, b5])
    · have b1 : ¬ (97 : Int) ≤ (c.toNat : Int) := by omega
      have b3 : (48 : Int) ≤ (c.toNat : Int) := by omega
      have b4 : ¬ (c.toNat : Int) ≤ 57 := by omega
      have b5 : ¬ (c.toNat : Int) = 95 := by omega
      simp (maxDischargeDepth := 16) [symB, List.length_set, andThen, hlen, h4, a1, a3, a4, a5, b1, b3, b4, b5]
      exact bad hn _ (by simp [hlen]) (by simp (maxDischargeDepth := 16) [slot_eq, slot_ne, hlen, a1, a3, a4, a5, b1, b3, b4, b5])
  · have hlt' : ¬ (i : Int) < s.length := by omega
    rw [List.take_of_length_le (by omega)] at hw
    have hfin := hrest hw
    simp (maxDischargeDepth := 16) [symB, List.length_set, andThen, hlen, h23, h24, hlt', hlt]
    refine hK3 _ _ ?_
    refine CW.seqK fun K4 hK4 => ?_
    refine CW.cond (t := false) (by simp (maxDischargeDepth := 16) [evx_tmp, slot_eq, slot_ne, hlen, hlt]) ?_
    refine CW.exit ?_
    simp only [andThen]
    refine hR2 _ _ _ (hR _ _ _ ?_)
    simp only [outOf, if_true, andThen]
    refine hK _ _ ?_
    refine CW.seqK fun K7 hK7 => CW.region ?_
    simp (maxDischargeDepth := 16) [symB, List.length_set, andThen, hlen, h0]
    refine (contains_ev resv .full s σ1 (by simp [resv])).mono ?_
    rintro r σ2 ⟨rfl, rfl⟩
    generalize resv.contains s = rc at *
    simp (maxDischargeDepth := 16) [symB, List.length_set, andThen, hlen, retK]
    refine hK7 _ _ ?_
    exact CW.ret (done (!rc) _ hfin.symm (by simp [hlen]) (by simp (maxDischargeDepth := 16) [slot_eq, slot_ne, hlen]))
 cases s with
 | nil =>
  simp (maxDischargeDepth := 16) [symB, List.length_set, andThen, hlen, h0, bs_list]
  exact no rfl _ (by simp [hlen]) (by simp (maxDischargeDepth := 16) [slot_eq, slot_ne, hlen])
 | cons c r =>
  have hne : ¬ (c :: r) = ([] : List UInt8) := by simp
  have hg0 : (bs (c :: r))[0]? = some c := by rw [bs_get]; rfl
  have hg1 : ∀ h, (bs (c :: r))[0]'h = c := fun h => rfl
  have hsz : (bs (c :: r)).size = (c :: r).length := bsz _
  have ht1 : (bs (c :: r)).toList = c :: r := bs_list _
  have rest := rest c r rfl
  have no2 : ¬ ((c :: r).length ≤ 40 ∧ 97 ≤ c.toNat ∧ c.toNat ≤ 122) → nameOk (c :: r) = false := nameOk_head
  have hp : 0 < (c :: r).length := by simp
  generalize (c :: r) = u at *
  by_cases l1 : u.length ≤ 40
  · have m1 : ¬ (40 : Int) < (u.length : Int) := by omega
    have m1' : ¬ 40 < u.length := by omega
    by_cases l2 : 97 ≤ c.toNat
    · have m2 : ¬ (c.toNat : Int) < 97 := by omega
      have m2' : ¬ c.toNat < 97 := by omega
      by_cases l3 : c.toNat ≤ 122
      · have m3 : ¬ (122 : Int) < (c.toNat : Int) := by omega
        have m3' : ¬ 122 < c.toNat := by omega
        simp (maxDischargeDepth := 16) [symB, List.length_set, andThen, hlen, h0, ht1, hne, hsz, hp, m1, m1', hg0, hg1, m2, m2', m3, m3']
        exact rest ⟨l1, l2, l3⟩ _ (by simp [hlen]) (by simp [slot_ne, h0]) (by simp (maxDischargeDepth := 16) [slot_eq, slot_ne, hlen, m3, m3'])
      · have m3 : (122 : Int) < (c.toNat : Int) := by omega
        have m3' : 122 < c.toNat := by omega
        simp (maxDischargeDepth := 16) [symB, List.length_set, andThen, hlen, h0, ht1, hne, hsz, hp, m1, m1', hg0, hg1, m2, m2', m3, m3']
        exact no (no2 fun h => l3 h.2.2) _ (by simp [hlen]) (by simp (maxDischargeDepth := 16) [slot_eq, slot_ne, hlen, m3, m3'])
    · have m2 : (c.toNat : Int) < 97 := by omega
      have m2' : c.toNat < 97 := by omega
      simp (maxDischargeDepth := 16) [symB, List.length_set, andThen, hlen, h0, ht1, hne, hsz, hp, m1, m1', hg0, hg1, m2, m2']
      exact no (no2 fun h => l2 h.2.1) _ (by simp [hlen]) (by simp (maxDischargeDepth := 16) [slot_eq, slot_ne, hlen, m2, m2'])
  · have m1 : (40 : Int) < (u.length : Int) := by omega
    have m1' : 40 < u.length := by omega
    simp (maxDischargeDepth := 16) [symB, List.length_set, andThen, hlen, h0, ht1, hne, hsz, hp, m1, m1']
    exact no (no2 fun h => l1 h.1) _ (by simp [hlen]) (by simp (maxDischargeDepth := 16) [slot_eq, slot_ne, hlen, m1, m1'])
end
section
open Go.RowKit
theorem dec_pos (n : Nat) : 1 ≤ (dec n).length := by unfold dec; split <;> simp
theorem dec_len : ∀ (k n : Nat), n < 10 ^ (k + 1) → (dec n).length ≤ k + 1
 | 0, n, h => by unfold dec; rw [dif_pos (by omega)]; simp
 | k + 1, n, h => by
  unfold dec
  split
  · simp
  · have := dec_len k (n / 10) (by rw [Nat.pow_succ] at h; omega)
    simp only [List.length_append, List.length_singleton]; omega
theorem padN_len {n : Nat} (h : n < B9) : (padN 9 n).length = 9 := by
 have := dec_len 8 n (by unfold B9 at h; omega)
 unfold padN; simp; omega
theorem natText_len : ∀ (l : List Nat), (∀ x ∈ l, x < B9) → 1 ≤ (natText l).length ∧ (natText l).length ≤ 9 * l.length + 1
 | [], _ => by simp [natText, dec]
 | [x], h => by
  have h1 := dec_pos x
  have h2 := dec_len 8 x (by have := h x (by simp); unfold B9 at this; omega)
  simp [natText]; omega
 | x :: y :: l, h => by
  have ih := natText_len (y :: l) (fun z hz => h z (List.mem_cons_of_mem _ hz))
  rw [natText_cons (by simp), List.length_append, padN_len (h x (by simp))]
  simp only [List.length_cons] at ih ⊢; omega
end
section
open Go.RowKit
def numText (neg : Bool) (l : List Nat) : List UInt8 := if neg then 45 :: natText l else natText l
end
end Go.Proofs.YtkkblmdgedmdfaaGreatDoor
