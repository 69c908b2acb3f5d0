/-
 EV: nat: of, row, Trim, Right.
-/
import Derived.Test.YtmmgjaheffbpaaaGreatDoorEvNatQ
namespace Go.Proofs.YtmmgjaheffbpaaaGreatDoor
set_option maxRecDepth 100000
set_option maxHeartbeats 8000000
set_option linter.unusedSimpArgs false
set_option linter.unusedVariables false
set_option linter.unusedSectionVars false
section
open Go.RowKit
theorem fill_step {l : List Nat} {i : Nat} (h : i < l.length) : (c64 (l.take i ++ List.replicate (l.length - i) 0)).set i (.lit (.int .u64 (l[i] : Nat))) = c64 (l.take (i + 1) ++ List.replicate (l.length - (i + 1)) 0) := by
 unfold c64
 rw [show l.length - i = (l.length - (i + 1)) + 1 by omega, List.replicate_succ, List.take_succ_eq_append_getElem h, List.append_assoc, List.map_append, List.map_append, List.set_append_right _ _ (by simp; omega)]
 simp [Nat.min_eq_left (Nat.le_of_lt h)]
theorem drop0_len : ∀ (l : List Nat), (drop0 l).length ≤ l.length
 | [] => by simp [drop0]
 | x :: l => by
  have := drop0_len l
  rw [drop0_cons]
  split
  · split <;> simp
  · simp only [List.length_cons]; omega
theorem normD_len (l : List Nat) (h : ∀ x ∈ l, x < 9223372036854775808) : (normD l).length < l.length + 17179869184 := Nat.lt_of_le_of_lt (drop0_len _) (carry_len l 0 h (by omega))
theorem of_ev (l : List Nat) (tok : Tok) (σ : Sto) (hl : l.length ≤ 1000000000) (hx : ∀ x ∈ l, x < 4294967296) : CallW Tryz.prog EV 66 [.sl (d32 l) tok] σ fun r σ' => ∃ t, r = .ret (.agg [.sl (d64 (normD l)) t]) ∧ Ext σ σ' := by
 refine CallW.start (fn := Tryz.f66) (M := [123]) rfl rfl rfl rfl (by simp) fun tm hlen hs => ?_
 have h0 := hs 0 _ rfl
 clear hs
 simp at hlen
 refine CW.hide fun R0 hR0 => ?_
 refine CW.seqK fun K hK => CW.region ?_
 simp (maxDischargeDepth := 16) [symB, List.length_set, andThen, hlen, h0]
 refine hK _ _ ?_; clear hK K
 have hc0 : (0 : Int) ≤ (l.length : Int) := by omega
 have hc2 : (8 : Int) * (l.length : Int) ≤ 140737488355328 := by omega
 have hc3 : (l.length : Int) ≤ 140737488355328 := by omega
 have hcn : l.length ≤ 140737488355328 := by omega
 refine CW.seqK fun K hK => CW.region ?_
 simp (maxDischargeDepth := 16) [symB, List.length_set, andThen, hlen, h0, d32_len, hc0, hc2, hc3, hcn]
 refine hK _ _ ?_; clear hK K
 refine CW.seqK fun K hK => ?_
 refine CW.seqK fun K2 hK2 => CW.region ?_
 simp (maxDischargeDepth := 16) [symB, List.length_set, andThen, hlen, h0, d32_len]
 refine hK2 _ _ ?_; clear hK2 K2
 refine CW.block ?_
 refine CW.hide fun R hR => ?_
 refine CW.loopI (fun r tm σ1 => ∃ i, r = l.length - i ∧ i ≤ l.length ∧ tm.length = 24 ∧ slot tm 2 = .ptr σ.length 0 ∧ slot tm 3 = .asl (σ.length + 1) 0 l.length 1 ∧ slot tm 9 = .sl (d32 l) tok ∧ slot tm 10 = .lit (.int .i64 l.length) ∧ slot tm 11 = .lit (.int .i64 i) ∧ σ1 = σ ++ [.cells [.sl [] .full] 125, .cells (c64 (l.take i ++ List.replicate (l.length - i) 0)) 53]) ?_ _ _ _
  ⟨0, rfl, by omega, by simp [hlen], by simp (maxDischargeDepth := 16) [slot_ne, slot_eq, hlen], by simp (maxDischargeDepth := 16) [slot_ne, slot_eq, hlen], by simp (maxDischargeDepth := 16) [slot_ne, slot_eq, hlen, h0], by simp (maxDischargeDepth := 16) [slot_ne, slot_eq, hlen], by simp (maxDischargeDepth := 16) [slot_eq, hlen], by simp [c64]⟩
 clear h0 hlen tm
 rintro r tm σ1 ⟨i, rfl, hi, hlen, h2, h3, h9, h10, h11, rfl⟩
 refine CW.hide fun R2 hR2 => ?_
 refine CW.seqK fun K4 hK4 => CW.region ?_
 by_cases hlt : i < l.length
 · have hlt' : (i : Int) < l.length := by omega
   simp (maxDischargeDepth := 16) [symB, List.length_set, andThen, hlen, h10, h11, hlt', hlt]
   refine hK4 _ _ ?_
   refine CW.seqK fun K3 hK3 => ?_
   refine CW.cond (t := true) (by simp (maxDischargeDepth := 16) [zT, slot_eq, slot_ne, hlen]) ?_
   refine CW.skip ?_
   simp only [andThen]
   refine hK3 _ _ ?_
   have hg := d32_get hlt
   have hfs := fill_step hlt
   have hxi := hx _ (List.getElem_mem hlt)
   generalize l[i] = x at *
   have hwx : IntKind.u64.wrap (x : Int) = x := by rw [IntKind.wrap_u64]; omega
   refine CW.seqK fun K5 hK5 => CW.block ?_
   refine CW.seqK fun K hK => CW.region ?_
   simp (maxDischargeDepth := 16) [symB, List.length_set, andThen, hlen, h9, h11, hg]
   refine hK _ _ ?_; clear hK K
   have hcl : (c64 (l.take i ++ List.replicate (l.length - i) 0)).length = l.length := by rw [c64_len]; simp; omega
   generalize hcc : c64 (l.take i ++ List.replicate (l.length - i) 0) = cc at *
   have hob : (σ ++ [.cells [.sl [] .full] 125, .cells cc 53])[σ.length + 1]? = some (.cells cc 53) := by rw [List.getElem?_append_right (by omega)]; simp
   have hst0 : (σ ++ [AObj.cells [.sl [] .full] 125, AObj.cells cc 53]).set (σ.length + 1) (AObj.cells (c64 (l.take (i + 1) ++ List.replicate (l.length - (i + 1)) 0)) 53) = σ ++ [AObj.cells [.sl [] .full] 125, AObj.cells (c64 (l.take (i + 1) ++ List.replicate (l.length - (i + 1)) 0)) 53] := by rw [List.set_append_right _ _ (by omega)]; simp
   have hle : i + 1 ≤ l.length := hlt
   refine CW.region ?_
   simp (maxDischargeDepth := 16) [symB, List.length_set, andThen, outOf, hlen, h3, hwx, hlt', hlt, hob, hcl, hle, hfs]
   refine hK5 _ _ ?_
   have hwk : IntKind.i64.wrap ((i : Int) + 1) = ((i + 1 : Nat) : Int) := wrap_succ (by omega)
   refine CW.region ?_
   simp (maxDischargeDepth := 16) [symB, List.length_set, andThen, hlen, h11, hwk]
   exact hR2 _ _ _ ⟨l.length - (i + 1), by omega, i + 1, rfl, hlt, by simp [hlen], by simp [slot_ne, h2], by simp [slot_ne, h3], by simp [slot_ne, h9], by simp [slot_ne, h10], by simp (maxDischargeDepth := 16) [slot_eq, hlen], rfl⟩
 · have hlt' : ¬ (i : Int) < l.length := by omega
   have hil : i = l.length := by omega
   subst hil
   simp (maxDischargeDepth := 16) [symB, List.length_set, andThen, hlen, h10, h11]
   refine hK4 _ _ ?_
   refine CW.seqK fun K3 hK3 => ?_
   refine CW.cond (t := false) (by simp (maxDischargeDepth := 16) [zT, slot_eq, slot_ne, hlen]) ?_
   refine CW.exit ?_
   simp only [andThen]
   refine hR2 _ _ _ (hR _ _ _ ?_)
   simp only [outOf, if_true, andThen]
   refine hK _ _ ?_
   have hcc : c64 (l.take l.length ++ List.replicate (l.length - l.length) 0) = c64 l := by simp
   try rw [hcc]
   have hob : (σ ++ [AObj.cells [.sl [] .full] 125, AObj.cells (c64 l) 53])[σ.length + 1]? = some (.cells (c64 l) 53) := by rw [List.getElem?_append_right (by omega)]; simp
   have hext0 : Ext σ (σ ++ [AObj.cells [.sl [] .full] 125, AObj.cells (c64 l) 53]) := ⟨_, rfl⟩
   have hob0 : (σ ++ [AObj.cells [.sl [] .full] 125, AObj.cells (c64 l) 53])[σ.length]? = some (.cells [.sl [] .full] 125) := by rw [List.getElem?_append_right (by omega)]; simp
   generalize (σ ++ [AObj.cells [.sl [] .full] 125, AObj.cells (c64 l) 53]) = σ1 at *
   refine CW.seqK fun K5 hK5 => CW.region ?_
   simp (maxDischargeDepth := 16) [symB, List.length_set, andThen, hlen, h3]
   refine (carried_asl l (σ.length + 1) 53 σ1 hob (by omega) (fun x h => by have := hx x h; omega)).mono ?_
   rintro r σ2 ⟨t, rfl, hext⟩
   have hobj := hext.get hob0
   have hlt2 : σ.length < σ2.length := (List.getElem?_eq_some_iff.1 hobj).1
   simp (maxDischargeDepth := 16) [symB, List.length_set, andThen, hlen, retK, h2, hobj]
   refine hK5 _ _ ?_
   refine CW.ret (hR0 _ _ _ ⟨.agg [.sl (d64 (normD l)) t], ?_, t, rfl, ?_⟩)
   · simp (maxDischargeDepth := 16) [zA, omap, zC, slot_eq, slot_ne, hlen, h2, hlt2, partA, aggT]
   · exact (hext0.trans hext).set (Nat.le_refl _)
theorem row_ev (l : List Nat) (tok : Tok) (σ : Sto) (hl : l.length ≤ 100000000000) (hx : ∀ x ∈ l, x < 4294967296) : CallW Tryz.prog EV 93 [.agg [.sl (d64 l) tok]] σ fun r σ' => ∃ t, r = .ret (.sl (d32 l) t) ∧ Ext σ σ' := by
 refine CallW.start (fn := Tryz.f93) (M := []) rfl rfl rfl rfl (by simp) fun tm hlen hs => ?_
 have h0 := hs 0 _ rfl
 clear hs
 simp at hlen
 refine CW.hide fun R0 hR0 => ?_
 refine CW.seqK fun K hK => CW.region ?_
 simp (maxDischargeDepth := 16) [symB, List.length_set, andThen, hlen, h0]
 refine hK _ _ ?_; clear hK K
 refine CW.seqK fun K hK => CW.region ?_
 simp (maxDischargeDepth := 16) [symB, List.length_set, andThen, hlen]
 refine hK _ _ ?_; clear hK K
 refine CW.seqK fun K hK => ?_
 refine CW.seqK fun K2 hK2 => CW.region ?_
 simp (maxDischargeDepth := 16) [symB, List.length_set, andThen, hlen, d64_len]
 refine hK2 _ _ ?_; clear hK2 K2
 refine CW.block ?_
 refine CW.hide fun R hR => ?_
 refine CW.loopI (fun r tm σ1 => ∃ (i : Nat) (t : Tok), r = l.length - i ∧ i ≤ l.length ∧ tm.length = 20 ∧ slot tm 3 = .sl (d32 (l.take i)) t ∧ slot tm 7 = .sl (d64 l) tok ∧ slot tm 8 = .lit (.int .i64 l.length) ∧ slot tm 9 = .lit (.int .i64 i) ∧ Ext σ σ1 ∧ TokAt σ σ1 (i * 1) 79 t) ?_ _ _ _
  ⟨0, .full, rfl, by omega, by simp [hlen], by simp (maxDischargeDepth := 16) [slot_ne, slot_eq, hlen, d32], by simp (maxDischargeDepth := 16) [slot_ne, slot_eq, hlen], by simp (maxDischargeDepth := 16) [slot_ne, slot_eq, hlen], by simp (maxDischargeDepth := 16) [slot_eq, hlen], ⟨_, rfl⟩, .inl ⟨rfl, rfl⟩⟩
 clear h0 hlen tm
 rintro r tm σ1 ⟨i, t, rfl, hi, hlen, h3, h7, h8, h9, hext, htok⟩
 refine CW.hide fun R2 hR2 => ?_
 refine CW.seqK fun K4 hK4 => CW.region ?_
 by_cases hlt : i < l.length
 · have hlt' : (i : Int) < l.length := by omega
   simp (maxDischargeDepth := 16) [symB, List.length_set, andThen, hlen, h8, h9, hlt', hlt]
   refine hK4 _ _ ?_
   refine CW.seqK fun K3 hK3 => ?_
   refine CW.cond (t := true) (by simp (maxDischargeDepth := 16) [zT, slot_eq, slot_ne, hlen]) ?_
   refine CW.skip ?_
   simp only [andThen]
   refine hK3 _ _ ?_
   have hg := d64_get hlt
   have htk := List.take_succ_eq_append_getElem hlt
   have hxi := hx _ (List.getElem_mem hlt)
   generalize l[i] = x at *
   have hwx : IntKind.u32.wrap (x : Int) = x := by rw [IntKind.wrap_u32]; omega
   refine CW.seqK fun K5 hK5 => CW.block ?_
   refine CW.seqK fun K hK => CW.region ?_
   simp (maxDischargeDepth := 16) [symB, List.length_set, andThen, hlen, h7, h9, hg]
   refine hK _ _ ?_; clear hK K
   obtain ⟨t', σ3, acc, hext3, htok3, hap⟩ := append_at (P := Tryz.prog) (M := []) (σ := σ1) (es := d32 (l.take i)) (tok := t) (tk := .full) (fs := [[.lit (.int .u32 (x : Int))]]) (t := 32) Tryz.underlying32 szOf_79 bytesOf_79 zeroOf_79 rfl
    (by rw [d32_len, List.length_take, Nat.min_eq_left hi]; exact htok) hext (d32_head _) rfl (by simp) (by rw [d32_len]; simp; omega) (by rw [d32_len]; simp; omega)
   refine CW.region ?_
   simp (maxDischargeDepth := 16) [symB, List.length_set, andThen, outOf, hlen, h3, hwx, hap]
   refine hK5 _ _ ?_
   have hwk : IntKind.i64.wrap ((i : Int) + 1) = ((i + 1 : Nat) : Int) := wrap_succ (by omega)
   refine CW.region ?_
   simp (maxDischargeDepth := 16) [symB, List.length_set, andThen, hlen, h9, hwk]
   refine hR2 _ _ _ ⟨l.length - (i + 1), by omega, i + 1, t', rfl, hlt, by simp [hlen], ?_, by simp [slot_ne, h7], by simp [slot_ne, h8], by simp (maxDischargeDepth := 16) [slot_eq, hlen], hext3, ?_⟩
   · rw [htk, d32_append]; simp (maxDischargeDepth := 16) [slot_eq, slot_ne, hlen, stripRows, AV.strip]; rfl
   · rw [d32_len, List.length_take, Nat.min_eq_left hi] at htok3; exact htok3
 · have hlt' : ¬ (i : Int) < l.length := by omega
   have hil : i = l.length := by omega
   subst hil
   simp (maxDischargeDepth := 16) [symB, List.length_set, andThen, hlen, h8, h9]
   refine hK4 _ _ ?_
   refine CW.seqK fun K3 hK3 => ?_
   refine CW.cond (t := false) (by simp (maxDischargeDepth := 16) [zT, slot_eq, slot_ne, hlen]) ?_
   refine CW.exit ?_
   simp only [andThen]
   refine hR2 _ _ _ (hR _ _ _ ?_)
   simp only [outOf, if_true, andThen]
   refine hK _ _ ?_
   refine CW.seqK fun K hK => CW.region ?_
   simp (maxDischargeDepth := 16) [symB, List.length_set, andThen, hlen, h3]
   refine hK _ _ ?_; clear hK K
   refine CW.ret (hR0 _ _ _ ⟨.sl (d32 l) t, ?_, t, rfl, hext⟩)
   simp (maxDischargeDepth := 16) [zA, omap, zB, slot_eq, slot_ne, hlen]
theorem Trim_ev (l : List Nat) (tok : Tok) (σ : Sto) (hl : l.length ≤ 1000000000) (hx : ∀ x ∈ l, x < 4294967296) : CallW Tryz.prog EV 64 [.sl (d32 l) tok] σ fun r σ' => ∃ t, r = .ret (.sl (d32 (normD l)) t) ∧ Ext σ σ' := by
 refine CallW.start (fn := Tryz.f64) (M := []) rfl rfl rfl rfl (by simp) fun tm hlen hs => ?_
 have h0 := hs 0 _ rfl
 clear hs
 simp at hlen
 refine CW.hide fun R0 hR0 => ?_
 refine CW.seqK fun K hK => CW.region ?_
 simp (maxDischargeDepth := 16) [symB, List.length_set, andThen, hlen, h0]
 refine hK _ _ ?_; clear hK K
 refine CW.seqK fun K hK => CW.region ?_
 simp (maxDischargeDepth := 16) [symB, List.length_set, andThen, hlen, h0]
 refine (of_ev l tok σ hl hx).mono ?_
 rintro r σ2 ⟨t, rfl, hext⟩
 simp (maxDischargeDepth := 16) [symB, List.length_set, andThen, hlen, retK]
 have hn := normD_ok l
 have hnl := normD_len l (fun x h => by have := hx x h; omega)
 refine (row_ev (normD l) t σ2 (by omega) (fun x h => by have := hn.1 x h; unfold B9 at this; omega)).mono ?_
 rintro r σ3 ⟨t2, rfl, hext2⟩
 simp (maxDischargeDepth := 16) [symB, List.length_set, andThen, hlen, retK]
 refine hK _ _ ?_
 refine CW.ret (hR0 _ _ _ ⟨.sl (d32 (normD l)) t2, ?_, t2, rfl, hext.trans hext2⟩)
 simp (maxDischargeDepth := 16) [zA, omap, zB, slot_eq, slot_ne, hlen]
end
section
open Go.RowKit
theorem Ext.at {σ σ' : Sto} {x : AObj} {l : List AObj} (h : Ext (σ ++ x :: l) σ') : σ'[σ.length]? = some x ∧ σ.length < σ'.length := by
 have := h.get (i := σ.length) (x := x) (by simp)
 exact ⟨this, (List.getElem?_eq_some_iff.1 this).1⟩
theorem Ext.of_push {σ σ' : Sto} {l : List AObj} (h : Ext (σ ++ l) σ') : Ext σ σ' := (Ext.push (Ext.refl σ) l).trans h
theorem zero_ev (l : List Nat) (tok : Tok) (σ : Sto) : CallW Tryz.prog EV 65 [.agg [.sl (d32 l) tok]] σ fun r σ' => r = .ret (.lit (.bool (l.length == 0))) ∧ Ext σ σ' := by
 refine CallW.start (fn := Tryz.f65) (M := []) rfl rfl rfl rfl (by simp) fun tm hlen hs => ?_
 have h0 := hs 0 _ rfl
 clear hs
 simp at hlen
 refine CW.hide fun R0 hR0 => ?_
 refine CW.seqK fun K hK => CW.region ?_
 simp (maxDischargeDepth := 16) [symB, List.length_set, andThen, hlen, h0]
 refine hK _ _ ?_; clear hK K
 refine CW.seqK fun K hK => CW.region ?_
 simp (maxDischargeDepth := 16) [symB, List.length_set, andThen, hlen, d32_len]
 refine hK _ _ ?_
 refine CW.ret (hR0 _ _ _ ⟨.lit (.bool (l.length == 0)), ?_, rfl, ⟨_, rfl⟩⟩)
 simp (maxDischargeDepth := 16) [zA, omap, zB, slot_eq, slot_ne, hlen]
 try rw [Bool.eq_iff_iff]; simp
theorem made_ev (l : List Nat) (neg : Bool) (tok : Tok) (σ : Sto) (hl : l.length ≤ 1000000000) (hx : ∀ x ∈ l, x < 4294967296) : CallW Tryz.prog EV 37 [.sl (d32 l) tok, .lit (.bool neg)] σ fun r σ' => ∃ t, r = .ret (.agg [.sl (d32 (normD l)) t, .lit (.bool (neg && !((normD l).length == 0)))]) ∧ Ext σ σ' := by
 refine CallW.start (fn := Tryz.f37) (M := []) rfl rfl rfl rfl (by simp) fun tm hlen hs => ?_
 have h0 := hs 0 _ rfl
 have h1 := hs 1 _ rfl
 clear hs
 simp at hlen
 refine CW.hide fun R0 hR0 => ?_
 refine CW.seqK fun K hK => CW.region ?_
 simp (maxDischargeDepth := 16) [symB, List.length_set, andThen, hlen, h0]
 refine hK _ _ ?_; clear hK K
 refine CW.seqK fun K hK => CW.region ?_
 simp (maxDischargeDepth := 16) [symB, List.length_set, andThen, hlen, h0]
 refine (Trim_ev l tok _ hl hx).mono ?_
 rintro r σ2 ⟨t, rfl, hext⟩
 generalize normD l = m at *
 simp (maxDischargeDepth := 16) [symB, List.length_set, andThen, hlen, retK]
 refine hK _ _ ?_; clear hK K
 obtain ⟨hob, hlt⟩ := hext.at
 have hob2 : (σ2 ++ [AObj.cells [.sl (d32 m) t] 49])[σ.length]? = some (.cells [.sl [] .full, .lit (.bool false)] 51) := by rw [List.getElem?_append_left hlt]; exact hob
 have hext2 : Ext σ (σ2 ++ [AObj.cells [.sl (d32 m) t] 49]) := hext.of_push.push _
 refine CW.seqK fun K hK => CW.draw (by kernel_rfl) ?_
 have hst : ∀ x : AObj, Ext σ ((σ2 ++ [AObj.cells [.sl (d32 m) t] 49]).set σ.length x) := fun x => hext2.set (Nat.le_refl _)
 have hlt2 : σ.length < (σ2 ++ [AObj.cells [.sl (d32 m) t] 49]).length := by simp; omega
 have hob5 : (σ2 ++ [AObj.cells [.sl (d32 m) t] 49])[σ2.length]? = some (.cells [.sl (d32 m) t] 49) := by simp
 generalize (σ2 ++ [AObj.cells [.sl (d32 m) t] 49]) = σ3 at *
 cases neg with
 | false =>
  simp (maxDischargeDepth := 16) [symB, List.length_set, andThen, hlen, h1, hob2, hob5]
  refine ⟨by kernel_rfl, hK _ _ ?_⟩
  refine CW.ret (hR0 _ _ _ ⟨.agg [.sl (d32 m) t, .lit (.bool false)], ?_, t, by simp, hst _⟩)
  simp (maxDischargeDepth := 16) [zA, omap, zC, slot_eq, slot_ne, hlen, hlt2, partA, aggT]
 | true =>
  simp (maxDischargeDepth := 16) [symB, List.length_set, andThen, hlen, h1, hob2, hob5]
  refine (zero_ev m t σ3).mono ?_
  rintro r σ4 ⟨rfl, hext4⟩
  have hob6 := hext4.get hob2
  have hlt4 : σ.length < σ4.length := (List.getElem?_eq_some_iff.1 hob6).1
  simp (maxDischargeDepth := 16) [symB, List.length_set, retK, andThen, hlen, h1, hob6, accEV (f := 65) rfl, extB_of hext4]
  refine ⟨by kernel_rfl, hK _ _ ?_⟩
  refine CW.ret (hR0 _ _ _ ⟨.agg [.sl (d32 m) t, .lit (.bool (!(m.length == 0)))], ?_, t, by simp, (hext2.trans hext4).set (Nat.le_refl _)⟩)
  simp (maxDischargeDepth := 16) [zA, omap, zC, slot_eq, slot_ne, hlen, hlt4, partA, aggT]
theorem out_ev (l : List Nat) (neg : Bool) (tok : Tok) (σ : Sto) : CallW Tryz.prog EV 19 [.agg [.sl (d32 l) tok, .lit (.bool neg)]] σ fun r σ' => r = .ret (.agg [.lit (.bool neg), .sl (d32 l) tok]) ∧ Ext σ σ' := by
 refine CallW.start (fn := Tryz.f19) (M := []) rfl rfl rfl rfl (by simp) fun tm hlen hs => ?_
 have h0 := hs 0 _ rfl
 clear hs
 simp at hlen
 refine CW.hide fun R0 hR0 => ?_
 refine CW.seqK fun K hK => CW.region ?_
 simp (maxDischargeDepth := 16) [symB, List.length_set, andThen, hlen, h0]
 refine hK _ _ ?_; clear hK K
 refine CW.seqK fun K hK => CW.region ?_
 simp (maxDischargeDepth := 16) [symB, List.length_set, andThen, hlen]
 refine hK _ _ ?_
 refine CW.ret (hR0 _ _ _ ⟨.agg [.lit (.bool neg), .sl (d32 l) tok], ?_, rfl, ?_⟩)
 · simp (maxDischargeDepth := 16) [zA, omap, zC, slot_eq, slot_ne, hlen, partA, aggT]
 · exact ⟨_, rfl⟩
def normI (neg : Bool) (l : List Nat) : Bool × List Nat := (neg && !((normD l).length == 0), normD l)
theorem numOf_ev (l : List Nat) (neg : Bool) (tok : Tok) (σ : Sto) (hl : l.length ≤ 1000000000) (hx : ∀ x ∈ l, x < 4294967296) : CallW Tryz.prog EV 38 [.agg [.lit (.bool neg), .sl (d32 l) tok]] σ fun r σ' => ∃ t, r = .ret (.agg [.sl (d32 (normD l)) t, .lit (.bool (neg && !((normD l).length == 0)))]) ∧ Ext σ σ' := by
 refine CallW.start (fn := Tryz.f38) (M := []) rfl rfl rfl rfl (by simp) fun tm hlen hs => ?_
 have h0 := hs 0 _ rfl
 clear hs
 simp at hlen
 refine CW.hide fun R0 hR0 => ?_
 refine CW.seqK fun K hK => CW.region ?_
 simp (maxDischargeDepth := 16) [symB, List.length_set, andThen, hlen, h0]
 refine hK _ _ ?_; clear hK K
 refine CW.seqK fun K hK => CW.region ?_
 simp (maxDischargeDepth := 16) [symB, List.length_set, andThen, hlen]
 refine (made_ev l neg tok _ hl hx).mono ?_
 rintro r σ2 ⟨t, rfl, hext⟩
 obtain ⟨g, rfl⟩ := hext
 generalize normD l = m at *
 generalize (neg && !(m.length == 0)) = b at *
 simp (maxDischargeDepth := 16) [symB, List.length_set, andThen, hlen, retK]
 refine hK _ _ ?_
 refine CW.ret (hR0 _ _ _ ⟨.agg [.sl (d32 m) t, .lit (.bool b)], ?_, t, rfl, ?_⟩)
 · simp (maxDischargeDepth := 16) [zA, omap, zC, slot_eq, slot_ne, hlen, partA, aggT]
 · exact ⟨_, rfl⟩
end
section
open Go.RowKit
def bs (l : List UInt8) : ByteArray := ⟨l.toArray⟩
theorem bs_def (l : List UInt8) : (⟨l.toArray⟩ : ByteArray) = bs l := rfl
theorem bsz (l : List UInt8) : (bs l).size = l.length := by simp [bs, ByteArray.size]
theorem bs_ext (l : List UInt8) (a b : Nat) : (bs l).extract a b = bs ((l.take b).drop a) := by
 apply ByteArray.ext
 simp only [bs, ByteArray.data_extract, List.extract_toArray, List.extract_eq_take_drop, List.drop_take]
theorem bs_list (l : List UInt8) : (bs l).toList = l := by rw [Lib.toList_data]; simp [bs]
theorem bs_app (a b : List UInt8) : bs a ++ bs b = bs (a ++ b) := by apply ByteArray.ext; simp [bs]
theorem bs_get (l : List UInt8) (i : Nat) : (bs l)[i]? = l[i]? := by
 unfold bs
 by_cases h : i < l.length
 · have h2 : i < (⟨l.toArray⟩ : ByteArray).size := by simpa [ByteArray.size] using h
   rw [List.getElem?_eq_getElem h, getElem?_pos _ i h2]
   rfl
 · rw [List.getElem?_eq_none (by omega), getElem?_neg]
   simpa [ByteArray.size] using h
theorem has1_ev (l : List UInt8) (c : UInt8) (σ : Sto) (hl : l.length ≤ 140737488355328) : CallW Tryz.prog EV 120 [.lit (.string (bs l)), .lit (.string (bs [c]))] σ fun r σ' => r = .ret (.lit (.bool (l.head? == some c))) ∧ σ' = σ := by
 refine CallW.start (fn := Tryz.f120) (M := []) rfl rfl rfl rfl (by simp) fun tm hlen hs => ?_
 have h0 := hs 0 _ rfl
 have h1 := hs 1 _ rfl
 clear hs
 simp at hlen
 refine CW.hide fun R0 hR0 => ?_
 refine CW.seqK fun K hK => CW.region ?_
 simp (maxDischargeDepth := 16) [symB, List.length_set, andThen, hlen, h0]
 refine hK _ _ ?_; clear hK K
 refine CW.seqK fun K hK => CW.region ?_
 cases l with
 | nil =>
  simp (maxDischargeDepth := 16) [symB, List.length_set, andThen, hlen, h0, h1, bsz]
  refine hK _ _ ?_
  refine CW.ret (hR0 _ _ _ ⟨.lit (.bool false), ?_, rfl, rfl⟩)
  simp (maxDischargeDepth := 16) [zA, omap, zB, slot_eq, slot_ne, hlen]
 | cons b r =>
  have hle : (1 : Int) ≤ (r.length : Int) + 1 := by omega
  simp (maxDischargeDepth := 16) [symB, List.length_set, andThen, hlen, h0, h1, bsz, hle, bs_ext, bs_list]
  refine hK _ _ ?_
  refine CW.ret (hR0 _ _ _ ⟨.lit (.bool ((b :: r).head? == some c)), ?_, rfl, rfl⟩)
  simp (maxDischargeDepth := 16) [zA, omap, zB, slot_eq, slot_ne, hlen]
theorem cut1i_ev (l : List UInt8) (c : UInt8) (σ : Sto) (hl : l.length ≤ 140737488355328) : CallW Tryz.prog EV 122 [.lit (.string (bs l)), .lit (.string (bs [c]))] σ fun r σ' => r = .ret (.tup [.lit (.string (bs (if l.head? = some c then l.tail else l))), .lit (.bool (l.head? == some c))]) ∧ σ' = σ := by
 refine CallW.start (fn := Tryz.f122) (M := []) rfl rfl rfl rfl (by simp) fun tm hlen hs => ?_
 have h0 := hs 0 _ rfl
 have h1 := hs 1 _ rfl
 clear hs
 simp at hlen
 refine CW.hide fun R0 hR0 => ?_
 refine CW.seqK fun K hK => CW.region ?_
 simp (maxDischargeDepth := 16) [symB, List.length_set, andThen, hlen, h0]
 refine hK _ _ ?_; clear hK K
 refine CW.seqK fun K hK => ?_
 refine CW.seqK fun K2 hK2 => CW.region ?_
 simp (maxDischargeDepth := 16) [symB, List.length_set, andThen, hlen, h0, h1]
 refine (has1_ev l c σ hl).mono ?_
 rintro r σ2 ⟨rfl, rfl⟩
 by_cases hc : l.head? = some c
 · have hb : (l.head? == some c) = true := by simp [hc]
   rw [hb]
   simp (maxDischargeDepth := 16) [symB, List.length_set, andThen, hlen, retK]
   refine hK2 _ _ ?_; clear hK2 K2
   refine CW.cond (t := false) (by simp (maxDischargeDepth := 16) [zT, slot_eq, slot_ne, hlen]) ?_
   refine CW.skip ?_
   simp only [andThen]
   refine hK _ _ ?_
   cases l with
   | nil => cases hc
   | cons b r =>
    have hle : (1 : Int) ≤ (r.length : Int) + 1 := by omega
    have hn : ((r.length : Int) + 1).toNat = r.length + 1 := by omega
    refine CW.seqK fun K hK => CW.region ?_
    simp (maxDischargeDepth := 16) [symB, List.length_set, andThen, hlen, h0, h1, bsz, hle, bs_ext, hn]
    refine hK _ _ ?_; clear hK K
    refine CW.ret (hR0 _ _ _ ⟨.tup [.lit (.string (bs r)), .lit (.bool true)], ?_, by simp [hc], rfl⟩)
    simp (maxDischargeDepth := 16) [zA, omap, zB, slot_eq, slot_ne, hlen]
 · have hb : (l.head? == some c) = false := by simp [hc]
   rw [hb]
   simp (maxDischargeDepth := 16) [symB, List.length_set, andThen, hlen, retK]
   refine hK2 _ _ ?_; clear hK2 K2
   refine CW.cond (t := true) (by simp (maxDischargeDepth := 16) [zT, slot_eq, slot_ne, hlen]) ?_
   refine CW.seqK fun K hK => CW.region ?_
   simp (maxDischargeDepth := 16) [symB, List.length_set, andThen, hlen, h0]
   refine hK _ _ ?_; clear hK K
   refine CW.ret ?_
   simp only [andThen]
   refine hR0 _ _ _ ⟨.tup [.lit (.string (bs l)), .lit (.bool false)], ?_, by simp [hc], rfl⟩
   simp (maxDischargeDepth := 16) [zA, omap, zB, slot_eq, slot_ne, hlen, h0]
theorem cut1_ev (l : List UInt8) (c : UInt8) (σ : Sto) (hl : l.length ≤ 140737488355328) : CallW Tryz.prog EV 102 [.lit (.string (bs l)), .lit (.string (bs [c]))] σ fun r σ' => r = .ret (.tup [.lit (.string (bs (if l.head? = some c then l.tail else l))), .lit (.bool (l.head? == some c))]) ∧ σ' = σ := by
 refine CallW.start (fn := Tryz.f102) (M := []) rfl rfl rfl rfl (by simp) fun tm hlen hs => ?_
 have h0 := hs 0 _ rfl
 have h1 := hs 1 _ rfl
 clear hs
 simp at hlen
 refine CW.hide fun R0 hR0 => ?_
 refine CW.seqK fun K hK => CW.region ?_
 simp (maxDischargeDepth := 16) [symB, List.length_set, andThen, hlen, h0]
 refine hK _ _ ?_; clear hK K
 refine CW.seqK fun K hK => CW.region ?_
 simp (maxDischargeDepth := 16) [symB, List.length_set, andThen, hlen, h0, h1]
 refine (cut1i_ev l c σ hl).mono ?_
 rintro r σ2 ⟨rfl, rfl⟩
 generalize (if l.head? = some c then l.tail else l) = q at *
 generalize (l.head? == some c) = b at *
 simp (maxDischargeDepth := 16) [symB, List.length_set, andThen, hlen, retK]
 refine hK _ _ ?_
 refine CW.ret (hR0 _ _ _ ⟨.tup [.lit (.string (bs q)), .lit (.bool b)], ?_, rfl, rfl⟩)
 simp (maxDischargeDepth := 16) [zA, omap, zB, slot_eq, slot_ne, hlen]
theorem decimal_ev (l : List UInt8) (σ : Sto) (hl : l.length ≤ 1000000000) : CallW Tryz.prog EV 123 [.lit (.string (bs l))] σ fun r σ' => r = .ret (.lit (.bool (isDec l))) ∧ σ' = σ := by
 refine CallW.start (fn := Tryz.f123) (M := []) rfl rfl rfl rfl (by simp) fun tm hlen hs => ?_
 have h0 := hs 0 _ rfl
 clear hs
 simp at hlen
 refine CW.hide fun R0 hR0 => ?_
 refine CW.seqK fun K hK => CW.region ?_
 simp (maxDischargeDepth := 16) [symB, List.length_set, andThen, hlen, h0]
 refine hK _ _ ?_; clear hK K
 refine CW.seqK fun K hK => ?_
 refine CW.seqK fun K2 hK2 => CW.region ?_
 simp (maxDischargeDepth := 16) [symB, List.length_set, andThen, hlen, h0, bsz]
 refine hK2 _ _ ?_; clear hK2 K2
 refine CW.block ?_
 refine CW.hide fun R hR => ?_
 refine CW.loopI (fun r tm σ1 => ∃ i, r = l.length - i ∧ i ≤ l.length ∧ isDec (l.drop i) = isDec l ∧ tm.length = 20 ∧ slot tm 0 = .lit (.string (bs l)) ∧ slot tm 5 = .lit (.int .i64 l.length) ∧ slot tm 6 = .lit (.int .i64 i) ∧ σ1 = σ) ?_ _ _ _
  ⟨0, rfl, by omega, by simp, by simp [hlen], by simp [slot_ne, h0], by simp (maxDischargeDepth := 16) [slot_ne, slot_eq, hlen], by simp (maxDischargeDepth := 16) [slot_eq, hlen], rfl⟩
 clear h0 hlen tm
 rintro r tm σ1 ⟨i, rfl, hi, hdec, hlen, h0, h5, h6, rfl⟩
 refine CW.hide fun R2 hR2 => ?_
 refine CW.seqK fun K4 hK4 => CW.region ?_
 by_cases hlt : i < l.length
 · have hlt' : (i : Int) < l.length := by omega
   simp (maxDischargeDepth := 16) [symB, List.length_set, andThen, hlen, h5, h6, hlt', hlt]
   refine hK4 _ _ ?_
   refine CW.seqK fun K3 hK3 => ?_
   refine CW.cond (t := true) (by simp (maxDischargeDepth := 16) [zT, slot_eq, slot_ne, hlen]) ?_
   refine CW.skip ?_
   simp only [andThen]
   refine hK3 _ _ ?_
   have hg : (bs l)[i]? = some l[i] := by rw [bs_get, List.getElem?_eq_getElem hlt]
   rw [List.drop_eq_getElem_cons hlt] at hdec
   generalize l[i] = c at *
   have hwk : IntKind.i64.wrap ((i : Int) + 1) = ((i + 1 : Nat) : Int) := wrap_succ (by omega)
   refine CW.seqK fun K5 hK5 => CW.block ?_
   refine CW.seqK fun K hK => CW.region ?_
   simp (maxDischargeDepth := 16) [symB, List.length_set, andThen, hlen, h6]
   refine hK _ _ ?_; clear hK K
   refine CW.seqK fun K6 hK6 => CW.region ?_
   by_cases h1 : c.toNat < 48
   · have h1' : (c.toNat : Int) < 48 := by omega
     simp (maxDischargeDepth := 16) [symB, List.length_set, andThen, hlen, h0, hg, h1, h1']
     refine hK6 _ _ ?_
     refine CW.cond (t := true) (by simp (maxDischargeDepth := 16) [zT, slot_eq, slot_ne, hlen]) ?_
     refine CW.seqK fun K hK => CW.region ?_
     simp (maxDischargeDepth := 16) [symB, List.length_set, andThen, hlen]
     refine hK _ _ ?_; clear hK K
     refine CW.ret ?_
     simp only [andThen, outOf]
     refine hR2 _ _ _ (hR _ _ _ (hR0 _ _ _ ⟨.lit (.bool false), ?_, ?_, rfl⟩))
     · simp (maxDischargeDepth := 16) [zA, omap, zB, slot_eq, slot_ne, hlen]
     · rw [← hdec]; simp [isDec]; omega
   · by_cases h2 : 57 < c.toNat
     · have h1' : ¬ (c.toNat : Int) < 48 := by omega
       have h2' : (57 : Int) < (c.toNat : Int) := by omega
       simp (maxDischargeDepth := 16) [symB, List.length_set, andThen, hlen, h0, hg, h1, h1', h2, h2']
       refine hK6 _ _ ?_
       refine CW.cond (t := true) (by simp (maxDischargeDepth := 16) [zT, slot_eq, slot_ne, hlen]) ?_
       refine CW.seqK fun K hK => CW.region ?_
       simp (maxDischargeDepth := 16) [symB, List.length_set, andThen, hlen]
       refine hK _ _ ?_; clear hK K
       refine CW.ret ?_
       simp only [andThen, outOf]
       refine hR2 _ _ _ (hR _ _ _ (hR0 _ _ _ ⟨.lit (.bool false), ?_, ?_, rfl⟩))
       · simp (maxDischargeDepth := 16) [zA, omap, zB, slot_eq, slot_ne, hlen]
       · rw [← hdec]; simp [isDec]; omega
     · have h1' : ¬ (c.toNat : Int) < 48 := by omega
       have h2' : ¬ (57 : Int) < (c.toNat : Int) := by omega
       simp (maxDischargeDepth := 16) [symB, List.length_set, andThen, hlen, h0, hg, h1, h1', h2, h2']
       refine hK6 _ _ ?_
       refine CW.cond (t := false) (by simp (maxDischargeDepth := 16) [zT, slot_eq, slot_ne, hlen]) ?_
       refine CW.skip ?_
       simp only [andThen, outOf]
       refine hK5 _ _ ?_
       refine CW.region ?_
       simp (maxDischargeDepth := 16) [symB, List.length_set, andThen, hlen, h6, hwk]
       refine hR2 _ _ _ ⟨l.length - (i + 1), by omega, i + 1, rfl, hlt, ?_, by simp [hlen], by simp [slot_ne, h0], by simp [slot_ne, h5], by simp (maxDischargeDepth := 16) [slot_eq, hlen], rfl⟩
       rw [← hdec]; simp [isDec]; omega
 · have hlt' : ¬ (i : Int) < l.length := by omega
   have hil : i = l.length := by omega
   subst hil
   simp (maxDischargeDepth := 16) [symB, List.length_set, andThen, hlen, h5, h6]
   refine hK4 _ _ ?_
   refine CW.seqK fun K3 hK3 => ?_
   refine CW.cond (t := false) (by simp (maxDischargeDepth := 16) [zT, slot_eq, slot_ne, hlen]) ?_
   refine CW.exit ?_
   simp only [andThen]
   refine hR2 _ _ _ (hR _ _ _ ?_)
   simp only [outOf, if_true, andThen]
   refine hK _ _ ?_
   refine CW.seqK fun K hK => CW.region ?_
   simp (maxDischargeDepth := 16) [symB, List.length_set, andThen, hlen]
   refine hK _ _ ?_; clear hK K
   refine CW.ret (hR0 _ _ _ ⟨.lit (.bool true), ?_, ?_, rfl⟩)
   · simp (maxDischargeDepth := 16) [zA, omap, zB, slot_eq, slot_ne, hlen]
   · rw [← hdec]; simp [isDec]
theorem CallW.run {P : Program} {E : Env} {f : FuncId} {args : List AV} {σ σ' : Sto} {r : ARes} {Q : ARes → Sto → Prop} (N : Nat) (h : ∀ n, evCall P E (n + N) f args σ = some (r, σ')) (hq : Q r σ') : CallW P E f args σ Q :=
 ⟨r, σ', N, fun n hn => by obtain ⟨m, rfl⟩ : ∃ m, n = m + N := ⟨n - N, by omega⟩; exact h m, hq⟩
theorem rep0_ev (k : Nat) (hk : k ≤ 8) (σ : Sto) : CallW Tryz.prog EV 70 [.lit (.string (bs [48])), .lit (.int .i64 k)] σ fun r σ' => r = .ret (.lit (.string (bs (List.replicate k 48)))) ∧ σ' = σ := by
 refine CallW.run (r := .ret (.lit (.string (bs (List.replicate k 48))))) (σ' := σ) 200 (fun n => ?_) ⟨rfl, rfl⟩
 rcases k with _ | _ | _ | _ | _ | _ | _ | _ | _ | k
 · kernel_rfl
 · kernel_rfl
 · kernel_rfl
 · kernel_rfl
 · kernel_rfl
 · kernel_rfl
 · kernel_rfl
 · kernel_rfl
 · kernel_rfl
 · omega
end
section
open Go.RowKit
theorem dec_pos (n : Nat) : 1 ≤ (dec n).length := by unfold dec; split <;> simp
theorem dec_len : ∀ (k n : Nat), n < 10 ^ (k + 1) → (dec n).length ≤ k + 1
 | 0, n, h => by unfold dec; rw [dif_pos (by omega)]; simp
 | k + 1, n, h => by
  unfold dec
  split
  · simp
  · have := dec_len k (n / 10) (by rw [Nat.pow_succ] at h; omega)
    simp only [List.length_append, List.length_singleton]; omega
theorem padN_len {n : Nat} (h : n < B9) : (padN 9 n).length = 9 := by
 have := dec_len 8 n (by unfold B9 at h; omega)
 unfold padN; simp; omega
theorem natText_len : ∀ (l : List Nat), (∀ x ∈ l, x < B9) → 1 ≤ (natText l).length ∧ (natText l).length ≤ 9 * l.length + 1
 | [], _ => by simp [natText, dec]
 | [x], h => by
  have h1 := dec_pos x
  have h2 := dec_len 8 x (by have := h x (by simp); unfold B9 at this; omega)
  simp [natText]; omega
 | x :: y :: l, h => by
  have ih := natText_len (y :: l) (fun z hz => h z (List.mem_cons_of_mem _ hz))
  rw [natText_cons (by simp), List.length_append, padN_len (h x (by simp))]
  simp only [List.length_cons] at ih ⊢; omega
theorem fmtU_p (x : Nat) (hx : x < 18446744073709551616) (σ : Sto) : CallW Tryz.prog EV 67 [.lit (.int .u64 x), .lit (.int .i64 10)] σ fun r σ' => r = .ret (.lit (.string (bs (dec x)))) ∧ σ' = σ :=
 CallW.prim (g := primFmtU) rfl (by unfold primFmtU; dsimp only; rw [if_pos ⟨⟨by omega, by omega⟩, rfl⟩]; rfl) ⟨rfl, rfl⟩
theorem natText_ev (l : List Nat) (tok : Tok) (σ : Sto) (hl : l.length ≤ 1000000) (hr : RightD l) : CallW Tryz.prog EV 39 [.sl (d32 l) tok] σ fun r σ' => r = .ret (.lit (.string (bs (natText l)))) ∧ Ext σ σ' := by
 refine CallW.start (fn := Tryz.f39) (M := []) rfl rfl rfl rfl (by simp) fun tm hlen hs => ?_
 have h0 := hs 0 _ rfl
 clear hs
 simp at hlen
 refine CW.hide fun R0 hR0 => ?_
 refine CW.seqK fun K hK => CW.region ?_
 simp (maxDischargeDepth := 16) [symB, List.length_set, andThen, hlen, h0]
 refine hK _ _ ?_; clear hK K
 refine CW.seqK fun K hK => CW.region ?_
 simp (maxDischargeDepth := 16) [symB, List.length_set, andThen, hlen, h0]
 refine (of_ev l tok σ (by omega) (fun x h => by have := hr.1 x h; unfold B9 at this; omega)).mono ?_
 rintro r σ2 ⟨t, rfl, hext⟩
 rw [normD_right hr]
 simp (maxDischargeDepth := 16) [symB, List.length_set, andThen, hlen, retK]
 refine hK _ _ ?_; clear hK K
 have hextA : Ext σ (σ2 ++ [AObj.cells [.sl (d64 l) t] 125]) := hext.push _
 have hnum : (σ2 ++ [AObj.cells [.sl (d64 l) t] 125])[σ2.length]? = some (.cells [.sl (d64 l) t] 125) := by simp
 have hAl : (σ2 ++ [AObj.cells [.sl (d64 l) t] 125]).length = σ2.length + 1 := by simp
 generalize (σ2 ++ [AObj.cells [.sl (d64 l) t] 125]) = σA at *
 refine CW.seqK fun K hK => CW.region ?_
 simp (maxDischargeDepth := 16) [symB, List.length_set, andThen, hlen]
 refine hK _ _ ?_; clear hK K
 refine CW.reset (fun tm => tm.length = 35 ∧ slot tm 3 = .ptr σ2.length 0 ∧ slot tm 4 = .ptr σA.length 0) ⟨by simp [hlen], by simp (maxDischargeDepth := 16) [slot_eq, slot_ne, hlen], by simp (maxDischargeDepth := 16) [slot_eq, slot_ne, hlen]⟩ ?_
 clear h0 hlen tm
 rintro tm ⟨hlen, h3, h4⟩
 have hext0 : Ext σA (σA ++ [AObj.cells [.lit (.pointer none), .sl [] .full] 86]) := ⟨_, rfl⟩
 have hbld : (σA ++ [AObj.cells [.lit (.pointer none), .sl [] .full] 86])[σA.length]? = some (.cells [.lit (.pointer none), .sl [] .full] 86) := by simp
 generalize (σA ++ [AObj.cells [.lit (.pointer none), .sl [] .full] 86]) = σB at *
 have hnumB := hext0.get hnum
 have htop : atD l ((l.length : Int) - 1) < B9 := by
  unfold atD
  split
  · rename_i h
    rw [List.getD_eq_getElem?_getD, List.getElem?_eq_getElem (by omega)]
    exact hr.1 _ (List.getElem_mem _)
  · decide
 have htxt : dec (atD l ((l.length : Int) - 1)) = natText (l.drop (l.length - 1)) := by
  rcases Nat.eq_zero_or_pos l.length with h | h
  · have := List.length_eq_zero_iff.1 h; subst this; rfl
  · rw [List.drop_eq_getElem_cons (by omega : l.length - 1 < l.length), show l.length - 1 + 1 = l.length by omega, List.drop_length, show (l.length : Int) - 1 = ((l.length - 1 : Nat) : Int) by omega, atD_nat, List.getD_eq_getElem?_getD, List.getElem?_eq_getElem (by omega)]
    simp [natText]
 generalize hT : atD l ((l.length : Int) - 1) = top at *
 refine CW.seqK fun K hK => CW.region ?_
 simp (maxDischargeDepth := 16) [symB, List.length_set, andThen, hlen, h3, hnumB]
 refine (top_sl l t σB (by omega)).mono ?_
 rintro r σ3 ⟨rfl, rfl⟩
 rw [hT]
 simp (maxDischargeDepth := 16) [symB, List.length_set, andThen, hlen, retK]
 refine (fmtU_p top (by unfold B9 at htop; omega) σ3).mono ?_
 rintro r σ4 ⟨rfl, rfl⟩
 simp (maxDischargeDepth := 16) [symB, List.length_set, andThen, hlen, retK, h4]
 have hdl := dec_len 8 top (by unfold B9 at htop; omega)
 refine (writeString0_ev (Nat.le_refl _) hbld hext0 (bs (dec top)) (by rw [bsz]; omega)).mono ?_
 rintro r σ5 ⟨⟨v, rfl⟩, hb5, hext5⟩
 have hb5 : BldAt σA σ5 σA.length (dec top) := hb5
 rw [htxt] at hb5
 simp (maxDischargeDepth := 16) [symB, List.length_set, andThen, hlen, retK]
 refine hK _ _ ?_; clear hK K
 have hnum5 := hext5.get hnum
 have hw2 : IntKind.i64.wrap ((l.length : Int) - 2) = (l.length : Int) - 2 := IntWalk.i64_in _ ⟨by omega, by omega⟩
 refine CW.seqK fun K hK => ?_
 refine CW.seqK fun K2 hK2 => CW.region ?_
 simp (maxDischargeDepth := 16) [symB, List.length_set, andThen, hlen, h3, hnum5, d64_len, hw2]
 refine hK2 _ _ ?_; clear hK2 K2
 refine CW.block ?_
 refine CW.hide fun R hR => ?_
 refine CW.loopI (fun r tm σ1 => ∃ (i : Nat) (kk : Int), r = i ∧ (kk = (i : Int) - 1 ∨ (i = 0 ∧ kk = -2)) ∧ i ≤ l.length - 1 ∧ tm.length = 35 ∧ slot tm 3 = .ptr σ2.length 0 ∧ slot tm 4 = .ptr σA.length 0 ∧ slot tm 5 = .lit (.int .i64 kk) ∧ BldAt σA σ1 σA.length (natText (l.drop i)) ∧ Ext σA σ1) ?_ _ _ _
  ⟨l.length - 1, (l.length : Int) - 2, rfl, by omega, by omega, by simp [hlen], by simp (maxDischargeDepth := 16) [slot_ne, h3], by simp (maxDischargeDepth := 16) [slot_ne, h4], by simp (maxDischargeDepth := 16) [slot_eq, hlen], hb5, hext5⟩
 clear hb5 hext5 hnum5 hlen h3 h4 tm
 rintro i tm σ5 ⟨_, kk, rfl, hkk, hi, hlen, h3, h4, h5, hb5, hext5⟩
 have hnum5 := hext5.get hnum
 have hltx := natText_len (l.drop i) (fun x h => hr.1 x (List.mem_of_mem_drop h))
 have hll : (natText (l.drop i)).length ≤ 9 * l.length + 1 := by have := hltx.2; rw [List.length_drop] at this; omega
 refine CW.hide fun R2 hR2 => ?_
 refine CW.seqK fun K3 hK3 => ?_
 refine CW.seqK fun K4 hK4 => CW.region ?_
 by_cases hgo : 0 ≤ kk
 · obtain ⟨m, rfl⟩ : ∃ m, i = m + 1 := ⟨i - 1, by omega⟩
   have hkm : kk = (m : Int) := by omega
   subst hkm
   have hml : m < l.length := by omega
   have hstep : natText (l.drop m) = natText (l.drop (m + 1)) ++ padN 9 l[m] := by
    rw [List.drop_eq_getElem_cons hml, natText_cons]
    intro e
    have := congrArg List.length e
    rw [List.length_drop] at this
    simp at this; omega
   have hat : atD l (m : Int) = l[m] := by rw [atD_nat, List.getD_eq_getElem?_getD, List.getElem?_eq_getElem hml]; rfl
   have hxm := hr.1 _ (List.getElem_mem hml)
   generalize l[m] = x at *
   simp (maxDischargeDepth := 16) [symB, List.length_set, andThen, hlen, h5]
   refine hK4 _ _ ?_
   refine CW.cond (t := true) (by simp (maxDischargeDepth := 16) [zT, slot_eq, slot_ne, hlen]) ?_
   refine CW.skip ?_
   simp only [andThen]
   refine hK3 _ _ ?_
   refine CW.seqK fun K5 hK5 => CW.block ?_
   refine CW.seqK fun K6 hK6 => CW.region ?_
   simp (maxDischargeDepth := 16) [symB, List.length_set, andThen, hlen, h3, h5, hnum5]
   refine (at_sl l t _ σ5).mono ?_
   rintro r σ6 ⟨rfl, rfl⟩
   rw [hat]
   simp (maxDischargeDepth := 16) [symB, List.length_set, andThen, hlen, retK]
   refine (fmtU_p x (by unfold B9 at hxm; omega) σ6).mono ?_
   rintro r σ7 ⟨rfl, rfl⟩
   simp (maxDischargeDepth := 16) [symB, List.length_set, andThen, hlen, retK]
   refine hK6 _ _ ?_; clear hK6 K6
   have hd1 := dec_pos x
   have hd2 := dec_len 8 x (by unfold B9 at hxm; omega)
   have hw9 : IntKind.i64.wrap ((9 : Int) - ((dec x).length : Int)) = ((9 - (dec x).length : Nat) : Int) := by rw [IntWalk.i64_in _ ⟨by omega, by omega⟩]; omega
   have hpad : padN 9 x = List.replicate (9 - (dec x).length) 48 ++ dec x := rfl
   generalize hdx : dec x = dx at *
   have h8 : 9 - dx.length ≤ 8 := by omega
   generalize hz : 9 - dx.length = z at *
   have hzl : z + dx.length ≤ 140737488355328 := by omega
   have hadd : (bs (List.replicate z 48)).size + (bs dx).size ≤ 140737488355328 := by rw [bsz, bsz, List.length_replicate]; omega
   refine CW.region ?_
   simp (maxDischargeDepth := 16) [symB, List.length_set, andThen, outOf, hlen, h4, bsz, hw9]
   refine (rep0_ev z h8 σ7).mono ?_
   rintro r σ8 ⟨rfl, rfl⟩
   simp (maxDischargeDepth := 16) [symB, List.length_set, retK, andThen, outOf, hlen, h4, bsz, bs_app, hzl]
   rw [← hpad]
   refine (writeString_ev hb5 hext5 (bs (padN 9 x)) (by rw [bsz, hpad]; simp; omega)).mono ?_
   rintro r σ9 ⟨⟨v, rfl⟩, hb9, hext9⟩
   have hb9 : BldAt σA σ9 σA.length (natText (l.drop (m + 1)) ++ padN 9 x) := hb9
   rw [← hstep] at hb9
   simp (maxDischargeDepth := 16) [symB, List.length_set, retK, andThen, outOf, hlen]
   refine hK5 _ _ ?_
   have hwm : IntKind.i64.wrap ((m : Int) - 1) = (m : Int) - 1 := IntWalk.i64_in _ ⟨by omega, by omega⟩
   refine CW.region ?_
   simp (maxDischargeDepth := 16) [symB, List.length_set, andThen, hlen, h5, hwm]
   exact hR2 _ _ _ ⟨m, by omega, m, (m : Int) - 1, rfl, .inl rfl, by omega, by simp [hlen], by simp (maxDischargeDepth := 16) [slot_ne, h3], by simp (maxDischargeDepth := 16) [slot_ne, h4], by simp (maxDischargeDepth := 16) [slot_eq, hlen], hb9, hext9⟩
 · have hi0 : i = 0 := by omega
   subst hi0
   rw [List.drop_zero] at *
   simp (maxDischargeDepth := 16) [symB, List.length_set, andThen, hlen, h5, hgo]
   refine hK4 _ _ ?_
   refine CW.cond (t := false) (by simp (maxDischargeDepth := 16) [zT, slot_eq, slot_ne, hlen]) ?_
   refine CW.exit ?_
   simp only [andThen]
   refine hR2 _ _ _ (hR _ _ _ ?_)
   simp only [outOf, if_true, andThen]
   refine hK _ _ ?_
   refine CW.seqK fun K5 hK5 => CW.region ?_
   simp (maxDischargeDepth := 16) [symB, List.length_set, andThen, hlen, h4]
   refine (string_ev hb5 hext5 (fun e => by rw [e] at hltx; simp at hltx) (by omega)).mono ?_
   rintro r σ6 ⟨rfl, _, hext6⟩
   simp (maxDischargeDepth := 16) [symB, List.length_set, andThen, hlen, retK]
   refine hK5 _ _ ?_
   refine CW.ret (hR0 _ _ _ ⟨.lit (.string (bs (natText l))), ?_, rfl, hextA.trans hext6⟩)
   simp (maxDischargeDepth := 16) [zA, omap, zB, slot_eq, slot_ne, hlen, bs]
end
end Go.Proofs.YtmmgjaheffbpaaaGreatDoor
