/-
 EV: nat: carried, at digits that are read only, and at digits that an object holds (written by a program).
-/
import Derived.Test.YtkkblmdgedmdfaaGreatDoorEvStrsM
namespace Go.Proofs.YtkkblmdgedmdfaaGreatDoor
set_option linter.unusedSimpArgs false
set_option linter.unusedVariables false
section
open Go.RowKit
set_option maxRecDepth 100000 in
set_option maxHeartbeats 1000000 in
theorem carried_sl (l : List Nat) (tk0 : Tok) (σ : Sto) (hl : l.length ≤ 1000000000) (hx : ∀ x ∈ l, x < 9223372036854775808) : CallW Tryz.prog EV 222 [.sl (d64 l) tk0] σ fun r σ' => ∃ t, r = .ret (.agg [.sl (d64 (normD l)) t]) ∧ Ext σ σ' := by
 refine CallW.start (fn := Tryz.f222) (M := []) rfl rfl rfl rfl (by simp) fun tm hlen hs => ?_
 have h0 := hs 0 _ rfl
 clear hs
 simp at hlen
 refine CW.hide fun R0 hR0 => ?_
 refine CW.seqK fun K hK => CW.region ?_
 simp (maxDischargeDepth := 16) [symB, List.length_set, andThen, hlen, h0]
 refine hK _ _ ?_; clear hK K
 have hwl : IntKind.i64.wrap ((l.length : Int) + 2) = (l.length : Int) + 2 := IntWalk.i64_in _ ⟨by omega, by omega⟩
 have hc1 : (0 : Int) ≤ (l.length : Int) + 2 := by omega
 have hc2 : (8 : Int) * ((l.length : Int) + 2) ≤ 140737488355328 := by omega
 have hc3 : (l.length : Int) + 2 ≤ 140737488355328 := by omega
 refine CW.seqK fun K hK => CW.region ?_
 simp (maxDischargeDepth := 16) [symB, List.length_set, andThen, hlen, h0, d64_len, hwl, hc1, hc2, hc3]
 refine hK _ _ ?_; clear hK K
 refine CW.seqK fun K hK => CW.region ?_
 simp (maxDischargeDepth := 16) [symB, List.length_set, andThen, hlen]
 refine hK _ _ ?_; clear hK K
 refine CW.seqK fun K hK => ?_
 refine CW.seqK fun K2 hK2 => CW.region ?_
 simp (maxDischargeDepth := 16) [symB, List.length_set, andThen, hlen]
 refine hK2 _ _ ?_; clear hK2 K2
 refine CW.block ?_
 refine CW.hide fun R hR => ?_
 have htot := carry_len l 0 hx (by omega)
 refine CW.loopI (fun r tm σ1 => ∃ (k c : Nat) (out : List Nat) (t : Tok), r = (carry (l.drop k) c).length ∧ out ++ carry (l.drop k) c = carry l 0 ∧ out.length = k ∧ c < 17179869184 ∧ tm.length = 47 ∧ slot tm 0 = .sl (d64 l) tk0 ∧ slot tm 2 = .ptr σ.length 0 ∧ slot tm 3 = .sl (d64 out) t ∧ slot tm 4 = .lit (.int .u64 c) ∧ slot tm 5 = .lit (.int .i64 k) ∧ Ext (σ ++ [.cells [.sl [] .full] 349]) σ1 ∧ TokF (σ ++ [.cells [.sl [] .full] 349]) σ1 (k * 1) 327 1 t) ?_ _ _ _
  ⟨0, 0, [], .fresh (σ.length + 1) 1, rfl, rfl, rfl, by omega, by simp [hlen], by simp [slot_ne, h0], by simp (maxDischargeDepth := 16) [slot_ne, slot_eq, hlen], by simp (maxDischargeDepth := 16) [slot_ne, slot_eq, hlen, d64], by simp (maxDischargeDepth := 16) [slot_ne, slot_eq, hlen], by simp (maxDischargeDepth := 16) [slot_eq, hlen], ⟨[.tok 0 327], by simp⟩, .inr ⟨rfl, _, rfl, by simp, by simp⟩⟩
 clear h0 hlen tm
 rintro r tm σ1 ⟨k, c, out, t, rfl, hout, hol, hc, hlen, h0, h2, h3, h4, h5, hext, htok⟩
 have hko : k ≤ (carry l 0).length := by rw [← hout, List.length_append]; omega
 refine CW.hide fun R2 hR2 => ?_
 refine CW.seqK fun K3 hK3 => ?_
 refine CW.seqK fun K4 hK4 => CW.region ?_
 have hdone : (k < l.length ∨ 0 < c) ↔ carry (l.drop k) c ≠ [] := by
  rcases Nat.lt_or_ge k l.length with h | h
  · rw [List.drop_eq_getElem_cons h, carry]; simp [h]
  · rw [List.drop_eq_nil_of_le h, carry, spill]
    split
    · rename_i h0; subst h0; simp; omega
    · rename_i h0; simp; omega
 by_cases hgo : k < l.length ∨ 0 < c
 · have hstep : carry (l.drop k) c = (l.getD k 0 + c) % B9 :: carry (l.drop (k + 1)) ((l.getD k 0 + c) / B9) := by
    rcases Nat.lt_or_ge k l.length with h | h
    · rw [List.drop_eq_getElem_cons h, carry, List.getD_eq_getElem?_getD, List.getElem?_eq_getElem h]; rfl
    · rw [List.drop_eq_nil_of_le h, List.drop_eq_nil_of_le (by omega : l.length ≤ k + 1), List.getD_eq_getElem?_getD, List.getElem?_eq_none h, carry, carry, Option.getD_none, Nat.zero_add, spill, dif_neg (by omega)]
   have hxk : l.getD k 0 < 9223372036854775808 := by
    rcases Nat.lt_or_ge k l.length with h | h
    · rw [List.getD_eq_getElem?_getD, List.getElem?_eq_getElem h]; exact hx _ (List.getElem_mem h)
    · rw [List.getD_eq_getElem?_getD, List.getElem?_eq_none h]; decide
   generalize hgx : l.getD k 0 = xk at hstep hxk
   -- the condition
   have body : ∀ tm : List AV, tm.length = 47 → slot tm 0 = .sl (d64 l) tk0 → slot tm 2 = .ptr σ.length 0 → slot tm 3 = .sl (d64 out) t → slot tm 4 = .lit (.int .u64 c) → slot tm 5 = .lit (.int .i64 k) → slot tm 17 = .lit (.bool true) → K4 tm σ1 := by
    intro tm hlen h0 h2 h3 h4 h5 h17
    refine hK4 _ _ ?_
    refine CW.cond (t := true) (by simp (maxDischargeDepth := 16) [evx_tmp, slot_eq, slot_ne, hlen, h17]) ?_
    refine CW.skip ?_
    simp only [andThen]
    refine hK3 _ _ ?_
    refine CW.seqK fun K5 hK5 => CW.block ?_
    refine CW.seqK fun K6 hK6 => CW.region ?_
    have hw : IntKind.u64.wrap ((c : Int) + (xk : Int)) = ((xk + c : Nat) : Int) := by rw [IntKind.wrap_u64]; omega
    simp (maxDischargeDepth := 16) [symB, List.length_set, andThen, hlen, h0, h4, h5]
    refine (at_sl l tk0 k σ1).mono ?_
    rintro r σ2 ⟨rfl, rfl⟩
    rw [atD_nat, hgx]
    generalize hs : xk + c = s at *
    simp (maxDischargeDepth := 16) [symB, List.length_set, andThen, hlen, retK, hw]
    refine hK6 _ _ ?_; clear hK6 K6
    have hrem : (s : Int).tmod 1000000000 = ((s % B9 : Nat) : Int) := (Int.ofNat_tmod s B9).symm
    have hquo : IntKind.u64.wrap ((s : Int).tdiv 1000000000) = ((s / B9 : Nat) : Int) := by rw [show (s : Int).tdiv 1000000000 = ((s / B9 : Nat) : Int) from (Int.ofNat_tdiv s B9).symm, IntKind.wrap_u64]; unfold B9; omega
    have hquo2 : IntKind.u64.wrap ((s : Int) / 1000000000) = ((s / B9 : Nat) : Int) := by rw [IntKind.wrap_u64]; unfold B9; omega
    have hdl : s / B9 < 17179869184 := by unfold B9; omega
    generalize hqq : s % B9 = q at *
    generalize hqd : s / B9 = dq at *
    obtain ⟨t', σ3, acc, hext3, htok3, hap⟩ := append_atF (P := Tryz.prog) (M := []) (σ := σ2) (es := d64 out) (tok := t) (tk := .full) (fs := [[.lit (.int .u64 (q : Int))]]) (t := 345) Tryz.underlying345 szOf_327 bytesOf_327 zeroOf_327 rfl
     (by rw [d64_len, hol]; exact htok) hext (d64_head _) rfl (by simp) (by rw [d64_len]; simp; omega) (by rw [d64_len]; simp; omega)
    refine CW.seqK fun K6 hK6 => CW.region ?_
    simp (maxDischargeDepth := 16) [symB, List.length_set, andThen, hlen, h3, hrem, hap]
    refine hK6 _ _ ?_; clear hK6 K6
    refine CW.region ?_
    simp (maxDischargeDepth := 16) [symB, List.length_set, andThen, outOf, hlen, hquo, hquo2]
    refine hK5 _ _ ?_; clear hK5 K5
    have hwk : IntKind.i64.wrap ((k : Int) + 1) = ((k + 1 : Nat) : Int) := wrap_succ (by omega)
    refine CW.region ?_
    simp (maxDischargeDepth := 16) [symB, List.length_set, andThen, hlen, h5, hwk]
    refine hR2 _ _ _ ⟨(carry (l.drop (k + 1)) dq).length, by rw [hstep]; simp, k + 1, dq, out ++ [q], t', rfl, by rw [← hout, hstep]; simp, by simp [hol], hdl, by simp [hlen], by simp [slot_ne, h0], by simp [slot_ne, h2], ?_, by simp (maxDischargeDepth := 16) [slot_eq, slot_ne, hlen], by simp (maxDischargeDepth := 16) [slot_eq, hlen], hext3, .inl ?_⟩
    · simp (maxDischargeDepth := 16) [slot_eq, slot_ne, hlen, d64_append, stripRows, AV.strip, d64]
    · rw [d64_len, hol] at htok3; exact htok3
   by_cases hk : k < l.length
   · have hk' : (k : Int) < l.length := by omega
     simp (maxDischargeDepth := 16) [symB, List.length_set, andThen, hlen, h0, h4, h5, d64_len, hk']
     exact body _ (by simp [hlen]) (by simp [slot_ne, h0]) (by simp [slot_ne, h2]) (by simp [slot_ne, h3]) (by simp [slot_ne, h4]) (by simp [slot_ne, h5]) (by simp (maxDischargeDepth := 16) [slot_eq, slot_ne, hlen])
   · have hk' : ¬ (k : Int) < l.length := by omega
     have hc0 : (0 : Int) < c := by omega
     have hcn : 0 < c := by omega
     simp (maxDischargeDepth := 16) [symB, List.length_set, andThen, hlen, h0, h4, h5, d64_len, hk', hc0, hcn]
     exact body _ (by simp [hlen]) (by simp [slot_ne, h0]) (by simp [slot_ne, h2]) (by simp [slot_ne, h3]) (by simp [slot_ne, h4]) (by simp [slot_ne, h5]) (by simp (maxDischargeDepth := 16) [slot_eq, slot_ne, hlen])
 · have hk' : ¬ (k : Int) < l.length := by omega
   have hc0 : c = 0 := by omega
   have hfin : carry (l.drop k) c = [] := by
    rcases Classical.em (carry (l.drop k) c = []) with h | h
    · exact h
    · exact absurd (hdone.2 h) hgo
   rw [hfin, List.append_nil] at hout
   simp (maxDischargeDepth := 16) [symB, List.length_set, andThen, hlen, h0, h4, h5, d64_len, hk', hc0]
   refine hK4 _ _ ?_
   refine CW.cond (t := false) (by simp (maxDischargeDepth := 16) [evx_tmp, slot_eq, slot_ne, hlen]) ?_
   refine CW.exit ?_
   simp only [andThen]
   refine hR2 _ _ _ (hR _ _ _ ?_)
   simp only [outOf, if_true, andThen]
   refine hK _ _ ?_
   refine CW.reset (fun tm => tm.length = 47 ∧ slot tm 2 = .ptr σ.length 0 ∧ slot tm 3 = .sl (d64 out) t) ⟨by simp [hlen], by simp [slot_ne, h2], by simp [slot_ne, h3]⟩ ?_
   clear hK4 K4 hK3 K3 hR2 R2 hR R hK K h0 h2 h3 h4 h5 hlen tm
   rintro tm ⟨hlen, h2, h3⟩
   refine CW.seqK fun K hK => ?_
   refine CW.block ?_
   refine CW.hide fun R hR => ?_
   refine CW.loopI (fun r tm σ2 => ∃ (o2 : List Nat) (t : Tok), r = o2.length ∧ o2.length ≤ out.length ∧ drop0 o2 = normD l ∧ tm.length = 47 ∧ slot tm 2 = .ptr σ.length 0 ∧ slot tm 3 = .sl (d64 o2) t ∧ σ2 = σ1) ?_ _ _ _
    ⟨out, t, rfl, Nat.le_refl _, by unfold normD; rw [hout], hlen, h2, h3, rfl⟩
   clear h2 h3 hlen tm htok t
   rintro r tm σ2 ⟨o2, t, rfl, ho2, hnd, hlen, h2, h3, rfl⟩
   refine CW.hide fun R2 hR2 => ?_
   refine CW.seqK fun K3 hK3 => ?_
   refine CW.seqK fun K4 hK4 => CW.region ?_
   have stop : ∀ tm : List AV, tm.length = 47 → slot tm 2 = .ptr σ.length 0 → slot tm 3 = .sl (d64 o2) t → slot tm 39 = .lit (.bool false) → drop0 o2 = o2 → K4 tm σ2 := by
    intro tm hlen h2 h3 h39 hdd
    refine hK4 _ _ ?_
    refine CW.cond (t := false) (by simp (maxDischargeDepth := 16) [evx_tmp, slot_eq, slot_ne, hlen, h39]) ?_
    refine CW.exit ?_
    simp only [andThen]
    refine hR2 _ _ _ (hR _ _ _ ?_)
    simp only [outOf, if_true, andThen]
    refine hK _ _ ?_
    have hobj : σ2[σ.length]? = some (.cells [.sl [] .full] 349) := hext.get (by simp)
    have hlt : σ.length < σ2.length := (List.getElem?_eq_some_iff.1 hobj).1
    refine CW.seqK fun K5 hK5 => CW.region ?_
    simp (maxDischargeDepth := 16) [symB, List.length_set, andThen, hlen, h2, h3, hobj]
    refine hK5 _ _ ?_
    refine CW.ret (hR0 _ _ _ ⟨.agg [.sl (d64 (normD l)) t], ?_, t, rfl, ?_⟩)
    · rw [← hnd, hdd]
      simp (maxDischargeDepth := 16) [resultsA, omap, res_cell, slot_eq, slot_ne, hlen, h2, hlt, partA, aggT]
    · exact ((Ext.push (Ext.refl σ) _).trans hext).set (Nat.le_refl _)
   by_cases ho : o2 = []
   · subst ho
     simp (maxDischargeDepth := 16) [symB, List.length_set, andThen, hlen, h3, d64]
     exact stop _ (by simp [hlen]) (by simp [slot_ne, h2]) (by simp [slot_ne, h3]) (by simp (maxDischargeDepth := 16) [slot_eq, slot_ne, hlen]) rfl
   · obtain ⟨a, x, rfl⟩ : ∃ a x, o2 = a ++ [x] := ⟨o2.dropLast, o2.getLast ho, (List.dropLast_concat_getLast ho).symm⟩
     have hpos : (0 : Int) < ((a ++ [x]).length : Int) := by rw [List.length_append, List.length_singleton]; omega
     simp (maxDischargeDepth := 16) [symB, List.length_set, andThen, hlen, h3, d64_len, hpos]
     refine (top_sl (a ++ [x]) t _ (by omega)).mono ?_
     rintro r σ3 ⟨rfl, rfl⟩
     have hat : atD (a ++ [x]) (((a ++ [x]).length : Int) - 1) = x := by
      rw [show ((a ++ [x]).length : Int) - 1 = (a.length : Int) by simp, atD_nat]; simp
     rw [hat]
     by_cases hx0 : x = 0
     · subst hx0
       simp (maxDischargeDepth := 16) [symB, List.length_set, andThen, hlen, retK]
       refine hK4 _ _ ?_
       refine CW.cond (t := true) (by simp (maxDischargeDepth := 16) [evx_tmp, slot_eq, slot_ne, hlen]) ?_
       refine CW.skip ?_
       simp only [andThen]
       refine hK3 _ _ ?_
       have hal : a.length ≤ 1000000000000 := by rw [List.length_append, List.length_singleton] at ho2; omega
       have hw : IntKind.i64.wrap (a.length : Int) = (a.length : Int) := IntWalk.i64_in _ ⟨by omega, by omega⟩
       have hle : (a.length : Int) ≤ (a.length : Int) + 1 := by omega
       have hll : (d64 (a ++ [0])).length = a.length + 1 := by rw [d64_len]; simp
       have hdl : ((d64 (a ++ [0])).take a.length) = d64 a := by rw [d64_append, List.take_left' (d64_len a)]
       refine CW.block ?_
       refine CW.region ?_
       simp (maxDischargeDepth := 16) [symB, List.length_set, andThen, outOf, hlen, h3, hll, hw, hle, hdl, d64_head]
       refine hR2 _ _ _ ⟨a.length, by simp, a, sliceTok t (↑a.length) 0 (a.length + 1), rfl, by simp at ho2; omega, by rw [drop0_snoc, if_pos rfl] at hnd; exact hnd, by simp [hlen], by simp [slot_ne, h2], by simp (maxDischargeDepth := 16) [slot_eq, slot_ne, hlen], rfl⟩
     · have hx1 : ¬ (x : Int) = 0 := by omega
       simp (maxDischargeDepth := 16) [symB, List.length_set, andThen, hlen, retK, hx1, hx0]
       exact stop _ (by simp [hlen]) (by simp [slot_ne, h2]) (by simp [slot_ne, h3]) (by simp (maxDischargeDepth := 16) [slot_eq, slot_ne, hlen, hx0]) (by rw [drop0_snoc, if_neg hx0])
set_option maxRecDepth 100000 in
set_option maxHeartbeats 1000000 in
theorem carried_asl (l : List Nat) (id T : Nat) (σ : Sto) (ho : σ[id]? = some (.cells (c64 l) T)) (hl : l.length ≤ 1000000000) (hx : ∀ x ∈ l, x < 9223372036854775808) : CallW Tryz.prog EV 222 [.asl id 0 l.length 1] σ fun r σ' => ∃ t, r = .ret (.agg [.sl (d64 (normD l)) t]) ∧ Ext σ σ' := by
 refine CallW.start (fn := Tryz.f222) (M := []) rfl rfl rfl rfl (by simp) fun tm hlen hs => ?_
 have h0 := hs 0 _ rfl
 clear hs
 simp at hlen
 refine CW.hide fun R0 hR0 => ?_
 refine CW.seqK fun K hK => CW.region ?_
 simp (maxDischargeDepth := 16) [symB, List.length_set, andThen, hlen, h0]
 refine hK _ _ ?_; clear hK K
 have hwl : IntKind.i64.wrap ((l.length : Int) + 2) = (l.length : Int) + 2 := IntWalk.i64_in _ ⟨by omega, by omega⟩
 have hc1 : (0 : Int) ≤ (l.length : Int) + 2 := by omega
 have hc2 : (8 : Int) * ((l.length : Int) + 2) ≤ 140737488355328 := by omega
 have hc3 : (l.length : Int) + 2 ≤ 140737488355328 := by omega
 refine CW.seqK fun K hK => CW.region ?_
 simp (maxDischargeDepth := 16) [symB, List.length_set, andThen, hlen, h0, hwl, hc1, hc2, hc3]
 refine hK _ _ ?_; clear hK K
 refine CW.seqK fun K hK => CW.region ?_
 simp (maxDischargeDepth := 16) [symB, List.length_set, andThen, hlen]
 refine hK _ _ ?_; clear hK K
 refine CW.seqK fun K hK => ?_
 refine CW.seqK fun K2 hK2 => CW.region ?_
 simp (maxDischargeDepth := 16) [symB, List.length_set, andThen, hlen]
 refine hK2 _ _ ?_; clear hK2 K2
 refine CW.block ?_
 refine CW.hide fun R hR => ?_
 have htot := carry_len l 0 hx (by omega)
 refine CW.loopI (fun r tm σ1 => ∃ (k c : Nat) (out : List Nat) (t : Tok), r = (carry (l.drop k) c).length ∧ out ++ carry (l.drop k) c = carry l 0 ∧ out.length = k ∧ c < 17179869184 ∧ tm.length = 47 ∧ slot tm 0 = .asl id 0 l.length 1 ∧ slot tm 2 = .ptr σ.length 0 ∧ slot tm 3 = .sl (d64 out) t ∧ slot tm 4 = .lit (.int .u64 c) ∧ slot tm 5 = .lit (.int .i64 k) ∧ Ext (σ ++ [.cells [.sl [] .full] 349]) σ1 ∧ TokF (σ ++ [.cells [.sl [] .full] 349]) σ1 (k * 1) 327 1 t) ?_ _ _ _
  ⟨0, 0, [], .fresh (σ.length + 1) 1, rfl, rfl, rfl, by omega, by simp [hlen], by simp [slot_ne, h0], by simp (maxDischargeDepth := 16) [slot_ne, slot_eq, hlen], by simp (maxDischargeDepth := 16) [slot_ne, slot_eq, hlen, d64], by simp (maxDischargeDepth := 16) [slot_ne, slot_eq, hlen], by simp (maxDischargeDepth := 16) [slot_eq, hlen], ⟨[.tok 0 327], by simp⟩, .inr ⟨rfl, _, rfl, by simp, by simp⟩⟩
 clear h0 hlen tm
 rintro r tm σ1 ⟨k, c, out, t, rfl, hout, hol, hc, hlen, h0, h2, h3, h4, h5, hext, htok⟩
 have hko : k ≤ (carry l 0).length := by rw [← hout, List.length_append]; omega
 refine CW.hide fun R2 hR2 => ?_
 refine CW.seqK fun K3 hK3 => ?_
 refine CW.seqK fun K4 hK4 => CW.region ?_
 have hdone : (k < l.length ∨ 0 < c) ↔ carry (l.drop k) c ≠ [] := by
  rcases Nat.lt_or_ge k l.length with h | h
  · rw [List.drop_eq_getElem_cons h, carry]; simp [h]
  · rw [List.drop_eq_nil_of_le h, carry, spill]
    split
    · rename_i h0; subst h0; simp; omega
    · rename_i h0; simp; omega
 by_cases hgo : k < l.length ∨ 0 < c
 · have hstep : carry (l.drop k) c = (l.getD k 0 + c) % B9 :: carry (l.drop (k + 1)) ((l.getD k 0 + c) / B9) := by
    rcases Nat.lt_or_ge k l.length with h | h
    · rw [List.drop_eq_getElem_cons h, carry, List.getD_eq_getElem?_getD, List.getElem?_eq_getElem h]; rfl
    · rw [List.drop_eq_nil_of_le h, List.drop_eq_nil_of_le (by omega : l.length ≤ k + 1), List.getD_eq_getElem?_getD, List.getElem?_eq_none h, carry, carry, Option.getD_none, Nat.zero_add, spill, dif_neg (by omega)]
   have hxk : l.getD k 0 < 9223372036854775808 := by
    rcases Nat.lt_or_ge k l.length with h | h
    · rw [List.getD_eq_getElem?_getD, List.getElem?_eq_getElem h]; exact hx _ (List.getElem_mem h)
    · rw [List.getD_eq_getElem?_getD, List.getElem?_eq_none h]; decide
   generalize hgx : l.getD k 0 = xk at hstep hxk
   -- the condition
   have body : ∀ tm : List AV, tm.length = 47 → slot tm 0 = .asl id 0 l.length 1 → slot tm 2 = .ptr σ.length 0 → slot tm 3 = .sl (d64 out) t → slot tm 4 = .lit (.int .u64 c) → slot tm 5 = .lit (.int .i64 k) → slot tm 17 = .lit (.bool true) → K4 tm σ1 := by
    intro tm hlen h0 h2 h3 h4 h5 h17
    refine hK4 _ _ ?_
    refine CW.cond (t := true) (by simp (maxDischargeDepth := 16) [evx_tmp, slot_eq, slot_ne, hlen, h17]) ?_
    refine CW.skip ?_
    simp only [andThen]
    refine hK3 _ _ ?_
    refine CW.seqK fun K5 hK5 => CW.block ?_
    refine CW.seqK fun K6 hK6 => CW.region ?_
    have hw : IntKind.u64.wrap ((c : Int) + (xk : Int)) = ((xk + c : Nat) : Int) := by rw [IntKind.wrap_u64]; omega
    simp (maxDischargeDepth := 16) [symB, List.length_set, andThen, hlen, h0, h4, h5]
    refine (at_asl l id T k σ1 (((Ext.push (Ext.refl σ) _).trans hext).get ho)).mono ?_
    rintro r σ2 ⟨rfl, rfl⟩
    rw [atD_nat, hgx]
    generalize hs : xk + c = s at *
    simp (maxDischargeDepth := 16) [symB, List.length_set, andThen, hlen, retK, hw]
    refine hK6 _ _ ?_; clear hK6 K6
    have hrem : (s : Int).tmod 1000000000 = ((s % B9 : Nat) : Int) := (Int.ofNat_tmod s B9).symm
    have hquo : IntKind.u64.wrap ((s : Int).tdiv 1000000000) = ((s / B9 : Nat) : Int) := by rw [show (s : Int).tdiv 1000000000 = ((s / B9 : Nat) : Int) from (Int.ofNat_tdiv s B9).symm, IntKind.wrap_u64]; unfold B9; omega
    have hquo2 : IntKind.u64.wrap ((s : Int) / 1000000000) = ((s / B9 : Nat) : Int) := by rw [IntKind.wrap_u64]; unfold B9; omega
    have hdl : s / B9 < 17179869184 := by unfold B9; omega
    generalize hqq : s % B9 = q at *
    generalize hqd : s / B9 = dq at *
    obtain ⟨t', σ3, acc, hext3, htok3, hap⟩ := append_atF (P := Tryz.prog) (M := []) (σ := σ2) (es := d64 out) (tok := t) (tk := .full) (fs := [[.lit (.int .u64 (q : Int))]]) (t := 345) Tryz.underlying345 szOf_327 bytesOf_327 zeroOf_327 rfl
     (by rw [d64_len, hol]; exact htok) hext (d64_head _) rfl (by simp) (by rw [d64_len]; simp; omega) (by rw [d64_len]; simp; omega)
    refine CW.seqK fun K6 hK6 => CW.region ?_
    simp (maxDischargeDepth := 16) [symB, List.length_set, andThen, hlen, h3, hrem, hap]
    refine hK6 _ _ ?_; clear hK6 K6
    refine CW.region ?_
    simp (maxDischargeDepth := 16) [symB, List.length_set, andThen, outOf, hlen, hquo, hquo2]
    refine hK5 _ _ ?_; clear hK5 K5
    have hwk : IntKind.i64.wrap ((k : Int) + 1) = ((k + 1 : Nat) : Int) := wrap_succ (by omega)
    refine CW.region ?_
    simp (maxDischargeDepth := 16) [symB, List.length_set, andThen, hlen, h5, hwk]
    refine hR2 _ _ _ ⟨(carry (l.drop (k + 1)) dq).length, by rw [hstep]; simp, k + 1, dq, out ++ [q], t', rfl, by rw [← hout, hstep]; simp, by simp [hol], hdl, by simp [hlen], by simp [slot_ne, h0], by simp [slot_ne, h2], ?_, by simp (maxDischargeDepth := 16) [slot_eq, slot_ne, hlen], by simp (maxDischargeDepth := 16) [slot_eq, hlen], hext3, .inl ?_⟩
    · simp (maxDischargeDepth := 16) [slot_eq, slot_ne, hlen, d64_append, stripRows, AV.strip, d64]
    · rw [d64_len, hol] at htok3; exact htok3
   by_cases hk : k < l.length
   · have hk' : (k : Int) < l.length := by omega
     simp (maxDischargeDepth := 16) [symB, List.length_set, andThen, hlen, h0, h4, h5, hk']
     exact body _ (by simp [hlen]) (by simp [slot_ne, h0]) (by simp [slot_ne, h2]) (by simp [slot_ne, h3]) (by simp [slot_ne, h4]) (by simp [slot_ne, h5]) (by simp (maxDischargeDepth := 16) [slot_eq, slot_ne, hlen])
   · have hk' : ¬ (k : Int) < l.length := by omega
     have hc0 : (0 : Int) < c := by omega
     have hcn : 0 < c := by omega
     simp (maxDischargeDepth := 16) [symB, List.length_set, andThen, hlen, h0, h4, h5, hk', hc0, hcn]
     exact body _ (by simp [hlen]) (by simp [slot_ne, h0]) (by simp [slot_ne, h2]) (by simp [slot_ne, h3]) (by simp [slot_ne, h4]) (by simp [slot_ne, h5]) (by simp (maxDischargeDepth := 16) [slot_eq, slot_ne, hlen])
 · have hk' : ¬ (k : Int) < l.length := by omega
   have hc0 : c = 0 := by omega
   have hfin : carry (l.drop k) c = [] := by
    rcases Classical.em (carry (l.drop k) c = []) with h | h
    · exact h
    · exact absurd (hdone.2 h) hgo
   rw [hfin, List.append_nil] at hout
   simp (maxDischargeDepth := 16) [symB, List.length_set, andThen, hlen, h0, h4, h5, hk', hc0]
   refine hK4 _ _ ?_
   refine CW.cond (t := false) (by simp (maxDischargeDepth := 16) [evx_tmp, slot_eq, slot_ne, hlen]) ?_
   refine CW.exit ?_
   simp only [andThen]
   refine hR2 _ _ _ (hR _ _ _ ?_)
   simp only [outOf, if_true, andThen]
   refine hK _ _ ?_
   refine CW.reset (fun tm => tm.length = 47 ∧ slot tm 2 = .ptr σ.length 0 ∧ slot tm 3 = .sl (d64 out) t) ⟨by simp [hlen], by simp [slot_ne, h2], by simp [slot_ne, h3]⟩ ?_
   clear hK4 K4 hK3 K3 hR2 R2 hR R hK K h0 h2 h3 h4 h5 hlen tm
   rintro tm ⟨hlen, h2, h3⟩
   refine CW.seqK fun K hK => ?_
   refine CW.block ?_
   refine CW.hide fun R hR => ?_
   refine CW.loopI (fun r tm σ2 => ∃ (o2 : List Nat) (t : Tok), r = o2.length ∧ o2.length ≤ out.length ∧ drop0 o2 = normD l ∧ tm.length = 47 ∧ slot tm 2 = .ptr σ.length 0 ∧ slot tm 3 = .sl (d64 o2) t ∧ σ2 = σ1) ?_ _ _ _
    ⟨out, t, rfl, Nat.le_refl _, by unfold normD; rw [hout], hlen, h2, h3, rfl⟩
   clear h2 h3 hlen tm htok t
   rintro r tm σ2 ⟨o2, t, rfl, ho2, hnd, hlen, h2, h3, rfl⟩
   refine CW.hide fun R2 hR2 => ?_
   refine CW.seqK fun K3 hK3 => ?_
   refine CW.seqK fun K4 hK4 => CW.region ?_
   have stop : ∀ tm : List AV, tm.length = 47 → slot tm 2 = .ptr σ.length 0 → slot tm 3 = .sl (d64 o2) t → slot tm 39 = .lit (.bool false) → drop0 o2 = o2 → K4 tm σ2 := by
    intro tm hlen h2 h3 h39 hdd
    refine hK4 _ _ ?_
    refine CW.cond (t := false) (by simp (maxDischargeDepth := 16) [evx_tmp, slot_eq, slot_ne, hlen, h39]) ?_
    refine CW.exit ?_
    simp only [andThen]
    refine hR2 _ _ _ (hR _ _ _ ?_)
    simp only [outOf, if_true, andThen]
    refine hK _ _ ?_
    have hobj : σ2[σ.length]? = some (.cells [.sl [] .full] 349) := hext.get (by simp)
    have hlt : σ.length < σ2.length := (List.getElem?_eq_some_iff.1 hobj).1
    refine CW.seqK fun K5 hK5 => CW.region ?_
    simp (maxDischargeDepth := 16) [symB, List.length_set, andThen, hlen, h2, h3, hobj]
    refine hK5 _ _ ?_
    refine CW.ret (hR0 _ _ _ ⟨.agg [.sl (d64 (normD l)) t], ?_, t, rfl, ?_⟩)
    · rw [← hnd, hdd]
      simp (maxDischargeDepth := 16) [resultsA, omap, res_cell, slot_eq, slot_ne, hlen, h2, hlt, partA, aggT]
    · exact ((Ext.push (Ext.refl σ) _).trans hext).set (Nat.le_refl _)
   by_cases ho : o2 = []
   · subst ho
     simp (maxDischargeDepth := 16) [symB, List.length_set, andThen, hlen, h3, d64]
     exact stop _ (by simp [hlen]) (by simp [slot_ne, h2]) (by simp [slot_ne, h3]) (by simp (maxDischargeDepth := 16) [slot_eq, slot_ne, hlen]) rfl
   · obtain ⟨a, x, rfl⟩ : ∃ a x, o2 = a ++ [x] := ⟨o2.dropLast, o2.getLast ho, (List.dropLast_concat_getLast ho).symm⟩
     have hpos : (0 : Int) < ((a ++ [x]).length : Int) := by rw [List.length_append, List.length_singleton]; omega
     simp (maxDischargeDepth := 16) [symB, List.length_set, andThen, hlen, h3, d64_len, hpos]
     refine (top_sl (a ++ [x]) t _ (by omega)).mono ?_
     rintro r σ3 ⟨rfl, rfl⟩
     have hat : atD (a ++ [x]) (((a ++ [x]).length : Int) - 1) = x := by
      rw [show ((a ++ [x]).length : Int) - 1 = (a.length : Int) by simp, atD_nat]; simp
     rw [hat]
     by_cases hx0 : x = 0
     · subst hx0
       simp (maxDischargeDepth := 16) [symB, List.length_set, andThen, hlen, retK]
       refine hK4 _ _ ?_
       refine CW.cond (t := true) (by simp (maxDischargeDepth := 16) [evx_tmp, slot_eq, slot_ne, hlen]) ?_
       refine CW.skip ?_
       simp only [andThen]
       refine hK3 _ _ ?_
       have hal : a.length ≤ 1000000000000 := by rw [List.length_append, List.length_singleton] at ho2; omega
       have hw : IntKind.i64.wrap (a.length : Int) = (a.length : Int) := IntWalk.i64_in _ ⟨by omega, by omega⟩
       have hle : (a.length : Int) ≤ (a.length : Int) + 1 := by omega
       have hll : (d64 (a ++ [0])).length = a.length + 1 := by rw [d64_len]; simp
       have hdl : ((d64 (a ++ [0])).take a.length) = d64 a := by rw [d64_append, List.take_left' (d64_len a)]
       refine CW.block ?_
       refine CW.region ?_
       simp (maxDischargeDepth := 16) [symB, List.length_set, andThen, outOf, hlen, h3, hll, hw, hle, hdl, d64_head]
       refine hR2 _ _ _ ⟨a.length, by simp, a, sliceTok t (↑a.length) 0 (a.length + 1), rfl, by simp at ho2; omega, by rw [drop0_snoc, if_pos rfl] at hnd; exact hnd, by simp [hlen], by simp [slot_ne, h2], by simp (maxDischargeDepth := 16) [slot_eq, slot_ne, hlen], rfl⟩
     · have hx1 : ¬ (x : Int) = 0 := by omega
       simp (maxDischargeDepth := 16) [symB, List.length_set, andThen, hlen, retK, hx1, hx0]
       exact stop _ (by simp [hlen]) (by simp [slot_ne, h2]) (by simp [slot_ne, h3]) (by simp (maxDischargeDepth := 16) [slot_eq, slot_ne, hlen, hx0]) (by rw [drop0_snoc, if_neg hx0])
end
section
open Go.RowKit
theorem fill_step {l : List Nat} {i : Nat} (h : i < l.length) : (c64 (l.take i ++ List.replicate (l.length - i) 0)).set i (.lit (.int .u64 (l[i] : Nat))) = c64 (l.take (i + 1) ++ List.replicate (l.length - (i + 1)) 0) := by
 unfold c64
 rw [show l.length - i = (l.length - (i + 1)) + 1 by omega, List.replicate_succ, List.take_succ_eq_append_getElem h, List.append_assoc, List.map_append, List.map_append, List.set_append_right _ _ (by simp; omega)]
 simp [Nat.min_eq_left (Nat.le_of_lt h)]
theorem drop0_len : ∀ (l : List Nat), (drop0 l).length ≤ l.length
 | [] => by simp [drop0]
 | x :: l => by
  have := drop0_len l
  rw [drop0_cons]
  split
  · split <;> simp
  · simp only [List.length_cons]; omega
theorem normD_len (l : List Nat) (h : ∀ x ∈ l, x < 9223372036854775808) : (normD l).length < l.length + 17179869184 := Nat.lt_of_le_of_lt (drop0_len _) (carry_len l 0 h (by omega))
set_option maxRecDepth 100000 in
set_option maxHeartbeats 1000000 in
theorem of_ev (l : List Nat) (tok : Tok) (σ : Sto) (hl : l.length ≤ 1000000000) (hx : ∀ x ∈ l, x < 4294967296) : CallW Tryz.prog EV 242 [.sl (d32 l) tok] σ fun r σ' => ∃ t, r = .ret (.agg [.sl (d64 (normD l)) t]) ∧ Ext σ σ' := by
 refine CallW.start (fn := Tryz.f242) (M := [345]) rfl rfl rfl rfl (by simp) fun tm hlen hs => ?_
 have h0 := hs 0 _ rfl
 clear hs
 simp at hlen
 refine CW.hide fun R0 hR0 => ?_
 refine CW.seqK fun K hK => CW.region ?_
 simp (maxDischargeDepth := 16) [symB, List.length_set, andThen, hlen, h0]
 refine hK _ _ ?_; clear hK K
 have hc0 : (0 : Int) ≤ (l.length : Int) := by omega
 have hc2 : (8 : Int) * (l.length : Int) ≤ 140737488355328 := by omega
 have hc3 : (l.length : Int) ≤ 140737488355328 := by omega
 have hcn : l.length ≤ 140737488355328 := by omega
 refine CW.seqK fun K hK => CW.region ?_
 simp (maxDischargeDepth := 16) [symB, List.length_set, andThen, hlen, h0, d32_len, hc0, hc2, hc3, hcn]
 refine hK _ _ ?_; clear hK K
 refine CW.seqK fun K hK => ?_
 refine CW.seqK fun K2 hK2 => CW.region ?_
 simp (maxDischargeDepth := 16) [symB, List.length_set, andThen, hlen, h0, d32_len]
 refine hK2 _ _ ?_; clear hK2 K2
 refine CW.block ?_
 refine CW.hide fun R hR => ?_
 refine CW.loopI (fun r tm σ1 => ∃ i, r = l.length - i ∧ i ≤ l.length ∧ tm.length = 24 ∧ slot tm 2 = .ptr σ.length 0 ∧ slot tm 3 = .asl (σ.length + 1) 0 l.length 1 ∧ slot tm 9 = .sl (d32 l) tok ∧ slot tm 10 = .lit (.int .i64 l.length) ∧ slot tm 11 = .lit (.int .i64 i) ∧ σ1 = σ ++ [.cells [.sl [] .full] 349, .cells (c64 (l.take i ++ List.replicate (l.length - i) 0)) 327]) ?_ _ _ _
  ⟨0, rfl, by omega, by simp [hlen], by simp (maxDischargeDepth := 16) [slot_ne, slot_eq, hlen], by simp (maxDischargeDepth := 16) [slot_ne, slot_eq, hlen], by simp (maxDischargeDepth := 16) [slot_ne, slot_eq, hlen, h0], by simp (maxDischargeDepth := 16) [slot_ne, slot_eq, hlen], by simp (maxDischargeDepth := 16) [slot_eq, hlen], by simp [c64]⟩
 clear h0 hlen tm
 rintro r tm σ1 ⟨i, rfl, hi, hlen, h2, h3, h9, h10, h11, rfl⟩
 refine CW.hide fun R2 hR2 => ?_
 refine CW.seqK fun K4 hK4 => CW.region ?_
 by_cases hlt : i < l.length
 · have hlt' : (i : Int) < l.length := by omega
   simp (maxDischargeDepth := 16) [symB, List.length_set, andThen, hlen, h10, h11, hlt', hlt]
   refine hK4 _ _ ?_
   refine CW.seqK fun K3 hK3 => ?_
   refine CW.cond (t := true) (by simp (maxDischargeDepth := 16) [evx_tmp, slot_eq, slot_ne, hlen]) ?_
   refine CW.skip ?_
   simp only [andThen]
   refine hK3 _ _ ?_
   have hg := d32_get hlt
   have hfs := fill_step hlt
   have hxi := hx _ (List.getElem_mem hlt)
   generalize l[i] = x at *
   have hwx : IntKind.u64.wrap (x : Int) = x := by rw [IntKind.wrap_u64]; omega
   refine CW.seqK fun K5 hK5 => CW.block ?_
   refine CW.seqK fun K hK => CW.region ?_
   simp (maxDischargeDepth := 16) [symB, List.length_set, andThen, hlen, h9, h11, hg]
   refine hK _ _ ?_; clear hK K
   have hcl : (c64 (l.take i ++ List.replicate (l.length - i) 0)).length = l.length := by rw [c64_len]; simp; omega
   generalize hcc : c64 (l.take i ++ List.replicate (l.length - i) 0) = cc at *
   have hob : (σ ++ [.cells [.sl [] .full] 349, .cells cc 327])[σ.length + 1]? = some (.cells cc 327) := by rw [List.getElem?_append_right (by omega)]; simp
   have hst0 : (σ ++ [AObj.cells [.sl [] .full] 349, AObj.cells cc 327]).set (σ.length + 1) (AObj.cells (c64 (l.take (i + 1) ++ List.replicate (l.length - (i + 1)) 0)) 327) = σ ++ [AObj.cells [.sl [] .full] 349, AObj.cells (c64 (l.take (i + 1) ++ List.replicate (l.length - (i + 1)) 0)) 327] := by rw [List.set_append_right _ _ (by omega)]; simp
   have hle : i + 1 ≤ l.length := hlt
   refine CW.region ?_
   simp (maxDischargeDepth := 16) [symB, List.length_set, andThen, outOf, hlen, h3, hwx, hlt', hlt, hob, hcl, hle, hfs]
   refine hK5 _ _ ?_
   have hwk : IntKind.i64.wrap ((i : Int) + 1) = ((i + 1 : Nat) : Int) := wrap_succ (by omega)
   refine CW.region ?_
   simp (maxDischargeDepth := 16) [symB, List.length_set, andThen, hlen, h11, hwk]
   exact hR2 _ _ _ ⟨l.length - (i + 1), by omega, i + 1, rfl, hlt, by simp [hlen], by simp [slot_ne, h2], by simp [slot_ne, h3], by simp [slot_ne, h9], by simp [slot_ne, h10], by simp (maxDischargeDepth := 16) [slot_eq, hlen], rfl⟩
 · have hlt' : ¬ (i : Int) < l.length := by omega
   have hil : i = l.length := by omega
   subst hil
   simp (maxDischargeDepth := 16) [symB, List.length_set, andThen, hlen, h10, h11]
   refine hK4 _ _ ?_
   refine CW.seqK fun K3 hK3 => ?_
   refine CW.cond (t := false) (by simp (maxDischargeDepth := 16) [evx_tmp, slot_eq, slot_ne, hlen]) ?_
   refine CW.exit ?_
   simp only [andThen]
   refine hR2 _ _ _ (hR _ _ _ ?_)
   simp only [outOf, if_true, andThen]
   refine hK _ _ ?_
   have hcc : c64 (l.take l.length ++ List.replicate (l.length - l.length) 0) = c64 l := by simp
   try rw [hcc]
   have hob : (σ ++ [AObj.cells [.sl [] .full] 349, AObj.cells (c64 l) 327])[σ.length + 1]? = some (.cells (c64 l) 327) := by rw [List.getElem?_append_right (by omega)]; simp
   have hext0 : Ext σ (σ ++ [AObj.cells [.sl [] .full] 349, AObj.cells (c64 l) 327]) := ⟨_, rfl⟩
   have hob0 : (σ ++ [AObj.cells [.sl [] .full] 349, AObj.cells (c64 l) 327])[σ.length]? = some (.cells [.sl [] .full] 349) := by rw [List.getElem?_append_right (by omega)]; simp
   generalize (σ ++ [AObj.cells [.sl [] .full] 349, AObj.cells (c64 l) 327]) = σ1 at *
   refine CW.seqK fun K5 hK5 => CW.region ?_
   simp (maxDischargeDepth := 16) [symB, List.length_set, andThen, hlen, h3]
   refine (carried_asl l (σ.length + 1) 327 σ1 hob (by omega) (fun x h => by have := hx x h; omega)).mono ?_
   rintro r σ2 ⟨t, rfl, hext⟩
   have hobj := hext.get hob0
   have hlt2 : σ.length < σ2.length := (List.getElem?_eq_some_iff.1 hobj).1
   simp (maxDischargeDepth := 16) [symB, List.length_set, andThen, hlen, retK, h2, hobj]
   refine hK5 _ _ ?_
   refine CW.ret (hR0 _ _ _ ⟨.agg [.sl (d64 (normD l)) t], ?_, t, rfl, ?_⟩)
   · simp (maxDischargeDepth := 16) [resultsA, omap, res_cell, slot_eq, slot_ne, hlen, h2, hlt2, partA, aggT]
   · exact (hext0.trans hext).set (Nat.le_refl _)
set_option maxRecDepth 100000 in
set_option maxHeartbeats 1000000 in
theorem row_ev (l : List Nat) (tok : Tok) (σ : Sto) (hl : l.length ≤ 100000000000) (hx : ∀ x ∈ l, x < 4294967296) : CallW Tryz.prog EV 223 [.agg [.sl (d64 l) tok]] σ fun r σ' => ∃ t, r = .ret (.sl (d32 l) t) ∧ Ext σ σ' := by
 refine CallW.start (fn := Tryz.f223) (M := []) rfl rfl rfl rfl (by simp) fun tm hlen hs => ?_
 have h0 := hs 0 _ rfl
 clear hs
 simp at hlen
 refine CW.hide fun R0 hR0 => ?_
 refine CW.seqK fun K hK => CW.region ?_
 simp (maxDischargeDepth := 16) [symB, List.length_set, andThen, hlen, h0]
 refine hK _ _ ?_; clear hK K
 refine CW.seqK fun K hK => CW.region ?_
 simp (maxDischargeDepth := 16) [symB, List.length_set, andThen, hlen]
 refine hK _ _ ?_; clear hK K
 refine CW.seqK fun K hK => ?_
 refine CW.seqK fun K2 hK2 => CW.region ?_
 simp (maxDischargeDepth := 16) [symB, List.length_set, andThen, hlen, d64_len]
 refine hK2 _ _ ?_; clear hK2 K2
 refine CW.block ?_
 refine CW.hide fun R hR => ?_
 refine CW.loopI (fun r tm σ1 => ∃ (i : Nat) (t : Tok), r = l.length - i ∧ i ≤ l.length ∧ tm.length = 20 ∧ slot tm 3 = .sl (d32 (l.take i)) t ∧ slot tm 7 = .sl (d64 l) tok ∧ slot tm 8 = .lit (.int .i64 l.length) ∧ slot tm 9 = .lit (.int .i64 i) ∧ Ext σ σ1 ∧ TokAt σ σ1 (i * 1) 232 t) ?_ _ _ _
  ⟨0, .full, rfl, by omega, by simp [hlen], by simp (maxDischargeDepth := 16) [slot_ne, slot_eq, hlen, d32], by simp (maxDischargeDepth := 16) [slot_ne, slot_eq, hlen], by simp (maxDischargeDepth := 16) [slot_ne, slot_eq, hlen], by simp (maxDischargeDepth := 16) [slot_eq, hlen], ⟨_, rfl⟩, .inl ⟨rfl, rfl⟩⟩
 clear h0 hlen tm
 rintro r tm σ1 ⟨i, t, rfl, hi, hlen, h3, h7, h8, h9, hext, htok⟩
 refine CW.hide fun R2 hR2 => ?_
 refine CW.seqK fun K4 hK4 => CW.region ?_
 by_cases hlt : i < l.length
 · have hlt' : (i : Int) < l.length := by omega
   simp (maxDischargeDepth := 16) [symB, List.length_set, andThen, hlen, h8, h9, hlt', hlt]
   refine hK4 _ _ ?_
   refine CW.seqK fun K3 hK3 => ?_
   refine CW.cond (t := true) (by simp (maxDischargeDepth := 16) [evx_tmp, slot_eq, slot_ne, hlen]) ?_
   refine CW.skip ?_
   simp only [andThen]
   refine hK3 _ _ ?_
   have hg := d64_get hlt
   have htk := List.take_succ_eq_append_getElem hlt
   have hxi := hx _ (List.getElem_mem hlt)
   generalize l[i] = x at *
   have hwx : IntKind.u32.wrap (x : Int) = x := by rw [IntKind.wrap_u32]; omega
   refine CW.seqK fun K5 hK5 => CW.block ?_
   refine CW.seqK fun K hK => CW.region ?_
   simp (maxDischargeDepth := 16) [symB, List.length_set, andThen, hlen, h7, h9, hg]
   refine hK _ _ ?_; clear hK K
   obtain ⟨t', σ3, acc, hext3, htok3, hap⟩ := append_at (P := Tryz.prog) (M := []) (σ := σ1) (es := d32 (l.take i)) (tok := t) (tk := .full) (fs := [[.lit (.int .u32 (x : Int))]]) (t := 36) Tryz.underlying36 szOf_232 bytesOf_232 zeroOf_232 rfl
    (by rw [d32_len, List.length_take, Nat.min_eq_left hi]; exact htok) hext (d32_head _) rfl (by simp) (by rw [d32_len]; simp; omega) (by rw [d32_len]; simp; omega)
   refine CW.region ?_
   simp (maxDischargeDepth := 16) [symB, List.length_set, andThen, outOf, hlen, h3, hwx, hap]
   refine hK5 _ _ ?_
   have hwk : IntKind.i64.wrap ((i : Int) + 1) = ((i + 1 : Nat) : Int) := wrap_succ (by omega)
   refine CW.region ?_
   simp (maxDischargeDepth := 16) [symB, List.length_set, andThen, hlen, h9, hwk]
   refine hR2 _ _ _ ⟨l.length - (i + 1), by omega, i + 1, t', rfl, hlt, by simp [hlen], ?_, by simp [slot_ne, h7], by simp [slot_ne, h8], by simp (maxDischargeDepth := 16) [slot_eq, hlen], hext3, ?_⟩
   · rw [htk, d32_append]; simp (maxDischargeDepth := 16) [slot_eq, slot_ne, hlen, stripRows, AV.strip]; rfl
   · rw [d32_len, List.length_take, Nat.min_eq_left hi] at htok3; exact htok3
 · have hlt' : ¬ (i : Int) < l.length := by omega
   have hil : i = l.length := by omega
   subst hil
   simp (maxDischargeDepth := 16) [symB, List.length_set, andThen, hlen, h8, h9]
   refine hK4 _ _ ?_
   refine CW.seqK fun K3 hK3 => ?_
   refine CW.cond (t := false) (by simp (maxDischargeDepth := 16) [evx_tmp, slot_eq, slot_ne, hlen]) ?_
   refine CW.exit ?_
   simp only [andThen]
   refine hR2 _ _ _ (hR _ _ _ ?_)
   simp only [outOf, if_true, andThen]
   refine hK _ _ ?_
   refine CW.seqK fun K hK => CW.region ?_
   simp (maxDischargeDepth := 16) [symB, List.length_set, andThen, hlen, h3]
   refine hK _ _ ?_; clear hK K
   refine CW.ret (hR0 _ _ _ ⟨.sl (d32 l) t, ?_, t, rfl, hext⟩)
   simp (maxDischargeDepth := 16) [resultsA, omap, res_tmp, slot_eq, slot_ne, hlen]
set_option maxRecDepth 100000 in
theorem Trim_ev (l : List Nat) (tok : Tok) (σ : Sto) (hl : l.length ≤ 1000000000) (hx : ∀ x ∈ l, x < 4294967296) : CallW Tryz.prog EV 224 [.sl (d32 l) tok] σ fun r σ' => ∃ t, r = .ret (.sl (d32 (normD l)) t) ∧ Ext σ σ' := by
 refine CallW.start (fn := Tryz.f224) (M := []) rfl rfl rfl rfl (by simp) fun tm hlen hs => ?_
 have h0 := hs 0 _ rfl
 clear hs
 simp at hlen
 refine CW.hide fun R0 hR0 => ?_
 refine CW.seqK fun K hK => CW.region ?_
 simp (maxDischargeDepth := 16) [symB, List.length_set, andThen, hlen, h0]
 refine hK _ _ ?_; clear hK K
 refine CW.seqK fun K hK => CW.region ?_
 simp (maxDischargeDepth := 16) [symB, List.length_set, andThen, hlen, h0]
 refine (of_ev l tok σ hl hx).mono ?_
 rintro r σ2 ⟨t, rfl, hext⟩
 simp (maxDischargeDepth := 16) [symB, List.length_set, andThen, hlen, retK]
 have hn := normD_ok l
 have hnl := normD_len l (fun x h => by have := hx x h; omega)
 refine (row_ev (normD l) t σ2 (by omega) (fun x h => by have := hn.1 x h; unfold B9 at this; omega)).mono ?_
 rintro r σ3 ⟨t2, rfl, hext2⟩
 simp (maxDischargeDepth := 16) [symB, List.length_set, andThen, hlen, retK]
 refine hK _ _ ?_
 refine CW.ret (hR0 _ _ _ ⟨.sl (d32 (normD l)) t2, ?_, t2, rfl, hext.trans hext2⟩)
 simp (maxDischargeDepth := 16) [resultsA, omap, res_tmp, slot_eq, slot_ne, hlen]
end
end Go.Proofs.YtkkblmdgedmdfaaGreatDoor
