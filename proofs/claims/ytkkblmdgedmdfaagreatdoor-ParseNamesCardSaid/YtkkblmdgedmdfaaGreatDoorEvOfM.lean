/-
 EV: nat.Of.
-/
import Derived.Test.YtkkblmdgedmdfaaGreatDoorEvNumM
namespace Go.Proofs.YtkkblmdgedmdfaaGreatDoor
set_option linter.unusedSimpArgs false
set_option linter.unusedVariables false
section
open Go.RowKit
theorem parseU_p (s : List UInt8) (h0 : s ≠ []) (hl : s.length ≤ 18) (hd : isDec s = true) (σ : Sto) : CallW Tryz.prog EV 221 [.lit (.string (bs s)), .lit (.int .i64 10), .lit (.int .i64 64)] σ fun r σ' => r = .ret (.tup [.lit (.int .u64 (valD s)), .lit .nilIface]) ∧ σ' = σ :=
 CallW.prim (g := primParseU) rfl (by unfold primParseU; dsimp only; rw [if_pos ⟨⟨rfl, rfl⟩, by rw [bsz]; exact hl, h0, hd⟩]; rfl) ⟨rfl, rfl⟩
theorem chunksE_len : ∀ (n : Nat) (s : List UInt8), s.length ≤ n → (chunksE s).length ≤ s.length
 | 0, s, h => by
  have : s = [] := List.length_eq_zero_iff.1 (by omega)
  subst this; rw [chunksE]; simp
 | n + 1, s, h => by
  rw [chunksE]
  split
  · simp
  · rename_i hs
    have hp : 0 < s.length := List.length_pos_iff.2 hs
    have := chunksE_len n (s.take (s.length - 9)) (by simp; omega)
    simp only [List.length_cons, List.length_take] at this ⊢
    omega
def OfR (s : List UInt8) (σ : Sto) (r : ARes) (σ' : Sto) : Prop := (match natOf s with | none => r = .ret (.tup [.sl [] .full, .lit (.bool false)]) | some d => ∃ t, r = .ret (.tup [.sl (d32 d) t, .lit (.bool true)])) ∧ Ext σ σ'
set_option maxRecDepth 100000 in
set_option maxHeartbeats 2000000 in
theorem natOf_ev (s : List UInt8) (σ : Sto) (hl : s.length ≤ 1000000) : CallW Tryz.prog EV 198 [.lit (.string (bs s))] σ (OfR s σ) := by
 refine CallW.start (fn := Tryz.f198) (M := []) rfl rfl rfl rfl (by simp) fun tm hlen hs => ?_
 have h0 := hs 0 _ rfl
 clear hs
 simp at hlen
 refine CW.hide fun R0 hR0 => ?_
 refine CW.seqK fun K hK => CW.region ?_
 simp (maxDischargeDepth := 16) [symB, List.length_set, andThen, hlen, h0]
 refine hK _ _ ?_; clear hK K
 refine CW.seqK fun K hK => ?_
 refine CW.seqK fun K2 hK2 => CW.region ?_
 have bad : natOf s = none → ∀ tm : List AV, tm.length = 49 → slot tm 24 = .lit (.bool true) → K2 tm σ := by
  intro hn tm hlen h24
  refine hK2 _ _ ?_
  refine CW.cond (t := true) (by simp (maxDischargeDepth := 16) [evx_tmp, slot_eq, slot_ne, hlen, h24]) ?_
  refine CW.seqK fun K hK => CW.region ?_
  simp (maxDischargeDepth := 16) [symB, List.length_set, andThen, hlen]
  refine hK _ _ ?_; clear hK K
  refine CW.ret ?_
  simp only [andThen]
  refine hR0 _ _ _ ⟨.tup [.sl [] .full, .lit (.bool false)], ?_, by rw [hn], .refl _⟩
  simp (maxDischargeDepth := 16) [resultsA, omap, res_tmp, slot_eq, slot_ne, hlen]
 have good : isDec s = true → ¬ (s = [] ∨ (s.length > 1 ∧ s.head? = some 48)) → ∀ tm : List AV, tm.length = 49 → slot tm 24 = .lit (.bool false) → slot tm 0 = .lit (.string (bs s)) → K2 tm σ := by
  intro hdec hn tm hlen h24 h0
  have hno : natOf s = some (normD (chunksE s)) := by unfold natOf; rw [if_neg (by rw [hdec]; simp at hn ⊢; exact hn)]
  have hR0 : ∀ x tm1 σ1, bodyW Tryz.prog Tryz.f198 (fun r σ' => (∃ t, r = .ret (.tup [.sl (d32 (normD (chunksE s))) t, .lit (.bool true)])) ∧ Ext σ σ') x tm1 σ1 → R0 x tm1 σ1 := by
   intro x tm1 σ1 h
   refine hR0 _ _ _ ?_
   have e : (OfR s σ) = (fun r σ' => (∃ t, r = .ret (.tup [.sl (d32 (normD (chunksE s))) t, .lit (.bool true)])) ∧ Ext σ σ') := by funext r σ'; unfold OfR; rw [hno]
   rw [e]; exact h
  refine hK2 _ _ ?_
  refine CW.cond (t := false) (by simp (maxDischargeDepth := 16) [evx_tmp, slot_eq, slot_ne, hlen, h24]) ?_
  refine CW.skip ?_
  simp only [andThen]
  refine hK _ _ ?_
  refine CW.seqK fun K hK => CW.region ?_
  simp (maxDischargeDepth := 16) [symB, List.length_set, andThen, hlen]
  refine hK _ _ ?_; clear hK K
  refine CW.seqK fun K5 hK5 => ?_
  refine CW.block ?_
  refine CW.hide fun R hR => ?_
  refine CW.loopI (fun r tm σ1 => ∃ (q : List UInt8) (d : List Nat) (t : Tok), r = q.length ∧ d ++ chunksE q = chunksE s ∧ isDec q = true ∧ q.length ≤ s.length ∧ tm.length = 49 ∧ slot tm 0 = .lit (.string (bs q)) ∧ slot tm 4 = .sl (d64 d) t ∧ Ext σ σ1 ∧ TokAt σ σ1 (d.length * 1) 327 t) ?_ _ _ _
   ⟨s, [], .full, rfl, rfl, hdec, Nat.le_refl _, by simp [hlen], by simp [slot_ne, h0], by simp (maxDischargeDepth := 16) [slot_eq, hlen, d64], .refl _, .inl ⟨rfl, rfl⟩⟩
  clear h0 h24 hlen tm
  rintro r tm σ1 ⟨q, d, t, rfl, hch, hdq, hql, hlen, h0, h4, hext, htok⟩
  have hcl := chunksE_len _ s (Nat.le_refl _)
  have hdl : d.length + (chunksE q).length ≤ s.length := by rw [← List.length_append, hch]; exact hcl
  refine CW.hide fun R2 hR2 => ?_
  refine CW.seqK fun K3 hK3 => ?_
  refine CW.seqK fun K4 hK4 => CW.region ?_
  by_cases hq : q = []
  · subst hq
    have hz : (bs []).size = 0 := bsz []
    simp (maxDischargeDepth := 16) [symB, List.length_set, andThen, hlen, h0, hz]
    refine hK4 _ _ ?_
    refine CW.cond (t := false) (by simp (maxDischargeDepth := 16) [evx_tmp, slot_eq, slot_ne, hlen]) ?_
    refine CW.exit ?_
    simp only [andThen]
    refine hR2 _ _ _ (hR _ _ _ ?_)
    simp only [outOf, if_true, andThen]
    refine hK5 _ _ ?_
    have hde : d = chunksE s := by rw [← hch, chunksE]; simp
    have hlt := chunksE_lt s hdec
    rw [← hde] at hlt hR0
    refine CW.seqK fun K6 hK6 => CW.region ?_
    simp (maxDischargeDepth := 16) [symB, List.length_set, andThen, hlen, h4]
    refine (carried_sl d t σ1 (by omega) (fun x h => by have := hlt x h; unfold B9 at this; omega)).mono ?_
    rintro r σ2 ⟨t2, rfl, hext2⟩
    simp (maxDischargeDepth := 16) [symB, List.length_set, andThen, hlen, retK]
    have hnl := normD_len d (fun x h => by have := hlt x h; unfold B9 at this; omega)
    refine (row_ev (normD d) t2 σ2 (by omega) (fun x h => by have := (normD_ok d).1 x h; unfold B9 at this; omega)).mono ?_
    rintro r σ3 ⟨t3, rfl, hext3⟩
    simp (maxDischargeDepth := 16) [symB, List.length_set, andThen, hlen, retK]
    refine hK6 _ _ ?_
    refine CW.ret (hR0 _ _ _ ⟨.tup [.sl (d32 (normD d)) t3, .lit (.bool true)], ?_, ⟨t3, rfl⟩, (hext.trans hext2).trans hext3⟩)
    simp (maxDischargeDepth := 16) [resultsA, omap, res_tmp, slot_eq, slot_ne, hlen]
  · have hqp : 0 < q.length := List.length_pos_iff.2 hq
    have hqp' : (0 : Int) < q.length := by omega
    simp (maxDischargeDepth := 16) [symB, List.length_set, andThen, hlen, h0, bsz, hqp, hqp']
    refine hK4 _ _ ?_
    refine CW.cond (t := true) (by simp (maxDischargeDepth := 16) [evx_tmp, slot_eq, slot_ne, hlen]) ?_
    refine CW.skip ?_
    simp only [andThen]
    refine hK3 _ _ ?_
    refine CW.block ?_
    obtain ⟨x, hx⟩ : ∃ x : Int, x = (q.length : Int) - 9 := ⟨_, rfl⟩
    have hw9 : IntKind.i64.wrap ((q.length : Int) - 9) = x := by rw [IntWalk.i64_in _ ⟨by omega, by omega⟩, hx]
    obtain ⟨m, hm⟩ : ∃ m : Nat, m = q.length - 9 := ⟨_, rfl⟩
    have hmax : (if x < 0 then (0 : Int) else x) = (m : Int) := by split <;> omega
    refine CW.seqK fun K hK => CW.region ?_
    simp (maxDischargeDepth := 16) [symB, List.length_set, andThen, hlen, h0, bsz, hw9, hmax]
    refine hK _ _ ?_; clear hK K
    have hms : m ≤ q.length := by omega
    have hmi : (m : Int) ≤ (q.length : Int) := by omega
    have htn : ((q.length : Int)).toNat = q.length := by omega
    have htk : (q.take q.length).drop m = q.drop m := by rw [List.take_length]
    refine CW.seqK fun K6 hK6 => CW.region ?_
    simp (maxDischargeDepth := 16) [symB, List.length_set, andThen, hlen, h0, bsz, hms, hmi, bs_ext, htn, htk]
    have hdd : isDec (q.drop m) = true := by simp only [isDec, List.all_eq_true] at hdq ⊢; exact fun y hy => hdq y (List.mem_of_mem_drop hy)
    have hdt : isDec (q.take m) = true := by simp only [isDec, List.all_eq_true] at hdq ⊢; exact fun y hy => hdq y (List.mem_of_mem_take hy)
    refine (parseU_p (q.drop m) (fun e => by have := congrArg List.length e; simp at this; omega) (by simp; omega) hdd σ1).mono ?_
    rintro r σ2 ⟨rfl, rfl⟩
    have hchq : chunksE q = valD (q.drop m) :: chunksE (q.take m) := by rw [chunksE, dif_neg hq, hm]
    generalize hv : valD (q.drop m) = v at *
    simp (maxDischargeDepth := 16) [symB, List.length_set, andThen, hlen, retK]
    refine hK6 _ _ ?_; clear hK6 K6
    obtain ⟨t', σ3, acc, hext3, htok3, hap⟩ := append_at (P := Tryz.prog) (M := []) (σ := σ2) (es := d64 d) (tok := t) (tk := .full) (fs := [[.lit (.int .u64 (v : Int))]]) (t := 345) Tryz.underlying345 szOf_327 bytesOf_327 zeroOf_327 rfl
     (by rw [d64_len]; exact htok) hext (d64_head _) rfl (by simp) (by rw [d64_len]; simp; omega) (by rw [d64_len]; simp; omega)
    refine CW.draw (by kernel_rfl) ?_
    have ht0 : (q.take m).drop 0 = q.take m := rfl
    simp (maxDischargeDepth := 16) [symB, List.length_set, andThen, outOf, hlen, h0, h4, bsz, hms, hmi, bs_ext, hap]
    refine ⟨by cases acc <;> kernel_rfl, hR2 _ _ _ ⟨(q.take m).length, by simp; omega, q.take m, d ++ [v], t', rfl, by rw [← hch, hchq]; simp, hdt, by simp; omega, by simp [hlen], by simp (maxDischargeDepth := 16) [slot_eq, hlen], ?_, hext3, ?_⟩⟩
    · simp (maxDischargeDepth := 16) [slot_eq, slot_ne, hlen, d64_append, stripRows, AV.strip, d64]
    · rw [d64_len] at htok3; simpa using htok3
 cases s with
 | nil =>
  have hz : (bs []).toList = [] := bs_list []
  simp (maxDischargeDepth := 16) [symB, List.length_set, andThen, hlen, h0, hz]
  exact bad (by simp [natOf]) _ (by simp [hlen]) (by simp (maxDischargeDepth := 16) [slot_eq, slot_ne, hlen])
 | cons b r =>
  have hne : (b :: r) ≠ [] := by simp
  by_cases h1 : r = []
  · subst h1
    simp (maxDischargeDepth := 16) [symB, List.length_set, andThen, hlen, h0, bs_list, bsz]
    refine (decimal_ev [b] σ (by simp)).mono ?_
    rintro r σ2 ⟨rfl, rfl⟩
    cases hd : isDec [b] with
    | false =>
     simp (maxDischargeDepth := 16) [symB, List.length_set, andThen, hlen, retK]
     exact bad (by simp [natOf, hd]) _ (by simp [hlen]) (by simp (maxDischargeDepth := 16) [slot_eq, slot_ne, hlen])
    | true =>
     simp (maxDischargeDepth := 16) [symB, List.length_set, andThen, hlen, retK]
     exact good hd (by simp) _ (by simp [hlen]) (by simp (maxDischargeDepth := 16) [slot_eq, slot_ne, hlen]) (by simp (maxDischargeDepth := 16) [slot_eq, slot_ne, hlen, h0])
  · have hr1 : 0 < r.length := List.length_pos_iff.2 h1
    have hr2 : (1 : Int) < (r.length : Int) + 1 := by omega
    have hg : ∀ h : 0 < (bs (b :: r)).size, (bs (b :: r))[0]'h = b := fun h => rfl
    by_cases hb : b = 48
    · subst hb
      simp (maxDischargeDepth := 16) [symB, List.length_set, andThen, hlen, h0, bs_list, bsz, hr1, hr2, hg]
      exact bad (by unfold natOf; rw [if_pos (.inr (.inl ⟨by simp; omega, rfl⟩))]) _ (by simp [hlen]) (by simp (maxDischargeDepth := 16) [slot_eq, slot_ne, hlen])
    · have hb2 : ¬ (b.toNat : Int) = 48 := by
       intro e; exact hb (UInt8.toNat_inj.1 (by simpa using (by omega : b.toNat = 48)))
      have hb3 : ¬ b.toNat = 48 := by omega
      simp (maxDischargeDepth := 16) [symB, List.length_set, andThen, hlen, h0, bs_list, bsz, hr1, hr2, hg, hb2, hb3]
      refine (decimal_ev (b :: r) σ (by omega)).mono ?_
      rintro r' σ2 ⟨rfl, rfl⟩
      cases hd : isDec (b :: r) with
      | false =>
       simp (maxDischargeDepth := 16) [symB, List.length_set, andThen, hlen, retK, hb2, hb3]
       exact bad (by simp [natOf, hd]) _ (by simp [hlen]) (by simp (maxDischargeDepth := 16) [slot_eq, slot_ne, hlen])
      | true =>
       simp (maxDischargeDepth := 16) [symB, List.length_set, andThen, hlen, retK, hb2, hb3]
       refine good hd ?_ _ ?_ ?_ ?_
       · simp [hb]
       · simp [hlen]
       · simp (maxDischargeDepth := 16) [slot_eq, slot_ne, hlen]
       · simp (maxDischargeDepth := 16) [slot_eq, slot_ne, hlen, h0]
end
section
open Go.RowKit
theorem natText_ge : ∀ (l : List Nat), (∀ x ∈ l, x < B9) → l.length ≤ (natText l).length
 | [], _ => by simp
 | [x], h => by have := (natText_len [x] h).1; simpa using this
 | x :: y :: l, h => by
  have ih := natText_ge (y :: l) (fun z hz => h z (List.mem_cons_of_mem _ hz))
  rw [natText_cons (by simp), List.length_append, padN_len (h x (by simp))]
  simp only [List.length_cons] at ih ⊢; omega
def cutM (s : List UInt8) : List UInt8 := if s.head? = some 45 then s.tail else s
def numOf (s : List UInt8) : Option (Bool × List Nat) :=
 match natOf (cutM s) with
 | none => none
 | some d => if s.head? == some 45 && (d.length == 0) then none else some (s.head? == some 45, d)
def ParseR (s : List UInt8) (σ : Sto) (r : ARes) (σ' : Sto) : Prop := (match numOf s with | none => r = .ret (.tup [.agg [.lit (.bool false), .sl [] .full], .lit (.bool false)]) | some (b, d) => ∃ t, r = .ret (.tup [.agg [.lit (.bool b), .sl (d32 d) t], .lit (.bool true)])) ∧ Ext σ σ'
set_option maxRecDepth 100000 in
set_option maxHeartbeats 1000000 in
theorem numParse_ev (s : List UInt8) (σ : Sto) (hl : s.length ≤ 1000000) : CallW Tryz.prog EV 163 [.lit (.string (bs s))] σ (ParseR s σ) := by
 refine CallW.start (fn := Tryz.f163) (M := []) rfl rfl rfl rfl (by simp) fun tm hlen hs => ?_
 have h0 := hs 0 _ rfl
 clear hs
 simp at hlen
 refine CW.hide fun R0 hR0 => ?_
 refine CW.seqK fun K hK => CW.region ?_
 simp (maxDischargeDepth := 16) [symB, List.length_set, andThen, hlen, h0]
 refine hK _ _ ?_; clear hK K
 have hcm : (cutM s).length ≤ s.length := by unfold cutM; split <;> simp
 have hA : ∃ σA : Sto, σA = σ ++ [AObj.cells [.lit (.bool false), .sl [] .full] 38] := ⟨_, rfl⟩
 refine CW.seqK fun K hK => CW.region ?_
 simp (maxDischargeDepth := 16) [symB, List.length_set, andThen, hlen, h0]
 refine (cut1_ev s 45 _ (by omega)).mono ?_
 rintro r σ2 ⟨rfl, rfl⟩
 have hcd : (if s.head? = some 45 then s.tail else s) = cutM s := rfl
 rw [hcd]
 unfold ParseR numOf at hR0
 generalize (s.head? == some 45) = neg at *
 generalize hq : cutM s = q at *
 simp (maxDischargeDepth := 16) [symB, List.length_set, andThen, hlen, retK]
 refine hK _ _ ?_; clear hK K
 refine CW.reset (fun tm => tm.length = 33 ∧ slot tm 2 = .ptr σ.length 0 ∧ slot tm 4 = .lit (.string (bs q)) ∧ slot tm 5 = .lit (.bool neg)) ⟨by simp [hlen], by simp (maxDischargeDepth := 16) [slot_eq, slot_ne, hlen], by simp (maxDischargeDepth := 16) [slot_eq, slot_ne, hlen], by simp (maxDischargeDepth := 16) [slot_eq, slot_ne, hlen]⟩ ?_
 clear h0 hlen tm hA
 rintro tm ⟨hlen, h2, h4, h5⟩
 refine CW.seqK fun K hK => CW.region ?_
 simp (maxDischargeDepth := 16) [symB, List.length_set, andThen, hlen, h4]
 refine (natOf_ev q _ (by omega)).mono ?_
 rintro r σ3 hr
 unfold OfR at hr
 obtain ⟨hr, hext⟩ := hr
 obtain ⟨hob, hlt⟩ := hext.at
 cases hno : natOf q with
 | none =>
  rw [hno] at hr
  dsimp only at hr
  subst hr
  rw [hno] at hR0
  dsimp only at hR0
  simp (maxDischargeDepth := 16) [symB, List.length_set, andThen, hlen, retK]
  refine hK _ _ ?_; clear hK K
  refine CW.seqK fun K hK => ?_
  refine CW.seqK fun K hK => CW.region ?_
  simp (maxDischargeDepth := 16) [symB, List.length_set, andThen, hlen]
  refine hK _ _ ?_; clear hK K
  refine CW.cond (t := true) (by simp (maxDischargeDepth := 16) [evx_tmp, slot_eq, slot_ne, hlen]) ?_
  refine CW.seqK fun K2 hK2 => CW.region ?_
  simp (maxDischargeDepth := 16) [symB, List.length_set, andThen, hlen, h2, hob]
  refine hK2 _ _ ?_
  refine CW.ret ?_
  simp only [andThen]
  refine hR0 _ _ _ ⟨.tup [.agg [.lit (.bool false), .sl [] .full], .lit (.bool false)], ?_, rfl, hext.of_push.set (Nat.le_refl _)⟩
  simp (maxDischargeDepth := 16) [resultsA, omap, res_tmp, res_cell, slot_eq, slot_ne, hlen, h2, hlt, partA, aggT]
 | some d =>
  rw [hno] at hr
  dsimp only at hr
  obtain ⟨t, rfl⟩ := hr
  rw [hno] at hR0
  dsimp only at hR0
  obtain ⟨hrd, _⟩ := natOf_text hno
  have hdl : d.length ≤ 1000000000 := by
   have h1 : d.length ≤ (natText d).length := natText_ge d hrd.1
   rw [(natOf_text hno).2] at h1
   omega
  simp (maxDischargeDepth := 16) [symB, List.length_set, andThen, hlen, retK]
  refine hK _ _ ?_; clear hK K
  refine CW.seqK fun K hK => ?_
  refine CW.seqK fun K2 hK2 => CW.region ?_
  have bad : (neg && (d.length == 0)) = true → ∀ tm : List AV, tm.length = 33 → slot tm 2 = .ptr σ.length 0 → slot tm 27 = .lit (.bool true) → K2 tm σ3 := by
   intro hc tm hlen h2 h27
   rw [if_pos hc] at hR0
   refine hK2 _ _ ?_
   refine CW.cond (t := true) (by simp (maxDischargeDepth := 16) [evx_tmp, slot_eq, slot_ne, hlen, h27]) ?_
   refine CW.seqK fun K3 hK3 => CW.region ?_
   simp (maxDischargeDepth := 16) [symB, List.length_set, andThen, hlen, h2, hob]
   refine hK3 _ _ ?_
   refine CW.ret ?_
   simp only [andThen]
   refine hR0 _ _ _ ⟨.tup [.agg [.lit (.bool false), .sl [] .full], .lit (.bool false)], ?_, rfl, hext.of_push.set (Nat.le_refl _)⟩
   simp (maxDischargeDepth := 16) [resultsA, omap, res_tmp, res_cell, slot_eq, slot_ne, hlen, h2, hlt, partA, aggT]
  have good : ¬ (neg && (d.length == 0)) = true → ∀ tm : List AV, tm.length = 33 → slot tm 2 = .ptr σ.length 0 → slot tm 6 = .sl (d32 d) t → slot tm 5 = .lit (.bool neg) → slot tm 27 = .lit (.bool false) → K2 tm σ3 := by
   intro hc tm hlen h2 h6 h5 h27
   rw [if_neg hc] at hR0
   dsimp only at hR0
   refine hK2 _ _ ?_
   refine CW.cond (t := false) (by simp (maxDischargeDepth := 16) [evx_tmp, slot_eq, slot_ne, hlen, h27]) ?_
   refine CW.skip ?_
   simp only [andThen]
   refine hK _ _ ?_
   refine CW.seqK fun K3 hK3 => CW.region ?_
   simp (maxDischargeDepth := 16) [symB, List.length_set, andThen, hlen, h5, h6]
   refine (made_ev d neg t σ3 hdl (fun x h => by have := hrd.1 x h; unfold B9 at this; omega)).mono ?_
   rintro r σ4 ⟨t2, rfl, hext4⟩
   have hng : (neg && !((normD d).length == 0)) = neg := by rw [normD_right hrd]; cases neg <;> simp_all
   rw [hng, normD_right hrd]
   simp (maxDischargeDepth := 16) [symB, List.length_set, andThen, hlen, retK]
   refine (out_ev d neg t2 σ4).mono ?_
   rintro r σ5 ⟨rfl, hext5⟩
   have hob5 := hext5.get (hext4.get hob)
   have hlt5 : σ.length < σ5.length := (List.getElem?_eq_some_iff.1 hob5).1
   simp (maxDischargeDepth := 16) [symB, List.length_set, andThen, hlen, retK, h2, hob5]
   refine hK3 _ _ ?_
   refine CW.ret (hR0 _ _ _ ⟨.tup [.agg [.lit (.bool neg), .sl (d32 d) t2], .lit (.bool true)], ?_, ⟨t2, rfl⟩, ((hext.of_push.trans hext4).trans hext5).set (Nat.le_refl _)⟩)
   simp (maxDischargeDepth := 16) [resultsA, omap, res_tmp, res_cell, slot_eq, slot_ne, hlen, h2, hlt5, partA, aggT]
  cases neg with
  | false =>
   simp (maxDischargeDepth := 16) [symB, List.length_set, andThen, hlen, h5]
   exact good (by simp) _ (by simp [hlen]) (by simp [slot_ne, h2]) (by simp (maxDischargeDepth := 16) [slot_eq, slot_ne, hlen]) (by simp [slot_ne, h5]) (by simp (maxDischargeDepth := 16) [slot_eq, slot_ne, hlen])
  | true =>
   cases d with
   | nil =>
    have hd0 : (d32 []).length = 0 := rfl
    simp (maxDischargeDepth := 16) [symB, List.length_set, andThen, hlen, h5, hd0]
    exact bad (by simp) _ (by simp [hlen]) (by simp [slot_ne, h2]) (by simp (maxDischargeDepth := 16) [slot_eq, slot_ne, hlen])
   | cons x d =>
    have hd0 : (d32 (x :: d)).length = d.length + 1 := d32_len _
    have hd1 : ¬ (d.length : Int) + 1 = 0 := by omega
    simp (maxDischargeDepth := 16) [symB, List.length_set, andThen, hlen, h5, hd0, hd1]
    exact good (by simp) _ (by simp [hlen]) (by simp [slot_ne, h2]) (by simp (maxDischargeDepth := 16) [slot_eq, slot_ne, hlen]) (by simp [slot_ne, h5]) (by simp (maxDischargeDepth := 16) [slot_eq, slot_ne, hlen, hd1])
end
section
abbrev Ans := List AV × Option Int
def strA (s : List UInt8) : AV := .lit (.string (bs s))
def boolA (b : Bool) : AV := .lit (.bool b)
def u8A (n : Nat) : AV := .lit (.int .u8 n)
def nilA : AV := .sl [] .no
def rowsA' (l : List (List AV)) : AV := .sl l .no
def intZ : List AV := [boolA false, nilA]
def termZ : List AV := [u8A 0, strA [], boolA false, nilA, nilA]
def kindZ : List AV := [boolA false, strA []] ++ termZ ++ [nilA, nilA]
def paramZ : List AV := strA [] :: kindZ
def atomZ : List AV := [u8A 0, strA [], boolA false, nilA, boolA false]
def rhsZ : List AV := [u8A 0, strA [], nilA, nilA, nilA, nilA, nilA]
def exprZ : List AV := [u8A 0, strA [], nilA, nilA] ++ atomZ ++ [nilA, nilA]
def armZ : List AV := [strA [], nilA, nilA]
def conZ : List AV := [strA [], nilA]
def sortedZ : List AV := [strA [], strA []]
def headS : Tr → List UInt8
 | .mk _ (.mk w _ false _ :: _) true _ => w
 | _ => []
def nameS (t : Tr) : Ans := if t.row || !nameOk t.word then ([strA []], some t.at_) else ([strA t.word], none)
def numS (t : Tr) : Option (Bool × List Nat) := if t.row || decide (400 < t.word.length) then none else numOf t.word
def numC (p : Bool × List Nat) : List AV := [boolA p.1, rowsA' (d32 p.2)]
def wholeS (t : Tr) : Ans := match numS t with | none => (intZ, some t.at_) | some p => (numC p, none)
def restS (f : Tr → Ans) : List Tr → List (List AV) × Option Int
 | [] => ([], none)
 | t :: l => match (f t).2 with
  | some p => ([(f t).1], some p)
  | none => ((f t).1 :: (restS f l).1, (restS f l).2)
def allS (f : Tr → Ans) (t : Tr) : List (List AV) × Option Int := if t.row then restS f t.kids else ([], some t.at_)
def partsG : List (Tr → Ans) → List Tr → List (Option (List AV)) × Option Int
 | f :: fs, t :: l => match (f t).2 with
  | some p => (some (f t).1 :: fs.map (fun _ => none), some p)
  | none => (some (f t).1 :: (partsG fs l).1, (partsG fs l).2)
 | fs, _ => (fs.map fun _ => none, none)
def partsS (fs : List (Tr → Ans)) (t : Tr) : List (Option (List AV)) × Option Int :=
 if t.row && (t.kids.length == fs.length) then partsG fs t.kids else (fs.map fun _ => none, some t.at_)
def putO (cs : List AV) (off : Nat) : Option (Option (List AV)) → List AV
 | some (some v) => putCells cs off v
 | _ => cs
def skipS (t : Tr) : Ans := ([], none)
def fieldOk (s : List UInt8) : Bool := match s with | [c] => decide (48 ≤ c.toNat) && decide (c.toNat ≤ 57) | _ => false
def cutDot (s : List UInt8) : Option (List UInt8 × List UInt8) :=
 match s with
 | [] => none
 | c :: l => if c = 46 then some ([], l) else (cutDot l).map fun p => (c :: p.1, p.2)
def funcOk (s : List UInt8) : Bool := decide (s = [116, 97, 103]) || (match cutDot s with | some (a, b) => nameOk a && fieldOk b | none => false)
def formS (w : List UInt8) : Option (Nat × Int) :=
 if w = [43] then some (5, -1) else if w = [61] then some (8, 2) else if w = [60, 61] then some (9, 2) else if w = [110, 111, 116] then some (10, 1)
 else if w = [97, 110, 100] then some (11, -1) else if w = [111, 114] then some (12, -1) else if w = [105, 102, 102] then some (13, 2) else none
def primW : List (List UInt8) := [[97, 100, 100], [115, 117, 98], [109, 117, 108], [100, 105, 118], [109, 111, 100], [101, 113], [108, 101], [108, 116], [97, 110, 100], [111, 114], [110, 111, 116]]
def trueW : List UInt8 := [116, 114, 117, 101]
def falseW : List UInt8 := [102, 97, 108, 115, 101]
def atomS (t : Tr) : Ans := match numS t with
 | some p => (u8A 2 :: strA [] :: numC p ++ [boolA false], none)
 | none => if !t.row && (decide (t.word = trueW) || decide (t.word = falseW)) then ([u8A 3, strA []] ++ intZ ++ [boolA (decide (t.word = trueW))], none)
  else (u8A 1 :: (nameS t).1 ++ intZ ++ [boolA false], (nameS t).2)
def wordS (t : Tr) : Ans := match numS t with
 | some p => (u8A 2 :: strA [] :: numC p ++ [nilA], none)
 | none => if t.word = trueW then (u8A 3 :: strA [] :: intZ ++ [nilA], none) else if t.word = falseW then (u8A 4 :: strA [] :: intZ ++ [nilA], none)
  else (u8A 1 :: (nameS t).1 ++ intZ ++ [nilA], (nameS t).2)
def restO (o : Option Int) (f : Tr → Ans) (l : List Tr) : List (List AV) × Option Int := match o with | some p => ([], some p) | none => restS f l
inductive RF where
 | name | whole | atom | sorted | many | con | names | params | param | kind | term | right | body | let_ | last | arm
deriving DecidableEq
def withBody (l e : List AV) : List AV := l.set 10 (rowsA' [e])
def kidAt (t : Tr) (k : Nat) : Tr := t.kids.getD k (.mk [] [] false 0)
def rd : Nat → RF → Tr → Ans
 | 0, _, _ => ([], none)
 | _ + 1, .name, t => nameS t
 | _ + 1, .whole, t => wholeS t
 | _ + 1, .atom, t => atomS t
 | n + 1, .sorted, t => let q := partsS [rd n .name, rd n .name] t; (putO (putO sortedZ 0 q.1[0]?) 1 q.1[1]?, q.2)
 | n + 1, .many, t => let q := allS (rd n .sorted) t; ([rowsA' q.1], q.2)
 | n + 1, .con, t => if t.row && decide (0 < t.kids.length) then
     let a := rd n .name (kidAt t 0)
     let q := restO a.2 (rd n .name) (t.kids.drop 1)
     (a.1 ++ [rowsA' q.1], q.2)
  else (conZ, some t.at_)
 | n + 1, .names, t => let q := allS (rd n .name) t; ([rowsA' q.1], q.2)
 | n + 1, .params, t => let q := allS (rd n .param) t; ([rowsA' q.1], q.2)
 | n + 1, .param, t => let q := partsS [rd n .name, rd n .kind] t; (putO (putO paramZ 0 q.1[0]?) 1 q.1[1]?, q.2)
 | n + 1, .kind, t => if headS t = [45, 62] then
     let q := partsS [skipS, rd n .params, rd n .kind] t
     ((putO kindZ 7 q.1[1]?).set 0 (boolA true) |>.set 8 (rowsA' [putO kindZ 0 q.1[2]?]), q.2)
  else
   let q := partsS [rd n .name, rd n .term] t
   (putO (putO kindZ 1 q.1[0]?) 2 q.1[1]?, q.2)
 | n + 1, .term, t =>
  if !t.row then wordS t
  else if headS t = [42] then
   let q := partsS [skipS, rd n .whole, rd n .term] t
   ((putO (termZ.set 0 (u8A 6)) 2 q.1[1]?).set 4 (rowsA' [putO termZ 0 q.1[2]?]), q.2)
  else if headS t = [107, 97, 112, 112, 97] ∧ 2 ≤ t.kids.length then
   let a := rd n .name (kidAt t 1)
   let q := restO a.2 (rd n .term) (t.kids.drop 2)
   (u8A 14 :: a.1 ++ intZ ++ [rowsA' q.1], q.2)
  else match formS (headS t) with
   | some (k, m) => if 0 ≤ m ∧ (t.kids.length : Int) ≠ m + 1 then (termZ, some t.at_) else
       let q := restS (rd n .term) (t.kids.drop 1)
       (u8A k :: strA [] :: intZ ++ [rowsA' q.1], q.2)
   | none => if funcOk (headS t) ∧ t.kids.length = 2 then
       let q := restS (rd n .term) (t.kids.drop 1)
       (u8A 7 :: strA (headS t) :: intZ ++ [rowsA' q.1], q.2)
    else (termZ, some t.at_)
 | n + 1, .right, t =>
  if !t.row then
   let a := rd n .atom t
   (rhsZ.set 0 (u8A 1) |>.set 2 (rowsA' [a.1]), a.2)
  else if primW.contains (headS t) then
   let q := restS (rd n .atom) (t.kids.drop 1)
   ((rhsZ.set 0 (u8A 2) |>.set 1 (strA (headS t))).set 2 (rowsA' q.1), q.2)
  else if headS t = [99, 111, 110] ∧ 2 ≤ t.kids.length then
   let a := rd n .name (kidAt t 1)
   let q := restO a.2 (rd n .atom) (t.kids.drop 2)
   (u8A 3 :: a.1 ++ [rowsA' q.1, nilA, nilA, nilA, nilA], q.2)
  else if headS t = [99, 97, 108, 108] ∧ 2 ≤ t.kids.length then
   let q := restS (rd n .atom) (t.kids.drop 1)
   (rhsZ.set 0 (u8A 5) |>.set 2 (rowsA' q.1), q.2)
  else if headS t = [112, 114, 105, 110, 116] ∧ t.kids.length = 2 then
   let q := restS (rd n .atom) (t.kids.drop 1)
   (rhsZ.set 0 (u8A 7) |>.set 2 (rowsA' q.1), q.2)
  else if headS t = [97, 115, 115, 101, 114, 116] ∧ t.kids.length = 2 then
   let q := restS (rd n .term) (t.kids.drop 1)
   (rhsZ.set 0 (u8A 8) |>.set 6 (rowsA' q.1), q.2)
  else if headS t = [100, 111] ∧ t.kids.length = 2 then
   let q := restS (rd n .body) (t.kids.drop 1)
   (rhsZ.set 0 (u8A 6) |>.set 5 (rowsA' q.1), q.2)
  else if headS t = [108, 97, 109] ∧ t.kids.length = 4 then
   let q := partsS [skipS, rd n .params, rd n .kind, rd n .body] t
   ((putO (rhsZ.set 0 (u8A 4)) 3 q.1[1]?).set 4 (rowsA' [putO kindZ 0 q.1[2]?]) |>.set 5 (rowsA' [putO exprZ 0 q.1[3]?]), q.2)
  else (rhsZ, some t.at_)
 | n + 1, .body, t => if t.row && decide (0 < t.kids.length) then
     let q := restS (rd n .let_) t.kids.dropLast
     match q.2 with
     | some p => (exprZ, some p)
     | none => let a := rd n .last (kidAt t (t.kids.length - 1)); (q.1.foldr withBody a.1, a.2)
  else (exprZ, some t.at_)
 | n + 1, .let_, t =>
  if headS t = [108, 101, 116] then
   let q := partsS [skipS, rd n .name, rd n .kind, rd n .right] t
   ((putO (exprZ.set 0 (u8A 1)) 1 q.1[1]?).set 2 (rowsA' [putO kindZ 0 q.1[2]?]) |>.set 3 (rowsA' [putO rhsZ 0 q.1[3]?]), q.2)
  else (exprZ.set 0 (u8A 1) |>.set 2 (rowsA' [kindZ]) |>.set 3 (rowsA' [rhsZ]), some t.at_)
 | n + 1, .arm, t =>
  let q := partsS [rd n .name, rd n .names, rd n .body] t
  ((putO (putO armZ 0 q.1[0]?) 1 q.1[1]?).set 2 (rowsA' [putO exprZ 0 q.1[2]?]), q.2)
 | n + 1, .last, t =>
  if headS t = [114, 101, 116] ∧ t.kids.length = 2 then
   let a := rd n .atom (kidAt t 1)
   (putCells (exprZ.set 0 (u8A 2)) 4 a.1, a.2)
  else if headS t = [105, 102] ∧ t.kids.length = 4 then
   let a := rd n .atom (kidAt t 1)
   let q := restO a.2 (rd n .body) (t.kids.drop 2)
   ((putCells (exprZ.set 0 (u8A 3)) 4 a.1).set 10 (rowsA' q.1), q.2)
  else if headS t = [109, 97, 116, 99, 104] ∧ 2 ≤ t.kids.length then
   let a := rd n .atom (kidAt t 1)
   let q := restO a.2 (rd n .arm) (t.kids.drop 2)
   ((putCells (exprZ.set 0 (u8A 4)) 4 a.1).set 9 (rowsA' q.1), q.2)
  else (exprZ, some t.at_)
def sizeT : Tr → Nat
 | .mk _ k _ _ => 1 + (k.attach.map fun x => sizeT x.1).sum
decreasing_by
 have := List.sizeOf_lt_of_mem x.2
 simp_all; omega
def rank : RF → Nat
 | .name | .whole => 1
 | .atom | .sorted | .con | .names | .param | .term | .kind | .let_ | .arm | .last => 2
 | .many | .params | .right => 3
 | .body => 4
end
end Go.Proofs.YtkkblmdgedmdfaaGreatDoor
