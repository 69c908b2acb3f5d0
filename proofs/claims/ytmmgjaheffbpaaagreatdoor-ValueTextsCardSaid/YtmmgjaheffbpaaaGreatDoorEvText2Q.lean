/-
 EV: num.Text; nat.Of; num.Parse; nat.Right, num.Right.
-/
import Derived.Test.YtmmgjaheffbpaaaGreatDoorEvNat2Q
namespace Go.Proofs.YtmmgjaheffbpaaaGreatDoor
set_option maxRecDepth 100000
set_option maxHeartbeats 8000000
set_option linter.unusedSimpArgs false
set_option linter.unusedVariables false
set_option linter.unusedSectionVars false
section
open Go.RowKit
def numText (neg : Bool) (l : List Nat) : List UInt8 := if neg then 45 :: natText l else natText l
def RightI (neg : Bool) (l : List Nat) : Prop := RightD l ∧ (neg = true → l ≠ [])
theorem numText_ev (neg : Bool) (l : List Nat) (tok : Tok) (σ : Sto) (hl : l.length ≤ 1000000) (hr : RightI neg l) : CallW Tryz.prog EV 20 [.agg [.lit (.bool neg), .sl (d32 l) tok]] σ fun r σ' => r = .ret (.lit (.string (bs (numText neg l)))) ∧ Ext σ σ' := by
 refine CallW.start (fn := Tryz.f20) (M := []) rfl rfl rfl rfl (by simp) fun tm hlen hs => ?_
 have h0 := hs 0 _ rfl
 clear hs
 simp at hlen
 refine CW.hide fun R0 hR0 => ?_
 refine CW.seqK fun K hK => CW.region ?_
 simp (maxDischargeDepth := 16) [symB, List.length_set, andThen, hlen, h0]
 refine hK _ _ ?_; clear hK K
 refine CW.seqK fun K hK => CW.region ?_
 simp (maxDischargeDepth := 16) [symB, List.length_set, andThen, hlen]
 refine (numOf_ev l neg tok _ (by omega) (fun x h => by have := hr.1.1 x h; unfold B9 at this; omega)).mono ?_
 rintro r σ2 ⟨t, rfl, hext⟩
 have hneg : (neg && !(l.length == 0)) = neg := by
  cases neg with
  | false => rfl
  | true => have := hr.2 rfl; cases l with
   | nil => exact absurd rfl this
   | cons x l => rfl
 rw [normD_right hr.1, hneg]
 simp (maxDischargeDepth := 16) [symB, List.length_set, andThen, hlen, retK]
 refine hK _ _ ?_; clear hK K
 have hextA : Ext σ (σ2 ++ [AObj.cells [.sl (d32 l) t, .lit (.bool neg)] 51]) := hext.of_push.push _
 have hnum : (σ2 ++ [AObj.cells [.sl (d32 l) t, .lit (.bool neg)] 51])[σ2.length]? = some (.cells [.sl (d32 l) t, .lit (.bool neg)] 51) := by simp
 generalize (σ2 ++ [AObj.cells [.sl (d32 l) t, .lit (.bool neg)] 51]) = σA at *
 have hz : ((bs [45]).size + (bs (natText l)).size) ≤ 140737488355328 := by
  rw [bsz, bsz]
  have := (natText_len l hr.1.1).2
  simp; omega
 refine CW.seqK fun K hK => ?_
 refine CW.seqK fun K2 hK2 => CW.region ?_
 simp (maxDischargeDepth := 16) [symB, List.length_set, andThen, hlen, hnum]
 refine hK2 _ _ ?_; clear hK2 K2
 cases neg with
 | true =>
  refine CW.cond (t := true) (by simp (maxDischargeDepth := 16) [zT, slot_eq, slot_ne, hlen]) ?_
  refine CW.seqK fun K3 hK3 => CW.region ?_
  simp (maxDischargeDepth := 16) [symB, List.length_set, andThen, hlen, hnum]
  refine (natText_ev l t σA hl hr.1).mono ?_
  rintro r σ3 ⟨rfl, hext3⟩
  have hz2 : (⟨#[45]⟩ : ByteArray).size + (bs (natText l)).size ≤ 140737488355328 := hz
  have happ : (⟨#[45]⟩ : ByteArray) ++ bs (natText l) = bs (45 :: natText l) := bs_app [45] (natText l)
  simp (maxDischargeDepth := 16) [symB, List.length_set, andThen, hlen, retK, hz2, happ]
  refine hK3 _ _ ?_
  refine CW.ret ?_
  simp only [andThen]
  refine hR0 _ _ _ ⟨.lit (.string (bs (45 :: natText l))), ?_, rfl, hextA.trans hext3⟩
  simp (maxDischargeDepth := 16) [zA, omap, zB, slot_eq, slot_ne, hlen]
 | false =>
  refine CW.cond (t := false) (by simp (maxDischargeDepth := 16) [zT, slot_eq, slot_ne, hlen]) ?_
  refine CW.skip (hK _ _ ?_)
  refine CW.seqK fun K3 hK3 => CW.region ?_
  simp (maxDischargeDepth := 16) [symB, List.length_set, andThen, hlen, hnum]
  refine (natText_ev l t σA hl hr.1).mono ?_
  rintro r σ3 ⟨rfl, hext3⟩
  simp (maxDischargeDepth := 16) [symB, List.length_set, andThen, hlen, retK]
  refine hK3 _ _ ?_
  refine CW.ret (hR0 _ _ _ ⟨.lit (.string (bs (natText l))), ?_, rfl, hextA.trans hext3⟩)
  simp (maxDischargeDepth := 16) [zA, omap, zB, slot_eq, slot_ne, hlen]
end
section
open Go.RowKit
theorem parseU_p (s : List UInt8) (h0 : s ≠ []) (hl : s.length ≤ 18) (hd : isDec s = true) (σ : Sto) : CallW Tryz.prog EV 124 [.lit (.string (bs s)), .lit (.int .i64 10), .lit (.int .i64 64)] σ fun r σ' => r = .ret (.tup [.lit (.int .u64 (valD s)), .lit .nilIface]) ∧ σ' = σ :=
 CallW.prim (g := primParseU) rfl (by unfold primParseU; dsimp only; rw [if_pos ⟨⟨rfl, rfl⟩, by rw [bsz]; exact hl, h0, hd⟩]; rfl) ⟨rfl, rfl⟩
theorem chunksE_len : ∀ (n : Nat) (s : List UInt8), s.length ≤ n → (chunksE s).length ≤ s.length
 | 0, s, h => by
  have : s = [] := List.length_eq_zero_iff.1 (by omega)
  subst this; rw [chunksE]; simp
 | n + 1, s, h => by
  rw [chunksE]
  split
  · simp
  · rename_i hs
    have hp : 0 < s.length := List.length_pos_iff.2 hs
    have := chunksE_len n (s.take (s.length - 9)) (by simp; omega)
    simp only [List.length_cons, List.length_take] at this ⊢
    omega
def OfR (s : List UInt8) (σ : Sto) (r : ARes) (σ' : Sto) : Prop := (match natOf s with | none => r = .ret (.tup [.sl [] .full, .lit (.bool false)]) | some d => ∃ t, r = .ret (.tup [.sl (d32 d) t, .lit (.bool true)])) ∧ Ext σ σ'
theorem natOf_ev (s : List UInt8) (σ : Sto) (hl : s.length ≤ 1000000) : CallW Tryz.prog EV 103 [.lit (.string (bs s))] σ (OfR s σ) := by
 refine CallW.start (fn := Tryz.f103) (M := []) rfl rfl rfl rfl (by simp) fun tm hlen hs => ?_
 have h0 := hs 0 _ rfl
 clear hs
 simp at hlen
 refine CW.hide fun R0 hR0 => ?_
 refine CW.seqK fun K hK => CW.region ?_
 simp (maxDischargeDepth := 16) [symB, List.length_set, andThen, hlen, h0]
 refine hK _ _ ?_; clear hK K
 refine CW.seqK fun K hK => ?_
 refine CW.seqK fun K2 hK2 => CW.region ?_
 have bad : natOf s = none → ∀ tm : List AV, tm.length = 49 → slot tm 24 = .lit (.bool true) → K2 tm σ := by
  intro hn tm hlen h24
  refine hK2 _ _ ?_
  refine CW.cond (t := true) (by simp (maxDischargeDepth := 16) [zT, slot_eq, slot_ne, hlen, h24]) ?_
  refine CW.seqK fun K hK => CW.region ?_
  simp (maxDischargeDepth := 16) [symB, List.length_set, andThen, hlen]
  refine hK _ _ ?_; clear hK K
  refine CW.ret ?_
  simp only [andThen]
  refine hR0 _ _ _ ⟨.tup [.sl [] .full, .lit (.bool false)], ?_, by rw [hn], .refl _⟩
  simp (maxDischargeDepth := 16) [zA, omap, zB, slot_eq, slot_ne, hlen]
 have good : isDec s = true → ¬ (s = [] ∨ (s.length > 1 ∧ s.head? = some 48)) → ∀ tm : List AV, tm.length = 49 → slot tm 24 = .lit (.bool false) → slot tm 0 = .lit (.string (bs s)) → K2 tm σ := by
  intro hdec hn tm hlen h24 h0
  have hno : natOf s = some (normD (chunksE s)) := by unfold natOf; rw [if_neg (by rw [hdec]; simp at hn ⊢; exact hn)]
  have hR0 : ∀ x tm1 σ1, bodyW Tryz.prog Tryz.f103 (fun r σ' => (∃ t, r = .ret (.tup [.sl (d32 (normD (chunksE s))) t, .lit (.bool true)])) ∧ Ext σ σ') x tm1 σ1 → R0 x tm1 σ1 := by
   intro x tm1 σ1 h
   refine hR0 _ _ _ ?_
   have e : (OfR s σ) = (fun r σ' => (∃ t, r = .ret (.tup [.sl (d32 (normD (chunksE s))) t, .lit (.bool true)])) ∧ Ext σ σ') := by funext r σ'; unfold OfR; rw [hno]
   rw [e]; exact h
  refine hK2 _ _ ?_
  refine CW.cond (t := false) (by simp (maxDischargeDepth := 16) [zT, slot_eq, slot_ne, hlen, h24]) ?_
  refine CW.skip ?_
  simp only [andThen]
  refine hK _ _ ?_
  refine CW.seqK fun K hK => CW.region ?_
  simp (maxDischargeDepth := 16) [symB, List.length_set, andThen, hlen]
  refine hK _ _ ?_; clear hK K
  refine CW.seqK fun K5 hK5 => ?_
  refine CW.block ?_
  refine CW.hide fun R hR => ?_
  refine CW.loopI (fun r tm σ1 => ∃ (q : List UInt8) (d : List Nat) (t : Tok), r = q.length ∧ d ++ chunksE q = chunksE s ∧ isDec q = true ∧ q.length ≤ s.length ∧ tm.length = 49 ∧ slot tm 0 = .lit (.string (bs q)) ∧ slot tm 4 = .sl (d64 d) t ∧ Ext σ σ1 ∧ TokAt σ σ1 (d.length * 1) 53 t) ?_ _ _ _
   ⟨s, [], .full, rfl, rfl, hdec, Nat.le_refl _, by simp [hlen], by simp [slot_ne, h0], by simp (maxDischargeDepth := 16) [slot_eq, hlen, d64], .refl _, .inl ⟨rfl, rfl⟩⟩
  clear h0 h24 hlen tm
  rintro r tm σ1 ⟨q, d, t, rfl, hch, hdq, hql, hlen, h0, h4, hext, htok⟩
  have hcl := chunksE_len _ s (Nat.le_refl _)
  have hdl : d.length + (chunksE q).length ≤ s.length := by rw [← List.length_append, hch]; exact hcl
  refine CW.hide fun R2 hR2 => ?_
  refine CW.seqK fun K3 hK3 => ?_
  refine CW.seqK fun K4 hK4 => CW.region ?_
  by_cases hq : q = []
  · subst hq
    have hz : (bs []).size = 0 := bsz []
    simp (maxDischargeDepth := 16) [symB, List.length_set, andThen, hlen, h0, hz]
    refine hK4 _ _ ?_
    refine CW.cond (t := false) (by simp (maxDischargeDepth := 16) [zT, slot_eq, slot_ne, hlen]) ?_
    refine CW.exit ?_
    simp only [andThen]
    refine hR2 _ _ _ (hR _ _ _ ?_)
    simp only [outOf, if_true, andThen]
    refine hK5 _ _ ?_
    have hde : d = chunksE s := by rw [← hch, chunksE]; simp
    have hlt := chunksE_lt s hdec
    rw [← hde] at hlt hR0
    refine CW.seqK fun K6 hK6 => CW.region ?_
    simp (maxDischargeDepth := 16) [symB, List.length_set, andThen, hlen, h4]
    refine (carried_sl d t σ1 (by omega) (fun x h => by have := hlt x h; unfold B9 at this; omega)).mono ?_
    rintro r σ2 ⟨t2, rfl, hext2⟩
    simp (maxDischargeDepth := 16) [symB, List.length_set, andThen, hlen, retK]
    have hnl := normD_len d (fun x h => by have := hlt x h; unfold B9 at this; omega)
    refine (row_ev (normD d) t2 σ2 (by omega) (fun x h => by have := (normD_ok d).1 x h; unfold B9 at this; omega)).mono ?_
    rintro r σ3 ⟨t3, rfl, hext3⟩
    simp (maxDischargeDepth := 16) [symB, List.length_set, andThen, hlen, retK]
    refine hK6 _ _ ?_
    refine CW.ret (hR0 _ _ _ ⟨.tup [.sl (d32 (normD d)) t3, .lit (.bool true)], ?_, ⟨t3, rfl⟩, (hext.trans hext2).trans hext3⟩)
    simp (maxDischargeDepth := 16) [zA, omap, zB, slot_eq, slot_ne, hlen]
  · have hqp : 0 < q.length := List.length_pos_iff.2 hq
    have hqp' : (0 : Int) < q.length := by omega
    simp (maxDischargeDepth := 16) [symB, List.length_set, andThen, hlen, h0, bsz, hqp, hqp']
    refine hK4 _ _ ?_
    refine CW.cond (t := true) (by simp (maxDischargeDepth := 16) [zT, slot_eq, slot_ne, hlen]) ?_
    refine CW.skip ?_
    simp only [andThen]
    refine hK3 _ _ ?_
    refine CW.block ?_
    obtain ⟨x, hx⟩ : ∃ x : Int, x = (q.length : Int) - 9 := ⟨_, rfl⟩
    have hw9 : IntKind.i64.wrap ((q.length : Int) - 9) = x := by rw [IntWalk.i64_in _ ⟨by omega, by omega⟩, hx]
    obtain ⟨m, hm⟩ : ∃ m : Nat, m = q.length - 9 := ⟨_, rfl⟩
    have hmax : (if x < 0 then (0 : Int) else x) = (m : Int) := by split <;> omega
    refine CW.seqK fun K hK => CW.region ?_
    simp (maxDischargeDepth := 16) [symB, List.length_set, andThen, hlen, h0, bsz, hw9, hmax]
    refine hK _ _ ?_; clear hK K
    have hms : m ≤ q.length := by omega
    have hmi : (m : Int) ≤ (q.length : Int) := by omega
    have htn : ((q.length : Int)).toNat = q.length := by omega
    have htk : (q.take q.length).drop m = q.drop m := by rw [List.take_length]
    refine CW.seqK fun K6 hK6 => CW.region ?_
    simp (maxDischargeDepth := 16) [symB, List.length_set, andThen, hlen, h0, bsz, hms, hmi, bs_ext, htn, htk]
    have hdd : isDec (q.drop m) = true := by simp only [isDec, List.all_eq_true] at hdq ⊢; exact fun y hy => hdq y (List.mem_of_mem_drop hy)
    have hdt : isDec (q.take m) = true := by simp only [isDec, List.all_eq_true] at hdq ⊢; exact fun y hy => hdq y (List.mem_of_mem_take hy)
    refine (parseU_p (q.drop m) (fun e => by have := congrArg List.length e; simp at this; omega) (by simp; omega) hdd σ1).mono ?_
    rintro r σ2 ⟨rfl, rfl⟩
    have hchq : chunksE q = valD (q.drop m) :: chunksE (q.take m) := by rw [chunksE, dif_neg hq, hm]
    generalize hv : valD (q.drop m) = v at *
    simp (maxDischargeDepth := 16) [symB, List.length_set, andThen, hlen, retK]
    refine hK6 _ _ ?_; clear hK6 K6
    obtain ⟨t', σ3, acc, hext3, htok3, hap⟩ := append_at (P := Tryz.prog) (M := []) (σ := σ2) (es := d64 d) (tok := t) (tk := .full) (fs := [[.lit (.int .u64 (v : Int))]]) (t := 123) Tryz.underlying123 szOf_53 bytesOf_53 zeroOf_53 rfl
     (by rw [d64_len]; exact htok) hext (d64_head _) rfl (by simp) (by rw [d64_len]; simp; omega) (by rw [d64_len]; simp; omega)
    refine CW.draw (by kernel_rfl) ?_
    have ht0 : (q.take m).drop 0 = q.take m := rfl
    simp (maxDischargeDepth := 16) [symB, List.length_set, andThen, outOf, hlen, h0, h4, bsz, hms, hmi, bs_ext, hap]
    refine ⟨by cases acc <;> kernel_rfl, hR2 _ _ _ ⟨(q.take m).length, by simp; omega, q.take m, d ++ [v], t', rfl, by rw [← hch, hchq]; simp, hdt, by simp; omega, by simp [hlen], by simp (maxDischargeDepth := 16) [slot_eq, hlen], ?_, hext3, ?_⟩⟩
    · simp (maxDischargeDepth := 16) [slot_eq, slot_ne, hlen, d64_append, stripRows, AV.strip, d64]
    · rw [d64_len] at htok3; simpa using htok3
 cases s with
 | nil =>
  have hz : (bs []).toList = [] := bs_list []
  simp (maxDischargeDepth := 16) [symB, List.length_set, andThen, hlen, h0, hz]
  exact bad (by simp [natOf]) _ (by simp [hlen]) (by simp (maxDischargeDepth := 16) [slot_eq, slot_ne, hlen])
 | cons b r =>
  have hne : (b :: r) ≠ [] := by simp
  by_cases h1 : r = []
  · subst h1
    simp (maxDischargeDepth := 16) [symB, List.length_set, andThen, hlen, h0, bs_list, bsz]
    refine (decimal_ev [b] σ (by simp)).mono ?_
    rintro r σ2 ⟨rfl, rfl⟩
    cases hd : isDec [b] with
    | false =>
     simp (maxDischargeDepth := 16) [symB, List.length_set, andThen, hlen, retK]
     exact bad (by simp [natOf, hd]) _ (by simp [hlen]) (by simp (maxDischargeDepth := 16) [slot_eq, slot_ne, hlen])
    | true =>
     simp (maxDischargeDepth := 16) [symB, List.length_set, andThen, hlen, retK]
     exact good hd (by simp) _ (by simp [hlen]) (by simp (maxDischargeDepth := 16) [slot_eq, slot_ne, hlen]) (by simp (maxDischargeDepth := 16) [slot_eq, slot_ne, hlen, h0])
  · have hr1 : 0 < r.length := List.length_pos_iff.2 h1
    have hr2 : (1 : Int) < (r.length : Int) + 1 := by omega
    have hg : ∀ h : 0 < (bs (b :: r)).size, (bs (b :: r))[0]'h = b := fun h => rfl
    by_cases hb : b = 48
    · subst hb
      simp (maxDischargeDepth := 16) [symB, List.length_set, andThen, hlen, h0, bs_list, bsz, hr1, hr2, hg]
      exact bad (by unfold natOf; rw [if_pos (.inr (.inl ⟨by simp; omega, rfl⟩))]) _ (by simp [hlen]) (by simp (maxDischargeDepth := 16) [slot_eq, slot_ne, hlen])
    · have hb2 : ¬ (b.toNat : Int) = 48 := by
       intro e; exact hb (UInt8.toNat_inj.1 (by simpa using (by omega : b.toNat = 48)))
      have hb3 : ¬ b.toNat = 48 := by omega
      simp (maxDischargeDepth := 16) [symB, List.length_set, andThen, hlen, h0, bs_list, bsz, hr1, hr2, hg, hb2, hb3]
      refine (decimal_ev (b :: r) σ (by omega)).mono ?_
      rintro r' σ2 ⟨rfl, rfl⟩
      cases hd : isDec (b :: r) with
      | false =>
       simp (maxDischargeDepth := 16) [symB, List.length_set, andThen, hlen, retK, hb2, hb3]
       exact bad (by simp [natOf, hd]) _ (by simp [hlen]) (by simp (maxDischargeDepth := 16) [slot_eq, slot_ne, hlen])
      | true =>
       simp (maxDischargeDepth := 16) [symB, List.length_set, andThen, hlen, retK, hb2, hb3]
       refine good hd ?_ _ ?_ ?_ ?_
       · simp [hb]
       · simp [hlen]
       · simp (maxDischargeDepth := 16) [slot_eq, slot_ne, hlen]
       · simp (maxDischargeDepth := 16) [slot_eq, slot_ne, hlen, h0]
end
section
open Go.RowKit
theorem natText_ge : ∀ (l : List Nat), (∀ x ∈ l, x < B9) → l.length ≤ (natText l).length
 | [], _ => by simp
 | [x], h => by have := (natText_len [x] h).1; simpa using this
 | x :: y :: l, h => by
  have ih := natText_ge (y :: l) (fun z hz => h z (List.mem_cons_of_mem _ hz))
  rw [natText_cons (by simp), List.length_append, padN_len (h x (by simp))]
  simp only [List.length_cons] at ih ⊢; omega
def cutM (s : List UInt8) : List UInt8 := if s.head? = some 45 then s.tail else s
def numOf (s : List UInt8) : Option (Bool × List Nat) :=
 match natOf (cutM s) with
 | none => none
 | some d => if s.head? == some 45 && (d.length == 0) then none else some (s.head? == some 45, d)
theorem numOf_right {s : List UInt8} {b : Bool} {d : List Nat} (h : numOf s = some (b, d)) : RightI b d ∧ numText b d = s := by
 unfold numOf at h
 split at h
 · cases h
 · rename_i d' hd
   split at h
   · cases h
   · rename_i hc
     cases h
     obtain ⟨h1, h2⟩ := natOf_text hd
     simp only [Bool.and_eq_true, beq_iff_eq, not_and] at hc
     refine ⟨⟨h1, fun hb e => hc (by simpa using hb) (by rw [e]; rfl)⟩, ?_⟩
     unfold numText
     rw [h2]
     unfold cutM
     by_cases hs : s.head? = some 45
     · cases s with
       | nil => cases hs
       | cons x s => simp at hs; subst hs; simp
     · simp [hs]
def ParseR (s : List UInt8) (σ : Sto) (r : ARes) (σ' : Sto) : Prop := (match numOf s with | none => r = .ret (.tup [.agg [.lit (.bool false), .sl [] .full], .lit (.bool false)]) | some (b, d) => ∃ t, r = .ret (.tup [.agg [.lit (.bool b), .sl (d32 d) t], .lit (.bool true)])) ∧ Ext σ σ'
theorem numParse_ev (s : List UInt8) (σ : Sto) (hl : s.length ≤ 1000000) : CallW Tryz.prog EV 78 [.lit (.string (bs s))] σ (ParseR s σ) := by
 refine CallW.start (fn := Tryz.f78) (M := []) rfl rfl rfl rfl (by simp) fun tm hlen hs => ?_
 have h0 := hs 0 _ rfl
 clear hs
 simp at hlen
 refine CW.hide fun R0 hR0 => ?_
 refine CW.seqK fun K hK => CW.region ?_
 simp (maxDischargeDepth := 16) [symB, List.length_set, andThen, hlen, h0]
 refine hK _ _ ?_; clear hK K
 have hcm : (cutM s).length ≤ s.length := by unfold cutM; split <;> simp
 have hA : ∃ σA : Sto, σA = σ ++ [AObj.cells [.lit (.bool false), .sl [] .full] 34] := ⟨_, rfl⟩
 refine CW.seqK fun K hK => CW.region ?_
 simp (maxDischargeDepth := 16) [symB, List.length_set, andThen, hlen, h0]
 refine (cut1_ev s 45 _ (by omega)).mono ?_
 rintro r σ2 ⟨rfl, rfl⟩
 have hcd : (if s.head? = some 45 then s.tail else s) = cutM s := rfl
 rw [hcd]
 unfold ParseR numOf at hR0
 generalize (s.head? == some 45) = neg at *
 generalize hq : cutM s = q at *
 simp (maxDischargeDepth := 16) [symB, List.length_set, andThen, hlen, retK]
 refine hK _ _ ?_; clear hK K
 refine CW.reset (fun tm => tm.length = 33 ∧ slot tm 2 = .ptr σ.length 0 ∧ slot tm 4 = .lit (.string (bs q)) ∧ slot tm 5 = .lit (.bool neg)) ⟨by simp [hlen], by simp (maxDischargeDepth := 16) [slot_eq, slot_ne, hlen], by simp (maxDischargeDepth := 16) [slot_eq, slot_ne, hlen], by simp (maxDischargeDepth := 16) [slot_eq, slot_ne, hlen]⟩ ?_
 clear h0 hlen tm hA
 rintro tm ⟨hlen, h2, h4, h5⟩
 refine CW.seqK fun K hK => CW.region ?_
 simp (maxDischargeDepth := 16) [symB, List.length_set, andThen, hlen, h4]
 refine (natOf_ev q _ (by omega)).mono ?_
 rintro r σ3 hr
 unfold OfR at hr
 obtain ⟨hr, hext⟩ := hr
 obtain ⟨hob, hlt⟩ := hext.at
 cases hno : natOf q with
 | none =>
  rw [hno] at hr
  dsimp only at hr
  subst hr
  rw [hno] at hR0
  dsimp only at hR0
  simp (maxDischargeDepth := 16) [symB, List.length_set, andThen, hlen, retK]
  refine hK _ _ ?_; clear hK K
  refine CW.seqK fun K hK => ?_
  refine CW.seqK fun K hK => CW.region ?_
  simp (maxDischargeDepth := 16) [symB, List.length_set, andThen, hlen]
  refine hK _ _ ?_; clear hK K
  refine CW.cond (t := true) (by simp (maxDischargeDepth := 16) [zT, slot_eq, slot_ne, hlen]) ?_
  refine CW.seqK fun K2 hK2 => CW.region ?_
  simp (maxDischargeDepth := 16) [symB, List.length_set, andThen, hlen, h2, hob]
  refine hK2 _ _ ?_
  refine CW.ret ?_
  simp only [andThen]
  refine hR0 _ _ _ ⟨.tup [.agg [.lit (.bool false), .sl [] .full], .lit (.bool false)], ?_, rfl, hext.of_push.set (Nat.le_refl _)⟩
  simp (maxDischargeDepth := 16) [zA, omap, zB, zC, slot_eq, slot_ne, hlen, h2, hlt, partA, aggT]
 | some d =>
  rw [hno] at hr
  dsimp only at hr
  obtain ⟨t, rfl⟩ := hr
  rw [hno] at hR0
  dsimp only at hR0
  obtain ⟨hrd, _⟩ := natOf_text hno
  have hdl : d.length ≤ 1000000000 := by
   have h1 : d.length ≤ (natText d).length := natText_ge d hrd.1
   rw [(natOf_text hno).2] at h1
   omega
  simp (maxDischargeDepth := 16) [symB, List.length_set, andThen, hlen, retK]
  refine hK _ _ ?_; clear hK K
  refine CW.seqK fun K hK => ?_
  refine CW.seqK fun K2 hK2 => CW.region ?_
  have bad : (neg && (d.length == 0)) = true → ∀ tm : List AV, tm.length = 33 → slot tm 2 = .ptr σ.length 0 → slot tm 27 = .lit (.bool true) → K2 tm σ3 := by
   intro hc tm hlen h2 h27
   rw [if_pos hc] at hR0
   refine hK2 _ _ ?_
   refine CW.cond (t := true) (by simp (maxDischargeDepth := 16) [zT, slot_eq, slot_ne, hlen, h27]) ?_
   refine CW.seqK fun K3 hK3 => CW.region ?_
   simp (maxDischargeDepth := 16) [symB, List.length_set, andThen, hlen, h2, hob]
   refine hK3 _ _ ?_
   refine CW.ret ?_
   simp only [andThen]
   refine hR0 _ _ _ ⟨.tup [.agg [.lit (.bool false), .sl [] .full], .lit (.bool false)], ?_, rfl, hext.of_push.set (Nat.le_refl _)⟩
   simp (maxDischargeDepth := 16) [zA, omap, zB, zC, slot_eq, slot_ne, hlen, h2, hlt, partA, aggT]
  have good : ¬ (neg && (d.length == 0)) = true → ∀ tm : List AV, tm.length = 33 → slot tm 2 = .ptr σ.length 0 → slot tm 6 = .sl (d32 d) t → slot tm 5 = .lit (.bool neg) → slot tm 27 = .lit (.bool false) → K2 tm σ3 := by
   intro hc tm hlen h2 h6 h5 h27
   rw [if_neg hc] at hR0
   dsimp only at hR0
   refine hK2 _ _ ?_
   refine CW.cond (t := false) (by simp (maxDischargeDepth := 16) [zT, slot_eq, slot_ne, hlen, h27]) ?_
   refine CW.skip ?_
   simp only [andThen]
   refine hK _ _ ?_
   refine CW.seqK fun K3 hK3 => CW.region ?_
   simp (maxDischargeDepth := 16) [symB, List.length_set, andThen, hlen, h5, h6]
   refine (made_ev d neg t σ3 hdl (fun x h => by have := hrd.1 x h; unfold B9 at this; omega)).mono ?_
   rintro r σ4 ⟨t2, rfl, hext4⟩
   have hng : (neg && !((normD d).length == 0)) = neg := by rw [normD_right hrd]; cases neg <;> simp_all
   rw [hng, normD_right hrd]
   simp (maxDischargeDepth := 16) [symB, List.length_set, andThen, hlen, retK]
   refine (out_ev d neg t2 σ4).mono ?_
   rintro r σ5 ⟨rfl, hext5⟩
   have hob5 := hext5.get (hext4.get hob)
   have hlt5 : σ.length < σ5.length := (List.getElem?_eq_some_iff.1 hob5).1
   simp (maxDischargeDepth := 16) [symB, List.length_set, andThen, hlen, retK, h2, hob5]
   refine hK3 _ _ ?_
   refine CW.ret (hR0 _ _ _ ⟨.tup [.agg [.lit (.bool neg), .sl (d32 d) t2], .lit (.bool true)], ?_, ⟨t2, rfl⟩, ((hext.of_push.trans hext4).trans hext5).set (Nat.le_refl _)⟩)
   simp (maxDischargeDepth := 16) [zA, omap, zB, zC, slot_eq, slot_ne, hlen, h2, hlt5, partA, aggT]
  cases neg with
  | false =>
   simp (maxDischargeDepth := 16) [symB, List.length_set, andThen, hlen, h5]
   exact good (by simp) _ (by simp [hlen]) (by simp [slot_ne, h2]) (by simp (maxDischargeDepth := 16) [slot_eq, slot_ne, hlen]) (by simp [slot_ne, h5]) (by simp (maxDischargeDepth := 16) [slot_eq, slot_ne, hlen])
  | true =>
   cases d with
   | nil =>
    have hd0 : (d32 []).length = 0 := rfl
    simp (maxDischargeDepth := 16) [symB, List.length_set, andThen, hlen, h5, hd0]
    exact bad (by simp) _ (by simp [hlen]) (by simp [slot_ne, h2]) (by simp (maxDischargeDepth := 16) [slot_eq, slot_ne, hlen])
   | cons x d =>
    have hd0 : (d32 (x :: d)).length = d.length + 1 := d32_len _
    have hd1 : ¬ (d.length : Int) + 1 = 0 := by omega
    simp (maxDischargeDepth := 16) [symB, List.length_set, andThen, hlen, h5, hd0, hd1]
    exact good (by simp) _ (by simp [hlen]) (by simp [slot_ne, h2]) (by simp (maxDischargeDepth := 16) [slot_eq, slot_ne, hlen]) (by simp [slot_ne, h5]) (by simp (maxDischargeDepth := 16) [slot_eq, slot_ne, hlen, hd1])
def rightB (l : List Nat) : Bool := (l.all fun x => decide (x < B9)) && (l.length == 0 || l.getLastD 0 != 0)
theorem natRight_ev (l : List Nat) (tok : Tok) (σ : Sto) (hl : l.length ≤ 100000000000) : CallW Tryz.prog EV 106 [.sl (d32 l) tok] σ fun r σ' => r = .ret (.lit (.bool (rightB l))) ∧ σ' = σ := by
 refine CallW.start (fn := Tryz.f106) (M := []) rfl rfl rfl rfl (by simp) fun tm hlen hs => ?_
 have h0 := hs 0 _ rfl
 clear hs
 simp at hlen
 refine CW.hide fun R0 hR0 => ?_
 refine CW.seqK fun K hK => CW.region ?_
 simp (maxDischargeDepth := 16) [symB, List.length_set, andThen, hlen, h0]
 refine hK _ _ ?_; clear hK K
 refine CW.seqK fun K hK => ?_
 refine CW.seqK fun K2 hK2 => CW.region ?_
 simp (maxDischargeDepth := 16) [symB, List.length_set, andThen, hlen, h0, d32_len]
 refine hK2 _ _ ?_; clear hK2 K2
 refine CW.block ?_
 refine CW.hide fun R hR => ?_
 refine CW.loopI (fun r tm σ1 => ∃ i, r = l.length - i ∧ i ≤ l.length ∧ (∀ x ∈ l.take i, x < B9) ∧ tm.length = 26 ∧ slot tm 0 = .sl (d32 l) tok ∧ slot tm 5 = .sl (d32 l) tok ∧ slot tm 6 = .lit (.int .i64 l.length) ∧ slot tm 7 = .lit (.int .i64 i) ∧ σ1 = σ) ?_ _ _ _
  ⟨0, rfl, by omega, by simp, by simp [hlen], by simp [slot_ne, h0], by simp (maxDischargeDepth := 16) [slot_eq, slot_ne, hlen, h0], by simp (maxDischargeDepth := 16) [slot_ne, slot_eq, hlen], by simp (maxDischargeDepth := 16) [slot_eq, hlen], rfl⟩
 clear h0 hlen tm
 rintro r tm σ1 ⟨i, rfl, hi, hall, hlen, h0, h5, h6, h7, rfl⟩
 refine CW.hide fun R2 hR2 => ?_
 refine CW.seqK fun K4 hK4 => CW.region ?_
 by_cases hlt : i < l.length
 · have hlt' : (i : Int) < l.length := by omega
   simp (maxDischargeDepth := 16) [symB, List.length_set, andThen, hlen, h6, h7, hlt', hlt]
   refine hK4 _ _ ?_
   refine CW.seqK fun K3 hK3 => ?_
   refine CW.cond (t := true) (by simp (maxDischargeDepth := 16) [zT, slot_eq, slot_ne, hlen]) ?_
   refine CW.skip ?_
   simp only [andThen]
   refine hK3 _ _ ?_
   have hg := d32_get hlt
   have htk := List.take_succ_eq_append_getElem hlt
   have hmem := List.getElem_mem hlt
   generalize l[i] = x at *
   have hwk : IntKind.i64.wrap ((i : Int) + 1) = ((i + 1 : Nat) : Int) := wrap_succ (by omega)
   refine CW.seqK fun K5 hK5 => CW.block ?_
   refine CW.seqK fun K hK => CW.region ?_
   simp (maxDischargeDepth := 16) [symB, List.length_set, andThen, hlen, h5, h7, hg]
   refine hK _ _ ?_; clear hK K
   refine CW.seqK fun K6 hK6 => CW.region ?_
   by_cases hx : x < B9
   · have hx1 : x < 1000000000 := hx
     have hx2 : ¬ (1000000000 : Int) ≤ (x : Int) := by omega
     simp (maxDischargeDepth := 16) [symB, List.length_set, andThen, hlen, hx2]
     refine hK6 _ _ ?_
     refine CW.cond (t := false) (by simp (maxDischargeDepth := 16) [zT, slot_eq, slot_ne, hlen, hx2]) ?_
     refine CW.skip ?_
     simp only [andThen, outOf]
     refine hK5 _ _ ?_
     refine CW.region ?_
     simp (maxDischargeDepth := 16) [symB, List.length_set, andThen, hlen, h7, hwk]
     refine hR2 _ _ _ ⟨l.length - (i + 1), by omega, i + 1, rfl, hlt, ?_, by simp [hlen], by simp [slot_ne, h0], by simp [slot_ne, h5], by simp [slot_ne, h6], by simp (maxDischargeDepth := 16) [slot_eq, hlen], rfl⟩
     intro y hy
     rw [htk, List.mem_append] at hy
     rcases hy with hy | hy
     · exact hall y hy
     · simp at hy; subst hy; exact hx
   · have hx1 : (1000000000 : Int) ≤ (x : Int) := by unfold B9 at hx; omega
     simp (maxDischargeDepth := 16) [symB, List.length_set, andThen, hlen, hx1]
     refine hK6 _ _ ?_
     refine CW.cond (t := true) (by simp (maxDischargeDepth := 16) [zT, slot_eq, slot_ne, hlen, hx1]) ?_
     refine CW.seqK fun K hK => CW.region ?_
     simp (maxDischargeDepth := 16) [symB, List.length_set, andThen, hlen]
     refine hK _ _ ?_; clear hK K
     refine CW.ret ?_
     simp only [andThen, outOf]
     refine hR2 _ _ _ (hR _ _ _ (hR0 _ _ _ ⟨.lit (.bool false), ?_, ?_, rfl⟩))
     · simp (maxDischargeDepth := 16) [zA, omap, zB, slot_eq, slot_ne, hlen]
     · have : rightB l = false := by
        unfold rightB
        rw [Bool.and_eq_false_iff]
        exact .inl (by rw [List.all_eq_false]; exact ⟨x, hmem, by simpa using hx⟩)
       rw [this]
 · have hlt' : ¬ (i : Int) < l.length := by omega
   have hil : i = l.length := by omega
   subst hil
   simp (maxDischargeDepth := 16) [symB, List.length_set, andThen, hlen, h6, h7]
   refine hK4 _ _ ?_
   refine CW.seqK fun K3 hK3 => ?_
   refine CW.cond (t := false) (by simp (maxDischargeDepth := 16) [zT, slot_eq, slot_ne, hlen]) ?_
   refine CW.exit ?_
   simp only [andThen]
   refine hR2 _ _ _ (hR _ _ _ ?_)
   simp only [outOf, if_true, andThen]
   refine hK _ _ ?_
   have hall2 : (l.all fun x => decide (x < B9)) = true := by rw [List.all_eq_true]; intro x hx; rw [List.take_length] at hall; simpa using hall x hx
   refine CW.seqK fun K5 hK5 => CW.region ?_
   by_cases hl0 : l = []
   · subst hl0
     have hd0 : (d32 []).length = 0 := rfl
     simp (maxDischargeDepth := 16) [symB, List.length_set, andThen, hlen, h0, hd0]
     refine hK5 _ _ ?_
     refine CW.ret (hR0 _ _ _ ⟨.lit (.bool true), ?_, rfl, rfl⟩)
     simp (maxDischargeDepth := 16) [zA, omap, zB, slot_eq, slot_ne, hlen]
   · have hlp : 0 < l.length := List.length_pos_iff.2 hl0
     have hln : ¬ (l.length : Int) = 0 := by omega
     have hw : IntKind.i64.wrap ((l.length : Int) - 1) = ((l.length - 1 : Nat) : Int) := by rw [IntWalk.i64_in _ ⟨by omega, by omega⟩]; omega
     have hg := d32_get (by omega : l.length - 1 < l.length)
     have hlast : l.getLastD 0 = l[l.length - 1] := by
      rw [List.getLastD_eq_getLast?, List.getLast?_eq_getElem?, List.getElem?_eq_getElem (by omega)]; rfl
     generalize l[l.length - 1] = x at *
     have hrx : rightB l = (x != 0) := by unfold rightB; rw [hall2, hlast]; simp [hl0]
     generalize hm : l.length - 1 = m at *
     by_cases hx : x = 0
     · subst hx
       simp (maxDischargeDepth := 16) [symB, List.length_set, andThen, hlen, h0, d32_len, hln, hl0, hw, hg]
       refine hK5 _ _ ?_
       refine CW.ret (hR0 _ _ _ ⟨.lit (.bool false), ?_, by rw [hrx]; rfl, rfl⟩)
       simp (maxDischargeDepth := 16) [zA, omap, zB, slot_eq, slot_ne, hlen]
     · have hx2 : ¬ (x : Int) = 0 := by omega
       simp (maxDischargeDepth := 16) [symB, List.length_set, andThen, hlen, h0, d32_len, hln, hl0, hw, hg, hx, hx2]
       refine hK5 _ _ ?_
       refine CW.ret (hR0 _ _ _ ⟨.lit (.bool true), ?_, by rw [hrx]; simp [hx], rfl⟩)
       simp (maxDischargeDepth := 16) [zA, omap, zB, slot_eq, slot_ne, hlen, hx, hx2]
def rightIB (neg : Bool) (l : List Nat) : Bool := rightB l && (!neg || decide (0 < l.length))
theorem numRight_ev (neg : Bool) (l : List Nat) (tok : Tok) (σ : Sto) (hl : l.length ≤ 100000000000) : CallW Tryz.prog EV 84 [.agg [.lit (.bool neg), .sl (d32 l) tok]] σ fun r σ' => r = .ret (.lit (.bool (rightIB neg l))) ∧ Ext σ σ' := by
 refine CallW.start (fn := Tryz.f84) (M := []) rfl rfl rfl rfl (by simp) fun tm hlen hs => ?_
 have h0 := hs 0 _ rfl
 clear hs
 simp at hlen
 refine CW.hide fun R0 hR0 => ?_
 refine CW.seqK fun K hK => CW.region ?_
 simp (maxDischargeDepth := 16) [symB, List.length_set, andThen, hlen, h0]
 refine hK _ _ ?_; clear hK K
 refine CW.seqK fun K hK => CW.region ?_
 simp (maxDischargeDepth := 16) [symB, List.length_set, andThen, hlen]
 refine (natRight_ev l tok _ hl).mono ?_
 rintro r σ2 ⟨rfl, rfl⟩
 unfold rightIB at hR0
 cases hb : rightB l with
 | false =>
  rw [hb] at hR0
  simp (maxDischargeDepth := 16) [symB, List.length_set, andThen, hlen, retK]
  refine hK _ _ ?_
  refine CW.ret (hR0 _ _ _ ⟨.lit (.bool false), ?_, by simp, ⟨_, rfl⟩⟩)
  simp (maxDischargeDepth := 16) [zA, omap, zB, slot_eq, slot_ne, hlen]
 | true =>
  rw [hb] at hR0
  cases neg with
  | false =>
   simp (maxDischargeDepth := 16) [symB, List.length_set, andThen, hlen, retK]
   refine hK _ _ ?_
   refine CW.ret (hR0 _ _ _ ⟨.lit (.bool true), ?_, by simp, ⟨_, rfl⟩⟩)
   simp (maxDischargeDepth := 16) [zA, omap, zB, slot_eq, slot_ne, hlen]
  | true =>
   by_cases hp : 0 < l.length
   · have hp2 : (0 : Int) < (l.length : Int) := by omega
     simp (maxDischargeDepth := 16) [symB, List.length_set, andThen, hlen, retK, d32_len, hp, hp2]
     refine hK _ _ ?_
     refine CW.ret (hR0 _ _ _ ⟨.lit (.bool true), ?_, by simp [hp], ⟨_, rfl⟩⟩)
     simp (maxDischargeDepth := 16) [zA, omap, zB, slot_eq, slot_ne, hlen]
   · have hp2 : ¬ (0 : Int) < (l.length : Int) := by omega
     simp (maxDischargeDepth := 16) [symB, List.length_set, andThen, hlen, retK, d32_len, hp, hp2]
     refine hK _ _ ?_
     refine CW.ret (hR0 _ _ _ ⟨.lit (.bool false), ?_, by simp [hp], ⟨_, rfl⟩⟩)
     simp (maxDischargeDepth := 16) [zA, omap, zB, slot_eq, slot_ne, hlen]
end
end Go.Proofs.YtmmgjaheffbpaaaGreatDoor
