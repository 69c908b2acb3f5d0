/-
 EV: nat: digits; the functions at, top, carried, of, row, Trim, Right.
-/
import Derived.Test.YtmmgjaheffbpaaaGreatDoorFmtUQ
namespace Go.Proofs.YtmmgjaheffbpaaaGreatDoor
set_option maxRecDepth 100000
set_option maxHeartbeats 8000000
set_option linter.unusedSimpArgs false
set_option linter.unusedVariables false
set_option linter.unusedSectionVars false
section
open Go.RowKit
def c64 (l : List Nat) : List AV := l.map fun (n : Nat) => AV.lit (.int .u64 (n : Int))
def d64 (l : List Nat) : List (List AV) := l.map fun (n : Nat) => [AV.lit (.int .u64 (n : Int))]
def d32 (l : List Nat) : List (List AV) := l.map fun (n : Nat) => [AV.lit (.int .u32 (n : Int))]
theorem c64_len (l : List Nat) : (c64 l).length = l.length := by simp [c64]
theorem d64_len (l : List Nat) : (d64 l).length = l.length := by simp [d64]
theorem d32_len (l : List Nat) : (d32 l).length = l.length := by simp [d32]
theorem c64_get {l : List Nat} {i : Nat} (h : i < l.length) : (c64 l)[i]? = some (.lit (.int .u64 l[i])) := by simp [c64, h]
theorem d64_get {l : List Nat} {i : Nat} (h : i < l.length) : (d64 l)[i]? = some [.lit (.int .u64 l[i])] := by simp [d64, h]
theorem d32_get {l : List Nat} {i : Nat} (h : i < l.length) : (d32 l)[i]? = some [.lit (.int .u32 l[i])] := by simp [d32, h]
theorem d64_head (l : List Nat) : (d64 l).head?.all (·.length == 1) = true := by cases l <;> rfl
theorem d32_head (l : List Nat) : (d32 l).head?.all (·.length == 1) = true := by cases l <;> rfl
theorem d64_append (a b : List Nat) : d64 (a ++ b) = d64 a ++ d64 b := by simp [d64]
theorem d32_append (a b : List Nat) : d32 (a ++ b) = d32 a ++ d32 b := by simp [d32]
theorem CW.reset {P : Program} {E : Env} {M : List TypeId} {c : Code} {tm : List AV} {σ : Sto} {R : AExit → List AV → Sto → Prop} (Q : List AV → Prop) (h : Q tm) (k : ∀ tm, Q tm → CW P E M c tm σ R) : CW P E M c tm σ R := k _ h
theorem LW.reset {P : Program} {E : Env} {M : List TypeId} {ops : Array Oper} {rest : List Oper} {tm : List AV} {σ : Sto} {R : AExit → List AV → Sto → Prop} (Q : List AV → Prop) (h : Q tm) (k : ∀ tm, Q tm → LW P E M ops rest tm σ R) : LW P E M ops rest tm σ R := k _ h
theorem DW.reset {P : Program} {E : Env} {M : List TypeId} {ops : Array Oper} {rest : List Oper} {accs : List Acc} {tm : List AV} {σ : Sto} {R : AExit → List AV → Sto → Prop} (Q : List AV → Prop) (h : Q tm) (k : ∀ tm, Q tm → DW P E M ops rest accs tm σ R) : DW P E M ops rest accs tm σ R := k _ h
def atD (l : List Nat) (k : Int) : Nat := if 0 ≤ k ∧ k < l.length then l.getD k.toNat 0 else 0
theorem atD_nat (l : List Nat) (k : Nat) : atD l k = l.getD k 0 := by
 unfold atD
 split
 · simp
 · rename_i h
   rw [List.getD_eq_getElem?_getD, List.getElem?_eq_none (by omega)]; rfl
theorem at_sl (l : List Nat) (tok : Tok) (k : Int) (σ : Sto) : CallW Tryz.prog EV 69 [.sl (d64 l) tok, .lit (.int .i64 k)] σ fun r σ' => r = .ret (.lit (.int .u64 (atD l k))) ∧ σ' = σ := by
 refine CallW.start (fn := Tryz.f69) (M := []) rfl rfl rfl rfl (by simp) fun tm hlen hs => ?_
 have h0 := hs 0 _ rfl
 have h1 := hs 1 _ rfl
 clear hs
 simp at hlen
 refine CW.hide fun R0 hR0 => ?_
 refine CW.seqK fun K hK => CW.region ?_
 simp (maxDischargeDepth := 16) [symB, List.length_set, andThen, hlen, h0, h1]
 refine hK _ _ ?_; clear hK K
 refine CW.seqK fun K0 hK0 => ?_
 by_cases hk : 0 ≤ k
 · by_cases hk2 : k < l.length
   · obtain ⟨k, rfl⟩ : ∃ m : Nat, k = m := ⟨k.toNat, by omega⟩
     have hi : k < l.length := by omega
     have hg := d64_get hi
     refine CW.seqK fun K hK => CW.region ?_
     simp (maxDischargeDepth := 16) [symB, List.length_set, andThen, hlen, h0, h1, hk, d64_len, hk2]
     refine hK _ _ ?_; clear hK K
     refine CW.cond (t := true) (by simp (maxDischargeDepth := 16) [zT, slot_eq, slot_ne, hlen]) ?_
     refine CW.seqK fun K hK => CW.region ?_
     simp (maxDischargeDepth := 16) [symB, List.length_set, andThen, hlen, h0, h1, hk, d64_len, hk2, hg]
     refine hK _ _ ?_; clear hK K
     refine CW.ret (hR0 _ _ _ ⟨.lit (.int .u64 (atD l k)), ?_, rfl, rfl⟩)
     have e : atD l k = l[k] := by rw [atD_nat, List.getD_eq_getElem?_getD, List.getElem?_eq_getElem hi]; rfl
     simp (maxDischargeDepth := 16) [zA, omap, zB, slot_eq, slot_ne, hlen, e]
   · refine CW.seqK fun K hK => CW.region ?_
     simp (maxDischargeDepth := 16) [symB, List.length_set, andThen, hlen, h0, h1, hk, d64_len, hk2]
     refine hK _ _ ?_; clear hK K
     refine CW.cond (t := false) (by simp (maxDischargeDepth := 16) [zT, slot_eq, slot_ne, hlen]) ?_
     refine CW.skip (hK0 _ _ ?_)
     refine CW.seqK fun K hK => CW.region ?_
     simp (maxDischargeDepth := 16) [symB, List.length_set, andThen, hlen]
     refine hK _ _ ?_; clear hK K
     refine CW.ret (hR0 _ _ _ ⟨.lit (.int .u64 (atD l k)), ?_, rfl, rfl⟩)
     have e : atD l k = 0 := by unfold atD; rw [if_neg (by omega)]
     simp (maxDischargeDepth := 16) [zA, omap, zB, slot_eq, slot_ne, hlen, e]
 · refine CW.seqK fun K hK => CW.region ?_
   simp (maxDischargeDepth := 16) [symB, List.length_set, andThen, hlen, h0, h1, hk]
   refine hK _ _ ?_; clear hK K
   refine CW.cond (t := false) (by simp (maxDischargeDepth := 16) [zT, slot_eq, slot_ne, hlen]) ?_
   refine CW.skip (hK0 _ _ ?_)
   refine CW.seqK fun K hK => CW.region ?_
   simp (maxDischargeDepth := 16) [symB, List.length_set, andThen, hlen]
   refine hK _ _ ?_; clear hK K
   refine CW.ret (hR0 _ _ _ ⟨.lit (.int .u64 (atD l k)), ?_, rfl, rfl⟩)
   have e : atD l k = 0 := by unfold atD; rw [if_neg (by omega)]
   simp (maxDischargeDepth := 16) [zA, omap, zB, slot_eq, slot_ne, hlen, e]
theorem at_asl (l : List Nat) (id T : Nat) (k : Int) (σ : Sto) (ho : σ[id]? = some (.cells (c64 l) T)) : CallW Tryz.prog EV 69 [.asl id 0 l.length 1, .lit (.int .i64 k)] σ fun r σ' => r = .ret (.lit (.int .u64 (atD l k))) ∧ σ' = σ := by
 refine CallW.start (fn := Tryz.f69) (M := []) rfl rfl rfl rfl (by simp) fun tm hlen hs => ?_
 have h0 := hs 0 _ rfl
 have h1 := hs 1 _ rfl
 clear hs
 simp at hlen
 refine CW.hide fun R0 hR0 => ?_
 refine CW.seqK fun K hK => CW.region ?_
 simp (maxDischargeDepth := 16) [symB, List.length_set, andThen, hlen, h0, h1]
 refine hK _ _ ?_; clear hK K
 refine CW.seqK fun K0 hK0 => ?_
 by_cases hk : 0 ≤ k
 · by_cases hk2 : k < l.length
   · obtain ⟨k, rfl⟩ : ∃ m : Nat, k = m := ⟨k.toNat, by omega⟩
     have hi : k < l.length := by omega
     have hg := c64_get hi
     refine CW.seqK fun K hK => CW.region ?_
     simp (maxDischargeDepth := 16) [symB, List.length_set, andThen, hlen, h0, h1, hk, hk2]
     refine hK _ _ ?_; clear hK K
     refine CW.cond (t := true) (by simp (maxDischargeDepth := 16) [zT, slot_eq, slot_ne, hlen]) ?_
     refine CW.seqK fun K hK => CW.region ?_
     simp (maxDischargeDepth := 16) [symB, List.length_set, andThen, hlen, h0, h1, hk, hk2, hg, ho]
     refine hK _ _ ?_; clear hK K
     refine CW.ret (hR0 _ _ _ ⟨.lit (.int .u64 (atD l k)), ?_, rfl, rfl⟩)
     have e : atD l k = l[k] := by rw [atD_nat, List.getD_eq_getElem?_getD, List.getElem?_eq_getElem hi]; rfl
     simp (maxDischargeDepth := 16) [zA, omap, zB, slot_eq, slot_ne, hlen, e]
   · refine CW.seqK fun K hK => CW.region ?_
     simp (maxDischargeDepth := 16) [symB, List.length_set, andThen, hlen, h0, h1, hk, hk2]
     refine hK _ _ ?_; clear hK K
     refine CW.cond (t := false) (by simp (maxDischargeDepth := 16) [zT, slot_eq, slot_ne, hlen]) ?_
     refine CW.skip (hK0 _ _ ?_)
     refine CW.seqK fun K hK => CW.region ?_
     simp (maxDischargeDepth := 16) [symB, List.length_set, andThen, hlen]
     refine hK _ _ ?_; clear hK K
     refine CW.ret (hR0 _ _ _ ⟨.lit (.int .u64 (atD l k)), ?_, rfl, rfl⟩)
     have e : atD l k = 0 := by unfold atD; rw [if_neg (by omega)]
     simp (maxDischargeDepth := 16) [zA, omap, zB, slot_eq, slot_ne, hlen, e]
 · refine CW.seqK fun K hK => CW.region ?_
   simp (maxDischargeDepth := 16) [symB, List.length_set, andThen, hlen, h0, h1, hk]
   refine hK _ _ ?_; clear hK K
   refine CW.cond (t := false) (by simp (maxDischargeDepth := 16) [zT, slot_eq, slot_ne, hlen]) ?_
   refine CW.skip (hK0 _ _ ?_)
   refine CW.seqK fun K hK => CW.region ?_
   simp (maxDischargeDepth := 16) [symB, List.length_set, andThen, hlen]
   refine hK _ _ ?_; clear hK K
   refine CW.ret (hR0 _ _ _ ⟨.lit (.int .u64 (atD l k)), ?_, rfl, rfl⟩)
   have e : atD l k = 0 := by unfold atD; rw [if_neg (by omega)]
   simp (maxDischargeDepth := 16) [zA, omap, zB, slot_eq, slot_ne, hlen, e]
theorem top_sl (l : List Nat) (tok : Tok) (σ : Sto) (hl : l.length ≤ 1000000000000) : CallW Tryz.prog EV 68 [.sl (d64 l) tok] σ fun r σ' => r = .ret (.lit (.int .u64 (atD l ((l.length : Int) - 1)))) ∧ σ' = σ := by
 refine CallW.start (fn := Tryz.f68) (M := []) rfl rfl rfl rfl (by simp) fun tm hlen hs => ?_
 have h0 := hs 0 _ rfl
 clear hs
 simp at hlen
 refine CW.hide fun R0 hR0 => ?_
 refine CW.seqK fun K hK => CW.region ?_
 simp (maxDischargeDepth := 16) [symB, List.length_set, andThen, hlen, h0]
 refine hK _ _ ?_; clear hK K
 have hw : IntKind.i64.wrap ((l.length : Int) - 1) = (l.length : Int) - 1 := IntWalk.i64_in _ ⟨by omega, by omega⟩
 refine CW.seqK fun K hK => CW.region ?_
 simp (maxDischargeDepth := 16) [symB, List.length_set, andThen, hlen, h0, d64_len, hw]
 refine (at_sl l tok _ σ).mono ?_
 rintro r σ2 ⟨rfl, rfl⟩
 simp (maxDischargeDepth := 16) [symB, List.length_set, andThen, hlen, retK]
 refine hK _ _ ?_
 refine CW.ret (hR0 _ _ _ ⟨.lit (.int .u64 (atD l ((l.length : Int) - 1))), ?_, rfl, rfl⟩)
 simp (maxDischargeDepth := 16) [zA, omap, zB, slot_eq, slot_ne, hlen]
def TokF (σ0 σ : Sto) (m : Nat) (e k : Nat) (t : Tok) : Prop := TokAt σ0 σ m e t ∨ (m = 0 ∧ ∃ id, t = .fresh id k ∧ σ0.length ≤ id ∧ σ[id]? = some (.tok 0 e))
theorem TokF.ext {σ0 a b : Sto} {m e k : Nat} {t : Tok} (h : TokF σ0 a m e k t) (g : Ext a b) : TokF σ0 b m e k t := by
 rcases h with h | ⟨h0, id, h1, h2, h3⟩
 · exact .inl (h.ext g)
 · exact .inr ⟨h0, id, h1, h2, g.get h3⟩
theorem append_atF {P : Program} {M : List TypeId} {σ0 σ : Sto} {es fs : List (List AV)} {tok tk : Tok} {t e k by_ : Nat} {z : Value} (ht : P.underlying t = some (.slice e)) (hk : szOf P e = some (k + 1)) (hb : bytesOf P e = some by_) (hz : ((P.info? e).bind fun x => x.zero) = some z) (hzk : z.cells.size = k + 1)
    (htok : TokF σ0 σ (es.length * (k + 1)) e (k + 1) tok) (hext : Ext σ0 σ) (h1 : es.head?.all (·.length == k + 1) = true) (h2 : fs.head?.all (·.length == k + 1) = true) (hf : fs.length ≠ 0) (hby : (es.length + fs.length) * by_ ≤ 140737488355328) (hle : es.length + fs.length ≤ 140737488355328) (hMt : M.contains t = false := by rfl) :
    ∃ t' σ' acc, Ext σ0 σ' ∧ TokAt σ0 σ' ((es.length + fs.length) * (k + 1)) e t' ∧ ∀ (tm : List AV) (ds : Option Tmp) (ty : TypeId) (po : String) (af : Array Edge) (gu : Option (Nat × Bool)) (x y : Operand), evx tm x = some (.sl es tok) → evx tm y = some (.sl fs tk) →
     evStep P M (evx tm) σ ⟨ds, .call ⟨.builtin .append, #[x, y], #[t, t]⟩, ty, po, af, gu⟩ = some (.val (.sl (es ++ stripRows fs) t') σ' acc) := by
 rcases htok with htok | ⟨h0, id, rfl, hid, hσ⟩
 · exact append_at ht hk hb hz hzk htok hext h1 h2 hf hby hle hMt
 · have hes : es = [] := by
    rcases Nat.mul_eq_zero.1 h0 with h | h
    · exact List.length_eq_zero_iff.1 h
    · omega
   subst hes
   have hz' : ((P.info? e).bind (·.zero)).map (·.cells.size) = some (k + 1) := by rw [hz]; simp [hzk]
   refine ⟨.own σ.length, _, .any, (hext.set hid).push _, TokAt.next hext, fun tm ds ty po af gu x y hx hy => ?_⟩
   have hlit : evLit P (evx tm) σ ⟨ds, .call ⟨.builtin .append, #[x, y], #[t, t]⟩, ty, po, af, gu⟩ = none := by
    unfold evLit
    simp [Op.operands, Call.operands, hx, conc, conc2]
   unfold evStep
   rw [if_neg (by simp only [mutOp, hMt]; exact Bool.false_ne_true), hlit]
   simp only [evPure, evMem]
   unfold evAppend
   simp only [ht, hx, hy, hk, hb, hz', if_true]
   rw [if_pos ⟨trivial, h1, h2, hby, hle⟩, if_neg hf]
   simp only [hσ]
   rw [if_pos ⟨⟨by simp, trivial⟩, trivial, trivial⟩]
theorem spill_len (c : Nat) : (spill c).length ≤ c := by
 induction c using Nat.strongRecOn with
 | ind c ih =>
  unfold spill
  split
  · simp
  · rename_i h
    have hd : c / B9 < c := Nat.div_lt_self (by omega) (by decide)
    have := ih _ hd
    simp only [List.length_cons]; omega
theorem carry_len : ∀ (l : List Nat) (c : Nat), (∀ x ∈ l, x < 9223372036854775808) → c < 17179869184 → (carry l c).length < l.length + 17179869184
 | [], c, _, hc => by have := spill_len c; unfold carry; simp; omega
 | x :: l, c, h, hc => by
  have hx := h x (by simp)
  have := carry_len l ((x + c) / B9) (fun y hy => h y (by simp [hy])) (by unfold B9; omega)
  unfold carry
  simp only [List.length_cons]; omega
theorem drop0_snoc (a : List Nat) (x : Nat) : drop0 (a ++ [x]) = if x = 0 then drop0 a else a ++ [x] := by
 induction a with
 | nil => simp [drop0]
 | cons y a ih =>
  rw [List.cons_append, drop0_cons, ih, drop0_cons]
  by_cases hx : x = 0
  · simp [hx]
  · simp [hx]
end
section
open Go.RowKit
theorem carried_sl (l : List Nat) (tk0 : Tok) (σ : Sto) (hl : l.length ≤ 1000000000) (hx : ∀ x ∈ l, x < 9223372036854775808) : CallW Tryz.prog EV 94 [.sl (d64 l) tk0] σ fun r σ' => ∃ t, r = .ret (.agg [.sl (d64 (normD l)) t]) ∧ Ext σ σ' := by
 refine CallW.start (fn := Tryz.f94) (M := []) rfl rfl rfl rfl (by simp) fun tm hlen hs => ?_
 have h0 := hs 0 _ rfl
 clear hs
 simp at hlen
 refine CW.hide fun R0 hR0 => ?_
 refine CW.seqK fun K hK => CW.region ?_
 simp (maxDischargeDepth := 16) [symB, List.length_set, andThen, hlen, h0]
 refine hK _ _ ?_; clear hK K
 have hwl : IntKind.i64.wrap ((l.length : Int) + 2) = (l.length : Int) + 2 := IntWalk.i64_in _ ⟨by omega, by omega⟩
 have hc1 : (0 : Int) ≤ (l.length : Int) + 2 := by omega
 have hc2 : (8 : Int) * ((l.length : Int) + 2) ≤ 140737488355328 := by omega
 have hc3 : (l.length : Int) + 2 ≤ 140737488355328 := by omega
 refine CW.seqK fun K hK => CW.region ?_
 simp (maxDischargeDepth := 16) [symB, List.length_set, andThen, hlen, h0, d64_len, hwl, hc1, hc2, hc3]
 refine hK _ _ ?_; clear hK K
 refine CW.seqK fun K hK => CW.region ?_
 simp (maxDischargeDepth := 16) [symB, List.length_set, andThen, hlen]
 refine hK _ _ ?_; clear hK K
 refine CW.seqK fun K hK => ?_
 refine CW.seqK fun K2 hK2 => CW.region ?_
 simp (maxDischargeDepth := 16) [symB, List.length_set, andThen, hlen]
 refine hK2 _ _ ?_; clear hK2 K2
 refine CW.block ?_
 refine CW.hide fun R hR => ?_
 have htot := carry_len l 0 hx (by omega)
 refine CW.loopI (fun r tm σ1 => ∃ (k c : Nat) (out : List Nat) (t : Tok), r = (carry (l.drop k) c).length ∧ out ++ carry (l.drop k) c = carry l 0 ∧ out.length = k ∧ c < 17179869184 ∧ tm.length = 47 ∧ slot tm 0 = .sl (d64 l) tk0 ∧ slot tm 2 = .ptr σ.length 0 ∧ slot tm 3 = .sl (d64 out) t ∧ slot tm 4 = .lit (.int .u64 c) ∧ slot tm 5 = .lit (.int .i64 k) ∧ Ext (σ ++ [.cells [.sl [] .full] 125]) σ1 ∧ TokF (σ ++ [.cells [.sl [] .full] 125]) σ1 (k * 1) 53 1 t) ?_ _ _ _
  ⟨0, 0, [], .fresh (σ.length + 1) 1, rfl, rfl, rfl, by omega, by simp [hlen], by simp [slot_ne, h0], by simp (maxDischargeDepth := 16) [slot_ne, slot_eq, hlen], by simp (maxDischargeDepth := 16) [slot_ne, slot_eq, hlen, d64], by simp (maxDischargeDepth := 16) [slot_ne, slot_eq, hlen], by simp (maxDischargeDepth := 16) [slot_eq, hlen], ⟨[.tok 0 53], by simp⟩, .inr ⟨rfl, _, rfl, by simp, by simp⟩⟩
 clear h0 hlen tm
 rintro r tm σ1 ⟨k, c, out, t, rfl, hout, hol, hc, hlen, h0, h2, h3, h4, h5, hext, htok⟩
 have hko : k ≤ (carry l 0).length := by rw [← hout, List.length_append]; omega
 refine CW.hide fun R2 hR2 => ?_
 refine CW.seqK fun K3 hK3 => ?_
 refine CW.seqK fun K4 hK4 => CW.region ?_
 have hdone : (k < l.length ∨ 0 < c) ↔ carry (l.drop k) c ≠ [] := by
  rcases Nat.lt_or_ge k l.length with h | h
  · rw [List.drop_eq_getElem_cons h, carry]; simp [h]
  · rw [List.drop_eq_nil_of_le h, carry, spill]
    split
    · rename_i h0; subst h0; simp; omega
    · rename_i h0; simp; omega
 by_cases hgo : k < l.length ∨ 0 < c
 · have hstep : carry (l.drop k) c = (l.getD k 0 + c) % B9 :: carry (l.drop (k + 1)) ((l.getD k 0 + c) / B9) := by
    rcases Nat.lt_or_ge k l.length with h | h
    · rw [List.drop_eq_getElem_cons h, carry, List.getD_eq_getElem?_getD, List.getElem?_eq_getElem h]; rfl
    · rw [List.drop_eq_nil_of_le h, List.drop_eq_nil_of_le (by omega : l.length ≤ k + 1), List.getD_eq_getElem?_getD, List.getElem?_eq_none h, carry, carry, Option.getD_none, Nat.zero_add, spill, dif_neg (by omega)]
   have hxk : l.getD k 0 < 9223372036854775808 := by
    rcases Nat.lt_or_ge k l.length with h | h
    · rw [List.getD_eq_getElem?_getD, List.getElem?_eq_getElem h]; exact hx _ (List.getElem_mem h)
    · rw [List.getD_eq_getElem?_getD, List.getElem?_eq_none h]; decide
   generalize hgx : l.getD k 0 = xk at hstep hxk
   -- the condition
   have body : ∀ tm : List AV, tm.length = 47 → slot tm 0 = .sl (d64 l) tk0 → slot tm 2 = .ptr σ.length 0 → slot tm 3 = .sl (d64 out) t → slot tm 4 = .lit (.int .u64 c) → slot tm 5 = .lit (.int .i64 k) → slot tm 17 = .lit (.bool true) → K4 tm σ1 := by
    intro tm hlen h0 h2 h3 h4 h5 h17
    refine hK4 _ _ ?_
    refine CW.cond (t := true) (by simp (maxDischargeDepth := 16) [zT, slot_eq, slot_ne, hlen, h17]) ?_
    refine CW.skip ?_
    simp only [andThen]
    refine hK3 _ _ ?_
    refine CW.seqK fun K5 hK5 => CW.block ?_
    refine CW.seqK fun K6 hK6 => CW.region ?_
    have hw : IntKind.u64.wrap ((c : Int) + (xk : Int)) = ((xk + c : Nat) : Int) := by rw [IntKind.wrap_u64]; omega
    simp (maxDischargeDepth := 16) [symB, List.length_set, andThen, hlen, h0, h4, h5]
    refine (at_sl l tk0 k σ1).mono ?_
    rintro r σ2 ⟨rfl, rfl⟩
    rw [atD_nat, hgx]
    generalize hs : xk + c = s at *
    simp (maxDischargeDepth := 16) [symB, List.length_set, andThen, hlen, retK, hw]
    refine hK6 _ _ ?_; clear hK6 K6
    have hrem : (s : Int).tmod 1000000000 = ((s % B9 : Nat) : Int) := (Int.ofNat_tmod s B9).symm
    have hquo : IntKind.u64.wrap ((s : Int).tdiv 1000000000) = ((s / B9 : Nat) : Int) := by rw [show (s : Int).tdiv 1000000000 = ((s / B9 : Nat) : Int) from (Int.ofNat_tdiv s B9).symm, IntKind.wrap_u64]; unfold B9; omega
    have hquo2 : IntKind.u64.wrap ((s : Int) / 1000000000) = ((s / B9 : Nat) : Int) := by rw [IntKind.wrap_u64]; unfold B9; omega
    have hdl : s / B9 < 17179869184 := by unfold B9; omega
    generalize hqq : s % B9 = q at *
    generalize hqd : s / B9 = dq at *
    obtain ⟨t', σ3, acc, hext3, htok3, hap⟩ := append_atF (P := Tryz.prog) (M := []) (σ := σ2) (es := d64 out) (tok := t) (tk := .full) (fs := [[.lit (.int .u64 (q : Int))]]) (t := 123) Tryz.underlying123 szOf_53 bytesOf_53 zeroOf_53 rfl
     (by rw [d64_len, hol]; exact htok) hext (d64_head _) rfl (by simp) (by rw [d64_len]; simp; omega) (by rw [d64_len]; simp; omega)
    refine CW.seqK fun K6 hK6 => CW.region ?_
    simp (maxDischargeDepth := 16) [symB, List.length_set, andThen, hlen, h3, hrem, hap]
    refine hK6 _ _ ?_; clear hK6 K6
    refine CW.region ?_
    simp (maxDischargeDepth := 16) [symB, List.length_set, andThen, outOf, hlen, hquo, hquo2]
    refine hK5 _ _ ?_; clear hK5 K5
    have hwk : IntKind.i64.wrap ((k : Int) + 1) = ((k + 1 : Nat) : Int) := wrap_succ (by omega)
    refine CW.region ?_
    simp (maxDischargeDepth := 16) [symB, List.length_set, andThen, hlen, h5, hwk]
    refine hR2 _ _ _ ⟨(carry (l.drop (k + 1)) dq).length, by rw [hstep]; simp, k + 1, dq, out ++ [q], t', rfl, by rw [← hout, hstep]; simp, by simp [hol], hdl, by simp [hlen], by simp [slot_ne, h0], by simp [slot_ne, h2], ?_, by simp (maxDischargeDepth := 16) [slot_eq, slot_ne, hlen], by simp (maxDischargeDepth := 16) [slot_eq, hlen], hext3, .inl ?_⟩
    · simp (maxDischargeDepth := 16) [slot_eq, slot_ne, hlen, d64_append, stripRows, AV.strip, d64]
    · rw [d64_len, hol] at htok3; exact htok3
   by_cases hk : k < l.length
   · have hk' : (k : Int) < l.length := by omega
     simp (maxDischargeDepth := 16) [symB, List.length_set, andThen, hlen, h0, h4, h5, d64_len, hk']
     exact body _ (by simp [hlen]) (by simp [slot_ne, h0]) (by simp [slot_ne, h2]) (by simp [slot_ne, h3]) (by simp [slot_ne, h4]) (by simp [slot_ne, h5]) (by simp (maxDischargeDepth := 16) [slot_eq, slot_ne, hlen])
   · have hk' : ¬ (k : Int) < l.length := by omega
     have hc0 : (0 : Int) < c := by omega
     have hcn : 0 < c := by omega
     simp (maxDischargeDepth := 16) [symB, List.length_set, andThen, hlen, h0, h4, h5, d64_len, hk', hc0, hcn]
     exact body _ (by simp [hlen]) (by simp [slot_ne, h0]) (by simp [slot_ne, h2]) (by simp [slot_ne, h3]) (by simp [slot_ne, h4]) (by simp [slot_ne, h5]) (by simp (maxDischargeDepth := 16) [slot_eq, slot_ne, hlen])
 · have hk' : ¬ (k : Int) < l.length := by omega
   have hc0 : c = 0 := by omega
   have hfin : carry (l.drop k) c = [] := by
    rcases Classical.em (carry (l.drop k) c = []) with h | h
    · exact h
    · exact absurd (hdone.2 h) hgo
   rw [hfin, List.append_nil] at hout
   simp (maxDischargeDepth := 16) [symB, List.length_set, andThen, hlen, h0, h4, h5, d64_len, hk', hc0]
   refine hK4 _ _ ?_
   refine CW.cond (t := false) (by simp (maxDischargeDepth := 16) [zT, slot_eq, slot_ne, hlen]) ?_
   refine CW.exit ?_
   simp only [andThen]
   refine hR2 _ _ _ (hR _ _ _ ?_)
   simp only [outOf, if_true, andThen]
   refine hK _ _ ?_
   refine CW.reset (fun tm => tm.length = 47 ∧ slot tm 2 = .ptr σ.length 0 ∧ slot tm 3 = .sl (d64 out) t) ⟨by simp [hlen], by simp [slot_ne, h2], by simp [slot_ne, h3]⟩ ?_
   clear hK4 K4 hK3 K3 hR2 R2 hR R hK K h0 h2 h3 h4 h5 hlen tm
   rintro tm ⟨hlen, h2, h3⟩
   refine CW.seqK fun K hK => ?_
   refine CW.block ?_
   refine CW.hide fun R hR => ?_
   refine CW.loopI (fun r tm σ2 => ∃ (o2 : List Nat) (t : Tok), r = o2.length ∧ o2.length ≤ out.length ∧ drop0 o2 = normD l ∧ tm.length = 47 ∧ slot tm 2 = .ptr σ.length 0 ∧ slot tm 3 = .sl (d64 o2) t ∧ σ2 = σ1) ?_ _ _ _
    ⟨out, t, rfl, Nat.le_refl _, by unfold normD; rw [hout], hlen, h2, h3, rfl⟩
   clear h2 h3 hlen tm htok t
   rintro r tm σ2 ⟨o2, t, rfl, ho2, hnd, hlen, h2, h3, rfl⟩
   refine CW.hide fun R2 hR2 => ?_
   refine CW.seqK fun K3 hK3 => ?_
   refine CW.seqK fun K4 hK4 => CW.region ?_
   have stop : ∀ tm : List AV, tm.length = 47 → slot tm 2 = .ptr σ.length 0 → slot tm 3 = .sl (d64 o2) t → slot tm 39 = .lit (.bool false) → drop0 o2 = o2 → K4 tm σ2 := by
    intro tm hlen h2 h3 h39 hdd
    refine hK4 _ _ ?_
    refine CW.cond (t := false) (by simp (maxDischargeDepth := 16) [zT, slot_eq, slot_ne, hlen, h39]) ?_
    refine CW.exit ?_
    simp only [andThen]
    refine hR2 _ _ _ (hR _ _ _ ?_)
    simp only [outOf, if_true, andThen]
    refine hK _ _ ?_
    have hobj : σ2[σ.length]? = some (.cells [.sl [] .full] 125) := hext.get (by simp)
    have hlt : σ.length < σ2.length := (List.getElem?_eq_some_iff.1 hobj).1
    refine CW.seqK fun K5 hK5 => CW.region ?_
    simp (maxDischargeDepth := 16) [symB, List.length_set, andThen, hlen, h2, h3, hobj]
    refine hK5 _ _ ?_
    refine CW.ret (hR0 _ _ _ ⟨.agg [.sl (d64 (normD l)) t], ?_, t, rfl, ?_⟩)
    · rw [← hnd, hdd]
      simp (maxDischargeDepth := 16) [zA, omap, zC, slot_eq, slot_ne, hlen, h2, hlt, partA, aggT]
    · exact ((Ext.push (Ext.refl σ) _).trans hext).set (Nat.le_refl _)
   by_cases ho : o2 = []
   · subst ho
     simp (maxDischargeDepth := 16) [symB, List.length_set, andThen, hlen, h3, d64]
     exact stop _ (by simp [hlen]) (by simp [slot_ne, h2]) (by simp [slot_ne, h3]) (by simp (maxDischargeDepth := 16) [slot_eq, slot_ne, hlen]) rfl
   · obtain ⟨a, x, rfl⟩ : ∃ a x, o2 = a ++ [x] := ⟨o2.dropLast, o2.getLast ho, (List.dropLast_concat_getLast ho).symm⟩
     have hpos : (0 : Int) < ((a ++ [x]).length : Int) := by rw [List.length_append, List.length_singleton]; omega
     simp (maxDischargeDepth := 16) [symB, List.length_set, andThen, hlen, h3, d64_len, hpos]
     refine (top_sl (a ++ [x]) t _ (by omega)).mono ?_
     rintro r σ3 ⟨rfl, rfl⟩
     have hat : atD (a ++ [x]) (((a ++ [x]).length : Int) - 1) = x := by
      rw [show ((a ++ [x]).length : Int) - 1 = (a.length : Int) by simp, atD_nat]; simp
     rw [hat]
     by_cases hx0 : x = 0
     · subst hx0
       simp (maxDischargeDepth := 16) [symB, List.length_set, andThen, hlen, retK]
       refine hK4 _ _ ?_
       refine CW.cond (t := true) (by simp (maxDischargeDepth := 16) [zT, slot_eq, slot_ne, hlen]) ?_
       refine CW.skip ?_
       simp only [andThen]
       refine hK3 _ _ ?_
       have hal : a.length ≤ 1000000000000 := by rw [List.length_append, List.length_singleton] at ho2; omega
       have hw : IntKind.i64.wrap (a.length : Int) = (a.length : Int) := IntWalk.i64_in _ ⟨by omega, by omega⟩
       have hle : (a.length : Int) ≤ (a.length : Int) + 1 := by omega
       have hll : (d64 (a ++ [0])).length = a.length + 1 := by rw [d64_len]; simp
       have hdl : ((d64 (a ++ [0])).take a.length) = d64 a := by rw [d64_append, List.take_left' (d64_len a)]
       refine CW.block ?_
       refine CW.region ?_
       simp (maxDischargeDepth := 16) [symB, List.length_set, andThen, outOf, hlen, h3, hll, hw, hle, hdl, d64_head]
       refine hR2 _ _ _ ⟨a.length, by simp, a, sliceTok t (↑a.length) 0 (a.length + 1), rfl, by simp at ho2; omega, by rw [drop0_snoc, if_pos rfl] at hnd; exact hnd, by simp [hlen], by simp [slot_ne, h2], by simp (maxDischargeDepth := 16) [slot_eq, slot_ne, hlen], rfl⟩
     · have hx1 : ¬ (x : Int) = 0 := by omega
       simp (maxDischargeDepth := 16) [symB, List.length_set, andThen, hlen, retK, hx1, hx0]
       exact stop _ (by simp [hlen]) (by simp [slot_ne, h2]) (by simp [slot_ne, h3]) (by simp (maxDischargeDepth := 16) [slot_eq, slot_ne, hlen, hx0]) (by rw [drop0_snoc, if_neg hx0])
theorem carried_asl (l : List Nat) (id T : Nat) (σ : Sto) (ho : σ[id]? = some (.cells (c64 l) T)) (hl : l.length ≤ 1000000000) (hx : ∀ x ∈ l, x < 9223372036854775808) : CallW Tryz.prog EV 94 [.asl id 0 l.length 1] σ fun r σ' => ∃ t, r = .ret (.agg [.sl (d64 (normD l)) t]) ∧ Ext σ σ' := by
 refine CallW.start (fn := Tryz.f94) (M := []) rfl rfl rfl rfl (by simp) fun tm hlen hs => ?_
 have h0 := hs 0 _ rfl
 clear hs
 simp at hlen
 refine CW.hide fun R0 hR0 => ?_
 refine CW.seqK fun K hK => CW.region ?_
 simp (maxDischargeDepth := 16) [symB, List.length_set, andThen, hlen, h0]
 refine hK _ _ ?_; clear hK K
 have hwl : IntKind.i64.wrap ((l.length : Int) + 2) = (l.length : Int) + 2 := IntWalk.i64_in _ ⟨by omega, by omega⟩
 have hc1 : (0 : Int) ≤ (l.length : Int) + 2 := by omega
 have hc2 : (8 : Int) * ((l.length : Int) + 2) ≤ 140737488355328 := by omega
 have hc3 : (l.length : Int) + 2 ≤ 140737488355328 := by omega
 refine CW.seqK fun K hK => CW.region ?_
 simp (maxDischargeDepth := 16) [symB, List.length_set, andThen, hlen, h0, hwl, hc1, hc2, hc3]
 refine hK _ _ ?_; clear hK K
 refine CW.seqK fun K hK => CW.region ?_
 simp (maxDischargeDepth := 16) [symB, List.length_set, andThen, hlen]
 refine hK _ _ ?_; clear hK K
 refine CW.seqK fun K hK => ?_
 refine CW.seqK fun K2 hK2 => CW.region ?_
 simp (maxDischargeDepth := 16) [symB, List.length_set, andThen, hlen]
 refine hK2 _ _ ?_; clear hK2 K2
 refine CW.block ?_
 refine CW.hide fun R hR => ?_
 have htot := carry_len l 0 hx (by omega)
 refine CW.loopI (fun r tm σ1 => ∃ (k c : Nat) (out : List Nat) (t : Tok), r = (carry (l.drop k) c).length ∧ out ++ carry (l.drop k) c = carry l 0 ∧ out.length = k ∧ c < 17179869184 ∧ tm.length = 47 ∧ slot tm 0 = .asl id 0 l.length 1 ∧ slot tm 2 = .ptr σ.length 0 ∧ slot tm 3 = .sl (d64 out) t ∧ slot tm 4 = .lit (.int .u64 c) ∧ slot tm 5 = .lit (.int .i64 k) ∧ Ext (σ ++ [.cells [.sl [] .full] 125]) σ1 ∧ TokF (σ ++ [.cells [.sl [] .full] 125]) σ1 (k * 1) 53 1 t) ?_ _ _ _
  ⟨0, 0, [], .fresh (σ.length + 1) 1, rfl, rfl, rfl, by omega, by simp [hlen], by simp [slot_ne, h0], by simp (maxDischargeDepth := 16) [slot_ne, slot_eq, hlen], by simp (maxDischargeDepth := 16) [slot_ne, slot_eq, hlen, d64], by simp (maxDischargeDepth := 16) [slot_ne, slot_eq, hlen], by simp (maxDischargeDepth := 16) [slot_eq, hlen], ⟨[.tok 0 53], by simp⟩, .inr ⟨rfl, _, rfl, by simp, by simp⟩⟩
 clear h0 hlen tm
 rintro r tm σ1 ⟨k, c, out, t, rfl, hout, hol, hc, hlen, h0, h2, h3, h4, h5, hext, htok⟩
 have hko : k ≤ (carry l 0).length := by rw [← hout, List.length_append]; omega
 refine CW.hide fun R2 hR2 => ?_
 refine CW.seqK fun K3 hK3 => ?_
 refine CW.seqK fun K4 hK4 => CW.region ?_
 have hdone : (k < l.length ∨ 0 < c) ↔ carry (l.drop k) c ≠ [] := by
  rcases Nat.lt_or_ge k l.length with h | h
  · rw [List.drop_eq_getElem_cons h, carry]; simp [h]
  · rw [List.drop_eq_nil_of_le h, carry, spill]
    split
    · rename_i h0; subst h0; simp; omega
    · rename_i h0; simp; omega
 by_cases hgo : k < l.length ∨ 0 < c
 · have hstep : carry (l.drop k) c = (l.getD k 0 + c) % B9 :: carry (l.drop (k + 1)) ((l.getD k 0 + c) / B9) := by
    rcases Nat.lt_or_ge k l.length with h | h
    · rw [List.drop_eq_getElem_cons h, carry, List.getD_eq_getElem?_getD, List.getElem?_eq_getElem h]; rfl
    · rw [List.drop_eq_nil_of_le h, List.drop_eq_nil_of_le (by omega : l.length ≤ k + 1), List.getD_eq_getElem?_getD, List.getElem?_eq_none h, carry, carry, Option.getD_none, Nat.zero_add, spill, dif_neg (by omega)]
   have hxk : l.getD k 0 < 9223372036854775808 := by
    rcases Nat.lt_or_ge k l.length with h | h
    · rw [List.getD_eq_getElem?_getD, List.getElem?_eq_getElem h]; exact hx _ (List.getElem_mem h)
    · rw [List.getD_eq_getElem?_getD, List.getElem?_eq_none h]; decide
   generalize hgx : l.getD k 0 = xk at hstep hxk
   -- the condition
   have body : ∀ tm : List AV, tm.length = 47 → slot tm 0 = .asl id 0 l.length 1 → slot tm 2 = .ptr σ.length 0 → slot tm 3 = .sl (d64 out) t → slot tm 4 = .lit (.int .u64 c) → slot tm 5 = .lit (.int .i64 k) → slot tm 17 = .lit (.bool true) → K4 tm σ1 := by
    intro tm hlen h0 h2 h3 h4 h5 h17
    refine hK4 _ _ ?_
    refine CW.cond (t := true) (by simp (maxDischargeDepth := 16) [zT, slot_eq, slot_ne, hlen, h17]) ?_
    refine CW.skip ?_
    simp only [andThen]
    refine hK3 _ _ ?_
    refine CW.seqK fun K5 hK5 => CW.block ?_
    refine CW.seqK fun K6 hK6 => CW.region ?_
    have hw : IntKind.u64.wrap ((c : Int) + (xk : Int)) = ((xk + c : Nat) : Int) := by rw [IntKind.wrap_u64]; omega
    simp (maxDischargeDepth := 16) [symB, List.length_set, andThen, hlen, h0, h4, h5]
    refine (at_asl l id T k σ1 (((Ext.push (Ext.refl σ) _).trans hext).get ho)).mono ?_
    rintro r σ2 ⟨rfl, rfl⟩
    rw [atD_nat, hgx]
    generalize hs : xk + c = s at *
    simp (maxDischargeDepth := 16) [symB, List.length_set, andThen, hlen, retK, hw]
    refine hK6 _ _ ?_; clear hK6 K6
    have hrem : (s : Int).tmod 1000000000 = ((s % B9 : Nat) : Int) := (Int.ofNat_tmod s B9).symm
    have hquo : IntKind.u64.wrap ((s : Int).tdiv 1000000000) = ((s / B9 : Nat) : Int) := by rw [show (s : Int).tdiv 1000000000 = ((s / B9 : Nat) : Int) from (Int.ofNat_tdiv s B9).symm, IntKind.wrap_u64]; unfold B9; omega
    have hquo2 : IntKind.u64.wrap ((s : Int) / 1000000000) = ((s / B9 : Nat) : Int) := by rw [IntKind.wrap_u64]; unfold B9; omega
    have hdl : s / B9 < 17179869184 := by unfold B9; omega
    generalize hqq : s % B9 = q at *
    generalize hqd : s / B9 = dq at *
    obtain ⟨t', σ3, acc, hext3, htok3, hap⟩ := append_atF (P := Tryz.prog) (M := []) (σ := σ2) (es := d64 out) (tok := t) (tk := .full) (fs := [[.lit (.int .u64 (q : Int))]]) (t := 123) Tryz.underlying123 szOf_53 bytesOf_53 zeroOf_53 rfl
     (by rw [d64_len, hol]; exact htok) hext (d64_head _) rfl (by simp) (by rw [d64_len]; simp; omega) (by rw [d64_len]; simp; omega)
    refine CW.seqK fun K6 hK6 => CW.region ?_
    simp (maxDischargeDepth := 16) [symB, List.length_set, andThen, hlen, h3, hrem, hap]
    refine hK6 _ _ ?_; clear hK6 K6
    refine CW.region ?_
    simp (maxDischargeDepth := 16) [symB, List.length_set, andThen, outOf, hlen, hquo, hquo2]
    refine hK5 _ _ ?_; clear hK5 K5
    have hwk : IntKind.i64.wrap ((k : Int) + 1) = ((k + 1 : Nat) : Int) := wrap_succ (by omega)
    refine CW.region ?_
    simp (maxDischargeDepth := 16) [symB, List.length_set, andThen, hlen, h5, hwk]
    refine hR2 _ _ _ ⟨(carry (l.drop (k + 1)) dq).length, by rw [hstep]; simp, k + 1, dq, out ++ [q], t', rfl, by rw [← hout, hstep]; simp, by simp [hol], hdl, by simp [hlen], by simp [slot_ne, h0], by simp [slot_ne, h2], ?_, by simp (maxDischargeDepth := 16) [slot_eq, slot_ne, hlen], by simp (maxDischargeDepth := 16) [slot_eq, hlen], hext3, .inl ?_⟩
    · simp (maxDischargeDepth := 16) [slot_eq, slot_ne, hlen, d64_append, stripRows, AV.strip, d64]
    · rw [d64_len, hol] at htok3; exact htok3
   by_cases hk : k < l.length
   · have hk' : (k : Int) < l.length := by omega
     simp (maxDischargeDepth := 16) [symB, List.length_set, andThen, hlen, h0, h4, h5, hk']
     exact body _ (by simp [hlen]) (by simp [slot_ne, h0]) (by simp [slot_ne, h2]) (by simp [slot_ne, h3]) (by simp [slot_ne, h4]) (by simp [slot_ne, h5]) (by simp (maxDischargeDepth := 16) [slot_eq, slot_ne, hlen])
   · have hk' : ¬ (k : Int) < l.length := by omega
     have hc0 : (0 : Int) < c := by omega
     have hcn : 0 < c := by omega
     simp (maxDischargeDepth := 16) [symB, List.length_set, andThen, hlen, h0, h4, h5, hk', hc0, hcn]
     exact body _ (by simp [hlen]) (by simp [slot_ne, h0]) (by simp [slot_ne, h2]) (by simp [slot_ne, h3]) (by simp [slot_ne, h4]) (by simp [slot_ne, h5]) (by simp (maxDischargeDepth := 16) [slot_eq, slot_ne, hlen])
 · have hk' : ¬ (k : Int) < l.length := by omega
   have hc0 : c = 0 := by omega
   have hfin : carry (l.drop k) c = [] := by
    rcases Classical.em (carry (l.drop k) c = []) with h | h
    · exact h
    · exact absurd (hdone.2 h) hgo
   rw [hfin, List.append_nil] at hout
   simp (maxDischargeDepth := 16) [symB, List.length_set, andThen, hlen, h0, h4, h5, hk', hc0]
   refine hK4 _ _ ?_
   refine CW.cond (t := false) (by simp (maxDischargeDepth := 16) [zT, slot_eq, slot_ne, hlen]) ?_
   refine CW.exit ?_
   simp only [andThen]
   refine hR2 _ _ _ (hR _ _ _ ?_)
   simp only [outOf, if_true, andThen]
   refine hK _ _ ?_
   refine CW.reset (fun tm => tm.length = 47 ∧ slot tm 2 = .ptr σ.length 0 ∧ slot tm 3 = .sl (d64 out) t) ⟨by simp [hlen], by simp [slot_ne, h2], by simp [slot_ne, h3]⟩ ?_
   clear hK4 K4 hK3 K3 hR2 R2 hR R hK K h0 h2 h3 h4 h5 hlen tm
   rintro tm ⟨hlen, h2, h3⟩
   refine CW.seqK fun K hK => ?_
   refine CW.block ?_
   refine CW.hide fun R hR => ?_
   refine CW.loopI (fun r tm σ2 => ∃ (o2 : List Nat) (t : Tok), r = o2.length ∧ o2.length ≤ out.length ∧ drop0 o2 = normD l ∧ tm.length = 47 ∧ slot tm 2 = .ptr σ.length 0 ∧ slot tm 3 = .sl (d64 o2) t ∧ σ2 = σ1) ?_ _ _ _
    ⟨out, t, rfl, Nat.le_refl _, by unfold normD; rw [hout], hlen, h2, h3, rfl⟩
   clear h2 h3 hlen tm htok t
   rintro r tm σ2 ⟨o2, t, rfl, ho2, hnd, hlen, h2, h3, rfl⟩
   refine CW.hide fun R2 hR2 => ?_
   refine CW.seqK fun K3 hK3 => ?_
   refine CW.seqK fun K4 hK4 => CW.region ?_
   have stop : ∀ tm : List AV, tm.length = 47 → slot tm 2 = .ptr σ.length 0 → slot tm 3 = .sl (d64 o2) t → slot tm 39 = .lit (.bool false) → drop0 o2 = o2 → K4 tm σ2 := by
    intro tm hlen h2 h3 h39 hdd
    refine hK4 _ _ ?_
    refine CW.cond (t := false) (by simp (maxDischargeDepth := 16) [zT, slot_eq, slot_ne, hlen, h39]) ?_
    refine CW.exit ?_
    simp only [andThen]
    refine hR2 _ _ _ (hR _ _ _ ?_)
    simp only [outOf, if_true, andThen]
    refine hK _ _ ?_
    have hobj : σ2[σ.length]? = some (.cells [.sl [] .full] 125) := hext.get (by simp)
    have hlt : σ.length < σ2.length := (List.getElem?_eq_some_iff.1 hobj).1
    refine CW.seqK fun K5 hK5 => CW.region ?_
    simp (maxDischargeDepth := 16) [symB, List.length_set, andThen, hlen, h2, h3, hobj]
    refine hK5 _ _ ?_
    refine CW.ret (hR0 _ _ _ ⟨.agg [.sl (d64 (normD l)) t], ?_, t, rfl, ?_⟩)
    · rw [← hnd, hdd]
      simp (maxDischargeDepth := 16) [zA, omap, zC, slot_eq, slot_ne, hlen, h2, hlt, partA, aggT]
    · exact ((Ext.push (Ext.refl σ) _).trans hext).set (Nat.le_refl _)
   by_cases ho : o2 = []
   · subst ho
     simp (maxDischargeDepth := 16) [symB, List.length_set, andThen, hlen, h3, d64]
     exact stop _ (by simp [hlen]) (by simp [slot_ne, h2]) (by simp [slot_ne, h3]) (by simp (maxDischargeDepth := 16) [slot_eq, slot_ne, hlen]) rfl
   · obtain ⟨a, x, rfl⟩ : ∃ a x, o2 = a ++ [x] := ⟨o2.dropLast, o2.getLast ho, (List.dropLast_concat_getLast ho).symm⟩
     have hpos : (0 : Int) < ((a ++ [x]).length : Int) := by rw [List.length_append, List.length_singleton]; omega
     simp (maxDischargeDepth := 16) [symB, List.length_set, andThen, hlen, h3, d64_len, hpos]
     refine (top_sl (a ++ [x]) t _ (by omega)).mono ?_
     rintro r σ3 ⟨rfl, rfl⟩
     have hat : atD (a ++ [x]) (((a ++ [x]).length : Int) - 1) = x := by
      rw [show ((a ++ [x]).length : Int) - 1 = (a.length : Int) by simp, atD_nat]; simp
     rw [hat]
     by_cases hx0 : x = 0
     · subst hx0
       simp (maxDischargeDepth := 16) [symB, List.length_set, andThen, hlen, retK]
       refine hK4 _ _ ?_
       refine CW.cond (t := true) (by simp (maxDischargeDepth := 16) [zT, slot_eq, slot_ne, hlen]) ?_
       refine CW.skip ?_
       simp only [andThen]
       refine hK3 _ _ ?_
       have hal : a.length ≤ 1000000000000 := by rw [List.length_append, List.length_singleton] at ho2; omega
       have hw : IntKind.i64.wrap (a.length : Int) = (a.length : Int) := IntWalk.i64_in _ ⟨by omega, by omega⟩
       have hle : (a.length : Int) ≤ (a.length : Int) + 1 := by omega
       have hll : (d64 (a ++ [0])).length = a.length + 1 := by rw [d64_len]; simp
       have hdl : ((d64 (a ++ [0])).take a.length) = d64 a := by rw [d64_append, List.take_left' (d64_len a)]
       refine CW.block ?_
       refine CW.region ?_
       simp (maxDischargeDepth := 16) [symB, List.length_set, andThen, outOf, hlen, h3, hll, hw, hle, hdl, d64_head]
       refine hR2 _ _ _ ⟨a.length, by simp, a, sliceTok t (↑a.length) 0 (a.length + 1), rfl, by simp at ho2; omega, by rw [drop0_snoc, if_pos rfl] at hnd; exact hnd, by simp [hlen], by simp [slot_ne, h2], by simp (maxDischargeDepth := 16) [slot_eq, slot_ne, hlen], rfl⟩
     · have hx1 : ¬ (x : Int) = 0 := by omega
       simp (maxDischargeDepth := 16) [symB, List.length_set, andThen, hlen, retK, hx1, hx0]
       exact stop _ (by simp [hlen]) (by simp [slot_ne, h2]) (by simp [slot_ne, h3]) (by simp (maxDischargeDepth := 16) [slot_eq, slot_ne, hlen, hx0]) (by rw [drop0_snoc, if_neg hx0])
end
end Go.Proofs.YtmmgjaheffbpaaaGreatDoor
