/-
 EV: FUNCTIONS TAKEN ON THEIR CONTRACT, where the contract is a relation; what they made is forgotten.
-/
import Derived.Test.YtkkblmdgedmdfaaGreatDoorEvChM
import Derived.Test.YtkkblmdgedmdfaaGreatDoorEvSym
import Derived.Test.YtkkblmdgedmdfaaGreatDoorEvOfM
import Derived.Shelf.Strings.Search1
namespace Go.Proofs.YtkkblmdgedmdfaaGreatDoor
set_option linter.unusedSimpArgs false
set_option linter.unusedVariables false
section
open Go.RowKit
noncomputable def relPrim (S : List AV → Sto → ARes → Sto → Prop) (args : List AV) (σ : Sto) : Option (ARes × Sto) :=
 @dite _ (∃ p : ARes × Sto, S args σ p.1 p.2) (Classical.propDecidable _) (fun h => some h.choose) fun _ => none
theorem relPrim_spec {S : List AV → Sto → ARes → Sto → Prop} {args : List AV} {σ σ' : Sto} {r : ARes} (h : relPrim S args σ = some (r, σ')) : S args σ r σ' := by
 unfold relPrim at h
 split at h
 · rename_i hx
   have := hx.choose_spec
   rw [Option.some.inj h] at this
   exact this
 · cases h
theorem relPrim_eq {S : List AV → Sto → ARes → Sto → Prop} (hS : ∀ args σ r σ' r2 σ2, S args σ r σ' → S args σ r2 σ2 → r = r2 ∧ σ' = σ2) {args : List AV} {σ σ' : Sto} {r : ARes} (h : S args σ r σ') : relPrim S args σ = some (r, σ') := by
 have hx : ∃ p : ARes × Sto, S args σ p.1 p.2 := ⟨(r, σ'), h⟩
 unfold relPrim
 rw [dif_pos hx]
 obtain ⟨h1, h2⟩ := hS _ _ _ _ _ _ hx.choose_spec h
 congr 1
 exact Prod.ext h1 h2
theorem prim_sound {P : Program} (hm : P.follows .mixedOrders = true) {E : Env} (hE : EnvOk P E) {f : FuncId} {S : List AV → Sto → ARes → Sto → Prop} (h : ∀ args σ r σ', S args σ r σ' → JC P E f args σ fun r1 σ1 => Fgt σ r1 σ1 r σ') :
    CallSound P fun f' args σ => if f' = f then relPrim S args σ else none := by
 intro f' args σ r σ' hr ι Z w us hM hl hargs
 dsimp only at hr
 split at hr
 · rename_i e
   subst e
   have hs := relPrim_spec hr
   obtain ⟨h1, h2⟩ := J.tells hm hE (h _ _ _ _ hs) ι Z w us hM hl hargs
   refine ⟨h1, h2.mono fun e w' hx => ?_⟩
   obtain ⟨r1, σ1, ι', Z', hF, hEv, hM', hR⟩ := hx
   exact forget hM hEv hM' hR hF
 · cases hr
theorem JC.startW {P : Program} {E : Env} {M : List TypeId} {f : FuncId} {fn : Func} {c : Code} {args : List AV} {σ : Sto} {Q : ARes → Sto → Prop} (hf : E.code f = some fn) (hc : fn.body = some c) (hm : E.ms f = M) (hn : args.length ≤ fn.ntmps)
    (h : ∀ tm : List AV, tm.length = fn.ntmps → (∀ (i : Nat) (d : AV), args[i]? = some d → slot tm i = d) → CW P E M c tm σ (bodyW P fn Q)) : JC P E f args σ Q :=
 JC.start hf hc hm hn fun tm hl hs => J.cw (h tm hl hs)
theorem Fgt.pure {σ σ' : Sto} {v v2 : AV} (hx : Ext σ σ') (hf : Frz σ' σ.length v v2) : Fgt σ (.ret v) σ' (.ret v2) σ := by
 obtain ⟨g, rfl⟩ := hx
 exact ⟨.inl ⟨v, v2, rfl, rfl, hf⟩, rfl, fun id h => List.getElem?_append_left h, fun id o h => .inl h⟩
theorem Fgt.wrote {σ σ' : Sto} {v v2 : AV} {id : Nat} {o o' : AObj} (hx : Ext (σ.set id o) σ') (hid : σ[id]? = some o') (hl : o'.live) (hb : BelO σ.length o) (hf : Frz σ' σ.length v v2) : Fgt σ (.ret v) σ' (.ret v2) (σ.set id o) := by
 obtain ⟨g, rfl⟩ := hx
 refine ⟨.inl ⟨v, v2, rfl, rfl, hf⟩, by simp, fun i h => List.getElem?_append_left (by simpa using h), fun i p h => ?_⟩
 by_cases e : id = i
 · subst e
   rw [List.getElem?_set_self (List.getElem?_eq_some_iff.1 hid).1] at h
   cases h
   exact .inr ⟨⟨o', hid, hl⟩, hb⟩
 · rw [List.getElem?_set_ne e] at h
   exact .inl h
def still : AV → Prop := Bel 0
theorem Bel.mono {n m : Nat} (h : n ≤ m) {d : AV} (hd : Bel n d) : Bel m d := by
 induction hd with
 | lit v => exact .lit v
 | ptr id off hl => exact .ptr id off (by omega)
 | eptr row off _ ih => exact .eptr row off ih
 | sl es tok ht _ ih => exact .sl es tok (by cases tok <;> first | trivial | (have : _ < n := ht; exact Nat.lt_of_lt_of_le this h)) ih
 | asl id off m k hl => exact .asl id off m k (by omega)
 | mp id hl => exact .mp id (by omega)
 | fn f a b _ _ ih1 ih2 => exact .fn f a b ih1 ih2
 | ifc t d _ ih => exact .ifc t d ih
 | agg ds _ ih => exact .agg ds ih
 | tup ds _ ih => exact .tup ds ih
theorem Frz.still {σ : Sto} {n : Nat} {d : AV} (h : Go.Proofs.YtkkblmdgedmdfaaGreatDoor.still d) : Frz σ n d d := .same d (Bel.mono (Nat.zero_le n) h)
theorem still_lit (v : Value) : still (.lit v) := .lit v
theorem still_rows {es : List (List AV)} (h : ∀ e ∈ es, ∀ d ∈ e, still d) : still (.sl es .no) := .sl es .no trivial fun i j e d he hd => h e (List.mem_of_getElem? he) d (List.mem_of_getElem? hd)
theorem Frz.rows {σ : Sto} {n : Nat} {es : List (List AV)} {tok : Tok} (h : ∀ e ∈ es, ∀ d ∈ e, Go.Proofs.YtkkblmdgedmdfaaGreatDoor.still d) : Frz σ n (.sl es tok) (.sl es .no) :=
 .sl es es tok rfl (fun i e f he hf => by rw [he] at hf; cases hf; rfl) fun i j e f d d' he hf hd hd' => by
  rw [he] at hf; cases hf
  rw [hd] at hd'; cases hd'
  exact Frz.still (h e (List.mem_of_getElem? he) d (List.mem_of_getElem? hd))
end
section
open Go.RowKit
def Lets (ids : List Nat) : Prop := ∀ (i j a b : Nat), ids[i]? = some a → ids[j]? = some b → i ≠ j → a ≠ b
theorem Lets.nil : Lets [] := fun i j a b h => by simp at h
theorem Lets.cons {a : Nat} {l : List Nat} (h : a ∉ l) (hl : Lets l) : Lets (a :: l) := by
 intro i j x y hx hy hij e
 subst e
 cases i with
 | zero =>
  cases j with
  | zero => exact hij rfl
  | succ j => simp at hx hy; subst hx; exact h (List.mem_of_getElem? hy)
 | succ i =>
  cases j with
  | zero => simp at hx hy; subst hy; exact h (List.mem_of_getElem? hx)
  | succ j => exact hl i j x x (by simpa using hx) (by simpa using hy) (by omega) rfl
inductive Sim (ids : List Nat) : Acc → Acc → Prop
 | pure : Sim ids .pure .pure
 | reads (i a : Nat) : ids[i]? = some a → Sim ids (.reads a) (.reads i)
 | writes (i a : Nat) : ids[i]? = some a → Sim ids (.writes a) (.writes i)
 | news (i a : Nat) : ids[i]? = some a → Sim ids (.news a) (.news i)
 | calls (n m : Nat) (K K' : Nat → Bool) : (∀ i a, ids[i]? = some a → K' i = true → i < m → K a = true ∧ a < n) → (∀ i a, ids[i]? = some a → K' i = true → K a = true) → Sim ids (.calls n K) (.calls m K')
 | any (x : Acc) : Sim ids x .any
theorem Sim.clash {ids : List Nat} (hl : Lets ids) {x y x' y' : Acc} (hx : Sim ids x x') (hy : Sim ids y y') (h : Go.Proofs.YtkkblmdgedmdfaaGreatDoor.clash x' y' = false) : Go.Proofs.YtkkblmdgedmdfaaGreatDoor.clash x y = false := by
 have hq : ∀ {i j a b : Nat}, ids[i]? = some a → ids[j]? = some b → (i == j) = false → (a == b) = false := fun ha hb e => beq_eq_false_iff_ne.2 (hl _ _ _ _ ha hb (beq_eq_false_iff_ne.1 e))
 cases hx with
 | pure => cases y <;> rfl
 | any => cases y' <;> simp [Go.Proofs.YtkkblmdgedmdfaaGreatDoor.clash] at h; cases hy; cases x <;> rfl
 | reads i a ha =>
  cases hy with
  | pure => rfl
  | any => simp [Go.Proofs.YtkkblmdgedmdfaaGreatDoor.clash] at h
  | reads j b hb => rfl
  | writes j b hb => exact hq ha hb h
  | news j b hb => exact hq ha hb h
  | calls n m K K' h1 h2 =>
   simp only [Go.Proofs.YtkkblmdgedmdfaaGreatDoor.clash, Bool.not_eq_false'] at h ⊢
   exact h2 _ _ ha h
 | writes i a ha =>
  cases hy with
  | pure => rfl
  | any => simp [Go.Proofs.YtkkblmdgedmdfaaGreatDoor.clash] at h
  | reads j b hb => exact hq ha hb h
  | writes j b hb => exact hq ha hb h
  | news j b hb => exact hq ha hb h
  | calls n m K K' h1 h2 => simp [Go.Proofs.YtkkblmdgedmdfaaGreatDoor.clash] at h
 | news i a ha =>
  cases hy with
  | pure => rfl
  | any => simp [Go.Proofs.YtkkblmdgedmdfaaGreatDoor.clash] at h
  | reads j b hb => exact hq ha hb h
  | writes j b hb => exact hq ha hb h
  | news j b hb => simp [Go.Proofs.YtkkblmdgedmdfaaGreatDoor.clash] at h
  | calls n m K K' h1 h2 => simp [Go.Proofs.YtkkblmdgedmdfaaGreatDoor.clash] at h
 | calls n m K K' h1 h2 =>
  cases hy with
  | pure => rfl
  | any => simp [Go.Proofs.YtkkblmdgedmdfaaGreatDoor.clash] at h
  | reads j b hb =>
   simp only [Go.Proofs.YtkkblmdgedmdfaaGreatDoor.clash, Bool.not_eq_false', Bool.and_eq_true, decide_eq_true_eq] at h ⊢
   exact h1 _ _ hb h.1 h.2
  | writes j b hb => simp [Go.Proofs.YtkkblmdgedmdfaaGreatDoor.clash] at h
  | news j b hb => simp [Go.Proofs.YtkkblmdgedmdfaaGreatDoor.clash] at h
  | calls => simp [Go.Proofs.YtkkblmdgedmdfaaGreatDoor.clash] at h
inductive Sims (ids : List Nat) : List Acc → List Acc → Prop
 | nil : Sims ids [] []
 | cons {x y : Acc} {l m : List Acc} : Sim ids x y → Sims ids l m → Sims ids (x :: l) (y :: m)
theorem Sims.at {ids : List Nat} {l m : List Acc} (h : Sims ids l m) (n : Nat) : Sim ids (l.getD n .any) (m.getD n .any) := by
 induction h generalizing n with
 | nil => exact .any _
 | cons h _ ih =>
  cases n with
  | zero => simpa using h
  | succ n => simpa using ih n
theorem Sims.len {ids : List Nat} {l m : List Acc} (h : Sims ids l m) : l.length = m.length := by
 induction h with
 | nil => rfl
 | cons _ _ ih => simp [ih]
theorem drawOk_sim {ops : Array Oper} (ids : List Nat) (m : List Acc) {l : List Acc} (hl : Lets ids) (h : Sims ids l m) (hd : drawOk ops m = true) : drawOk ops l = true := by
 unfold drawOk at hd ⊢
 simp only [List.all_eq_true, List.mem_range] at hd ⊢
 intro i hi k hk
 have := hd i (by rw [← h.len]; exact hi) k hk
 unfold freeAt at this ⊢
 rw [Bool.or_eq_true] at this ⊢
 rcases this with this | this
 · exact .inl this
 · right
   split at this
   · rename_i x y h1 h2
     simp only [Bool.and_eq_true, Bool.not_eq_true'] at this ⊢
     exact ⟨this.1, (h.at k).clash hl (h.at i) this.2⟩
   · cases this
theorem Sim.keeps {ids : List Nat} {n m : Nat} {K : Nat → Bool} (h : ∀ a ∈ ids, K a = true ∧ a < n) : Sim ids (.calls n K) (.calls m fun _ => true) :=
 .calls n m K _ (fun i a ha _ _ => h a (List.mem_of_getElem? ha)) fun i a ha _ => (h a (List.mem_of_getElem? ha)).1
end
section
open Go.RowKit
def primIdx (args : List AV) (σ : Sto) : Option (ARes × Sto) :=
 match args with
 | [.lit (.string s), .lit (.int .u8 c)] => some (.ret (.lit (.int .i64 (Lib.indexByte s.data.toList c.toNat.toUInt8))), σ)
 | _ => none
theorem primIdx_sound : CallSound Tryz.prog fun f args σ => if f = 170 then primIdx args σ else none := by
 intro f args σ r σ' hr ι Z w us hM hl hargs
 dsimp only at hr
 split at hr
 · rename_i e
   subst e
   unfold primIdx at hr
   split at hr
   · rename_i s c
     cases hr
     obtain ⟨u, u2, rfl⟩ := two_args hl
     have hu := hargs 0 _ u rfl rfl
     have hu2 := hargs 1 _ u2 rfl rfl
     cases hu; cases hu2
     refine ⟨Tryz.call170 _ _, (Any.stringslite_IndexByte (ρ := Tryz.lays137_ren) { Tryz.lays137 with } s c w).mono ?_⟩
     rintro e w' ⟨rfl, rfl⟩
     exact ⟨ι, Z, .refl _ _ _, hM, _, rfl, .lit _ rfl⟩
   · cases hr
 · cases hr
theorem call_sound {P : Program} (hm : P.follows .mixedOrders = true) {E : Env} (hE : EnvOk P E) {f : FuncId} {g : List AV → Sto → Option (ARes × Sto)} (h : ∀ args σ r σ', g args σ = some (r, σ') → JC P E f args σ fun r1 σ1 => Fgt σ r1 σ1 r σ') :
    CallSound P fun f' args σ => if f' = f then g args σ else none := by
 intro f' args σ r σ' hr ι Z w us hM hl hargs
 dsimp only at hr
 split at hr
 · rename_i e
   subst e
   obtain ⟨h1, h2⟩ := J.tells hm hE (h _ _ _ _ hr) ι Z w us hM hl hargs
   refine ⟨h1, h2.mono fun e w' hx => ?_⟩
   obtain ⟨r1, σ1, ι', Z', hF, hEv, hM', hR⟩ := hx
   exact forget hM hEv hM' hR hF
 · cases hr
theorem mixedA : Tryz.prog.follows .mixedOrders = true := by kernel_rfl
theorem bs_data (s : ByteArray) : bs s.data.toList = s := by unfold bs; rfl
theorem data_bs (l : List UInt8) : (bs l).data.toList = l := by simp [bs]
theorem Fgt.still1 {σ σ' : Sto} {d : AV} (hx : Ext σ σ') (h : still d) : Fgt σ (.ret d) σ' (.ret d) σ := Fgt.pure hx (Frz.still h)
def primName (args : List AV) (σ : Sto) : Option (ARes × Sto) :=
 match args with
 | [.lit (.string s)] => if s.size ≤ 100000000000 then some (.ret (.lit (.bool (nameOk s.data.toList))), σ) else none
 | _ => none
theorem primName_eq (l : List UInt8) (σ : Sto) (hl : l.length ≤ 100000000000) : primName [.lit (.string (bs l))] σ = some (.ret (.lit (.bool (nameOk l))), σ) := by
 unfold primName
 simp only [bsz, data_bs]
 rw [if_pos hl]
theorem primName_sound : CallSound Tryz.prog fun f args σ => if f = 9 then primName args σ else none :=
 call_sound mixedA EV_ok fun args σ r σ' h => by
  unfold primName at h
  split at h
  · rename_i s
    split at h
    · rename_i hs
      cases h
      have hz : s.data.toList.length = s.size := by rw [Array.length_toList]; rfl
      have := name_ev s.data.toList σ (by omega)
      rw [bs_data] at this
      refine CallW.toJ (this.mono ?_)
      rintro r1 σ1 ⟨rfl, rfl⟩
      exact Fgt.still1 (Ext.refl _) (still_lit _)
    · cases h
  · cases h
noncomputable def primEB (f : FuncId) : Option (List AV → Sto → Option (ARes × Sto)) :=
 match f with
 | 170 => some primIdx
 | 9 => some primName
 | f => primEV f
noncomputable def EB : Env := { code := codeEV, prim := primEB, ms := msEV }
theorem EB_ok : EnvOk Tryz.prog EB where
 code := codeEV_ok
 prim := fun f g h => by
  have h : primEB f = some g := h
  unfold primEB at h
  split at h
  · cases h; exact primIdx_sound
  · cases h; exact primName_sound
  · exact EV_ok.prim _ _ h
theorem cutDot_none : ∀ {l : List UInt8}, cutDot l = none → Lib.indexByte l 46 = -1
 | [], _ => rfl
 | c :: l, h => by
  unfold cutDot at h
  split at h
  · cases h
  · rename_i hc
    have := cutDot_none (Option.map_eq_none_iff.1 h)
    unfold Lib.indexByte
    rw [if_neg (by simpa using hc), this]
    rfl
theorem cutDot_some : ∀ {l a b : List UInt8}, cutDot l = some (a, b) → Lib.indexByte l 46 = a.length ∧ l = a ++ 46 :: b
 | [], a, b, h => by cases h
 | c :: l, a, b, h => by
  unfold cutDot at h
  split at h
  · rename_i hc
    cases h; subst hc
    exact ⟨rfl, rfl⟩
  · rename_i hc
    obtain ⟨⟨a', b'⟩, h1, h2⟩ := Option.map_eq_some_iff.1 h
    cases h2
    obtain ⟨e1, e2⟩ := cutDot_some h1
    unfold Lib.indexByte
    rw [if_neg (by simpa using hc), e1, e2]
    refine ⟨?_, rfl⟩
    rw [if_neg (by simp)]
    simp
set_option maxRecDepth 100000 in
theorem indexDot_ev (l : List UInt8) (σ : Sto) (hl : l.length ≤ 100000000000) : CallW Tryz.prog EB 130 [.lit (.string (bs l)), .lit (.string (bs [46]))] σ fun r σ' => r = .ret (.lit (.int .i64 (Lib.indexByte l 46))) ∧ σ' = σ := by
 refine CallW.start (fn := Tryz.f130) (M := []) rfl rfl rfl rfl (by simp) fun tm hlen hs => ?_
 have h0 := hs 0 _ rfl
 have h1 := hs 1 _ rfl
 clear hs
 simp at hlen
 refine CW.hide fun R0 hR0 => ?_
 have done : ∀ (n : Int) (tm : List AV), n = Lib.indexByte l 46 → tm.length = 143 → slot tm 4 = .lit (.int .i64 n) → R0 .ret tm σ := by
  intro n tm hc hlen h2
  refine hR0 _ _ _ ⟨.lit (.int .i64 n), ?_, by rw [hc], rfl⟩
  simp (maxDischargeDepth := 16) [resultsA, omap, res_tmp, slot_eq, slot_ne, hlen, h2]
 clear hR0
 have hz : (bs [46]).size = 1 := bsz _
 have ht : (bs [46]).toList = [46] := bs_list _
 have hg : (bs [46])[0]? = some 46 := rfl
 have hg1 : ∀ h, (bs [46])[0]'h = 46 := fun _ => rfl
 refine CW.seqK fun K hK => CW.region ?_
 simp (maxDischargeDepth := 16) [symB, List.length_set, andThen, hlen, h0]
 refine hK _ _ ?_; clear hK K
 refine CW.seqK fun K hK => CW.region ?_
 simp (maxDischargeDepth := 16) [symB, List.length_set, andThen, hlen, h1, hz]
 refine hK _ _ ?_; clear hK K
 refine CW.seqK fun K hK => CW.block ?_
 refine CW.seqK fun K2 hK2 => CW.region ?_
 have htl : (bs l).toList = l := bs_list l
 rcases Classical.em ([46] = l) with e | e
 · subst e
   simp (maxDischargeDepth := 16) [symB, List.length_set, andThen, hlen, h0, h1, ht, hz]
   refine hK2 _ _ ?_
   refine CW.cond (t := true) (by simp (maxDischargeDepth := 16) [evx_tmp, slot_eq, slot_ne, hlen]) ?_
   refine CW.seqK fun K7 hK7 => CW.region ?_
   simp (maxDischargeDepth := 16) [symB, List.length_set, andThen, hlen]
   refine hK7 _ _ ?_
   refine CW.ret ?_
   simp only [andThen, outOf]
   exact done 0 _ rfl (by simp [hlen]) (by simp (maxDischargeDepth := 16) [slot_eq, slot_ne, hlen])
 · simp (maxDischargeDepth := 16) [symB, List.length_set, andThen, hlen, h0, h1, ht, htl, hz, e]
   refine hK2 _ _ ?_
   refine CW.cond (t := false) (by simp (maxDischargeDepth := 16) [evx_tmp, slot_eq, slot_ne, hlen, e]) ?_
   refine CW.seqK fun K3 hK3 => CW.region ?_
   simp (maxDischargeDepth := 16) [symB, List.length_set, andThen, hlen, h0, h1]
   refine hK3 _ _ ?_
   refine CW.cond (t := true) (by simp (maxDischargeDepth := 16) [evx_tmp, slot_eq, slot_ne, hlen]) ?_
   refine CW.seqK fun K7 hK7 => CW.region ?_
   simp (maxDischargeDepth := 16) [symB, List.length_set, andThen, hlen, h0, h1, hz, hg, hg1]
   refine CallW.prim (g := primIdx) rfl rfl ?_
   have hd : (bs l).data.toList = l := by simp [bs]
   simp only [hd]
   generalize hq : Lib.indexByte l (46 : Int).toNat.toUInt8 = q
   have hq' : q = Lib.indexByte l 46 := hq.symm
   simp (maxDischargeDepth := 16) [symB, List.length_set, andThen, hlen, retK]
   refine hK7 _ _ ?_
   refine CW.ret ?_
   simp only [andThen, outOf]
   exact done q _ hq' (by simp [hlen]) (by simp (maxDischargeDepth := 16) [slot_eq, slot_ne, hlen])
def cutA (l : List UInt8) : List UInt8 × List UInt8 × Bool := match cutDot l with | some (a, b) => (a, b, true) | none => (l, [], false)
set_option maxRecDepth 100000 in
theorem cutDoti_ev (l : List UInt8) (σ : Sto) (hl : l.length ≤ 100000000000) : CallW Tryz.prog EB 164 [.lit (.string (bs l)), .lit (.string (bs [46]))] σ fun r σ' => r = .ret (.tup [.lit (.string (bs (cutA l).1)), .lit (.string (bs (cutA l).2.1)), .lit (.bool (cutA l).2.2)]) ∧ σ' = σ := by
 refine CallW.start (fn := Tryz.f164) (M := []) rfl rfl rfl rfl (by simp) fun tm hlen hs => ?_
 have h0 := hs 0 _ rfl
 have h1 := hs 1 _ rfl
 clear hs
 simp at hlen
 refine CW.hide fun R0 hR0 => ?_
 have done : ∀ (q : List UInt8 × List UInt8 × Bool) (tm : List AV), q = cutA l → tm.length = 23 → slot tm 4 = .lit (.string (bs q.1)) → slot tm 5 = .lit (.string (bs q.2.1)) → slot tm 6 = .lit (.bool q.2.2) → R0 .ret tm σ := by
  intro q tm hc hlen h4 h5 h6
  subst hc
  refine hR0 _ _ _ ⟨.tup [.lit (.string (bs (cutA l).1)), .lit (.string (bs (cutA l).2.1)), .lit (.bool (cutA l).2.2)], ?_, rfl, rfl⟩
  simp (maxDischargeDepth := 16) [resultsA, omap, res_tmp, slot_eq, slot_ne, hlen, h4, h5, h6]
 clear hR0
 have hz : (bs [46]).size = 1 := bsz _
 refine CW.seqK fun K hK => CW.region ?_
 simp (maxDischargeDepth := 16) [symB, List.length_set, andThen, hlen]
 refine hK _ _ ?_; clear hK K
 refine CW.seqK fun K hK => ?_
 refine CW.seqK fun K2 hK2 => CW.region ?_
 simp (maxDischargeDepth := 16) [symB, List.length_set, andThen, hlen, h0, h1]
 refine (indexDot_ev l σ hl).mono ?_
 rintro r σ2 ⟨rfl, rfl⟩
 cases hc : cutDot l with
 | none =>
  have hi := cutDot_none hc
  have hca : cutA l = (l, [], false) := by unfold cutA; rw [hc]
  rw [hi]
  simp (maxDischargeDepth := 16) [symB, List.length_set, andThen, hlen, retK]
  refine hK2 _ _ ?_; clear hK2 K2
  refine CW.seqK fun K hK => CW.region ?_
  simp (maxDischargeDepth := 16) [symB, List.length_set, andThen, hlen]
  refine hK _ _ ?_; clear hK K
  refine CW.cond (t := false) (by simp (maxDischargeDepth := 16) [evx_tmp, slot_eq, slot_ne, hlen]) ?_
  refine CW.skip ?_
  simp only [andThen]
  refine hK _ _ ?_
  refine CW.seqK fun K hK => CW.region ?_
  simp (maxDischargeDepth := 16) [symB, List.length_set, andThen, hlen, h0]
  refine hK _ _ ?_; clear hK K
  refine CW.ret ?_
  exact done (l, [], false) _ hca.symm (by simp [hlen]) (by simp (maxDischargeDepth := 16) [slot_eq, slot_ne, hlen]) (by simp (maxDischargeDepth := 16) [slot_eq, slot_ne, hlen]; rfl) (by simp (maxDischargeDepth := 16) [slot_eq, slot_ne, hlen])
 | some p =>
  obtain ⟨a, b⟩ := p
  obtain ⟨hi, hl2⟩ := cutDot_some hc
  have hca : cutA l = (a, b, true) := by unfold cutA; rw [hc]
  rw [hi]
  have hll : l.length = a.length + (b.length + 1) := by rw [hl2]; simp
  simp (maxDischargeDepth := 16) [symB, List.length_set, andThen, hlen, retK]
  refine hK2 _ _ ?_; clear hK2 K2
  refine CW.seqK fun K hK => CW.region ?_
  simp (maxDischargeDepth := 16) [symB, List.length_set, andThen, hlen]
  refine hK _ _ ?_; clear hK K
  refine CW.cond (t := true) (by simp (maxDischargeDepth := 16) [evx_tmp, slot_eq, slot_ne, hlen]) ?_
  have e1 : (bs l).extract 0 a.length = bs a := by rw [bs_ext, hl2]; simp
  have e2 : (bs l).extract (a.length + 1) l.length = bs b := by
   rw [bs_ext, List.take_of_length_le (Nat.le_refl _), hl2]
   congr 1
   rw [show a.length + 1 = a.length + 1 from rfl, ← List.drop_drop]
   simp
  have hwk : IntKind.i64.wrap ((a.length : Int) + 1) = ((a.length + 1 : Nat) : Int) := wrap_succ (by omega)
  have b1 : (a.length : Int) ≤ l.length := by omega
  have b2 : (a.length : Int) + 1 ≤ l.length := by omega
  have b3 : ((a.length : Int) + 1).toNat = a.length + 1 := by omega
  have b4 : (0 : Int) ≤ (a.length : Int) + 1 := by omega
  have b5 : a.length ≤ l.length := by omega
  have b6 : a.length + 1 ≤ l.length := by omega
  refine CW.seqK fun K7 hK7 => CW.draw (by kernel_rfl) ?_
  simp (maxDischargeDepth := 16) [symB, List.length_set, andThen, hlen, h0, h1, hz, hwk, bsz, e1, e2, b1, b2, b3, b4, b5, b6]
  refine ⟨by kernel_rfl, ?_⟩
  refine hK7 _ _ ?_
  refine CW.ret ?_
  simp only [andThen]
  exact done (a, b, true) _ hca.symm (by simp [hlen]) (by simp (maxDischargeDepth := 16) [slot_eq, slot_ne, hlen]) (by simp (maxDischargeDepth := 16) [slot_eq, slot_ne, hlen]) (by simp (maxDischargeDepth := 16) [slot_eq, slot_ne, hlen])
set_option maxRecDepth 100000 in
theorem cutDot_ev (l : List UInt8) (σ : Sto) (hl : l.length ≤ 100000000000) : CallW Tryz.prog EB 123 [.lit (.string (bs l)), .lit (.string (bs [46]))] σ fun r σ' => r = .ret (.tup [.lit (.string (bs (cutA l).1)), .lit (.string (bs (cutA l).2.1)), .lit (.bool (cutA l).2.2)]) ∧ σ' = σ := by
 refine CallW.start (fn := Tryz.f123) (M := []) rfl rfl rfl rfl (by simp) fun tm hlen hs => ?_
 have h0 := hs 0 _ rfl
 have h1 := hs 1 _ rfl
 clear hs
 simp at hlen
 refine CW.hide fun R0 hR0 => ?_
 refine CW.seqK fun K hK => CW.region ?_
 simp (maxDischargeDepth := 16) [symB, List.length_set, andThen, hlen]
 refine hK _ _ ?_; clear hK K
 refine CW.seqK fun K hK => CW.region ?_
 simp (maxDischargeDepth := 16) [symB, List.length_set, andThen, hlen, h0, h1]
 refine (cutDoti_ev l σ hl).mono ?_
 rintro r σ2 ⟨rfl, rfl⟩
 generalize cutA l = q at *
 simp (maxDischargeDepth := 16) [symB, List.length_set, andThen, hlen, retK]
 refine hK _ _ ?_
 refine CW.ret (hR0 _ _ _ ⟨.tup [.lit (.string (bs q.1)), .lit (.string (bs q.2.1)), .lit (.bool q.2.2)], ?_, rfl, rfl⟩)
 simp (maxDischargeDepth := 16) [resultsA, omap, res_tmp, slot_eq, slot_ne, hlen]
theorem cutA_small (l : List UInt8) : (cutA l).1.length ≤ l.length ∧ (cutA l).2.1.length ≤ l.length := by
 unfold cutA
 split
 · rename_i a b h
   have := (cutDot_some h).2
   rw [this]; simp; omega
 · simp
set_option maxRecDepth 100000 in
set_option maxHeartbeats 1000000 in
theorem function_ev (l : List UInt8) (σ : Sto) (hl : l.length ≤ 1000000) : CallW Tryz.prog EB 76 [.lit (.string (bs l))] σ fun r σ' => r = .ret (.lit (.bool (funcOk l))) ∧ σ' = σ := by
 refine CallW.start (fn := Tryz.f76) (M := []) rfl rfl rfl rfl (by simp) fun tm hlen hs => ?_
 have h0 := hs 0 _ rfl
 clear hs
 simp at hlen
 refine CW.hide fun R0 hR0 => ?_
 have done : ∀ (c : Bool) (tm : List AV), c = funcOk l → tm.length = 36 → slot tm 2 = .lit (.bool c) → R0 .ret tm σ := by
  intro c tm hc hlen h2
  refine hR0 _ _ _ ⟨.lit (.bool c), ?_, by rw [hc], rfl⟩
  simp (maxDischargeDepth := 16) [resultsA, omap, res_tmp, slot_eq, slot_ne, hlen, h2]
 clear hR0
 refine CW.seqK fun K hK => CW.region ?_
 simp (maxDischargeDepth := 16) [symB, List.length_set, andThen, hlen]
 refine hK _ _ ?_; clear hK K
 have hsm := cutA_small l
 have hfo : funcOk l = (decide (l = [116, 97, 103]) || ((cutA l).2.2 && nameOk (cutA l).1 && fieldOk (cutA l).2.1)) := by
  unfold funcOk cutA
  cases cutDot l <;> simp
 refine CW.seqK fun K hK => CW.region ?_
 simp (maxDischargeDepth := 16) [symB, List.length_set, andThen, hlen, h0]
 refine (cutDot_ev l σ (by omega)).mono ?_
 rintro r σ2 ⟨rfl, rfl⟩
 generalize cutA l = q at *
 obtain ⟨a, b, o⟩ := q
 simp only at hsm hfo
 obtain ⟨hsa, hsb⟩ := hsm
 simp (maxDischargeDepth := 16) [symB, List.length_set, andThen, hlen, retK]
 refine hK _ _ ?_; clear hK K
 refine CW.reset (fun tm => tm.length = 36 ∧ slot tm 0 = .lit (.string (bs l)) ∧ slot tm 3 = .lit (.string (bs a)) ∧ slot tm 4 = .lit (.string (bs b)) ∧ slot tm 5 = .lit (.bool o)) ⟨by simp [hlen], by simp [slot_ne, h0], by simp (maxDischargeDepth := 16) [slot_eq, slot_ne, hlen], by simp (maxDischargeDepth := 16) [slot_eq, slot_ne, hlen], by simp (maxDischargeDepth := 16) [slot_eq, slot_ne, hlen]⟩ ?_
 clear h0 hlen tm
 rintro tm ⟨hlen, h0, h3, h4, h5⟩
 refine CW.seqK fun K hK => CW.region ?_
 have htl : (bs l).toList = l := bs_list l
 have htg : (bs [116, 97, 103]).toList = [116, 97, 103] := bs_list _
 have fin : ∀ (c : Bool) (tm : List AV), c = funcOk l → tm.length = 36 → slot tm 2 = .lit (.bool c) → K tm σ2 := by
  intro c tm hc hlen h2
  refine hK _ _ ?_
  exact CW.ret (done c _ hc hlen h2)
 clear done hK
 by_cases e : l = [116, 97, 103]
 · simp (maxDischargeDepth := 16) [symB, List.length_set, andThen, hlen, h0, htl, htg, e]
   exact fin true _ (by rw [hfo]; simp [e]) (by simp [hlen]) (by simp (maxDischargeDepth := 16) [slot_eq, slot_ne, hlen])
 · have hfo : funcOk l = (o && nameOk a && fieldOk b) := by rw [hfo]; simp [e]
   cases o with
   | false =>
    simp (maxDischargeDepth := 16) [symB, List.length_set, andThen, hlen, h0, h5, htl, htg, e]
    exact fin false _ (by rw [hfo]; rfl) (by simp [hlen]) (by simp (maxDischargeDepth := 16) [slot_eq, slot_ne, hlen, e])
   | true =>
    simp (maxDischargeDepth := 16) [symB, List.length_set, andThen, hlen, h0, h3, h5, htl, htg, e]
    refine CallW.prim (g := primName) rfl (primName_eq a _ (by omega)) ?_
    cases hn : nameOk a with
    | false =>
     simp (maxDischargeDepth := 16) [symB, List.length_set, retK, andThen, hlen, h0, h3, h4, h5, htl, htg, e]
     exact fin false _ (by rw [hfo, hn]; rfl) (by simp [hlen]) (by simp (maxDischargeDepth := 16) [slot_eq, slot_ne, hlen, e])
    | true =>
     have hfo : funcOk l = fieldOk b := by rw [hfo, hn]; rfl
     match b, hfo with
     | [], hfo =>
      simp (maxDischargeDepth := 16) [symB, List.length_set, retK, andThen, hlen, h0, h3, h4, h5, htl, htg, e, bsz]
      exact fin false _ (by rw [hfo]; rfl) (by simp [hlen]) (by simp (maxDischargeDepth := 16) [slot_eq, slot_ne, hlen, e])
     | c :: d :: r, hfo =>
      have hne : ¬ ((r.length : Int) + 1 + 1 = 1) := by omega
      have hne2 : ¬ (r.length + 1 = 0) := by omega
      simp (maxDischargeDepth := 16) [symB, List.length_set, retK, andThen, hlen, h0, h3, h4, h5, htl, htg, e, bsz, hne, hne2]
      exact fin false _ (by rw [hfo]; rfl) (by simp [hlen]) (by simp (maxDischargeDepth := 16) [slot_eq, slot_ne, hlen, e, hne])
     | [c], hfo =>
      have hg0 : (bs [c])[0]? = some c := rfl
      have hg1 : ∀ h, (bs [c])[0]'h = c := fun _ => rfl
      have hz : (bs [c]).size = 1 := bsz _
      have hfo : funcOk l = (decide (48 ≤ c.toNat) && decide (c.toNat ≤ 57)) := hfo
      by_cases l1 : 48 ≤ c.toNat
      · have m1 : (48 : Int) ≤ (c.toNat : Int) := by omega
        by_cases l2 : c.toNat ≤ 57
        · have m2 : (c.toNat : Int) ≤ 57 := by omega
          simp (maxDischargeDepth := 16) [symB, List.length_set, retK, andThen, hlen, h0, h3, h4, h5, htl, htg, e, hz, hg0, hg1, l1, l2, m1, m2]
          exact fin true _ (by rw [hfo]; simp [l1, l2]) (by simp [hlen]) (by simp (maxDischargeDepth := 16) [slot_eq, slot_ne, hlen, e])
        · have m2 : ¬ (c.toNat : Int) ≤ 57 := by omega
          simp (maxDischargeDepth := 16) [symB, List.length_set, retK, andThen, hlen, h0, h3, h4, h5, htl, htg, e, hz, hg0, hg1, l1, l2, m1, m2]
          exact fin false _ (by rw [hfo]; simp [l1, l2]) (by simp [hlen]) (by simp (maxDischargeDepth := 16) [slot_eq, slot_ne, hlen, e, l2])
      · have m1 : ¬ (48 : Int) ≤ (c.toNat : Int) := by omega
        simp (maxDischargeDepth := 16) [symB, List.length_set, retK, andThen, hlen, h0, h3, h4, h5, htl, htg, e, hz, hg0, hg1, l1, m1]
        exact fin false _ (by rw [hfo]; simp [l1]) (by simp [hlen]) (by simp (maxDischargeDepth := 16) [slot_eq, slot_ne, hlen, e, l1])
end
section
open Go.RowKit
def nodeA (t : Tr) (fid : Nat) : AV := .agg (rowOf t ++ [.ptr fid 0])
def cleanO : AObj := .cells [boolA false, .lit (.int .i64 0)] 53
def badO (p : Int) : AObj := .cells [boolA true, .lit (.int .i64 p)] 53
def setF (σ : Sto) (fid : Nat) : Option Int → Sto
 | none => σ
 | some p => σ.set fid (badO p)
mutual
def fineT : Tr → Prop
 | .mk w k _ _ => (w.length ≤ 1000000 ∧ k.length ≤ 1000000) ∧ fineL k
def fineL : List Tr → Prop
 | [] => True
 | t :: l => fineT t ∧ fineL l
end
theorem fineL_mem : ∀ {l : List Tr} {t : Tr}, fineL l → t ∈ l → fineT t
 | t :: l, u, h, hu => by
  rcases List.mem_cons.1 hu with rfl | hu
  · exact h.1
  · exact fineL_mem h.2 hu
theorem fineL_of : ∀ {l : List Tr}, (∀ t ∈ l, fineT t) → fineL l
 | [], _ => trivial
 | t :: l, h => ⟨h t (by simp), fineL_of fun u hu => h u (by simp [hu])⟩
theorem sizeT_kids {w : List UInt8} {k : List Tr} {r : Bool} {a : Int} : sizeT (.mk w k r a) = 1 + (k.map sizeT).sum := by
 rw [sizeT]
 congr 2
 simp
theorem sizeT_mem {k : List Tr} {t : Tr} (h : t ∈ k) : sizeT t ≤ (k.map sizeT).sum := by
 induction k with
 | nil => cases h
 | cons u l ih =>
  simp only [List.map_cons, List.sum_cons]
  rcases List.mem_cons.1 h with rfl | h
  · omega
  · have := ih h; omega
theorem sizeT_kid {w : List UInt8} {k : List Tr} {r : Bool} {a : Int} {t : Tr} (h : t ∈ k) : sizeT t < sizeT (.mk w k r a) := by
 have := sizeT_mem h
 rw [sizeT_kids]; omega
def fidOf : RF → FuncId
 | .name => 39
 | .whole => 74
 | .atom => 137
 | .sorted => 95
 | .many => 46
 | .con => 41
 | .names => 179
 | .params => 49
 | .param => 99
 | .kind => 51
 | .term => 27
 | .right => 136
 | .body => 53
 | .let_ => 103
 | .last => 104
 | .arm => 139
def oneR : RF → Bool
 | .name | .many | .names | .params => true
 | _ => false
def valR (g : RF) (cs : List AV) : AV := if oneR g then cs.headD (.tup []) else .agg cs
def SR (N : Nat) (g : RF) (args : List AV) (σ : Sto) (r : ARes) (σ' : Sto) : Prop :=
 ∃ t fid, args = [nodeA t fid] ∧ fineT t ∧ 8 * sizeT t + rank g ≤ N ∧ σ[fid]? = some cleanO ∧ r = .ret (valR g (rd N g t).1) ∧ σ' = setF σ fid (rd N g t).2
def primNum (args : List AV) (σ : Sto) : Option (ARes × Sto) :=
 match args with
 | [.lit (.string s)] => if s.size ≤ 1000000 then (match numOf s.data.toList with | none => some (.ret (.tup [.agg intZ, boolA false]), σ) | some p => some (.ret (.tup [.agg (numC p), boolA true]), σ)) else none
 | _ => none
def primFun (args : List AV) (σ : Sto) : Option (ARes × Sto) :=
 match args with
 | [.lit (.string s)] => if s.size ≤ 1000000 then some (.ret (boolA (funcOk s.data.toList)), σ) else none
 | _ => none
theorem primFun_eq (l : List UInt8) (σ : Sto) (hl : l.length ≤ 1000000) : primFun [.lit (.string (bs l))] σ = some (.ret (boolA (funcOk l)), σ) := by
 unfold primFun
 simp only [bsz, data_bs]
 rw [if_pos hl]
theorem primNum_none (l : List UInt8) (σ : Sto) (hl : l.length ≤ 1000000) (h : numOf l = none) : primNum [.lit (.string (bs l))] σ = some (.ret (.tup [.agg intZ, boolA false]), σ) := by
 unfold primNum
 simp only [bsz, data_bs, h]
 rw [if_pos hl]
theorem primNum_some (l : List UInt8) (σ : Sto) (hl : l.length ≤ 1000000) {p : Bool × List Nat} (h : numOf l = some p) : primNum [.lit (.string (bs l))] σ = some (.ret (.tup [.agg (numC p), boolA true]), σ) := by
 unfold primNum
 simp only [bsz, data_bs, h]
 rw [if_pos hl]
theorem still_none : still nilA := .sl [] .no trivial fun i j e d h => by simp at h
theorem still_d32 (d : List Nat) : ∀ e ∈ d32 d, ∀ x ∈ e, still x := by
 intro e he x hx
 unfold d32 at he
 obtain ⟨n, _, rfl⟩ := List.mem_map.1 he
 rw [List.mem_singleton.1 hx]
 exact still_lit _
theorem primFun_sound : CallSound Tryz.prog fun f args σ => if f = 76 then primFun args σ else none :=
 call_sound mixedA EB_ok fun args σ r σ' h => by
  unfold primFun at h
  split at h
  · rename_i s
    split at h
    · rename_i hs
      cases h
      have hz : s.data.toList.length = s.size := by rw [Array.length_toList]; rfl
      have := function_ev s.data.toList σ (by omega)
      rw [bs_data] at this
      refine CallW.toJ (this.mono ?_)
      rintro r1 σ1 ⟨rfl, rfl⟩
      exact Fgt.still1 (Ext.refl _) (still_lit _)
    · cases h
  · cases h
theorem primNum_sound : CallSound Tryz.prog fun f args σ => if f = 163 then primNum args σ else none :=
 call_sound mixedA EV_ok fun args σ r σ' h => by
  unfold primNum at h
  split at h
  · rename_i s
    split at h
    · rename_i hs
      have hz : s.data.toList.length = s.size := by rw [Array.length_toList]; rfl
      have hp := numParse_ev s.data.toList σ (by omega)
      rw [bs_data] at hp
      refine CallW.toJ (hp.mono ?_)
      rintro r1 σ1 ⟨hr, hx⟩
      split at h
      · rename_i hn
        cases h
        rw [hn] at hr
        simp only at hr
        subst hr
        refine Fgt.pure hx (.tup _ _ rfl fun j x y hx hy => ?_)
        match j with
        | 0 =>
         cases hx; cases hy
         refine .agg _ _ rfl fun j x y hx hy => ?_
         match j with
         | 0 => cases hx; cases hy; exact Frz.still (still_lit _)
         | 1 => cases hx; cases hy; exact Frz.rows (by simp)
         | j + 2 => cases hx
        | 1 => cases hx; cases hy; exact Frz.still (still_lit _)
        | j + 2 => cases hx
      · rename_i p hn
        cases h
        obtain ⟨b, d⟩ := p
        rw [hn] at hr
        obtain ⟨t, rfl⟩ := hr
        refine Fgt.pure hx (.tup _ _ rfl fun j x y hx hy => ?_)
        match j with
        | 0 =>
         cases hx; cases hy
         refine .agg _ _ rfl fun j x y hx hy => ?_
         match j with
         | 0 => cases hx; cases hy; exact Frz.still (still_lit _)
         | 1 => cases hx; cases hy; exact Frz.rows (still_d32 d)
         | j + 2 => cases hx
        | 1 => cases hx; cases hy; exact Frz.still (still_lit _)
        | j + 2 => cases hx
    · cases h
  · cases h
noncomputable def primN (N : Nat) (f : FuncId) : Option (List AV → Sto → Option (ARes × Sto)) :=
 match f with
 | 39 => some (relPrim (SR N .name))
 | 74 => some (relPrim (SR N .whole))
 | 137 => some (relPrim (SR N .atom))
 | 95 => some (relPrim (SR N .sorted))
 | 46 => some (relPrim (SR N .many))
 | 41 => some (relPrim (SR N .con))
 | 179 => some (relPrim (SR N .names))
 | 49 => some (relPrim (SR N .params))
 | 99 => some (relPrim (SR N .param))
 | 51 => some (relPrim (SR N .kind))
 | 27 => some (relPrim (SR N .term))
 | 136 => some (relPrim (SR N .right))
 | 53 => some (relPrim (SR N .body))
 | 103 => some (relPrim (SR N .let_))
 | 104 => some (relPrim (SR N .last))
 | 139 => some (relPrim (SR N .arm))
 | 76 => some primFun
 | 163 => some primNum
 | 9 => some primName
 | f => primEV f
def msN (f : FuncId) : List TypeId :=
 match f with
 | 27 => [39]
 | 136 => [115, 124]
 | 103 => [115, 119]
 | 139 => [124]
 | f => msEV f
noncomputable def EN (N : Nat) : Env := { code := codeEV, prim := primN N, ms := msN }
theorem rowOf_get (t : Tr) : rowOf t = [.lit (.string (bs t.word)), .sl (rowsOf t.kids) .no, .lit (.bool t.row), .lit (.int .i64 t.at_)] := by cases t; rfl
theorem nodeA_inj {t u : Tr} {a b : Nat} (h : nodeA t a = nodeA u b) : t = u ∧ a = b := by
 unfold nodeA at h
 rw [AV.agg.injEq] at h
 have := List.append_inj h (by rw [rowOf_get, rowOf_get]; rfl)
 refine ⟨rowOf_inj _ _ this.1, ?_⟩
 have := this.2
 simp only [List.cons.injEq, AV.ptr.injEq, and_true] at this
 exact this
theorem SR_fun (N : Nat) (g : RF) : ∀ args σ r σ' r2 σ2, SR N g args σ r σ' → SR N g args σ r2 σ2 → r = r2 ∧ σ' = σ2 := by
 rintro args σ r σ' r2 σ2 ⟨t, fid, rfl, _, _, _, rfl, rfl⟩ ⟨u, fid2, h1, _, _, _, rfl, rfl⟩
 obtain ⟨rfl, rfl⟩ := nodeA_inj (List.cons.inj h1).1
 exact ⟨rfl, rfl⟩
theorem primN_of (N : Nat) (g : RF) : (EN N).prim (fidOf g) = some (relPrim (SR N g)) := by cases g <;> rfl
theorem rd_ev {N : Nat} (g : RF) {t : Tr} {fid : Nat} {σ : Sto} {Q : ARes → Sto → Prop} (hf : fineT t) (hn : 8 * sizeT t + rank g ≤ N) (hc : σ[fid]? = some cleanO) (hq : Q (.ret (valR g (rd N g t).1)) (setF σ fid (rd N g t).2)) : CallW Tryz.prog (EN N) (fidOf g) [nodeA t fid] σ Q :=
 CallW.prim (primN_of N g) (relPrim_eq (SR_fun N g) ⟨t, fid, rfl, hf, hn, hc, rfl, rfl⟩) hq
end
end Go.Proofs.YtkkblmdgedmdfaaGreatDoor
