/-
 EV: A FUNCTION THAT HOLDS A RANGE OVER A FUNCTION: its code up to the loop, the loop, what is behind it.
-/
import Derived.Test.YtkkblmdgedmdfaaGreatDoorEvRangeM
import Derived.Test.YtkkblmdgedmdfaaGreatDoorEvPrimsM
import Derived.Test.YtkkblmdgedmdfaaGreatDoorEvPRest2
import Derived.Test.YtkkblmdgedmdfaaGreatDoorEvPRd2M
import Derived.Test.YtkkblmdgedmdfaaGreatDoorEvPRd3M
import Derived.Test.YtkkblmdgedmdfaaGreatDoorEvPPartsM
import Derived.Test.YtkkblmdgedmdfaaGreatDoorEvPWordM
import Derived.Test.YtkkblmdgedmdfaaGreatDoorEvPRd1
import Derived.Test.YtkkblmdgedmdfaaGreatDoorEvPRd4
import Derived.Test.YtkkblmdgedmdfaaGreatDoorEvAnyM
import Derived.Test.YtkkblmdgedmdfaaGreatDoorEvPRd6
namespace Go.Proofs.YtkkblmdgedmdfaaGreatDoor
set_option linter.unusedSimpArgs false
set_option linter.unusedVariables false
section
open Go.RowKit
section
variable (P : Program) (fn : Func) (Q : ARes → Sto → Prop) (ι0 : List Nat) (Z0 : Nat → Nat → Prop) (w0 : World)
def EndR (e : Ending) (w' : World) : Prop := ∃ r σ' ι' Z', Q r σ' ∧ Evo ι0 Z0 w0 ι' Z' w' ∧ Match σ' ι' Z' w' ∧ ERel ι' Z' w' r e
def Sem (c : Code) (tm : List AV) (σ : Sto) : Prop := ∀ (ι : List Nat) (Z : Nat → Nat → Prop) (w : World) (a : Act), Evo ι0 Z0 w0 ι Z w → Match σ ι Z w → FR ι Z w tm a.tmps → a.defers = [] → c.wp P (bodyPostM Fence.wide 1 P fn (EndR Q ι0 Z0 w0)) a w
def SemM (c : Code) (tm : List AV) (σ : Sto) : Prop := ∀ (ι : List Nat) (Z : Nat → Nat → Prop) (w : World) (a : Act) (D : Nat), Marked ι0 Z0 w0 D ι Z w → Match σ ι Z w → FR ι Z w tm a.tmps → a.defers = [{ target := .collected D, args := #[] }] → c.wp P (bodyPostM Fence.wide 1 P fn (EndR Q ι0 Z0 w0)) a w
end
section
variable {P : Program} {E : Env} {M : List TypeId} {fn : Func} {Q : ARes → Sto → Prop} {ι0 : List Nat} {Z0 : Nat → Nat → Prop} {w0 : World}
def Go1 (P : Program) (fn : Func) (Q : ARes → Sto → Prop) (N : List AV → Sto → Prop) : AExit → List AV → Sto → Prop
 | .normal, tm, σ => N tm σ
 | .ret, tm, σ => ∃ v, resultsA P fn tm σ = some v ∧ Q (.ret v) σ
 | _, _, _ => False
theorem Sem.seq (hm : P.follows .mixedOrders = true) (hE : EnvOk P E) {c d : Code} {tm : List AV} {σ : Sto} (h : JD P E M c tm σ (Go1 P fn Q fun tm σ => Sem P fn Q ι0 Z0 w0 d tm σ)) : Sem P fn Q ι0 Z0 w0 (.seq c d) tm σ := by
 intro ι Z w a hev hM hF hd
 refine wp_seq (J.tells hm hE h ι Z w a hM hF _ fun x tm' σ' e a' w' hq hx => ?_)
 obtain ⟨ι', Z', ha, hxr⟩ := hx
 cases x with
 | normal =>
  cases hxr
  exact hq ι' Z' w' a' (hev.trans ha.1) ha.2.1 ha.2.2.1 (ha.2.2.2.trans hd)
 | ret =>
  cases hxr
  obtain ⟨v, hv, hQ⟩ := hq
  obtain ⟨u, g1, g2⟩ := results_rel ha.2.1 ha.2.2.1 hv
  have hd' : a'.defers = [] := ha.2.2.2.trans hd
  show LeavesInM Fence.wide 1 P fn a'.tmps _ a'.defers .returning w'
  rw [hd']
  exact ⟨u, g1, .ret v, σ', ι', Z', hQ, hev.trans ha.1, ha.2.1, u, rfl, g2⟩
 | _ => exact hq.elim
theorem Sem.seqK (hm : P.follows .mixedOrders = true) (hE : EnvOk P E) {c d : Code} {tm : List AV} {σ : Sto} (h : ∀ K : AExit → List AV → Sto → Prop, (∀ tm σ, Sem P fn Q ι0 Z0 w0 d tm σ → K .normal tm σ) → (∀ tm σ v, resultsA P fn tm σ = some v → Q (.ret v) σ → K .ret tm σ) → JD P E M c tm σ K) : Sem P fn Q ι0 Z0 w0 (.seq c d) tm σ :=
 Sem.seq hm hE (h _ (fun _ _ h => h) fun _ _ v h1 h2 => ⟨v, h1, h2⟩)
theorem Sem.range (hm : P.follows .mixedOrders = true) (hE : EnvOk P E) {id : Nat} {g : Operand} {ps : Array Tmp} {assign body pre rest : Code} {tm : List AV} {σ : Sto}
    (h : JD P E M pre tm σ (Go1 P fn (fun _ _ => False) fun tm σ => ∃ (f : FuncId) (cap : List AV) (R : Sto → Prop), evx tm g = some (.fn (.func f) [] cap) ∧ (∀ args w, (callFunc f args).run P w = .ok (.enter f args) w) ∧
     (∀ (L : Nat) (r : Loop) (cs : Array Value) (ι : List Nat) (Z : Nat → Nat → Prop) (w : World), r.state = .ready → r.pending = none → r.params = ps → r.assign = assign → r.body = body → FR ι Z w tm r.tmps → Rec L r ι Z w → Match σ ι Z w → cap.length = cs.size → (∀ (i : Nat) (d : AV) (u : Value), cap[i]? = some d → cs[i]? = some u → VR ι Z w d u) →
      CallsIn Fence.wide 0 P f (#[.func (.yield L) #[] #[]] ++ cs) w fun e w' => (∃ v, e = .returned v) ∧ ∃ σ' ι' Z', R σ' ∧ Evo ι Z w ι' Z' w' ∧ Match σ' ι' Z' w') ∧
     ∀ σ', R σ' → SemM P fn Q ι0 Z0 w0 rest tm σ')) : Sem P fn Q ι0 Z0 w0 (.seq (.seq pre (.block id (.rangeFunc g ps assign body))) rest) tm σ := by
 intro ι Z w a hev hM hF hd
 refine wp_seq (wp_seq (J.tells hm hE h ι Z w a hM hF _ fun x tm' σ' e a' w' hq hx => ?_))
 obtain ⟨ι', Z', ha, hxr⟩ := hx
 cases x with
 | normal =>
  cases hxr
  obtain ⟨f, cap, R, hg, hrun, hit, hk⟩ := hq
  refine wp_block (wp_range hm hg hrun hit (hev.trans ha.1) ha.2.1 ha.2.2.1 ?_)
  intro σ2 ι2 Z2 w2 D hR hmk m2 f2
  refine hk σ2 hR ι2 Z2 w2 _ D hmk m2 f2 ?_
  show _ :: a'.defers = _
  rw [ha.2.2.2.trans hd]
 | ret => obtain ⟨v, _, hf⟩ := hq; exact hf.elim
 | _ => exact hq.elim
theorem Sem.rangeK (hm : P.follows .mixedOrders = true) (hE : EnvOk P E) {id : Nat} {g : Operand} {ps : Array Tmp} {assign body pre rest : Code} {tm : List AV} {σ : Sto}
    (h : ∀ K : AExit → List AV → Sto → Prop, (∀ (tm : List AV) (σ : Sto) (f : FuncId) (cap : List AV) (R : Sto → Prop), evx tm g = some (.fn (.func f) [] cap) → (∀ args w, (callFunc f args).run P w = .ok (.enter f args) w) →
     (∀ (L : Nat) (r : Loop) (cs : Array Value) (ι : List Nat) (Z : Nat → Nat → Prop) (w : World), r.state = .ready → r.pending = none → r.params = ps → r.assign = assign → r.body = body → FR ι Z w tm r.tmps → Rec L r ι Z w → Match σ ι Z w → cap.length = cs.size → (∀ (i : Nat) (d : AV) (u : Value), cap[i]? = some d → cs[i]? = some u → VR ι Z w d u) →
      CallsIn Fence.wide 0 P f (#[.func (.yield L) #[] #[]] ++ cs) w fun e w' => (∃ v, e = .returned v) ∧ ∃ σ' ι' Z', R σ' ∧ Evo ι Z w ι' Z' w' ∧ Match σ' ι' Z' w') →
     (∀ σ', R σ' → SemM P fn Q ι0 Z0 w0 rest tm σ') → K .normal tm σ) → JD P E M pre tm σ K) : Sem P fn Q ι0 Z0 w0 (.seq (.seq pre (.block id (.rangeFunc g ps assign body))) rest) tm σ :=
 Sem.range hm hE (h _ fun tm σ f cap R h1 h2 h3 h4 => ⟨f, cap, R, h1, h2, h3, h4⟩)
theorem SemM.of (hm : P.follows .mixedOrders = true) (hE : EnvOk P E) {c : Code} {tm : List AV} {σ : Sto} (h : JD P E M c tm σ (Go1 P fn Q fun _ _ => False)) : SemM P fn Q ι0 Z0 w0 c tm σ := by
 intro ι Z w a D hmk hM hF hd
 refine J.tells hm hE h ι Z w a hM hF _ fun x tm' σ' e a' w' hq hx => ?_
 obtain ⟨ι', Z', ha, hxr⟩ := hx
 cases x with
 | normal => exact hq.elim
 | ret =>
  cases hxr
  obtain ⟨v, hv, hQ⟩ := hq
  have h2 := hmk.go ha.1
  have hd' : a'.defers = [{ target := .collected D, args := #[] }] := ha.2.2.2.trans hd
  have m3 := ha.2.1.turned h2.obj rfl (show noCells (.deferred none) = true from rfl) h2.no h2.noz
  have f3 : FR ι' Z' (w'.putObj D (.deferred none)) tm' a'.tmps := ⟨ha.2.2.1.1, fun i d u hd hu => (ha.2.2.1.2 i d u hd hu).evoW (turned_W h2.obj rfl rfl h2.noz)⟩
  obtain ⟨u, g1, g2⟩ := results_rel m3 f3 hv
  show LeavesInM Fence.wide 1 P fn a'.tmps _ a'.defers .returning w'
  rw [hd']
  refine ⟨by simp, .inl ⟨D, _, rfl, run_takeDeferred h2.obj, ?_⟩⟩
  exact ⟨u, g1, .ret v, σ', ι', Z', hQ, h2.evo.turned h2.ge h2.noz, m3, u, rfl, g2⟩
 | _ => exact hq.elim
theorem Sem.call (hE : EnvOk P E) {f : FuncId} {c : Code} {args : List AV} {σ : Sto} (hf : E.code f = some fn) (hc : fn.body = some c)
    (h : ∀ (ι0 : List Nat) (Z0 : Nat → Nat → Prop) (w0 : World), Sem P fn Q ι0 Z0 w0 c (args ++ List.replicate (fn.ntmps - args.length) (.tup [])) σ) : Tells P (.call f args σ Q) := by
 intro ι Z w us hM hl ha
 obtain ⟨hP, hrun⟩ := hE.code f fn hf
 refine ⟨hrun us w, callsIn_wide.1 (callsIn_of_wp_marks (n := 1) hP hc trivial ((wpIn_wide (n := 1)).2 ?_))⟩
 exact h ι Z w ι Z w _ (.refl _ _ _) hM (FR.start hl ha fn.ntmps) rfl
end
theorem prim_sound' {P : Program} {f : FuncId} {S : List AV → Sto → ARes → Sto → Prop} (h : ∀ args σ r σ', S args σ r σ' → Tells P (.call f args σ fun r1 σ1 => Fgt σ r1 σ1 r σ')) :
    CallSound P fun f' args σ => if f' = f then relPrim S args σ else none := by
 intro f' args σ r σ' hr ι Z w us hM hl hargs
 dsimp only at hr
 split at hr
 · rename_i e
   subst e
   have hs := relPrim_spec hr
   obtain ⟨h1, h2⟩ := h _ _ _ _ hs ι Z w us hM hl hargs
   refine ⟨h1, h2.mono fun e w' hx => ?_⟩
   obtain ⟨r1, σ1, ι', Z', hF, hEv, hM', hR⟩ := hx
   exact forget hM hEv hM' hR hF
 · cases hr
end
section
open Go.RowKit
def RdTells (N : Nat) (g : RF) : Prop := ∀ (t : Tr) (fid : Nat) (σ : Sto), fineT t → 8 * sizeT t + rank g ≤ N + 1 → σ[fid]? = some cleanO →
 Tells Tryz.prog (.call (fidOf g) [nodeA t fid] σ fun r1 σ1 => Fgt σ r1 σ1 (.ret (valR g (rd (N + 1) g t).1)) (setF σ fid (rd (N + 1) g t).2))
theorem rd_soundT {N : Nat} {g : RF} (h : RdTells N g) : CallSound Tryz.prog fun f' args σ => if f' = fidOf g then relPrim (SR (N + 1) g) args σ else none :=
 prim_sound' fun args σ r σ' hs => by
  obtain ⟨t, fid, e1, hf, hn, hc, e2, e3⟩ := hs
  subst e1; subst e2; subst e3
  exact h t fid σ hf hn hc
theorem rowsOf_dropLast : ∀ l : List Tr, rowsOf l.dropLast = (rowsOf l).take (l.length - 1)
 | l => by rw [rowsOf_map, rowsOf_map, List.dropLast_eq_take, List.map_take]
theorem fineL_dropLast {l : List Tr} (h : fineL l) : fineL l.dropLast := fineL_of fun t ht => fineL_mem h (List.dropLast_subset l ht)
theorem restS_len {f : Tr → Ans} : ∀ {l : List Tr}, (restS f l).1.length ≤ l.length
 | [] => Nat.le_refl _
 | t :: l => by
  rw [restS_cons]
  split
  · simp
  · simp only [List.length_cons]; have := restS_len (f := f) (l := l); omega
theorem backward_expr_ev (N : Nat) (rows : List (List AV)) (tok : Tok) (σ : Sto) : CallW Tryz.prog (EN N) 105 [.sl rows tok] σ fun r σ' => r = .ret (.fn (.func 140) [] [.ptr σ.length 0]) ∧ σ' = σ ++ [.cells [.sl rows tok] 124] := by
 refine CallW.start (fn := Tryz.f105) (M := []) rfl rfl rfl rfl (by simp) fun tm hlen hs => ?_
 have h0 := hs 0 _ rfl
 clear hs
 simp at hlen
 refine CW.hide fun R0 hR0 => ?_
 refine CW.seqK fun K hK => CW.region ?_
 simp (maxDischargeDepth := 16) [symB, List.length_set, andThen, hlen, h0]
 refine hK _ _ ?_; clear hK K
 refine CW.seqK fun K hK => CW.region ?_
 simp (maxDischargeDepth := 16) [symB, List.length_set, andThen, hlen]
 refine hK _ _ ?_
 refine CW.ret (hR0 _ _ _ ⟨.fn (.func 140) [] [.ptr σ.length 0], ?_, rfl, rfl⟩)
 simp [resultsA, omap, res_tmp, slot_eq, slot_ne, hlen]
set_option maxRecDepth 100000 in
set_option maxHeartbeats 4000000 in
theorem body_rd (N : Nat) (hE : EnvOk Tryz.prog (EN N)) : RdTells N .body := by
 intro t fid σ hf hn hc
 have hm : Tryz.prog.follows .mixedOrders = true := mixedA
 refine Sem.call (fn := Tryz.f53) hE rfl rfl fun ι0 Z0 w0 => ?_
 have hlen : ([nodeA t fid] ++ List.replicate (Tryz.f53.ntmps - [nodeA t fid].length) (AV.tup [])).length = 58 := rfl
 have h0 : slot ([nodeA t fid] ++ List.replicate (Tryz.f53.ntmps - [nodeA t fid].length) (AV.tup [])) 0 = nodeA t fid := rfl
 generalize [nodeA t fid] ++ List.replicate (Tryz.f53.ntmps - [nodeA t fid].length) (AV.tup []) = tm at *
 rw [nodeA_eq] at h0
 have hfl := lt_of_obj hc
 refine Sem.seqK hm hE (M := []) fun K hK hKr => J.cw (CW.region ?_)
 simp (maxDischargeDepth := 16) [symB, List.length_set, andThen, hlen, h0]
 refine hK _ _ ?_; clear hK hKr K
 have rs : ∀ (Q : List AV → Sto → Prop) {c : Code} {tm : List AV} {σ1 : Sto} {q : ARes → Sto → Prop}, Q tm σ1 → (∀ tm σ1, Q tm σ1 → Sem Tryz.prog Tryz.f53 q ι0 Z0 w0 c tm σ1) → Sem Tryz.prog Tryz.f53 q ι0 Z0 w0 c tm σ1 := fun Q _ _ _ _ h k => k _ _ h
 refine rs (fun tm σ1 => tm.length = 58 ∧ slot tm 1 = .ptr σ.length 0 ∧ slot tm 2 = .ptr (σ.length + 1) 0 ∧ σ1 = σ ++ [nodeO t fid, .cells [.lit (.int .u8 0), .lit (.string ⟨#[]⟩), .sl [] .full, .sl [] .full, .lit (.int .u8 0), .lit (.string ⟨#[]⟩), .lit (.bool false), .sl [] .full, .lit (.bool false), .sl [] .full, .sl [] .full] 126]) ⟨by simp [hlen], by simp [slot_eq, slot_ne, hlen], by simp [slot_eq, slot_ne, hlen], rfl⟩ ?_
 clear h0 hlen tm
 rintro tm σ0 ⟨hlen, h1, h2, hσ0⟩
 have hb0 : σ0[σ.length]? = some (.cells [.lit (.string (bs t.word)), .sl (rowsOf t.kids) .no, .lit (.bool t.row), .lit (.int .i64 t.at_), .ptr fid 0] 57) := by rw [hσ0]; exact get_new _ _ _
 have hp : σ0[σ.length + 1]? = some (.cells [.lit (.int .u8 0), .lit (.string ⟨#[]⟩), .sl [] .full, .sl [] .full, .lit (.int .u8 0), .lit (.string ⟨#[]⟩), .lit (.bool false), .sl [] .full, .lit (.bool false), .sl [] .full, .sl [] .full] 126) := by rw [hσ0]; exact get_new1 _ _ _ _
 have hx0 : Ext σ σ0 := by rw [hσ0]; exact ⟨_, rfl⟩
 have hc0 : σ0[fid]? = some cleanO := by rw [hσ0]; exact get_app hc
 have hl0 : σ0.length = σ.length + 2 := by rw [hσ0]; simp
 clear hσ0
 have hkl : (rowsOf t.kids).length = t.kids.length := rowsOf_length _
 refine Sem.seqK hm hE (M := []) fun KA hKA hKAr => ?_
 refine JD.seqK fun KB hKB => J.cw (CW.region ?_)
 have bad : (t.row && decide (0 < t.kids.length)) = false → ∀ tm : List AV, tm.length = 58 → slot tm 1 = .ptr σ.length 0 → slot tm 2 = .ptr (σ.length + 1) 0 → slot tm 17 = .lit (.bool true) → KB tm σ0 := by
  intro hrow0 tm hlen h1 h2 hT
  refine hKB _ _ ?_; clear hKB KB
  refine JD.cond (t := true) (by simp [evx_tmp, slot_eq, slot_ne, hlen, hT]) ?_
  refine J.cw ?_
  have hrd : rd (N + 1) .body t = (exprZ, some t.at_) := by
   show (if _ then _ else _) = _
   rw [hrow0]; rfl
  have hne : σ.length + 1 ≠ fid := by omega
  refine CW.seqK fun K2 hK2 => CW.region ?_
  simp (maxDischargeDepth := 16) [symB, List.length_set, andThen, hlen, h1, hb0]
  rw [← nodeA_eq]
  refine (fault_ev N t fid σ0 hc0).mono ?_
  rintro r σ2 ⟨rfl, hx2⟩
  have hp2 := hx2.get ((setF_ne _ hne).trans hp)
  replace hx2 := (setF_ext _ hx0 hfl).trans hx2
  simp (maxDischargeDepth := 16) [symB, List.length_set, retK, andThen, hlen]
  refine hK2 _ _ ?_; clear hK2 K2
  have hs2 : ∀ o, (σ2.set (σ.length + 1) o)[σ.length + 1]? = some o := fun o => List.getElem?_set_self (lt_of_obj hp2)
  have hxs : ∀ o, Ext (setF σ fid (rd (N + 1) .body t).2) (σ2.set (σ.length + 1) o) := fun o => by rw [hrd]; exact hx2.set (by rw [setF_len]; omega)
  refine CW.seqK fun K2 hK2 => CW.region ?_
  simp (maxDischargeDepth := 16) [symB, List.length_set, andThen, hlen, h2, hp2]
  refine hK2 _ _ ?_; clear hK2 K2
  refine CW.ret (hKAr _ _ (.agg [.lit (.int .u8 0), .lit (.string ⟨#[]⟩), .sl [] .full, .sl [] .full, .lit (.int .u8 0), .lit (.string ⟨#[]⟩), .lit (.bool false), .sl [] .full, .lit (.bool false), .sl [] .full, .sl [] .full]) ?_ (fgt_of (hxs _) hc (show FrzL _ _ _ _ by rw [hrd]; exact (show FrzL _ _ [.lit (.int .u8 0), .lit (.string ⟨#[]⟩), .sl [] .full, .sl [] .full, .lit (.int .u8 0), .lit (.string ⟨#[]⟩), .lit (.bool false), .sl [] .full, .lit (.bool false), .sl [] .full, .sl [] .full] exprZ from (.cons (.lit _) (.cons (.lit _) (.cons (.nil _) (.cons (.nil _) (.cons (.lit _) (.cons (.lit _) (.cons (.lit _) (.cons (.nil _) (.cons (.lit _) (.cons (.nil _) (.cons (.nil _) .nil))))))))))))).agg))
  simp [resultsA, omap, res_tmp, res_cell, slot_eq, slot_ne, hlen, h2, hs2, partA, aggT]
 have good : (t.row && decide (0 < t.kids.length)) = true → ∀ tm : List AV, tm.length = 58 → slot tm 1 = .ptr σ.length 0 → slot tm 2 = .ptr (σ.length + 1) 0 → slot tm 17 = .lit (.bool false) → KB tm σ0 := by
  intro hrow1 tm hlen h1 h2 hT
  refine hKB _ _ ?_; clear bad hKB KB
  refine JD.cond (t := false) (by simp [evx_tmp, slot_eq, slot_ne, hlen, hT]) ?_
  refine JD.skip ?_
  refine hKA _ _ ?_; clear hKA hKAr KA
  have hkp : 0 < t.kids.length := by simp at hrow1; exact hrow1.2
  have hkl1 : (1 : Int) ≤ t.kids.length := by omega
  have hwr : IntKind.i64.wrap ((t.kids.length : Int) - 1) = ((t.kids.length - 1 : Nat) : Int) := by rw [show ((t.kids.length - 1 : Nat) : Int) = (t.kids.length : Int) - 1 by omega]; exact IntWalk.i64_in _ ⟨by have := fineT_k hf; omega, by have := fineT_k hf; omega⟩
  have hne : σ.length + 1 ≠ fid := by omega
  have hne0 : σ.length ≠ fid := by omega
  refine Sem.seqK hm hE (M := []) fun K hK hKr => J.cw (CW.draw (by kernel_rfl) ?_)
  have htake := (rowsOf_dropLast t.kids).symm
  have hle : ((t.kids.length - 1 : Nat) : Int) ≤ t.kids.length := by omega
  have hle2 : t.kids.length - 1 ≤ t.kids.length := by omega
  simp (maxDischargeDepth := 16) [symB, List.length_set, andThen, hlen, h1, hb0, hkl, hwr, htake, hle, hle2, rowsOf_head, sliceTok]
  have hnode : ∀ w : ByteArray, w = ⟨#[]⟩ → AV.agg [.lit (.string w), .sl (rowsOf t.kids.dropLast) .no, .lit (.bool true), .lit (.int .i64 0), .ptr fid 0] = nodeA (.mk [] t.kids.dropLast true 0) fid := by
   rintro w rfl
   rw [nodeA_eq]; rfl
  rw [hnode _ rfl]
  refine (rest_expr_ev N .let_ rfl (t := .mk [] t.kids.dropLast true 0) (src := 0) (fineL_dropLast (fineT_l hf)) (fun u hu => by have := size_kid (List.dropLast_subset _ hu); simp [rank] at hn ⊢; omega) hc0 (by have := fineT_k hf; show t.kids.dropLast.length ≤ _; rw [List.length_dropLast]; omega) (Nat.zero_le _)).mono ?_
  rintro r σr ⟨tok, rfl, hxr⟩
  have hdz : (Tr.kids (.mk [] t.kids.dropLast true 0)).drop 0 = t.kids.dropLast := rfl
  rw [hdz] at hxr ⊢
  have hokq : okR (restS (rd N .let_) t.kids.dropLast).1 := okR_rest fun u => rd_ok N .let_ u
  have hwq : ∀ e ∈ (restS (rd N .let_) t.kids.dropLast).1, e.length = 11 := fun e he => by
   obtain ⟨u, hu, rfl⟩ := restS_mem he
   exact rd_len N .let_ u (by have := size_kid (List.dropLast_subset _ hu); simp [rank] at hn ⊢; omega)
  have hlq : (restS (rd N .let_) t.kids.dropLast).1.length ≤ t.kids.length := by
   have := restS_len (f := rd N .let_) (l := t.kids.dropLast)
   rw [List.length_dropLast] at this
   omega
  obtain ⟨⟨rows, qo⟩, hq⟩ : ∃ q, restS (rd N .let_) t.kids.dropLast = q := ⟨_, rfl⟩
  rw [hq] at hxr hokq hwq hlq ⊢
  simp only at hxr hokq hwq hlq
  have hb1 := hxr.get ((setF_ne _ hne0).trans hb0)
  have k3 := keptB_of (σ := σ0) (hb1.trans hb0.symm)
  have hp1 := hxr.get ((setF_ne _ hne).trans hp)
  have hx1 := (setF_ext qo hx0 hfl).trans hxr
  simp (maxDischargeDepth := 16) [symB, List.length_set, retK, andThen, hlen]
  refine ⟨drawOk_sim [σ.length] [.pure, .pure, .reads 0, .pure, .pure, .reads 0, .pure, .pure, .pure, .pure, .pure, .reads 0, .pure, .calls 1 fun _ => true, .pure] (.cons (by simp) .nil) ?_ (by kernel_rfl), ?_⟩
  · refine .cons .pure (.cons .pure (.cons (.reads 0 _ rfl) (.cons .pure (.cons .pure (.cons (.reads 0 _ rfl) (.cons .pure (.cons .pure (.cons .pure (.cons .pure (.cons .pure (.cons (.reads 0 _ rfl) (.cons .pure (.cons (.keeps fun x hx => ?_) (.cons .pure .nil))))))))))))))
    simp at hx; subst hx; exact ⟨by simp [k3], by omega⟩
  refine hK _ _ ?_; clear hK hKr K
  refine rs (fun tm σ1 => tm.length = 58 ∧ slot tm 1 = .ptr σ.length 0 ∧ slot tm 2 = .ptr (σ.length + 1) 0 ∧ slot tm 3 = .sl rows tok ∧ σr = σ1) ⟨by simp [hlen], by simp [slot_ne, h1], by simp [slot_ne, h2], by simp [slot_eq, slot_ne, hlen], rfl⟩ ?_
  clear hT h1 h2 hlen tm
  rintro tm σx ⟨hlen, h1, h2, h3, rfl⟩
  have hlr : σ.length + 2 ≤ σr.length := by have := hxr.len; rw [setF_len] at this; omega
  clear hxr k3
  cases qo with
  | some p =>
   refine Sem.seqK hm hE (M := []) fun KA hKA hKAr => ?_
   refine JD.seqK fun KB hKB => J.cw (CW.region ?_)
   have hcb : σr[fid]? = some (.cells [.lit (.bool true), .lit (.int .i64 p)] 53) := hx1.get (List.getElem?_set_self hfl)
   simp (maxDischargeDepth := 16) [symB, List.length_set, andThen, hlen, h1, hb1, hcb]
   refine hKB _ _ ?_; clear hKB KB
   refine JD.cond (t := true) (by simp [evx_tmp, slot_eq, slot_ne, hlen]) ?_
   refine J.cw ?_
   have hrd : rd (N + 1) .body t = (exprZ, some p) := by
    show (if _ then _ else _) = _
    rw [if_pos hrow1]
    show (match (restS (rd N .let_) t.kids.dropLast).2 with | some p => _ | none => _) = _
    rw [hq]
   have hs2 : ∀ o, (σr.set (σ.length + 1) o)[σ.length + 1]? = some o := fun o => List.getElem?_set_self (lt_of_obj hp1)
   have hxs : ∀ o, Ext (setF σ fid (rd (N + 1) .body t).2) (σr.set (σ.length + 1) o) := fun o => by rw [hrd]; exact hx1.set (by rw [setF_len]; omega)
   refine CW.seqK fun K2 hK2 => CW.region ?_
   simp (maxDischargeDepth := 16) [symB, List.length_set, andThen, hlen, h2, hp1]
   refine hK2 _ _ ?_; clear hK2 K2
   refine CW.ret (hKAr _ _ (.agg [.lit (.int .u8 0), .lit (.string ⟨#[]⟩), .sl [] .full, .sl [] .full, .lit (.int .u8 0), .lit (.string ⟨#[]⟩), .lit (.bool false), .sl [] .full, .lit (.bool false), .sl [] .full, .sl [] .full]) ?_ (fgt_of (hxs _) hc (show FrzL _ _ _ _ by rw [hrd]; exact (show FrzL _ _ [.lit (.int .u8 0), .lit (.string ⟨#[]⟩), .sl [] .full, .sl [] .full, .lit (.int .u8 0), .lit (.string ⟨#[]⟩), .lit (.bool false), .sl [] .full, .lit (.bool false), .sl [] .full, .sl [] .full] exprZ from (.cons (.lit _) (.cons (.lit _) (.cons (.nil _) (.cons (.nil _) (.cons (.lit _) (.cons (.lit _) (.cons (.lit _) (.cons (.nil _) (.cons (.lit _) (.cons (.nil _) (.cons (.nil _) .nil))))))))))))).agg))
   simp [resultsA, omap, res_tmp, res_cell, slot_eq, slot_ne, hlen, h2, hs2, partA, aggT]
  | none =>
   refine Sem.seqK hm hE (M := []) fun KA hKA hKAr => ?_
   refine JD.seqK fun KB hKB => J.cw (CW.region ?_)
   have hcg : σr[fid]? = some (.cells [.lit (.bool false), .lit (.int .i64 0)] 53) := hx1.get hc
   simp (maxDischargeDepth := 16) [symB, List.length_set, andThen, hlen, h1, hb1, hcg]
   refine hKB _ _ ?_; clear hKB KB
   refine JD.cond (t := false) (by simp [evx_tmp, slot_eq, slot_ne, hlen]) ?_
   refine JD.skip ?_
   refine hKA _ _ ?_; clear hKA hKAr KA
   have hkl1 : t.kids.length - 1 < t.kids.length := by omega
   have hget : t.kids[t.kids.length - 1]? = some t.kids[t.kids.length - 1] := List.getElem?_eq_getElem hkl1
   have hmem := List.getElem_mem hkl1
   have hka : kidAt t (t.kids.length - 1) = t.kids[t.kids.length - 1] := by unfold kidAt; rw [List.getD_eq_getElem?_getD, hget]; rfl
   have hrd : rd (N + 1) .body t = (rows.foldr withBody (rd N .last t.kids[t.kids.length - 1]).1, (rd N .last t.kids[t.kids.length - 1]).2) := by
    show (if _ then _ else _) = _
    rw [if_pos hrow1]
    show (match (restS (rd N .let_) t.kids.dropLast).2 with | some p => _ | none => _) = _
    rw [hq]
    show (rows.foldr withBody (rd N .last (kidAt t (t.kids.length - 1))).1, (rd N .last (kidAt t (t.kids.length - 1))).2) = _
    rw [hka]
   generalize t.kids[t.kids.length - 1] = u at *
   refine Sem.seqK hm hE (M := []) fun K hK hKr => J.cw (CW.region ?_)
   simp (maxDischargeDepth := 16) [symB, List.length_set, andThen, hlen, h1, hb1, hkl, hwr]
   rw [← nodeA_eq]
   refine (kid_ev N hget (fineT_k hf)).mono ?_
   rintro r σ2 ⟨rfl, hx2⟩
   have hp2 := hx2.get hp1
   have hc2 : σ2[fid]? = some cleanO := hx2.get hcg
   have hx02 := hx1.trans hx2
   have hl2 := hx2.len
   have hsz := size_kid hmem
   simp (maxDischargeDepth := 16) [symB, List.length_set, retK, andThen, hlen]
   refine rd_ev (N := N) .last (fineL_mem (fineT_l hf) hmem) (by simp [rank] at hn ⊢; omega) hc2 ?_
   have hrk : rank .last ≤ N := by simp [rank] at hn ⊢; omega
   have hvc := (valR_cells (t := u) hrk).1
   have hvt := (valR_cells (t := u) hrk).2
   have hvl := rd_len N .last u hrk
   have hok := rd_ok N .last u
   simp only [lenR] at hvl
   generalize (rd N .last u).1 = av at *
   generalize (rd N .last u).2 = ao at *
   have hp4 := (setF_ne ao hne).trans hp2
   have hx4 : Ext (setF σ fid ao) (setF σ2 fid ao) := setF_ext ao hx02 hfl
   have hl4 : (setF σ2 fid ao).length = σ2.length := setF_len _ _ _
   generalize setF σ2 fid ao = σ4 at *
   generalize valR .last av = vv at *
   have htv : List.take 11 (putCells [.lit (.int .u8 0), .lit (.string ⟨#[]⟩), .sl [] .full, .sl [] .full, .lit (.int .u8 0), .lit (.string ⟨#[]⟩), .lit (.bool false), .sl [] .full, .lit (.bool false), .sl [] .full, .sl [] .full] 0 av) = av := take_put hvl _ rfl
   have htw : putCells [.lit (.int .u8 0), .lit (.string ⟨#[]⟩), .sl [] .full, .sl [] .full, .lit (.int .u8 0), .lit (.string ⟨#[]⟩), .lit (.bool false), .sl [] .full, .lit (.bool false), .sl [] .full, .sl [] .full] 0 av = av := by have := putCells_app av [.lit (.int .u8 0), .lit (.string ⟨#[]⟩), .sl [] .full, .sl [] .full, .lit (.int .u8 0), .lit (.string ⟨#[]⟩), .lit (.bool false), .sl [] .full, .lit (.bool false), .sl [] .full, .sl [] .full] [] (by rw [hvl]; rfl); simpa using this
   simp (maxDischargeDepth := 16) [symB, List.length_set, retK, andThen, hlen, hvc, hvt, hvl, get_new, set_new, htw]
   refine hK _ _ ?_; clear hK hKr K
   refine rs (fun tm σ1 => tm.length = 58 ∧ slot tm 2 = .ptr (σ.length + 1) 0 ∧ slot tm 3 = .sl rows tok ∧ slot tm 4 = .ptr σ4.length 0 ∧ σ1 = σ4 ++ [.cells av 126]) ⟨by simp [hlen], by simp [slot_ne, h2], by simp [slot_ne, h3], by simp [slot_eq, slot_ne, hlen], rfl⟩ ?_
   clear h1 h2 h3 hlen tm
   rintro tm σ5 ⟨hlen, h2, h3, h4, hσ5⟩
   refine Sem.rangeK hm hE (M := []) fun K hK => J.cw (CW.region ?_)
   simp (maxDischargeDepth := 16) [symB, List.length_set, andThen, hlen, h3]
   refine (backward_expr_ev N rows tok σ5).mono ?_
   rintro r σ6 ⟨rfl, hσ6⟩
   have hl5 : σ5.length = σ4.length + 1 := by rw [hσ5]; simp
   simp (maxDischargeDepth := 16) [symB, List.length_set, retK, andThen, hlen]
   have hE6 : σ6 = σ4 ++ [.cells av 126, .cells [.sl rows tok] 124] := by rw [hσ6, hσ5]; simp
   have hl6 : σ6.length = σ4.length + 2 := by rw [hE6]; simp
   let I : Nat → Sto → Prop := fun k σ' => ∃ (X : List AV) (g : Sto), σ' = σ6.set σ4.length (.cells X 126) ++ g ∧ X.length = 11 ∧ ∀ σ'' m, FrzL σ'' m X ((rows.drop k).foldr withBody av)
   have hIe : ∀ k σ', I k σ' → ∃ X : List AV, σ'[σ4.length]? = some (.cells X 126) := by
    rintro k σ' ⟨X, g, rfl, _, _⟩
    exact ⟨X, get_app (List.getElem?_set_self (by omega))⟩
   have hb6 : σ6[σ5.length]? = some (.cells [.sl rows tok] 124) := by rw [hE6, hl5]; exact get_new1 _ _ _ _
   have hIb : ∀ k σ', I k σ' → σ'[σ5.length]? = some (.cells [.sl rows tok] 124) := by
    rintro k σ' ⟨X, g, rfl, _, _⟩
    exact get_app ((List.getElem?_set_ne (by omega)).trans hb6)
   refine hK _ _ 140 [.ptr σ5.length 0] (I 0) ?_ (hE.code 140 Tryz.f140 rfl).2 ?_ ?_
   · simp [evx_tmp, slot_eq, slot_ne, hlen]
   · intro L r cs ι Z w hst hpe hps hra hrb hF hr hM hcs hcv
     refine back_expr_in (M := []) hE (by have := fineT_k hf; omega) hwq hIb ?_ (h0 := ?_) hst hpe hps hra hrb hF hr hM hcs hcv
     · rintro k row σ' hrow ⟨X, g, hσ', hXl, hX⟩
       have hmr := List.mem_of_getElem? hrow
       have hrl : row.length = 11 := hwq _ hmr
       have hokr : okL row := fun d hd => hokq row hmr d hd
       have hie : σ'[σ4.length]? = some (.cells X 126) := by rw [hσ']; exact get_app (List.getElem?_set_self (by omega))
       have htr : List.take 11 row = row := List.take_of_length_le (by omega)
       have hpr : putCells [.lit (.int .u8 0), .lit (.string ⟨#[]⟩), .sl [] .full, .sl [] .full, .lit (.int .u8 0), .lit (.string ⟨#[]⟩), .lit (.bool false), .sl [] .full, .lit (.bool false), .sl [] .full, .sl [] .full] 0 row = row := by have := putCells_app row [.lit (.int .u8 0), .lit (.string ⟨#[]⟩), .sl [] .full, .sl [] .full, .lit (.int .u8 0), .lit (.string ⟨#[]⟩), .lit (.bool false), .sl [] .full, .lit (.bool false), .sl [] .full, .sl [] .full] [] (by rw [hrl]; rfl); simpa using this
       have hpx : ∀ z : List AV, z.length = 11 → ∀ y : List AV, y.length = 11 → putCells z 0 y = y := fun z hz y hy => by have := putCells_app y z [] (by omega); simpa using this
       have htx : ∀ y : List AV, y.length = 11 → List.take 11 y = y := fun y hy => List.take_of_length_le (by omega)
       have hie2 : ∀ x, (σ' ++ [x])[σ4.length]? = some (.cells X 126) := fun x => get_app hie
       simp (maxDischargeDepth := 16) [RJ, noDefer, symB, List.length_set, LJ_nil, LJ_guardS, LJ_guardN, LJ_val, LJ_skip, LJ_enter, andThen, hlen, h4, hie, hie2, htr, hpr, hrl, hXl, hpx, htx, get_new, set_new]
       have hdk : rows.drop k = row :: rows.drop (k + 1) := by
        have hkl := (List.getElem?_eq_some_iff.1 hrow).1
        rw [List.drop_eq_getElem_cons hkl, (List.getElem?_eq_some_iff.1 hrow).2]
       refine ⟨row.set 10 (.sl [X] .full), g ++ [.cells (row.set 10 (.sl [X] .full)) 126], ?_, by simp [hrl], fun σ'' m => ?_⟩
       · rw [hσ', List.append_assoc, List.set_append_left _ _ (by simp; omega), List.set_set]
       · rw [hdk, List.foldr_cons]
         exact (FrzL.refl hokr).set (k := 10) (Frz.row1 (hX _ _) .full)
     · refine ⟨av, [], ?_, hvl, fun _ _ => ?_⟩
       · rw [hE6, List.append_nil]; simp
       · rw [List.drop_length]; exact FrzL.refl hok
   · rintro σ7 ⟨X, g, hσ7, hXl, hX⟩
     refine SemM.of hm hE (M := []) (J.cw (CW.seqK fun KS hKS => CW.region ?_))
     have hg4 : σ7[σ4.length]? = some (.cells X 126) := by rw [hσ7]; exact get_app (List.getElem?_set_self (by omega))
     have hg2 : σ7[σ.length + 1]? = some (.cells [.lit (.int .u8 0), .lit (.string ⟨#[]⟩), .sl [] .full, .sl [] .full, .lit (.int .u8 0), .lit (.string ⟨#[]⟩), .lit (.bool false), .sl [] .full, .lit (.bool false), .sl [] .full, .sl [] .full] 126) := by rw [hσ7, hE6]; exact get_app ((List.getElem?_set_ne (by have := lt_of_obj hp4; omega)).trans (get_app hp4))
     have hx7 : Ext (setF σ fid ao) σ7 := by
      rw [hσ7, hE6]
      refine Ext.trans ?_ ⟨g, rfl⟩
      exact (hx4.trans ⟨_, rfl⟩).set (by rw [setF_len]; omega)
     have htx : List.take 11 X = X := List.take_of_length_le (by omega)
     have hpx : ∀ z : List AV, z.length = 11 → putCells z 0 X = X := fun z hz => by have := putCells_app X z [] (by omega); simpa using this
     have hs2 : ∀ o, (σ7.set (σ.length + 1) o)[σ.length + 1]? = some o := fun o => List.getElem?_set_self (lt_of_obj hg2)
     simp (maxDischargeDepth := 16) [symB, List.length_set, andThen, hlen, h2, h4, hg4, hg2, htx, hpx, hXl]
     refine hKS _ _ (CW.ret ⟨.agg X, ?_, ?_⟩)
     · simp [resultsA, omap, res_tmp, res_cell, slot_eq, slot_ne, hlen, h2, hs2, partA, aggT, hXl, htx]
     · refine fgt_of (by rw [hrd]; exact hx7.set (by rw [setF_len]; omega)) hc ?_
       rw [hrd]
       exact (show FrzL _ _ _ _ from hX _ _).agg
 cases hrow : t.row with
 | false =>
  rw [hrow] at hb0
  simp (maxDischargeDepth := 16) [symB, List.length_set, andThen, hlen, h1, h2, hb0]
  exact bad (by rw [hrow]; rfl) _ (by simp [hlen]) (by simp [slot_ne, h1]) (by simp [slot_ne, h2]) (by simp [slot_eq, slot_ne, hlen])
 | true =>
  rw [hrow] at hb0
  rcases Nat.eq_zero_or_pos t.kids.length with hk | hk
  · have hk' : (t.kids.length : Int) = 0 := by omega
    simp (maxDischargeDepth := 16) [symB, List.length_set, andThen, hlen, h1, h2, hb0, hkl, hk, hk']
    exact bad (by rw [hk]; simp) _ (by simp [hlen]) (by simp [slot_ne, h1]) (by simp [slot_ne, h2]) (by simp [slot_eq, slot_ne, hlen, hk, hk'])
  · have hk' : ¬ (t.kids.length : Int) = 0 := by omega
    have hk2 : ¬ t.kids.length = 0 := by omega
    simp (maxDischargeDepth := 16) [symB, List.length_set, andThen, hlen, h1, h2, hb0, hkl, hk2, hk']
    exact good (by rw [hrow]; simp; omega) _ (by simp [hlen]) (by simp [slot_ne, h1]) (by simp [slot_ne, h2]) (by simp [slot_eq, slot_ne, hlen, hk2, hk'])
end
section
open Go.RowKit
theorem EN_all (N : Nat) : EnvOk Tryz.prog (EN N) := EN_ok (B := N) (fun N _ hE g => by
 cases g with
 | name => exact rd_sound hE (name_rd N)
 | whole => exact rd_sound hE (whole_rd N)
 | atom => exact rd_sound hE (atom_rd N)
 | sorted => exact rd_sound hE (sorted_rd N)
 | many => exact rd_sound hE (many_rd N)
 | con => exact rd_sound hE (con_rd N)
 | names => exact rd_sound hE (names_rd N)
 | params => exact rd_sound hE (params_rd N)
 | param => exact rd_sound hE (param_rd N)
 | kind => exact rd_sound hE (kind_rd N)
 | term => exact rd_sound hE (term_rd N)
 | right => exact rd_sound hE (right_rd N)
 | body => exact rd_soundT (body_rd N hE)
 | let_ => exact rd_sound hE (let_rd N)
 | last => exact rd_sound hE (last_rd N)
 | arm => exact rd_sound hE (arm_rd N)) N (Nat.le_refl _)
end
end Go.Proofs.YtkkblmdgedmdfaaGreatDoor
