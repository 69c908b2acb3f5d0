/-
 EV: values without their tokens, without objects.
-/
import Derived.Test.YtmmgjaheffbpaaaGreatDoorEvSymQ
namespace Go.Proofs.YtmmgjaheffbpaaaGreatDoor
set_option linter.unusedSimpArgs false
set_option linter.unusedVariables false
set_option linter.unusedSectionVars false
section
open Go.RowKit
mutual
def AV.nrm : AV → AV
 | .sl es _ => .sl (nrmRR es) .no
 | .agg cs => .agg (nrmR cs)
 | .tup cs => .tup (nrmR cs)
 | .ifc t v => .ifc t v.nrm
 | .rsl es g => .rsl (nrmRR es) g
 | v => v
def nrmR : List AV → List AV
 | [] => []
 | v :: l => v.nrm :: nrmR l
def nrmRR : List (List AV) → List (List AV)
 | [] => []
 | r :: l => nrmR r :: nrmRR l
end
mutual
def AV.pln : AV → Bool
 | .lit _ => true
 | .sl es _ => plnRR es
 | .rsl es _ => plnRR es
 | .agg cs => plnR cs
 | .tup cs => plnR cs
 | .fn (.func _) f c => f.isEmpty && c.isEmpty
 | _ => false
def plnR : List AV → Bool
 | [] => true
 | v :: l => v.pln && plnR l
def plnRR : List (List AV) → Bool
 | [] => true
 | r :: l => plnR r && plnRR l
end
theorem nrmR_map (l : List AV) : nrmR l = l.map AV.nrm := by induction l with | nil => rfl | cons a l ih => rw [nrmR, ih]; rfl
theorem nrmRR_map (l : List (List AV)) : nrmRR l = l.map nrmR := by induction l with | nil => rfl | cons a l ih => rw [nrmRR, ih]; rfl
theorem plnR_iff (l : List AV) : plnR l = true ↔ ∀ v ∈ l, v.pln = true := by induction l with | nil => simp [plnR] | cons a l ih => simp [plnR, ih]
theorem plnRR_iff (l : List (List AV)) : plnRR l = true ↔ ∀ v ∈ l, plnR v = true := by induction l with | nil => simp [plnRR] | cons a l ih => simp [plnRR, ih]
theorem AV.nrm_one (v : AV) : v.nrm.one = v.one := by cases v <;> rfl
theorem VR.nrm {ι : List Nat} {Z : Nat → Nat → Prop} {w : World} {d : AV} {u : Value} (h : VR ι Z w d u) : VR ι Z w d.nrm u := by
 induction h with
 | lit v h => exact .lit v h
 | ptr id off b h => exact .ptr id off b h
 | eptr row off b o U h h' ih => exact .eptr row off b o U h h'
 | nils a c tok h g => exact .nils a c .no h (.inl rfl)
 | frs t k c b h1 h2 h3 => exact .nils _ c .no (fun h => by cases h) (.inl rfl)
 | sl b o n c k es tok U h1 h2 h3 h4 h5 h6 h7 h8 ih =>
  have key : ∀ {i : Nat} {e : List AV}, (nrmRR es)[i]? = some e → ∃ e', es[i]? = some e' ∧ e = nrmR e' := fun {i e} he => by
   rw [nrmRR_map, List.getElem?_map, Option.map_eq_some_iff] at he
   obtain ⟨e', h1, h2⟩ := he
   exact ⟨e', h1, h2.symm⟩
  have keyr : ∀ {j : Nat} {e : List AV} {d : AV}, (nrmR e)[j]? = some d → ∃ d', e[j]? = some d' ∧ d = d'.nrm := fun {j e d} hd => by
   rw [nrmR_map, List.getElem?_map, Option.map_eq_some_iff] at hd
   obtain ⟨e', h1, h2⟩ := hd
   exact ⟨e', h1, h2.symm⟩
  refine .sl b o n c k _ .no U (by rw [nrmRR_map, List.length_map]; exact h1) h2 h3 h4 (fun i e he => ?_) (fun i j e d he hd => ?_) trivial fun i j e d he hd => ?_
  · obtain ⟨e', h, rfl⟩ := key he
    rw [nrmR_map, List.length_map]; exact h5 i e' h
  · obtain ⟨e', h, rfl⟩ := key he
    obtain ⟨d', h', rfl⟩ := keyr hd
    rw [AV.nrm_one]; exact h6 i j e' d' h h'
  · obtain ⟨e', h, rfl⟩ := key he
    obtain ⟨d', h', rfl⟩ := keyr hd
    exact ih i j e' d' h h'
 | asl id off n k c b h1 h2 h3 h4 => exact .asl id off n k c b h1 h2 h3 h4
 | mp id b h => exact .mp id b h
 | fn f first cap fs cs h1 h2 h3 h4 => exact .fn f first cap fs cs h1 h2 h3 h4
 | ifc t d u h ih => exact .ifc t _ u ih
 | agg ds cs h1 h2 h3 ih =>
  have key : ∀ {j : Nat} {d : AV}, (nrmR ds)[j]? = some d → ∃ d', ds[j]? = some d' ∧ d = d'.nrm := fun {j d} hd => by
   rw [nrmR_map, List.getElem?_map, Option.map_eq_some_iff] at hd
   obtain ⟨e', h1, h2⟩ := hd
   exact ⟨e', h1, h2.symm⟩
  refine .agg _ cs (by rw [nrmR_map, List.length_map]; exact h1) (fun i d hd => ?_) fun i d u hd hu => ?_
  · obtain ⟨d', h, rfl⟩ := key hd
    rw [AV.nrm_one]; exact h2 i d' h
  · obtain ⟨d', h, rfl⟩ := key hd
    exact ih i d' u h hu
 | tup ds cs h1 h2 ih =>
  have key : ∀ {j : Nat} {d : AV}, (nrmR ds)[j]? = some d → ∃ d', ds[j]? = some d' ∧ d = d'.nrm := fun {j d} hd => by
   rw [nrmR_map, List.getElem?_map, Option.map_eq_some_iff] at hd
   obtain ⟨e', h1, h2⟩ := hd
   exact ⟨e', h1, h2.symm⟩
  refine .tup _ cs (by rw [nrmR_map, List.length_map]; exact h1) fun i d u hd hu => ?_
  obtain ⟨d', h, rfl⟩ := key hd
  exact ih i d' u h hu
 | rsl b o c k es g U h2 h3 h4 h5 h6 h7 ih =>
  have key : ∀ {i : Nat} {e : List AV}, (nrmRR es ++ roomRows g)[i]? = some e → (∃ e', (es ++ roomRows g)[i]? = some e' ∧ e = nrmR e') ∨ (es ++ roomRows g)[i]? = some e := fun {i e} he => by
   rcases Nat.lt_or_ge i es.length with hl | hl
   · rw [List.getElem?_append_left (by rw [nrmRR_map, List.length_map]; exact hl), nrmRR_map, List.getElem?_map, Option.map_eq_some_iff] at he
     obtain ⟨e', h1, h2⟩ := he
     exact .inl ⟨e', by rw [List.getElem?_append_left hl]; exact h1, h2.symm⟩
   · rw [List.getElem?_append_right (by rw [nrmRR_map, List.length_map]; exact hl)] at he
     exact .inr (by rw [List.getElem?_append_right hl]; simpa [nrmRR_map] using he)
  have keyr : ∀ {j : Nat} {e : List AV} {d : AV}, (nrmR e)[j]? = some d → ∃ d', e[j]? = some d' ∧ d = d'.nrm := fun {j e d} hd => by
   rw [nrmR_map, List.getElem?_map, Option.map_eq_some_iff] at hd
   obtain ⟨e', h1, h2⟩ := hd
   exact ⟨e', h1, h2.symm⟩
  have hlen : (nrmRR es ++ roomRows g).length = (es ++ roomRows g).length := by simp [nrmRR_map]
  have := VR.rsl b o c k (nrmRR es) g U (by rw [hlen]; exact h2) (by rw [hlen]; exact h3) h4 (fun i e he => ?_) (fun i j e d he hd => ?_) (ι := ι) (Z := Z) (w := w) fun i j e d he hd => ?_
  · have e : (nrmRR es).length = es.length := by rw [nrmRR_map, List.length_map]
    rw [e] at this; exact this
  · rcases key he with ⟨e', h, rfl⟩ | h
    · rw [nrmR_map, List.length_map]; exact h5 i e' h
    · exact h5 i e h
  · rcases key he with ⟨e', h, rfl⟩ | h
    · obtain ⟨d', h', rfl⟩ := keyr hd
      rw [AV.nrm_one]; exact h6 i j e' d' h h'
    · exact h6 i j e d h hd
  · rcases key he with ⟨e', h, rfl⟩ | h
    · obtain ⟨d', h', rfl⟩ := keyr hd
      exact ih i j e' d' h h'
    · exact h7 i j e d h hd
mutual
def AV.flat : AV → AV
 | .sl es _ => .sl (flatRR es) .no
 | .rsl es _ => .sl (flatRR es) .no
 | .agg cs => .agg (flatR cs)
 | .tup cs => .tup (flatR cs)
 | v => v
def flatR : List AV → List AV
 | [] => []
 | v :: l => v.flat :: flatR l
def flatRR : List (List AV) → List (List AV)
 | [] => []
 | r :: l => flatR r :: flatRR l
end
theorem flatR_map (l : List AV) : flatR l = l.map AV.flat := by induction l with | nil => rfl | cons a l ih => rw [flatR, ih]; rfl
theorem flatRR_map (l : List (List AV)) : flatRR l = l.map flatR := by induction l with | nil => rfl | cons a l ih => rw [flatRR, ih]; rfl
theorem AV.flat_one (v : AV) : v.flat.one = v.one := by cases v <;> rfl
theorem VR.flat {ι : List Nat} {Z : Nat → Nat → Prop} {w : World} {d : AV} {u : Value} (h : VR ι Z w d u) : VR ι Z w d.flat u := by
 have keyr : ∀ {j : Nat} {e : List AV} {d : AV}, (flatR e)[j]? = some d → ∃ d', e[j]? = some d' ∧ d = d'.flat := fun {j e d} hd => by
  rw [flatR_map, List.getElem?_map, Option.map_eq_some_iff] at hd
  obtain ⟨e', h1, h2⟩ := hd
  exact ⟨e', h1, h2.symm⟩
 have key : ∀ {es : List (List AV)} {i : Nat} {e : List AV}, (flatRR es)[i]? = some e → ∃ e', es[i]? = some e' ∧ e = flatR e' := fun {es i e} he => by
  rw [flatRR_map, List.getElem?_map, Option.map_eq_some_iff] at he
  obtain ⟨e', h1, h2⟩ := he
  exact ⟨e', h1, h2.symm⟩
 induction h with
 | lit v h => exact .lit v h
 | ptr id off b h => exact .ptr id off b h
 | eptr row off b o U h h' ih => exact .eptr row off b o U h h'
 | nils a c tok h g => exact .nils a c .no h (.inl rfl)
 | frs t k c b h1 h2 h3 => exact .nils _ c .no (fun h => by cases h) (.inl rfl)
 | sl b o n c k es tok U h1 h2 h3 h4 h5 h6 h7 h8 ih =>
  refine .sl b o n c k _ .no U (by rw [flatRR_map, List.length_map]; exact h1) h2 h3 h4 (fun i e he => ?_) (fun i j e d he hd => ?_) trivial fun i j e d he hd => ?_
  · obtain ⟨e', h, rfl⟩ := key he
    rw [flatR_map, List.length_map]; exact h5 i e' h
  · obtain ⟨e', h, rfl⟩ := key he
    obtain ⟨d', h', rfl⟩ := keyr hd
    rw [AV.flat_one]; exact h6 i j e' d' h h'
  · obtain ⟨e', h, rfl⟩ := key he
    obtain ⟨d', h', rfl⟩ := keyr hd
    exact ih i j e' d' h h'
 | asl id off n k c b h1 h2 h3 h4 => exact .asl id off n k c b h1 h2 h3 h4
 | mp id b h => exact .mp id b h
 | fn f first cap fs cs h1 h2 h3 h4 => exact .fn f first cap fs cs h1 h2 h3 h4
 | ifc t d u h ih => exact .ifc t _ u h
 | agg ds cs h1 h2 h3 ih =>
  refine .agg _ cs (by rw [flatR_map, List.length_map]; exact h1) (fun i d hd => ?_) fun i d u hd hu => ?_
  · obtain ⟨d', h, rfl⟩ := keyr hd
    rw [AV.flat_one]; exact h2 i d' h
  · obtain ⟨d', h, rfl⟩ := keyr hd
    exact ih i d' u h hu
 | tup ds cs h1 h2 ih =>
  refine .tup _ cs (by rw [flatR_map, List.length_map]; exact h1) fun i d u hd hu => ?_
  obtain ⟨d', h, rfl⟩ := keyr hd
  exact ih i d' u h hu
 | rsl b o c k es g U h2 h3 h4 h5 h6 h7 ih =>
  have hg : ∀ {i : Nat} {e : List AV}, es[i]? = some e → (es ++ roomRows g)[i]? = some e := fun {i e} he => by rw [List.getElem?_append_left (List.getElem?_eq_some_iff.1 he).1]; exact he
  rcases Nat.eq_zero_or_pos es.length with h0 | h0
  · rw [h0]
    obtain rfl : es = [] := List.eq_nil_of_length_eq_zero h0
    exact .nils _ c .no (fun e => by cases e) (.inl rfl)
  refine .sl b o _ c k _ .no U (by rw [flatRR_map, List.length_map]) h0 (by rw [List.length_append] at h3; omega) h4 (fun i e he => ?_) (fun i j e d he hd => ?_) trivial fun i j e d he hd => ?_
  · obtain ⟨e', h, rfl⟩ := key he
    rw [flatR_map, List.length_map]; exact h5 i e' (hg h)
  · obtain ⟨e', h, rfl⟩ := key he
    obtain ⟨d', h', rfl⟩ := keyr hd
    rw [AV.flat_one]; exact h6 i j e' d' (hg h) h'
  · obtain ⟨e', h, rfl⟩ := key he
    obtain ⟨d', h', rfl⟩ := keyr hd
    exact ih i j e' d' (hg h) h'
end
section
open Go.RowKit
inductive Tk where
 | call (f : FuncId) (args : List AV) (σ : Sto) (Q : ARes → Sto → Prop)
 | code (M : List TypeId) (c : Code) (tm : List AV) (σ : Sto) (Q : AExit → List AV → Sto → Prop)
 | list (M : List TypeId) (ops : Array Oper) (l : List Oper) (tm : List AV) (σ : Sto) (Q : AExit → List AV → Sto → Prop)
 | any (M : List TypeId) (ops : Array Oper) (fuel : Nat) (listed : Array Bool) (tm : List AV) (σ : Sto) (Q : AExit → List AV → Sto → Prop)
def noCall : CallF := fun _ _ _ => none
structure StepD where
 o : Oper
 tm : List AV
 σ : Sto
 acc : Acc
 f : FuncId
 args : List AV
 R : ARes → Sto → Prop
def Tells (P : Program) : Tk → Prop
 | .call f args σ Q => ∀ (ι : List Nat) (Z : Nat → Nat → Prop) (w : World) (us : Array Value), Match σ ι Z w → args.length = us.size → (∀ (i : Nat) (d : AV) (u : Value), args[i]? = some d → us[i]? = some u → VR ι Z w d u) →
     (callFunc f us).run P w = .ok (.enter f us) w ∧ Calls P f us w fun e w' => ∃ r σ' ι' Z', Q r σ' ∧ Evo ι Z w ι' Z' w' ∧ Match σ' ι' Z' w' ∧ ERel ι' Z' w' r e
 | .code _ c tm σ Q => ∀ (ι : List Nat) (Z : Nat → Nat → Prop) (w : World) (a : Act), Match σ ι Z w → FR ι Z w tm a.tmps → ∀ K : Exit → Act → World → Prop, (∀ x tm' σ' e a' w', Q x tm' σ' → Ends ι Z w a x tm' σ' e a' w' → K e a' w') → c.wp P K a w
 | .list _ ops l tm σ Q => ∀ (k : Nat), (∀ (j : Nat) (o : Oper), l[j]? = some o → ops[k + j]? = some o) → ∀ (ι : List Nat) (Z : Nat → Nat → Prop) (w : World) (a : Act), Match σ ι Z w → FR ι Z w tm a.tmps → ∀ K : Exit → Act → World → Prop, (∀ x tm' σ' e a' w', Q x tm' σ' → Ends ι Z w a x tm' σ' e a' w' → K e a' w') → wpOps P ops K (List.range' k l.length) a w
 | .any _ ops fuel listed tm σ Q => ∀ (ι : List Nat) (Z : Nat → Nat → Prop) (w : World) (a : Act), Match σ ι Z w → FR ι Z w tm a.tmps → ∀ K : Exit → Act → World → Prop, (∀ x tm' σ' e a' w', Q x tm' σ' → Ends ι Z w a x tm' σ' e a' w' → K e a' w') → wpAny P .any ops K fuel listed a w
inductive J (P : Program) (E : Env) : Tk → Prop
 | callW {f : FuncId} {args : List AV} {σ : Sto} {Q : ARes → Sto → Prop} : CallW P E f args σ Q → J P E (.call f args σ Q)
 | semC {f : FuncId} {args : List AV} {σ : Sto} {Q : ARes → Sto → Prop} : Tells P (.call f args σ Q) → J P E (.call f args σ Q)
 | stepR {M : List TypeId} {ops : Array Oper} {o : Oper} {rest : List Oper} {tm : List AV} {σ : Sto} {Q : AExit → List AV → Sto → Prop} (R : AV → Sto → Prop) : Region.wanted o (yieldedA ops tm) = true →
     (∀ (ι : List Nat) (Z : Nat → Nat → Prop) (w : World) (r : Operand → Value), Match σ ι Z w → (∀ x d, evx tm x = some d → VR ι Z w d (r x)) → ∃ v σ' acc, R v σ' ∧ StepR P ι Z w r o (.val v σ' acc)) →
     (∀ v σ', R v σ' → J P E (.list M ops rest (putA tm o.dst v) σ' Q)) → J P E (.list M ops (o :: rest) tm σ Q)
 | callWk {f : FuncId} {args args' : List AV} {σ : Sto} {Q : ARes → Sto → Prop} : args'.length = args.length → (∀ (ι : List Nat) (Z : Nat → Nat → Prop) (w : World) (i : Nat) (d' : AV) (u : Value), (∀ d, args[i]? = some d → VR ι Z w d u) → args'[i]? = some d' → VR ι Z w d' u) → J P E (.call f args' σ Q) → J P E (.call f args σ Q)
 | callMono {f : FuncId} {args : List AV} {σ : Sto} {R Q : ARes → Sto → Prop} : J P E (.call f args σ R) → (∀ r σ', R r σ' → Q r σ') → J P E (.call f args σ Q)
 | callNrm {f : FuncId} {args : List AV} {σ : Sto} {R Q : ARes → Sto → Prop} : J P E (.call f (nrmR args) σ R) → (∀ v σ', R (.ret v) σ' → Q (.ret v.nrm) σ') → (∀ v σ', R (.pan v) σ' → Q (.pan v) σ') → J P E (.call f args σ Q)
 | body {f : FuncId} {fn : Func} {c : Code} {args : List AV} {σ : Sto} {Q : ARes → Sto → Prop} : E.code f = some fn → fn.body = some c → J P E (.code (E.ms f) c (args ++ List.replicate (fn.ntmps - args.length) (.tup [])) σ (bodyW P fn Q)) → J P E (.call f args σ Q)
 | nil {M : List TypeId} {ops : Array Oper} {tm : List AV} {σ : Sto} {Q : AExit → List AV → Sto → Prop} : Q .normal tm σ → J P E (.list M ops [] tm σ Q)
 | val {M : List TypeId} {ops : Array Oper} {o : Oper} {rest : List Oper} {tm : List AV} {σ σ' : Sto} {v : AV} {acc : Acc} {Q : AExit → List AV → Sto → Prop} : Region.wanted o (yieldedA ops tm) = true → evStep P M (evx tm) σ o = some (.val v σ' acc) → J P E (.list M ops rest (putA tm o.dst v) σ' Q) → J P E (.list M ops (o :: rest) tm σ Q)
 | skip {M : List TypeId} {ops : Array Oper} {o : Oper} {rest : List Oper} {tm : List AV} {σ σ' : Sto} {acc : Acc} {Q : AExit → List AV → Sto → Prop} : Region.wanted o (yieldedA ops tm) = true → evStep P M (evx tm) σ o = some (.skip σ' acc) → J P E (.list M ops rest (putA tm o.dst (.tup [])) σ' Q) → J P E (.list M ops (o :: rest) tm σ Q)
 | pan {M : List TypeId} {ops : Array Oper} {o : Oper} {rest : List Oper} {tm : List AV} {σ : Sto} {v : AV} {Q : AExit → List AV → Sto → Prop} : Region.wanted o (yieldedA ops tm) = true → evStep P M (evx tm) σ o = some (.pan v) → Q (.pan v) tm σ → J P E (.list M ops (o :: rest) tm σ Q)
 | enter {M : List TypeId} {ops : Array Oper} {o : Oper} {rest : List Oper} {tm : List AV} {σ : Sto} {f : FuncId} {args : List AV} {R : ARes → Sto → Prop} {Q : AExit → List AV → Sto → Prop} : Region.wanted o (yieldedA ops tm) = true → evStep P M (evx tm) σ o = some (.enter f args) → J P E (.call f args σ R) →
     (∀ v σ', R (.ret v) σ' → J P E (.list M ops rest (putA tm o.dst v) σ' Q)) → (∀ v σ', R (.pan v) σ' → Q (.pan v) tm σ') → J P E (.list M ops (o :: rest) tm σ Q)
 | unwanted {M : List TypeId} {ops : Array Oper} {o : Oper} {rest : List Oper} {tm : List AV} {σ : Sto} {Q : AExit → List AV → Sto → Prop} : ¬ Region.wanted o (yieldedA ops tm) = true → J P E (.list M ops rest (putA tm o.dst (.tup [])) σ Q) → J P E (.list M ops (o :: rest) tm σ Q)
 | nilCmp {M : List TypeId} {ops : Array Oper} {d : Option Tmp} {t e u ty : TypeId} {x : Operand} {po : String} {af : Array Edge} {rest : List Oper} {tm : List AV} {σ : Sto} {es : List (List AV)} {tok : Tok} {Q : AExit → List AV → Sto → Prop} : P.underlying t = some (.slice e) → evx tm x = some (.sl es tok) →
     (∀ b : Bool, (es ≠ [] → b = false) → J P E (.list M ops rest (putA tm d (.lit (.bool b))) σ Q)) → J P E (.list M ops (⟨d, .binOp .eql t x (.const (.slice none 0 0)) u, ty, po, af, none⟩ :: rest) tm σ Q)
 | cw {M : List TypeId} {c : Code} {tm : List AV} {σ : Sto} {Q : AExit → List AV → Sto → Prop} : CW P E M c tm σ Q → J P E (.code M c tm σ Q)
 | region {M : List TypeId} {id : Nat} {ops : Array Oper} {tm : List AV} {σ : Sto} {Q : AExit → List AV → Sto → Prop} : J P E (.list M ops ops.toList tm σ Q) → J P E (.code M (.region id ops false) tm σ Q)
 | seq {M : List TypeId} {a b : Code} {tm : List AV} {σ : Sto} {R Q : AExit → List AV → Sto → Prop} : J P E (.code M a tm σ R) → (∀ tm1 σ1, R .normal tm1 σ1 → J P E (.code M b tm1 σ1 Q)) → (∀ x tm1 σ1, x ≠ .normal → R x tm1 σ1 → Q x tm1 σ1) → J P E (.code M (.seq a b) tm σ Q)
 | cond {M : List TypeId} {c : Operand} {a b : Code} {t : Bool} {tm : List AV} {σ : Sto} {Q : AExit → List AV → Sto → Prop} : evx tm c = some (.lit (.bool t)) → J P E (.code M (if t then a else b) tm σ Q) → J P E (.code M (.cond c a b) tm σ Q)
 | block {M : List TypeId} {id : Nat} {a : Code} {tm : List AV} {σ : Sto} {Q : AExit → List AV → Sto → Prop} : J P E (.code M a tm σ (outOf id Q)) → J P E (.code M (.block id a) tm σ Q)
 | scope {M : List TypeId} {a : Code} {tm : List AV} {σ : Sto} {Q : AExit → List AV → Sto → Prop} : J P E (.code M a tm σ Q) → J P E (.code M (.scope a) tm σ Q)
 | loop {M : List TypeId} {a : Code} {k : Nat} {tm : List AV} {σ : Sto} {Q : AExit → List AV → Sto → Prop} (I : Nat → List AV → Sto → Prop) : (∀ k tm σ, I k tm σ → J P E (.code M a tm σ (andThen (fun tm1 σ1 => ∃ k', k' < k ∧ I k' tm1 σ1) Q))) → I k tm σ → J P E (.code M (.loop a) tm σ Q)
 | anyRegion {M : List TypeId} {id : Nat} {ops : Array Oper} {tm : List AV} {σ : Sto} {Q : AExit → List AV → Sto → Prop} : J P E (.any M ops ops.size (Array.replicate ops.size false) tm σ Q) → J P E (.code M (.region id ops true) tm σ Q)
 | anyDone {M : List TypeId} {ops : Array Oper} {fuel : Nat} {listed : Array Bool} {tm : List AV} {σ : Sto} {Q : AExit → List AV → Sto → Prop} : Region.ready .any ops listed = [] → Q .normal tm σ → J P E (.any M ops fuel listed tm σ Q)
 | anyStep {M : List TypeId} {ops : Array Oper} {fuel : Nat} {listed : Array Bool} {tm : List AV} {σ : Sto} {Q : AExit → List AV → Sto → Prop} (rs : List Nat) (o : Nat → Oper) (acc : Nat → Acc) (tm' : Nat → List AV) (σ' : Nat → Sto) : Region.ready .any ops listed = rs → rs ≠ [] → (∀ i ∈ rs, ops[i]? = some (o i)) →
     (∀ i ∈ rs, evOp P M noCall ops (o i) tm σ = some (.inr (tm' i, acc i), σ' i)) → (∀ i ∈ rs, J P E (.any M ops fuel (listed.setIfInBounds i true) (tm' i) (σ' i) Q)) → J P E (.any M ops (fuel + 1) listed tm σ Q)
 | anyStepC {M : List TypeId} {ops : Array Oper} {fuel : Nat} {listed : Array Bool} {tm : List AV} {σ : Sto} {Q : AExit → List AV → Sto → Prop} (rs : List Nat) (cl : Nat → Bool) (D : Nat → StepD) : Region.ready .any ops listed = rs → rs ≠ [] → (∀ i ∈ rs, ops[i]? = some (D i).o) →
     (∀ i ∈ rs, cl i = false → evOp P M noCall ops (D i).o tm σ = some (.inr ((D i).tm, (D i).acc), (D i).σ)) → (∀ i ∈ rs, cl i = false → J P E (.any M ops fuel (listed.setIfInBounds i true) (D i).tm (D i).σ Q)) →
     (∀ i ∈ rs, cl i = true → Region.wanted (D i).o (yieldedA ops tm) = true ∧ evStep P M (evx tm) σ (D i).o = some (.enter (D i).f (D i).args)) → (∀ i ∈ rs, cl i = true → J P E (.call (D i).f (D i).args σ (D i).R)) →
     (∀ i ∈ rs, cl i = true → ∀ v σ', (D i).R (.ret v) σ' → J P E (.any M ops fuel (listed.setIfInBounds i true) (putA tm (D i).o.dst v) σ' Q)) → (∀ i ∈ rs, cl i = true → ∀ v σ', ¬ (D i).R (.pan v) σ') → J P E (.any M ops (fuel + 1) listed tm σ Q)
theorem wpOps_cons {P : Program} {ops : Array Oper} {K : Exit → Act → World → Prop} {i : Nat} {o : Oper} {rest : List Nat} {a : Act} {w : World} (ho : ops[i]? = some o) (h : if Region.wanted o (yielded ops a.tmps) then o.wp P a w (wpOps P ops K rest) K else wpOps P ops K rest (a.put o.dst undef) w) : wpOps P ops K (i :: rest) a w := by
 rw [wpOps]
 simp only [ho]
 split
 · rename_i hw; rw [if_pos hw] at h; exact .inl h
 · rename_i hw; rw [if_neg hw] at h; exact h
theorem J.tells {P : Program} {E : Env} (hm : P.follows .mixedOrders = true) (hE : EnvOk P E) {t : Tk} (h : J P E t) : Tells P t := by
 have step : ∀ {M : List TypeId} {ops : Array Oper} {o : Oper} {rest : List Oper} {tm tm' : List AV} {σ σ' : Sto} {Q : AExit → List AV → Sto → Prop}, (Region.wanted o (yieldedA ops tm) = true → (∃ v acc, tm' = putA tm o.dst v ∧ evStep P M (evx tm) σ o = some (.val v σ' acc)) ∨ (∃ acc, tm' = putA tm o.dst (.tup []) ∧ evStep P M (evx tm) σ o = some (.skip σ' acc))) →
     (¬ Region.wanted o (yieldedA ops tm) = true → tm' = putA tm o.dst (.tup []) ∧ σ' = σ) → Tells P (.list M ops rest tm' σ' Q) → Tells P (.list M ops (o :: rest) tm σ Q) := by
  intro M ops o rest tm tm' σ σ' Q h1 h2 ih k hk ι Z w a hM hF K hK
  have ho : ops[k]? = some o := by simpa using hk 0 o rfl
  rw [List.length_cons, List.range'_succ]
  refine wpOps_cons ho ?_
  have go : ∀ ι' Z' w' a', After ι Z w a tm' σ' ι' Z' w' a' → wpOps P ops K (List.range' (k + 1) rest.length) a' w' := by
   intro ι' Z' w' a' ha
   exact ih (k + 1) (fun j q hj => by have := hk (j + 1) q (by simpa using hj); rw [show k + 1 + j = k + (j + 1) by omega]; exact this) ι' Z' w' a' ha.2.1 ha.2.2.1 K fun x tm2 σ2 e a2 w2 hq hx => hK x tm2 σ2 e a2 w2 hq (Ends.start ha hx)
  have hev : ∃ acc, evOp P M (evCall P E 0) ops o tm σ = some (.inr (tm', acc), σ') := by
   unfold evOp
   by_cases hw : Region.wanted o (yieldedA ops tm) = true
   · rw [if_pos hw]
     rcases h1 hw with ⟨v, acc, rfl, hs⟩ | ⟨acc, rfl, hs⟩
     · exact ⟨acc, by rw [hs]⟩
     · exact ⟨acc, by rw [hs]⟩
   · rw [if_neg hw]
     obtain ⟨rfl, rfl⟩ := h2 hw
     exact ⟨.pure, rfl⟩
  obtain ⟨acc, hev⟩ := hev
  exact evOp_sound (evCall_sound hm hE 0) hev hM hF _ _ (fun tm1 acc1 hr ι' Z' w' a' ha => by cases hr; exact go ι' Z' w' a' ha) (fun v hr => by cases hr)
 induction h with
 | callW h =>
  intro ι Z w us hM hl ha
  obtain ⟨r, σ', N, h1, h2⟩ := h
  have := evCall_sound hm hE N _ _ _ _ _ (h1 N (Nat.le_refl _)) ι Z w us hM hl ha
  exact ⟨this.1, this.2.mono fun e w' ⟨ι', Z', e1, m1, x1⟩ => ⟨r, σ', ι', Z', h2, e1, m1, x1⟩⟩
 | semC h => exact h
 | callWk hl hw h ih =>
  intro ι Z w us hM hl2 ha
  exact ih ι Z w us hM (hl.trans hl2) fun i d' u hd hu => hw ι Z w i d' u (fun d h1 => ha i d u h1 hu) hd
 | @stepR M ops o rest tm σ Q R hw hs h ih =>
  intro k hk ι Z w a hM hF K hK
  have ho : ops[k]? = some o := by simpa using hk 0 o rfl
  rw [List.length_cons, List.range'_succ]
  refine wpOps_cons ho ?_
  rw [← yielded_rel hF ops, if_pos hw]
  obtain ⟨v, σ', acc, hR, u, w', ι', Z', h1, h2, h3, h4⟩ := hs ι Z w a.eval hM fun x d hx => evx_rel hM hF x d hx
  unfold Oper.wp
  rw [h1]
  have hF' := (hF.evo h2).put o.dst h4
  exact ih v σ' hR (k + 1) (fun j q hj => by have := hk (j + 1) q (by simpa using hj); rw [show k + 1 + j = k + (j + 1) by omega]; exact this) ι' Z' w' _ h3 hF' K fun x tm2 σ2 e a2 w2 hq hx => hK x tm2 σ2 e a2 w2 hq (Ends.start ⟨h2, h3, hF', Act.put_defers' _ _ _⟩ hx)
 | callMono h hq ih =>
  intro ι Z w us hM hl ha
  obtain ⟨h1, h2⟩ := ih ι Z w us hM hl ha
  exact ⟨h1, h2.mono fun e w' ⟨r, σ', ι', Z', g1, g2⟩ => ⟨r, σ', ι', Z', hq _ _ g1, g2⟩⟩
 | callNrm h hq hp ih =>
  intro ι Z w us hM hl ha
  obtain ⟨h1, h2⟩ := ih ι Z w us hM (by rw [nrmR_map, List.length_map]; exact hl) fun i d u hd hu => by
   rw [nrmR_map, List.getElem?_map, Option.map_eq_some_iff] at hd
   obtain ⟨d', g1, rfl⟩ := hd
   exact (ha i d' u g1 hu).nrm
  refine ⟨h1, h2.mono ?_⟩
  rintro e w' ⟨r, σ', ι', Z', g1, g2, g3, g4⟩
  cases r with
  | ret v =>
   obtain ⟨u, e1, e2⟩ := g4
   exact ⟨_, σ', ι', Z', hq v σ' g1, g2, g3, u, e1, e2.nrm⟩
  | pan v => exact ⟨_, σ', ι', Z', hp v σ' g1, g2, g3, g4⟩
 | @body f fn c args σ Q hf hc h ih =>
  intro ι Z w us hM hlen hargs
  obtain ⟨hP, hrun⟩ := hE.code f fn hf
  refine ⟨hrun us w, calls_of_wp hP hc ?_⟩
  have hF : FR ι Z w (args ++ List.replicate (fn.ntmps - args.length) (.tup [])) (us ++ Array.replicate (fn.ntmps - us.size) undef) := by
   refine ⟨by simp [hlen], fun i d u hd hu => ?_⟩
   rcases Nat.lt_or_ge i args.length with hl | hl
   · rw [List.getElem?_append_left hl] at hd
     rw [Array.getElem?_append_left (by omega)] at hu
     exact hargs i d u hd hu
   · rw [List.getElem?_append_right hl] at hd
     rw [Array.getElem?_append_right (by omega)] at hu
     have h1 := (List.mem_replicate.1 (List.mem_of_getElem? hd)).2
     have h2 : u = undef := (Array.mem_replicate.1 (Array.mem_of_getElem? hu)).2
     subst h1; subst h2
     exact undef_rel
  refine ih ι Z w { tmps := us ++ Array.replicate (fn.ntmps - us.size) undef, defers := [] } hM hF _ fun x tm' σ' e a' w' hq hEnd => ?_
  obtain ⟨ι', Z', ⟨e1, m1, f1, d1⟩, hxr⟩ := hEnd
  cases x with
  | normal =>
   obtain ⟨v, hv, hQ⟩ := hq
   cases hxr
   obtain ⟨u, g1, g2⟩ := results_rel m1 f1 hv
   exact ⟨d1, u, g1, .ret v, σ', ι', Z', hQ, e1, m1, u, rfl, g2⟩
  | ret =>
   obtain ⟨v, hv, hQ⟩ := hq
   cases hxr
   obtain ⟨u, g1, g2⟩ := results_rel m1 f1 hv
   exact ⟨d1, u, g1, .ret v, σ', ι', Z', hQ, e1, m1, u, rfl, g2⟩
  | pan v =>
   obtain ⟨u, rfl, hv⟩ := hxr
   exact ⟨d1, .pan v, σ', ι', Z', hq, e1, m1, u, rfl, hv⟩
  | exit id => exact hq.elim
 | nil hq =>
  intro k hk ι Z w a hM hF K hK
  exact hK _ _ _ _ _ _ hq ⟨ι, Z, ⟨.refl _ _ _, hM, hF, rfl⟩, rfl⟩
 | val hw hs h ih => exact step (fun _ => .inl ⟨_, _, rfl, hs⟩) (fun hn => (hn hw).elim) ih
 | skip hw hs h ih => exact step (fun _ => .inr ⟨_, rfl, hs⟩) (fun hn => (hn hw).elim) ih
 | unwanted hw h ih => exact step (fun hn => (hw hn).elim) (fun _ => ⟨rfl, rfl⟩) ih
 | @nilCmp M ops d t e u ty x po af rest tm σ es tok Q ht hx h ih =>
  intro k hk ι Z w a hM hF K hK
  have ho : ops[k]? = some ⟨d, .binOp .eql t x (.const (.slice none 0 0)) u, ty, po, af, none⟩ := by simpa using hk 0 _ rfl
  rw [List.length_cons, List.range'_succ]
  refine wpOps_cons ho ?_
  rw [if_pos (by rfl)]
  have hv := evx_rel hM hF x _ hx
  have hrun : ∃ b : Bool, (es ≠ [] → b = false) ∧ (execOp a.eval ⟨d, .binOp .eql t x (.const (.slice none 0 0)) u, ty, po, af, none⟩).run P w = .ok (.value (.bool b)) w := by
   have key : ∀ (q : Option Addr) (n c : Nat), a.eval x = .slice q n c → (execOp a.eval ⟨d, .binOp .eql t x (.const (.slice none 0 0)) u, ty, po, af, none⟩).run P w = .ok (.value (.bool q.isNone)) w := by
    intro q n c hq
    have he : a.eval (.const (.slice none 0 0)) = .slice none 0 0 := rfl
    have heq : ∀ k, (Op.equalIn (k + 1) t (.slice q n c) (.slice none 0 0)).run P w = .ok q.isNone w := by
     intro k
     rw [Op.equalIn]
     cases q <;> simp [underlying, program, ht, Sem.run, bind, pure, Sem.bind]
    have heq := heq 9999
    unfold execOp
    simp only [hq, he]
    unfold eqGuard Go.binOp Op.equal
    simp only [Op.maxDepth, bind, pure, Sem.bind, Sem.run, ite_self] at heq ⊢
    simp only [Sem.run_bind', Sem.run]
    rw [show (10000 : Nat) = 9999 + 1 from rfl, heq]; rfl
   generalize hux : a.eval x = uv at *
   cases hv with
   | nils q c tok h1 h2 => exact ⟨q.isNone, fun h => (h rfl).elim, key q 0 c rfl⟩
   | frs t k c b h1 h2 h3 => exact ⟨_, fun h => (h rfl).elim, key _ 0 c rfl⟩
   | sl b o n c k es tok U h1 h2 h3 h4 h5 h6 h7 h8 => exact ⟨false, fun _ => rfl, key _ n c rfl⟩
  obtain ⟨b, hb, hrun⟩ := hrun
  unfold Oper.wp
  rw [hrun]
  exact ih b hb (k + 1) (fun j q hj => by have := hk (j + 1) q (by simpa using hj); rw [show k + 1 + j = k + (j + 1) by omega]; exact this) ι Z w (a.put d (.bool b)) hM (hF.put d (.lit _ rfl)) K fun x tm2 σ2 e a2 w2 hq hx => hK x tm2 σ2 e a2 w2 hq (Ends.start ⟨.refl _ _ _, hM, hF.put d (.lit _ rfl), Act.put_defers' _ _ _⟩ hx)
 | @pan M ops o rest tm σ v Q hw hs hq =>
  intro k hk ι Z w a hM hF K hK
  have ho : ops[k]? = some o := by simpa using hk 0 o rfl
  rw [List.length_cons, List.range'_succ]
  refine wpOps_cons ho ?_
  have hev : evOp P M (evCall P E 0) ops o tm σ = some (.inl v, σ) := by unfold evOp; rw [if_pos hw, hs]
  exact evOp_sound (evCall_sound hm hE 0) hev hM hF _ _ (fun tm1 acc1 hr => by cases hr) (fun v' hr ι' Z' w' a' u ha hv => by
   cases hr
   exact hK _ _ _ _ _ _ hq ⟨ι', Z', ha, u, rfl, hv⟩)
 | @enter M ops o rest tm σ f args R Q hw hs h hr hp ih ihr =>
  intro k hk ι Z w a hM hF K hK
  have ho : ops[k]? = some o := by simpa using hk 0 o rfl
  rw [List.length_cons, List.range'_succ]
  refine wpOps_cons ho ?_
  rw [← yielded_rel hF ops, if_pos hw]
  obtain ⟨us, h1, h2, h3⟩ := evStep_sound (r := a.eval) (fun x d hx => evx_rel hM hF x d hx) hM hs
  unfold Oper.wp
  rw [h1]
  obtain ⟨g1, g2⟩ := ih ι Z w us hM h2 h3
  rw [g1]
  refine g2.mono ?_
  rintro e w' ⟨r, σ', ι', Z', hR, e1, m1, hx⟩
  cases r with
  | ret v =>
   obtain ⟨u, rfl, hv⟩ := hx
   have ha : After ι Z w a (putA tm o.dst v) σ' ι' Z' w' (a.put o.dst u) := ⟨e1, m1, (hF.evo e1).put _ hv, Act.put_defers' _ _ _⟩
   exact ihr v σ' hR (k + 1) (fun j q hj => by have := hk (j + 1) q (by simpa using hj); rw [show k + 1 + j = k + (j + 1) by omega]; exact this) ι' Z' w' _ m1 ha.2.2.1 K fun x tm2 σ2 e a2 w2 hq hx => hK x tm2 σ2 e a2 w2 hq (Ends.start ha hx)
  | pan v =>
   obtain ⟨u, rfl, hv⟩ := hx
   exact hK _ _ _ _ _ _ (hp v σ' hR) ⟨ι', Z', ⟨e1, m1, hF.evo e1, rfl⟩, u, rfl, hv⟩
 | cw h =>
  intro ι Z w a hM hF K hK
  obtain ⟨x, tm', σ', N, h1, h2⟩ := h
  exact evCode_sound hm (evCall_sound hm hE N) N _ (h1 N N (Nat.le_refl _) (Nat.le_refl _)) hM hF K fun e a' w' hx => hK x tm' σ' e a' w' h2 hx
 | region h ih =>
  intro ι Z w a hM hF K hK
  refine wp_region ?_
  rw [List.range_eq_range']
  have := ih 0 (fun j o hj => by rw [Nat.zero_add]; simpa using hj) ι Z w a hM hF K hK
  simpa using this
 | seq h hn hx ih ihn =>
  intro ι Z w a hM hF K hK
  refine wp_seq (ih ι Z w a hM hF _ fun x tm' σ' e a' w' hq hE => ?_)
  cases x with
  | normal =>
   obtain ⟨ι1, Z1, ha, hxr⟩ := hE
   cases hxr
   exact ihn tm' σ' hq ι1 Z1 w' a' ha.2.1 ha.2.2.1 K fun x tm2 σ2 e a2 w2 hq hx => hK x tm2 σ2 e a2 w2 hq (Ends.start ha hx)
  | exit id => have h1 := hK _ _ _ _ _ _ (hx _ _ _ (by simp) hq) hE; obtain ⟨_, _, _, hxr⟩ := hE; cases hxr; exact h1
  | ret => have h1 := hK _ _ _ _ _ _ (hx _ _ _ (by simp) hq) hE; obtain ⟨_, _, _, hxr⟩ := hE; cases hxr; exact h1
  | pan v => have h1 := hK _ _ _ _ _ _ (hx _ _ _ (by simp) hq) hE; obtain ⟨_, _, _, u, rfl, _⟩ := hE; exact h1
 | @cond M c a b t tm σ Q hc h ih =>
  intro ι Z w a hM hF K hK
  have hv := evx_rel hM hF c _ hc
  have he : a.eval c = .bool t := by generalize a.eval c = u at hv; cases hv; rfl
  exact wp_cond he (ih ι Z w a hM hF K hK)
 | @block M id a tm σ Q h ih =>
  intro ι Z w a hM hF K hK
  refine wp_block (ih ι Z w a hM hF _ fun x tm' σ' e a' w' hq hE => ?_)
  cases x with
  | exit id' =>
   obtain ⟨ι1, Z1, ha, hxr⟩ := hE
   cases hxr
   simp only [Exit.inBlock]
   simp only [outOf] at hq
   split
   · rename_i hid
     rw [if_pos hid] at hq
     exact hK _ _ _ _ _ _ hq ⟨ι1, Z1, ha, rfl⟩
   · rename_i hid
     rw [if_neg hid] at hq
     exact hK _ _ _ _ _ _ hq ⟨ι1, Z1, ha, rfl⟩
  | normal => have h1 := hK _ _ _ _ _ _ hq hE; obtain ⟨_, _, _, hxr⟩ := hE; cases hxr; exact h1
  | ret => have h1 := hK _ _ _ _ _ _ hq hE; obtain ⟨_, _, _, hxr⟩ := hE; cases hxr; exact h1
  | pan v => have h1 := hK _ _ _ _ _ _ hq hE; obtain ⟨_, _, _, u, rfl, _⟩ := hE; exact h1
 | scope h ih =>
  intro ι Z w a hM hF K hK
  refine wp_scope_straight (ih ι Z w a hM hF _ fun x tm' σ' e a' w' hq hE => ?_)
  have h1 := hK _ _ _ _ _ _ hq hE
  obtain ⟨_, _, _, hxr⟩ := hE
  cases x with
  | normal => cases hxr; exact h1
  | exit id => cases hxr; exact h1
  | ret => cases hxr; exact h1
  | pan v => obtain ⟨u, rfl, _⟩ := hxr; exact h1
 | @loop M b k tm σ Q I hround hI ih =>
  intro ι Z w a hM hF K hK
  refine wp_loop_ghost (fun m a1 w1 => ∃ tm1 σ1 ι1 Z1, I m tm1 σ1 ∧ After ι Z w a tm1 σ1 ι1 Z1 w1 a1) k ⟨tm, σ, ι, Z, hI, .refl _ _ _, hM, hF, rfl⟩ ?_
  rintro m a1 w1 ⟨tm1, σ1, ι1, Z1, hI1, ha⟩
  refine ih m tm1 σ1 hI1 ι1 Z1 w1 a1 ha.2.1 ha.2.2.1 _ fun x tm' σ' e a' w' hq hE => ?_
  cases x with
  | normal =>
   obtain ⟨ι2, Z2, hb, hxr⟩ := hE
   cases hxr
   obtain ⟨k', hk', hI'⟩ := hq
   exact ⟨k', hk', tm', σ', ι2, Z2, hI', ha.1.trans hb.1, hb.2.1, hb.2.2.1, hb.2.2.2.trans ha.2.2.2⟩
  | exit id => have h2 := hK _ _ _ _ _ _ hq (Ends.start ha hE); obtain ⟨_, _, _, hxr⟩ := hE; cases hxr; exact h2
  | ret => have h2 := hK _ _ _ _ _ _ hq (Ends.start ha hE); obtain ⟨_, _, _, hxr⟩ := hE; cases hxr; exact h2
  | pan v => have h2 := hK _ _ _ _ _ _ hq (Ends.start ha hE); obtain ⟨_, _, _, u, rfl, _⟩ := hE; exact h2
 | anyRegion h ih =>
  intro ι Z w a hM hF K hK
  refine wp_region_any hm ?_
  have hwd : After ι Z w a _ _ ι Z { w with drawn := w.drawn + 1 } a := ⟨Evo.drew ι Z w, hM.drew, hF.evo (Evo.drew ι Z w), rfl⟩
  exact ih ι Z _ a hwd.2.1 hwd.2.2.1 K fun x tm2 σ2 e a2 w2 hq hx => hK x tm2 σ2 e a2 w2 hq (Ends.start hwd hx)
 | anyDone hr hq =>
  intro ι Z w a hM hF K hK
  exact wpAny_done hr (hK _ _ _ _ _ _ hq ⟨ι, Z, ⟨.refl _ _ _, hM, hF, rfl⟩, rfl⟩) _
 | @anyStep M ops fuel listed tm σ Q rs o acc tm' σ' hr hne ho hev h ih =>
  intro ι Z w a hM hF K hK
  refine wpAny_all hr hne fun i hi => ?_
  unfold wpOp
  rw [ho i hi]
  dsimp only
  have hno : CallSound P noCall := fun f args σ r σ' h => by cases h
  have := evOp_sound hno (hev i hi) hM hF (wpAny P .any ops K fuel (listed.setIfInBounds i true)) K (fun tm1 acc1 hr1 ι' Z' w' a' ha => by
   cases hr1
   exact ih i hi ι' Z' w' a' ha.2.1 ha.2.2.1 K fun x tm2 σ2 e a2 w2 hq hx => hK x tm2 σ2 e a2 w2 hq (Ends.start ha hx)) (fun v hr1 => by cases hr1)
  split
  · rename_i hw; rw [if_pos hw] at this; exact .inl this
  · rename_i hw; rw [if_neg hw] at this; exact this
 | @anyStepC M ops fuel listed tm σ Q rs cl D hr hne ho hev hn hc hcall hret hpan ih ihcall ihret =>
  intro ι Z w a hM hF K hK
  refine wpAny_all hr hne fun i hi => ?_
  unfold wpOp
  rw [ho i hi]
  dsimp only
  cases hcl : cl i with
  | false =>
   have hno : CallSound P noCall := fun f args σ r σ' h => by cases h
   have := evOp_sound hno (hev i hi hcl) hM hF (wpAny P .any ops K fuel (listed.setIfInBounds i true)) K (fun tm1 acc1 hr1 ι' Z' w' a' ha => by
    cases hr1
    exact ih i hi hcl ι' Z' w' a' ha.2.1 ha.2.2.1 K fun x tm2 σ2 e a2 w2 hq hx => hK x tm2 σ2 e a2 w2 hq (Ends.start ha hx)) (fun v hr1 => by cases hr1)
   split
   · rename_i hw; rw [if_pos hw] at this; exact .inl this
   · rename_i hw; rw [if_neg hw] at this; exact this
  | true =>
   obtain ⟨hw, hs⟩ := hc i hi hcl
   rw [← yielded_rel hF ops, if_pos hw]
   refine .inl ?_
   obtain ⟨us, h1, h2, h3⟩ := evStep_sound (r := a.eval) (fun x d hx => evx_rel hM hF x d hx) hM hs
   unfold Oper.wp
   rw [h1]
   obtain ⟨g1, g2⟩ := ihcall i hi hcl ι Z w us hM h2 h3
   rw [g1]
   refine g2.mono ?_
   rintro e w' ⟨r, σ', ι', Z', hR, e1, m1, hx⟩
   cases r with
   | ret v =>
    obtain ⟨u, rfl, hv⟩ := hx
    have ha : After ι Z w a (putA tm (D i).o.dst v) σ' ι' Z' w' (a.put (D i).o.dst u) := ⟨e1, m1, (hF.evo e1).put _ hv, Act.put_defers' _ _ _⟩
    exact ihret i hi hcl v σ' hR ι' Z' w' _ m1 ha.2.2.1 K fun x tm2 σ2 e a2 w2 hq hx => hK x tm2 σ2 e a2 w2 hq (Ends.start ha hx)
   | pan v => exact (hpan i hi hcl v σ' hR).elim
end
section
open Go.RowKit
theorem J.choice {P : Program} {E : Env} {M : List TypeId} {id t1 t2 b : Nat} {ty0 ty1 ty2 ty3 : TypeId} {p0 p1 p2 p3 : String} {a0 a1 a2 a3 : Array Edge} {tm : List AV} {σ : Sto} {Q : AExit → List AV → Sto → Prop} {ops : Array Oper}
    (hops : ops = #[⟨some t1, .alloc b, ty0, p0, a0, none⟩, ⟨none, .store b (.tmp t1) (.const (.bool true)), ty1, p1, a1, none⟩, ⟨none, .store b (.tmp t1) (.const (.bool false)), ty2, p2, a2, none⟩, ⟨some t2, .load b (.tmp t1), ty3, p3, a3, none⟩])
    (hs : szOf P b = some 1) (hz : ((P.info? b).bind fun x => x.zero) = some (.bool false)) (hg : aggT P b = some false) (h1 : t1 < tm.length) (h2 : t2 < tm.length)
    (r0 : Region.ready .any ops #[false, false, false, false] = [0]) (r1 : Region.ready .any ops #[true, false, false, false] = [1, 2]) (r2 : Region.ready .any ops #[true, true, false, false] = [2]) (r3 : Region.ready .any ops #[true, false, true, false] = [1])
    (r4 : Region.ready .any ops #[true, true, true, false] = [3]) (r5 : Region.ready .any ops #[true, true, true, true] = [])
    (h : ∀ v, Q .normal ((tm.set t1 (.ptr σ.length 0)).set t2 (.lit (.bool v))) (σ ++ [.cells [.lit (.bool v)] b])) : J P E (.code M (.region id ops true) tm σ Q) := by
 have w0 : ∀ (o : Oper) (tm : List AV), o.guard = none → Region.wanted o (yieldedA ops tm) = true := by intro o tm hg; unfold Region.wanted; rw [hg]
 have hsz : ops.size = 4 := by rw [hops]; rfl
 have e1 : slot (tm.set t1 (.ptr σ.length 0)) t1 = .ptr σ.length 0 := slot_eq h1
 have fin : ∀ v, J P E (.any M ops 1 #[true, true, true, false] (tm.set t1 (.ptr σ.length 0)) (σ ++ [.cells [.lit (.bool v)] b]) Q) := by
  intro v
  refine .anyStep [3] (fun _ => ⟨some t2, .load b (.tmp t1), ty3, p3, a3, none⟩) (fun _ => .reads σ.length) (fun _ => (tm.set t1 (.ptr σ.length 0)).set t2 (.lit (.bool v))) (fun _ => σ ++ [.cells [.lit (.bool v)] b]) r4 (by simp) (by simp [hops]) ?_ ?_
  · intro i hi
    unfold evOp
    rw [w0 _ _ rfl, if_pos rfl]
    simp [es_load, evStepU, evPure, evLit, evMem, zT, e1, Op.operands, conc, conc2, partA, hg, hs, mutOp, putA]
  · intro i hi
    simp at hi; subst hi
    exact .anyDone r5 (h v)
 have st : ∀ (x v : Bool) (ty : TypeId) (po : String) (af : Array Edge), evOp P M noCall ops ⟨none, .store b (.tmp t1) (.const (.bool v)), ty, po, af, none⟩ (tm.set t1 (.ptr σ.length 0)) (σ ++ [.cells [.lit (.bool x)] b]) = some (.inr (tm.set t1 (.ptr σ.length 0), .writes σ.length), σ ++ [.cells [.lit (.bool v)] b]) := by
  intro x v ty po af
  unfold evOp
  rw [w0 _ _ rfl, if_pos rfl]
  simp [es_store, evStepU, evPure, evLit, evMem, zT, evx_const, e1, Op.operands, conc, conc2, absV, abs2, abs1, scal, hs, mutOp, putA, putCells, AV.cells, AV.notTup]
 have al : evOp P M noCall ops ⟨some t1, .alloc b, ty0, p0, a0, none⟩ tm σ = some (.inr (tm.set t1 (.ptr σ.length 0), .news σ.length), σ ++ [.cells [.lit (.bool false)] b]) := by
  unfold evOp
  rw [w0 _ _ rfl, if_pos rfl]
  have hl : evLit P (evx tm) σ ⟨some t1, .alloc b, ty0, p0, a0, none⟩ = none := evLit_alloc hz default
  simp [es_alloc, evStepU, evPure, hl, evMem, hz, abs2, abs1, scal, mutOp, putA, AV.cells, AV.notTup]
 refine .anyRegion ?_
 rw [hsz]
 refine .anyStep [0] (fun _ => ⟨some t1, .alloc b, ty0, p0, a0, none⟩) (fun _ => .news σ.length) (fun _ => tm.set t1 (.ptr σ.length 0)) (fun _ => σ ++ [.cells [.lit (.bool false)] b]) r0 (by simp) (by simp [hops]) (fun _ _ => al) ?_
 intro i hi
 simp at hi; subst hi
 refine .anyStep [1, 2] (fun i => if i = 1 then ⟨none, .store b (.tmp t1) (.const (.bool true)), ty1, p1, a1, none⟩ else ⟨none, .store b (.tmp t1) (.const (.bool false)), ty2, p2, a2, none⟩) (fun _ => .writes σ.length) (fun _ => tm.set t1 (.ptr σ.length 0)) (fun i => σ ++ [.cells [.lit (.bool (i == 1))] b]) r1 (by simp) (by simp [hops]) ?_ ?_
 · intro i hi
   simp at hi
   rcases hi with rfl | rfl
   · exact st false true _ _ _
   · exact st false false _ _ _
 · intro i hi
   simp at hi
   rcases hi with rfl | rfl
   · refine .anyStep [2] (fun _ => ⟨none, .store b (.tmp t1) (.const (.bool false)), ty2, p2, a2, none⟩) (fun _ => .writes σ.length) (fun _ => tm.set t1 (.ptr σ.length 0)) (fun _ => σ ++ [.cells [.lit (.bool false)] b]) r2 (by simp) (by simp [hops]) (fun _ _ => st true false _ _ _) ?_
     intro i hi
     simp at hi; subst hi
     exact fin false
   · refine .anyStep [1] (fun _ => ⟨none, .store b (.tmp t1) (.const (.bool true)), ty1, p1, a1, none⟩) (fun _ => .writes σ.length) (fun _ => tm.set t1 (.ptr σ.length 0)) (fun _ => σ ++ [.cells [.lit (.bool true)] b]) r3 (by simp) (by simp [hops]) (fun _ _ => st false true _ _ _) ?_
     intro i hi
     simp at hi; subst hi
     exact fin true
end
end Go.Proofs.YtmmgjaheffbpaaaGreatDoor
