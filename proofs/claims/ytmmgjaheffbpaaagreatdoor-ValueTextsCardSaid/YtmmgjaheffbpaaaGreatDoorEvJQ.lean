/-
 EV, WHERE MORE THAN ONE END MAY BE: a region's operations, for simp.
-/
import Derived.Test.YtmmgjaheffbpaaaGreatDoorEvNrmQ
import Derived.Test.YtmmgjaheffbpaaaGreatDoorEvSymQ
namespace Go.Proofs.YtmmgjaheffbpaaaGreatDoor
set_option linter.unusedSimpArgs false
set_option linter.unusedVariables false
set_option linter.unusedSectionVars false
section
open Go.RowKit
section
variable (P : Program) (E : Env) (M : List TypeId)
def JC (f : FuncId) (args : List AV) (σ : Sto) (Q : ARes → Sto → Prop) : Prop := J P E (.call f args σ Q)
def JD (c : Code) (tm : List AV) (σ : Sto) (Q : AExit → List AV → Sto → Prop) : Prop := J P E (.code M c tm σ Q)
def LJ (ops : Array Oper) : List Oper → List AV → Sto → (AExit → List AV → Sto → Prop) → Prop
 | [], tm, σ, Q => Q .normal tm σ
 | o :: rest, tm, σ, Q =>
  if Region.wanted o (yieldedA ops tm) then
   match evStep P M (evx tm) σ o with
   | some (.val v σ' _) => LJ ops rest (putA tm o.dst v) σ' Q
   | some (.skip σ' _) => LJ ops rest (putA tm o.dst (.tup [])) σ' Q
   | some (.pan v) => Q (.pan v) tm σ
   | some (.enter f args) => JC P E f args σ fun r σ' => match r with | .ret v => LJ ops rest (putA tm o.dst v) σ' Q | .pan v => Q (.pan v) tm σ'
   | none => False
  else LJ ops rest (putA tm o.dst (.tup [])) σ Q
end
section
variable {P : Program} {E : Env} {M : List TypeId}
theorem LJ.toJ {ops : Array Oper} : ∀ (l : List Oper) (tm : List AV) (σ : Sto) (Q : AExit → List AV → Sto → Prop), LJ P E M ops l tm σ Q → J P E (.list M ops l tm σ Q)
 | [], tm, σ, Q, h => .nil h
 | o :: rest, tm, σ, Q, h => by
  rw [LJ] at h
  split at h
  · rename_i hw
    split at h
    · rename_i v σ1 acc hs
      exact .val hw hs (LJ.toJ rest _ _ Q h)
    · rename_i σ1 acc hs
      exact .skip hw hs (LJ.toJ rest _ _ Q h)
    · rename_i v hs
      exact .pan hw hs h
    · rename_i f args hs
      exact .enter hw hs h (fun v σ' h1 => LJ.toJ rest _ _ Q h1) fun v σ' h1 => h1
    · exact h.elim
  · rename_i hw
    exact .unwanted hw (LJ.toJ rest _ _ Q h)
theorem JD.region {id : Nat} {ops : Array Oper} {tm : List AV} {σ : Sto} {Q : AExit → List AV → Sto → Prop} (h : LJ P E M ops ops.toList tm σ Q) : JD P E M (.region id ops false) tm σ Q := J.region (LJ.toJ _ _ _ _ h)
theorem JD.seqK {a b : Code} {tm : List AV} {σ : Sto} {Q : AExit → List AV → Sto → Prop} (h : ∀ K : List AV → Sto → Prop, (∀ tm1 σ1, JD P E M b tm1 σ1 Q → K tm1 σ1) → JD P E M a tm σ (andThen K Q)) : JD P E M (.seq a b) tm σ Q := by
 refine J.seq (h (fun tm1 σ1 => JD P E M b tm1 σ1 Q) fun _ _ h => h) (fun tm1 σ1 h1 => h1) fun x tm1 σ1 hx h1 => ?_
 cases x with
 | normal => exact (hx rfl).elim
 | _ => exact h1
theorem JD.hide {a : Code} {tm : List AV} {σ : Sto} {Q : AExit → List AV → Sto → Prop} (h : ∀ R : AExit → List AV → Sto → Prop, (∀ x tm1 σ1, Q x tm1 σ1 → R x tm1 σ1) → JD P E M a tm σ R) : JD P E M a tm σ Q := h Q fun _ _ _ h => h
theorem JD.cond {c : Operand} {a b : Code} {t : Bool} {tm : List AV} {σ : Sto} {Q : AExit → List AV → Sto → Prop} (hc : evx tm c = some (.lit (.bool t))) (h : JD P E M (if t then a else b) tm σ Q) : JD P E M (.cond c a b) tm σ Q := J.cond hc h
theorem JD.block {id : Nat} {a : Code} {tm : List AV} {σ : Sto} {Q : AExit → List AV → Sto → Prop} (h : JD P E M a tm σ (outOf id Q)) : JD P E M (.block id a) tm σ Q := J.block h
theorem JD.skip {tm : List AV} {σ : Sto} {Q : AExit → List AV → Sto → Prop} (h : Q .normal tm σ) : JD P E M .skip tm σ Q := J.cw (CW.skip h)
theorem JD.ret {tm : List AV} {σ : Sto} {Q : AExit → List AV → Sto → Prop} (h : Q .ret tm σ) : JD P E M .ret tm σ Q := J.cw (CW.ret h)
theorem JD.exit {id : Nat} {tm : List AV} {σ : Sto} {Q : AExit → List AV → Sto → Prop} (h : Q (.exit id) tm σ) : JD P E M (.exit id) tm σ Q := J.cw (CW.exit h)
theorem JD.loopI {a : Code} {Q : AExit → List AV → Sto → Prop} (I : Nat → List AV → Sto → Prop) (round : ∀ k tm σ, I k tm σ → JD P E M a tm σ (andThen (fun tm1 σ1 => ∃ k', k' < k ∧ I k' tm1 σ1) Q)) (k : Nat) (tm : List AV) (σ : Sto) (hI : I k tm σ) : JD P E M (.loop a) tm σ Q := J.loop I round hI
theorem JC.mono {f : FuncId} {args : List AV} {σ : Sto} {Q Q' : ARes → Sto → Prop} (h : JC P E f args σ Q) (hq : ∀ r σ', Q r σ' → Q' r σ') : JC P E f args σ Q' := J.callMono h hq
theorem CallW.toJ {f : FuncId} {args : List AV} {σ : Sto} {Q : ARes → Sto → Prop} (h : CallW P E f args σ Q) : JC P E f args σ Q := J.callW h
theorem JC.start {f : FuncId} {fn : Func} {c : Code} {args : List AV} {σ : Sto} {Q : ARes → Sto → Prop} (hf : E.code f = some fn) (hc : fn.body = some c) (hm : E.ms f = M) (hn : args.length ≤ fn.ntmps)
    (h : ∀ tm : List AV, tm.length = fn.ntmps → (∀ (i : Nat) (d : AV), args[i]? = some d → slot tm i = d) → JD P E M c tm σ (bodyW P fn Q)) : JC P E f args σ Q :=
 J.body hf hc (hm ▸ h _ (by simp; omega) fun i d hd => by
  have hl := (List.getElem?_eq_some_iff.1 hd).1
  unfold slot
  rw [List.getD_eq_getElem?_getD, List.getElem?_append_left hl, hd]; rfl)
variable {ops : Array Oper} {o : Oper} {rest : List Oper} {tm : List AV} {σ : Sto} {Q : AExit → List AV → Sto → Prop}
theorem LJ_nil : LJ P E M ops [] tm σ Q = Q .normal tm σ := rfl
theorem LJ_val (hg : o.guard = none) (h : isVal (evStep P M (evx tm) σ o) = true) : LJ P E M ops (o :: rest) tm σ Q = LJ P E M ops rest (putA tm o.dst (valOf (evStep P M (evx tm) σ o))) (stOf (evStep P M (evx tm) σ o)) Q := by
 rw [LJ, if_pos (by unfold Region.wanted; rw [hg])]
 cases hs : evStep P M (evx tm) σ o with
 | none => rw [hs] at h; cases h
 | some s => rw [hs] at h; cases s <;> first | rfl | cases h
theorem LJ_skip (hg : o.guard = none) (h : isSkip (evStep P M (evx tm) σ o) = true) : LJ P E M ops (o :: rest) tm σ Q = LJ P E M ops rest (putA tm o.dst (.tup [])) (stOf (evStep P M (evx tm) σ o)) Q := by
 rw [LJ, if_pos (by unfold Region.wanted; rw [hg])]
 cases hs : evStep P M (evx tm) σ o with
 | none => rw [hs] at h; cases h
 | some s => rw [hs] at h; cases s <;> first | rfl | cases h
theorem LJ_enter (hg : o.guard = none) (h : isEnter (evStep P M (evx tm) σ o) = true) : LJ P E M ops (o :: rest) tm σ Q = JC P E (fnOf (evStep P M (evx tm) σ o)) (argsOf (evStep P M (evx tm) σ o)) σ (retK (fun v σ' => LJ P E M ops rest (putA tm o.dst v) σ' Q) (fun v σ' => Q (.pan v) tm σ')) := by
 rw [LJ, if_pos (by unfold Region.wanted; rw [hg])]
 cases hs : evStep P M (evx tm) σ o with
 | none => rw [hs] at h; cases h
 | some s => rw [hs] at h; cases s <;> first | rfl | cases h
theorem LJ_guard {j : Nat} {b c : Bool} (hg : o.guard = some (j, b)) (hy : yieldedA ops tm j = some c) : LJ P E M ops (o :: rest) tm σ Q = if c = b then LJ P E M ops ({ o with guard := none } :: rest) tm σ Q else LJ P E M ops rest (putA tm o.dst (.tup [])) σ Q := by
 have e : evStep P M (evx tm) σ { o with guard := none } = evStep P M (evx tm) σ o := by
  obtain ⟨d, op, t, p, a, g⟩ := o
  cases op <;> rfl
 have hw : Region.wanted o (yieldedA ops tm) = (some c == some b) := by unfold Region.wanted; rw [hg]; dsimp only; rw [hy]
 rw [LJ]
 by_cases h : c = b
 · subst h
   rw [if_pos (by rw [hw]; simp), if_pos rfl, LJ, if_pos (by rfl), e]
 · rw [if_neg (by rw [hw]; simpa using h), if_neg h]
theorem LJ_guardS {j : Nat} {b : Bool} {d : Option Tmp} {op : Op} {ty : TypeId} {po : String} {af : Array Edge} (h : (yieldedA ops tm j).isSome = true) : LJ P E M ops (⟨d, op, ty, po, af, some (j, b)⟩ :: rest) tm σ Q =
    if (yieldedA ops tm j).getD false = b then LJ P E M ops (⟨d, op, ty, po, af, none⟩ :: rest) tm σ Q else LJ P E M ops rest (putA tm d (.tup [])) σ Q := by
 obtain ⟨c, hc⟩ := Option.isSome_iff_exists.1 h
 rw [LJ_guard (o := ⟨d, op, ty, po, af, some (j, b)⟩) rfl hc, hc]
 rfl
theorem LJ_guardN {j : Nat} {b : Bool} {d : Option Tmp} {op : Op} {ty : TypeId} {po : String} {af : Array Edge} (h : (yieldedA ops tm j).isNone = true) : LJ P E M ops (⟨d, op, ty, po, af, some (j, b)⟩ :: rest) tm σ Q = LJ P E M ops rest (putA tm d (.tup [])) σ Q := by
 rw [LJ, if_neg]
 unfold Region.wanted
 simp [Option.isNone_iff_eq_none.1 h]
end
end
section
open Go.RowKit
def Tok.bel (n : Nat) : Tok → Prop
 | .own t => t < n
 | .fresh t _ => t < n
 | _ => True
inductive Bel (n : Nat) : AV → Prop
 | lit (v : Value) : Bel n (.lit v)
 | ptr (id off : Nat) : id < n → Bel n (.ptr id off)
 | eptr (row : List AV) (off : Nat) : (∀ (j : Nat) (d : AV), row[j]? = some d → Bel n d) → Bel n (.eptr row off)
 | sl (es : List (List AV)) (tok : Tok) : tok.bel n → (∀ (i j : Nat) (e : List AV) (d : AV), es[i]? = some e → e[j]? = some d → Bel n d) → Bel n (.sl es tok)
 | asl (id off m k : Nat) : id < n → Bel n (.asl id off m k)
 | mp (id : Nat) : id < n → Bel n (.mp id)
 | fn (f : Fn) (first cap : List AV) : (∀ (j : Nat) (d : AV), first[j]? = some d → Bel n d) → (∀ (j : Nat) (d : AV), cap[j]? = some d → Bel n d) → Bel n (.fn f first cap)
 | ifc (t : TypeId) (d : AV) : Bel n d → Bel n (.ifc t d)
 | agg (ds : List AV) : (∀ (j : Nat) (d : AV), ds[j]? = some d → Bel n d) → Bel n (.agg ds)
 | tup (ds : List AV) : (∀ (j : Nat) (d : AV), ds[j]? = some d → Bel n d) → Bel n (.tup ds)
 | rsl (es : List (List AV)) (g : Nat) : (∀ (i j : Nat) (e : List AV) (d : AV), (es ++ roomRows g)[i]? = some e → e[j]? = some d → Bel n d) → Bel n (.rsl es g)
def BelO (n : Nat) : AObj → Prop
 | .cells cs _ => ∀ (j : Nat) (d : AV), cs[j]? = some d → Bel n d
 | .buf cs _ => ∀ (j : Nat) (d : AV), cs[j]? = some d → Bel n d
 | .map _ es => ∀ (j : Nat) (k : Value) (d : AV), es[j]? = some (k, d) → Bel n d
 | _ => True
section
variable {ι : List Nat} {Z Z2 : Nat → Nat → Prop} {w : World}
theorem lt_of_get {ι : List Nat} {id b : Nat} (h : ι[id]? = some b) : id < ι.length := (List.getElem?_eq_some_iff.1 h).1
theorem arr_at {cs : Array Value} {n j : Nat} {d : AV} {ds : List AV} (hl : ds.length = cs.size) (hd : ds[j]? = some d) : ∃ u, cs[j]? = some u := by
 have : j < cs.size := by rw [← hl]; exact (List.getElem?_eq_some_iff.1 hd).1
 exact ⟨_, Array.getElem?_eq_getElem this⟩
theorem VR.bel {d : AV} {u : Value} (h : VR ι Z w d u) : Bel ι.length d := by
 induction h with
 | lit v h => exact .lit v
 | ptr id off b h => exact .ptr id off (lt_of_get h)
 | eptr row off b o U h _ ih => exact .eptr row off fun j d hd => ih j d hd
 | nils a c tok h g => exact .sl [] tok (by rcases g with rfl | ⟨rfl, _⟩ <;> trivial) fun i j e d he => by simp at he
 | frs t k c b h1 h2 h3 => exact .sl [] _ (lt_of_get h1) fun i j e d he => by simp at he
 | sl b o n c k es tok U h1 h2 h3 h4 h5 h6 h7 _ ih =>
  refine .sl es tok ?_ fun i j e d he hd => ih i j e d he hd
  cases tok with
  | own t => obtain ⟨b', hb, _⟩ := h7; exact lt_of_get hb
  | fresh t k => exact h7.elim
  | _ => trivial
 | asl id off n k c b h1 h2 h3 h4 => exact .asl id off n k (lt_of_get h1)
 | mp id b h => exact .mp id (lt_of_get h)
 | fn f first cap fs cs h1 h2 _ _ ih1 ih2 =>
  refine .fn f first cap (fun j d hd => ?_) fun j d hd => ?_
  · obtain ⟨u, hu⟩ := arr_at (n := 0) h1 hd; exact ih1 j d u hd hu
  · obtain ⟨u, hu⟩ := arr_at (n := 0) h2 hd; exact ih2 j d u hd hu
 | ifc t d u _ ih => exact .ifc t d ih
 | agg ds cs h1 h2 _ ih => exact .agg ds fun j d hd => by obtain ⟨u, hu⟩ := arr_at (n := 0) h1 hd; exact ih j d u hd hu
 | tup ds cs h1 _ ih => exact .tup ds fun j d hd => by obtain ⟨u, hu⟩ := arr_at (n := 0) h1 hd; exact ih j d u hd hu
 | rsl b o c k es g U h2 h3 h4 h5 h6 _ ih => exact .rsl es g fun i j e d he hd => ih i j e d he hd
theorem take_get {ι : List Nat} {n id b : Nat} (h : ι[id]? = some b) (hn : id < n) : (ι.take n)[id]? = some b := by rw [List.getElem?_take, if_pos hn]; exact h
theorem VR.cut {n : Nat} (hZ : ∀ b j, Z b j → Z2 b j) {d : AV} {u : Value} (h : VR ι Z w d u) : Bel n d → VR (ι.take n) Z2 w d u := by
 induction h with
 | lit v h => exact fun _ => .lit v h
 | ptr id off b h => intro hb; cases hb with | ptr _ _ hl => exact .ptr id off b (take_get h hl)
 | eptr row off b o U h _ ih =>
  intro hb
  cases hb with
  | eptr _ _ hl => exact .eptr row off b o U (fun j d hd => ⟨(h j d hd).1, hZ _ _ (h j d hd).2.1, (h j d hd).2.2⟩) fun j d hd => ih j d hd (hl j d hd)
 | nils a c tok h g => exact fun _ => .nils a c tok h g
 | frs t k c b h1 h2 h3 => intro hb; cases hb with | sl _ _ ht _ => exact .frs t k c b (take_get h1 ht) h2 h3
 | sl b o n' c k es tok U h1 h2 h3 h4 h5 h6 h7 _ ih =>
  intro hb
  cases hb with
  | sl _ _ ht hl =>
   refine .sl b o n' c k es tok U h1 h2 h3 h4 h5 (fun i j x d hx hd => ⟨(h6 i j x d hx hd).1, hZ _ _ (h6 i j x d hx hd).2.1, (h6 i j x d hx hd).2.2⟩) ?_ fun i j x d hx hd => ih i j x d hx hd (hl i j x d hx hd)
   cases tok with
   | own t => obtain ⟨b', q1, q2, q3⟩ := h7; exact ⟨b', take_get q1 ht, q2, q3⟩
   | fresh t k => exact h7.elim
   | no => trivial
   | full => exact h7
 | asl id off n k c b h1 h2 h3 h4 => intro hb; cases hb with | asl _ _ _ _ hl => exact .asl id off n k c b (take_get h1 hl) h2 h3 h4
 | mp id b h => intro hb; cases hb with | mp _ hl => exact .mp id b (take_get h hl)
 | fn f first cap fs cs h1 h2 _ _ ih1 ih2 => intro hb; cases hb with | fn _ _ _ q1 q2 => exact .fn f first cap fs cs h1 h2 (fun i d u hd hu => ih1 i d u hd hu (q1 i d hd)) fun i d u hd hu => ih2 i d u hd hu (q2 i d hd)
 | ifc t d u _ ih => intro hb; cases hb with | ifc _ _ q => exact .ifc t d u (ih q)
 | agg ds cs h1 h2 _ ih => intro hb; cases hb with | agg _ q => exact .agg ds cs h1 h2 fun i d u hd hu => ih i d u hd hu (q i d hd)
 | tup ds cs h1 _ ih => intro hb; cases hb with | tup _ q => exact .tup ds cs h1 fun i d u hd hu => ih i d u hd hu (q i d hd)
 | rsl b o c k es g U h2 h3 h4 h5 h6 _ ih => intro hb; cases hb with | rsl _ _ q => exact .rsl b o c k es g U h2 h3 h4 h5 (fun i j x d hx hd => ⟨(h6 i j x d hx hd).1, hZ _ _ (h6 i j x d hx hd).2.1, (h6 i j x d hx hd).2.2⟩) fun i j x d hx hd => ih i j x d hx hd (q i j x d hx hd)
end
inductive Frz (σ : Sto) (n : Nat) : AV → AV → Prop
 | same (d : AV) : Bel n d → Frz σ n d d
 | sl (es fs : List (List AV)) (tok : Tok) : es.length = fs.length → (∀ (i : Nat) (e f : List AV), es[i]? = some e → fs[i]? = some f → e.length = f.length) →
     (∀ (i j : Nat) (e f : List AV) (d d' : AV), es[i]? = some e → fs[i]? = some f → e[j]? = some d → f[j]? = some d' → Frz σ n d d') → Frz σ n (.sl es tok) (.sl fs .no)
 | asl (id off m k : Nat) (cs : List AV) (T : TypeId) (fs : List (List AV)) (D : Nat → Nat → AV) : σ[id]? = some (.cells cs T) → n ≤ id → fs.length = m → (∀ (i : Nat) (f : List AV), fs[i]? = some f → f.length = k) →
     (∀ (i j : Nat) (f : List AV) (d' : AV), fs[i]? = some f → f[j]? = some d' → cs[off + i * k + j]? = some (D i j)) → (∀ (i j : Nat) (f : List AV) (d' : AV), fs[i]? = some f → f[j]? = some d' → Frz σ n (D i j) d') → Frz σ n (.asl id off m k) (.sl fs .no)
 | agg (ds es : List AV) : ds.length = es.length → (∀ (j : Nat) (d d' : AV), ds[j]? = some d → es[j]? = some d' → Frz σ n d d') → Frz σ n (.agg ds) (.agg es)
 | tup (ds es : List AV) : ds.length = es.length → (∀ (j : Nat) (d d' : AV), ds[j]? = some d → es[j]? = some d' → Frz σ n d d') → Frz σ n (.tup ds) (.tup es)
 | rsl (es fs : List (List AV)) (g : Nat) : es.length = fs.length → (∀ (i : Nat) (e f : List AV), es[i]? = some e → fs[i]? = some f → e.length = f.length) →
     (∀ (i j : Nat) (e f : List AV) (d d' : AV), es[i]? = some e → fs[i]? = some f → e[j]? = some d → f[j]? = some d' → Frz σ n d d') → Frz σ n (.rsl es g) (.rsl fs g)
mutual
theorem RV.bel : ∀ x : RV, Bel 0 x.av
 | .lit v => .lit v
 | .sl es => .sl _ .no trivial fun i j e d he hd => avRR_bel es e (List.mem_of_getElem? he) d (List.mem_of_getElem? hd)
theorem avR_bel : ∀ (l : List RV), ∀ d ∈ avR l, Bel 0 d
 | [], d, h => by simp [avR] at h
 | x :: l, d, h => by
  rw [avR, List.mem_cons] at h
  rcases h with rfl | h
  · exact RV.bel x
  · exact avR_bel l d h
theorem avRR_bel : ∀ (l : List (List RV)), ∀ e ∈ avRR l, ∀ d ∈ e, Bel 0 d
 | [], e, h => by simp [avRR] at h
 | x :: l, e, h => by
  rw [avRR, List.mem_cons] at h
  rcases h with rfl | h
  · exact avR_bel x
  · exact avRR_bel l e h
end
theorem room_bel {g i j : Nat} {e : List AV} {d : AV} (he : (roomRows g)[i]? = some e) (hd : e[j]? = some d) : Bel 0 d := avRR_bel _ e (List.mem_of_getElem? he) d (List.mem_of_getElem? hd)
theorem Bel.up {n m : Nat} (h : n ≤ m) {d : AV} (hd : Bel n d) : Bel m d := by
 induction hd with
 | lit v => exact .lit v
 | ptr id off hl => exact .ptr id off (by omega)
 | eptr row off _ ih => exact .eptr row off ih
 | sl es tok ht _ ih => exact .sl es tok (by cases tok <;> first | trivial | (have : _ < n := ht; exact Nat.lt_of_lt_of_le this h)) ih
 | asl id off m k hl => exact .asl id off m k (by omega)
 | mp id hl => exact .mp id (by omega)
 | fn f a b _ _ ih1 ih2 => exact .fn f a b ih1 ih2
 | ifc t d _ ih => exact .ifc t d ih
 | agg ds _ ih => exact .agg ds ih
 | tup ds _ ih => exact .tup ds ih
 | rsl es g _ ih => exact .rsl es g ih
theorem Frz.one {σ : Sto} {n : Nat} {d d' : AV} (h : Frz σ n d d') (h1 : d.one = true) : d'.one = true := by
 cases h with
 | same => exact h1
 | sl => rfl
 | asl => rfl
 | agg => simp [AV.one] at h1
 | tup => simp [AV.one] at h1
 | rsl => rfl
theorem list_at {α β : Type} {l : List α} {m : List β} {j : Nat} {b : β} (hl : l.length = m.length) (h : m[j]? = some b) : ∃ a, l[j]? = some a := by
 have : j < l.length := by rw [hl]; exact (List.getElem?_eq_some_iff.1 h).1
 exact ⟨_, List.getElem?_eq_getElem this⟩
theorem Frz.rel {σ : Sto} {ι : List Nat} {Z Z2 : Nat → Nat → Prop} {w : World} {n : Nat} (hM : Match σ ι Z w) (hZ : ∀ b j, Z b j → Z2 b j) (hnew : ∀ (id b j : Nat) (o : AObj), n ≤ id → ι[id]? = some b → σ[id]? = some o → o.live → b < w.heap.size → Z2 b j) {d d' : AV} (h : Frz σ n d d') :
    ∀ {u : Value}, VR ι Z w d u → VR (ι.take n) Z2 w d' u := by
 induction h with
 | same d hb => exact fun hv => hv.cut hZ hb
 | sl es fs tok h1 h2 h3 ih =>
  intro u hv
  cases hv with
  | nils a c tok g1 g2 =>
   obtain rfl : fs = [] := List.eq_nil_of_length_eq_zero (by simpa using h1.symm)
   exact .nils a c .no g1 (.inl rfl)
  | frs t k c b g1 g2 g3 =>
   obtain rfl : fs = [] := List.eq_nil_of_length_eq_zero (by simpa using h1.symm)
   exact .nils _ c .no (fun e => by cases e) (.inl rfl)
  | sl b o n' c k _ tok U g1 g2 g3 g4 g5 g6 g7 g8 =>
   refine .sl b o n' c k fs .no U (by omega) g2 g3 g4 (fun i f hf => ?_) (fun i j f d' hf hd => ?_) trivial fun i j f d' hf hd => ?_
   · obtain ⟨e, he⟩ := list_at h1 hf
     rw [← h2 i e f he hf]; exact g5 i e he
   · obtain ⟨e, he⟩ := list_at h1 hf
     obtain ⟨d, hd2⟩ := list_at (h2 i e f he hf) hd
     obtain ⟨q1, q2, q3⟩ := g6 i j e d he hd2
     exact ⟨(h3 i j e f d d' he hf hd2 hd).one q1, hZ _ _ q2, q3⟩
   · obtain ⟨e, he⟩ := list_at h1 hf
     obtain ⟨d, hd2⟩ := list_at (h2 i e f he hf) hd
     exact ih i j e f d d' he hf hd2 hd (g8 i j e d he hd2)
 | asl id off m k cs T fs D h1 h2 h3 h4 h5 h6 ih =>
  intro u hv
  cases hv with
  | asl _ _ _ _ c b g1 g2 g3 g4 =>
   obtain ⟨arr, a1, a2, a3, a4⟩ := hM.obj id _ b h1 g1
   have hlt : b < w.heap.size := (Array.getElem?_eq_some_iff.1 a1).1
   rcases Nat.eq_zero_or_pos m with h0 | h0
   · subst h0
     obtain rfl : fs = [] := List.eq_nil_of_length_eq_zero h3
     exact .nils _ c .no (fun e => by cases e) (.inl rfl)
   · have cell : ∀ (i j : Nat) (f : List AV) (d' : AV), fs[i]? = some f → f[j]? = some d' → ∃ x, arr[off + i * k + j]? = some x ∧ (D i j).one = true ∧ VR ι Z w (D i j) x := by
      intro i j f d' hf hd
      have hc := h5 i j f d' hf hd
      have hlt2 : off + i * k + j < arr.size := by have := (List.getElem?_eq_some_iff.1 hc).1; omega
      obtain ⟨q1, q2⟩ := a3 _ _ _ hc (Array.getElem?_eq_getElem hlt2)
      exact ⟨_, Array.getElem?_eq_getElem hlt2, q1, q2⟩
     refine .sl b off m c k fs .no (fun i j => (arr[off + i * k + j]?).getD undef) h3 h0 g2 g3 (fun i f hf => h4 i f hf) (fun i j f d' hf hd => ?_) trivial fun i j f d' hf hd => ?_
     · obtain ⟨x, q1, q2, q3⟩ := cell i j f d' hf hd
       refine ⟨(h6 i j f d' hf hd).one q2, hnew id b _ _ h2 g1 h1 trivial hlt, ?_⟩
       rw [q1]
       simp [World.cell?, a1, q1]
     · obtain ⟨x, q1, q2, q3⟩ := cell i j f d' hf hd
       rw [q1]
       exact ih i j f d' hf hd q3
 | agg ds es h1 h2 ih =>
  intro u hv
  cases hv with
  | agg _ cs g1 g2 g3 =>
   refine .agg es cs (by omega) (fun j d' hd => ?_) fun j d' u hd hu => ?_
   · obtain ⟨d, hd2⟩ := list_at h1 hd
     exact (h2 j d d' hd2 hd).one (g2 j d hd2)
   · obtain ⟨d, hd2⟩ := list_at h1 hd
     exact ih j d d' hd2 hd (g3 j d u hd2 hu)
 | tup ds es h1 h2 ih =>
  intro u hv
  cases hv with
  | tup _ cs g1 g3 =>
   refine .tup es cs (by omega) fun j d' u hd hu => ?_
   obtain ⟨d, hd2⟩ := list_at h1 hd
   exact ih j d d' hd2 hd (g3 j d u hd2 hu)
 | rsl es fs g h1 h2 h3 ih =>
  intro u hv
  cases hv with
  | rsl b o c k _ _ U g2 g3 g4 g5 g6 g8 =>
   have hlen : (fs ++ roomRows g).length = (es ++ roomRows g).length := by simp [h1]
   have key : ∀ {i : Nat} {f : List AV}, (fs ++ roomRows g)[i]? = some f → (∃ e, es[i]? = some e ∧ fs[i]? = some f ∧ (es ++ roomRows g)[i]? = some e) ∨ ((es ++ roomRows g)[i]? = some f ∧ (roomRows g)[i - es.length]? = some f) := fun {i f} hf => by
    rcases Nat.lt_or_ge i es.length with hl | hl
    · rw [List.getElem?_append_left (by omega)] at hf
      obtain ⟨e, he⟩ := list_at h1 hf
      exact .inl ⟨e, he, hf, by rw [List.getElem?_append_left hl]; exact he⟩
    · rw [List.getElem?_append_right (by omega), ← h1] at hf
      exact .inr ⟨by rw [List.getElem?_append_right hl]; exact hf, hf⟩
   rw [h1]
   refine .rsl b o c k fs g U (by rw [hlen]; exact g2) (by rw [hlen]; exact g3) g4 (fun i f hf => ?_) (fun i j f d' hf hd => ?_) fun i j f d' hf hd => ?_
   · rcases key hf with ⟨e, he, hf2, hx⟩ | ⟨hx, _⟩
     · rw [← h2 i e f he hf2]; exact g5 i e hx
     · exact g5 i f hx
   · rcases key hf with ⟨e, he, hf2, hx⟩ | ⟨hx, _⟩
     · obtain ⟨d, hd2⟩ := list_at (h2 i e f he hf2) hd
       obtain ⟨q1, q2, q3⟩ := g6 i j e d hx hd2
       exact ⟨(h3 i j e f d d' he hf2 hd2 hd).one q1, hZ _ _ q2, q3⟩
     · obtain ⟨q1, q2, q3⟩ := g6 i j f d' hx hd
       exact ⟨q1, hZ _ _ q2, q3⟩
   · rcases key hf with ⟨e, he, hf2, hx⟩ | ⟨hx, hr⟩
     · obtain ⟨d, hd2⟩ := list_at (h2 i e f he hf2) hd
       exact ih i j e f d d' he hf2 hd2 hd (g8 i j e d hx hd2)
     · exact (g8 i j f d' hx hd).cut hZ (Bel.up (Nat.zero_le n) (room_bel hr hd))
structure Fgt (σ : Sto) (r : ARes) (σ' : Sto) (r2 : ARes) (σ2 : Sto) : Prop where
 res : (∃ v v2, r = .ret v ∧ r2 = .ret v2 ∧ Frz σ' σ.length v v2) ∨ (∃ v v2, r = .pan v ∧ r2 = .pan v2 ∧ Frz σ' σ.length v v2)
 len : σ2.length = σ.length
 same : ∀ id, id < σ.length → σ'[id]? = σ2[id]?
 bel : ∀ (id : Nat) (o : AObj), σ2[id]? = some o → σ[id]? = some o ∨ ((∃ o', σ[id]? = some o' ∧ o'.live) ∧ BelO σ.length o)
theorem ObjM.cut {ι : List Nat} {Z Z2 : Nat → Nat → Prop} {w : World} {b n : Nat} {o : AObj} (hZ : ∀ b j, Z b j → Z2 b j) (hno : o.live → ∀ j, ¬ Z b j → ¬ Z2 b j) (h : ObjM ι Z w b o) (hb : BelO n o) : ObjM (ι.take n) Z2 w b o := by
 cases o with
 | cells cs T =>
  obtain ⟨c, h1, h2, h3, h4⟩ := h
  exact ⟨c, h1, h2, fun j d u hd hu => ⟨(h3 j d u hd hu).1, (h3 j d u hd hu).2.cut hZ (hb j d hd)⟩, fun j => hno trivial j (h4 j)⟩
 | tok m t =>
  obtain ⟨c, h1, h2, h3⟩ := h
  exact ⟨c, h1, h2, fun j hj => hno trivial j (h3 j hj)⟩
 | buf cs T =>
  obtain ⟨c, fz, h1, h0, h2, h3, h4⟩ := h
  exact ⟨c, fz, h1, h0, h2, fun j d u hd hu => ⟨(h3 j d u hd hu).1, (h3 j d u hd hu).2.cut hZ (hb j d hd)⟩, fun j => hno trivial j (h4 j)⟩
 | map q es =>
  obtain ⟨arr, h1, h2, h3, h4⟩ := h
  exact ⟨arr, h1, h2, fun i k v a hi ha => ⟨(h3 i k v a hi ha).1, (h3 i k v a hi ha).2.1, (h3 i k v a hi ha).2.2.1, (h3 i k v a hi ha).2.2.2.cut hZ (hb i k v hi)⟩, fun j => hno trivial j (h4 j)⟩
 | dead => trivial
theorem ObjM.bel {ι : List Nat} {Z : Nat → Nat → Prop} {w : World} {b : Nat} {o : AObj} (h : ObjM ι Z w b o) : BelO ι.length o := by
 cases o with
 | cells cs T =>
  obtain ⟨c, h1, h2, h3, h4⟩ := h
  intro j d hd
  have hl : j < c.size := by have := (List.getElem?_eq_some_iff.1 hd).1; omega
  exact (h3 j d _ hd (Array.getElem?_eq_getElem hl)).2.bel
 | buf cs T =>
  obtain ⟨c, fz, h1, h0, h2, h3, h4⟩ := h
  intro j d hd
  have hl : j < c.size := by have := (List.getElem?_eq_some_iff.1 hd).1; omega
  exact (h3 j d _ hd (Array.getElem?_eq_getElem hl)).2.bel
 | map q es =>
  obtain ⟨arr, h1, h2, h3, h4⟩ := h
  intro j k d hd
  have hl : j < arr.size := by have := (List.getElem?_eq_some_iff.1 hd).1; omega
  exact (h3 j k d _ hd (Array.getElem?_eq_getElem hl)).2.2.2.bel
 | _ => trivial
theorem forget {σ σ' σ2 : Sto} {ι ι' : List Nat} {Z Z' : Nat → Nat → Prop} {w w' : World} {r r2 : ARes} {e : Ending} (hM : Match σ ι Z w) (hE : Evo ι Z w ι' Z' w') (hM' : Match σ' ι' Z' w') (hR : ERel ι' Z' w' r e) (hF : Fgt σ r σ' r2 σ2) :
    ∃ ι2 Z2, Evo ι Z w ι2 Z2 w' ∧ Match σ2 ι2 Z2 w' ∧ ERel ι2 Z2 w' r2 e := by
 have hlen : σ.length ≤ ι'.length := by
  rcases Nat.eq_zero_or_pos σ.length with h0 | h0
  · omega
  · have h1 : σ.length - 1 < σ2.length := by rw [hF.len]; omega
    have h2 := hF.same (σ.length - 1) (by omega)
    rw [List.getElem?_eq_getElem h1] at h2
    have := (List.getElem?_eq_some_iff.1 h2).1
    rw [hM'.len]; omega
 have htake : ι'.take σ.length = ι := by
  apply List.ext_getElem?
  intro i
  rcases Nat.lt_or_ge i σ.length with hi | hi
  · have hi' : i < ι.length := by rw [hM.len]; exact hi
    rw [List.getElem?_take, if_pos hi, List.getElem?_eq_getElem hi']
    exact hE.pre i _ (List.getElem?_eq_getElem hi')
  · rw [List.getElem?_eq_none (by rw [List.length_take]; omega), List.getElem?_eq_none (by rw [hM.len]; exact hi)]
 let Z2 : Nat → Nat → Prop := fun b j => Z' b j ∨ ((∃ (id : Nat) (o : AObj), σ.length ≤ id ∧ ι'[id]? = some b ∧ σ'[id]? = some o ∧ o.live) ∧ b < w'.heap.size)
 have hZ : ∀ b j, Z' b j → Z2 b j := fun b j h => .inl h
 have hE2 : Evo ι Z w ι Z2 w' := {
  pre := fun id b h => h
  img := fun id b h _ => ⟨id, h⟩
  zmono := fun b j h => .inl (hE.zmono b j h)
  zsame := hE.zsame
  csz := hE.csz
  size := hE.size
  keep := hE.keep
  os := hE.os
  tape := hE.tape
  output := hE.output
  znew := fun b j h hb => by
   rcases h with h | ⟨⟨id, o, _, h2, _⟩, _⟩
   · exact hE.znew b j h hb
   · exact .inr (hE.img id b h2 hb) }
 have up : ∀ {id b : Nat}, ι[id]? = some b → id < σ.length ∧ ι'[id]? = some b := fun {id b} h => ⟨by rw [← hM.len]; exact lt_of_get h, hE.pre id b h⟩
 have hrel : ∀ {v v2 : AV} {u : Value}, Frz σ' σ.length v v2 → VR ι' Z' w' v u → VR ι Z2 w' v2 u := fun {v v2 u} hf hv => by
  have := hf.rel (Z2 := Z2) hM' hZ (fun id b j o h1 h2 h3 h4 h5 => .inr ⟨⟨id, o, h1, h2, h3, h4⟩, h5⟩) hv
  rwa [htake] at this
 refine ⟨ι, Z2, hE2, ⟨by rw [hM.len, hF.len], fun id o b ho hb => ?_, fun i j b o p hi hj ho hp lo lp => ?_, fun b j h => ?_, fun g l hg => ?_, fun id b hb => Nat.lt_of_lt_of_le (hM.ilt id b hb) hE.size⟩, ?_⟩
 · obtain ⟨hid, hb'⟩ := up hb
   have ho' : σ'[id]? = some o := by rw [hF.same id hid]; exact ho
   have hob := hM'.obj id o b ho' hb'
   have hbel : BelO σ.length o := by
    rcases hF.bel id o ho with h | ⟨_, h⟩
    · have := (hM.obj id o b h hb).bel
      rwa [hM.len] at this
    · exact h
   have := hob.cut (n := σ.length) (Z2 := Z2) hZ (fun lo j hn => ?_) hbel
   · rwa [htake] at this
   · rintro (h | ⟨⟨id2, o2, q1, q2, q3, q4⟩, _⟩)
     · exact hn h
     · have := hM'.inj id id2 b o o2 hb' q2 ho' q3 lo q4
       omega
 · obtain ⟨h1, h1'⟩ := up hi
   obtain ⟨h2, h2'⟩ := up hj
   exact hM'.inj i j b o p h1' h2' (by rw [hF.same i h1]; exact ho) (by rw [hF.same j h2]; exact hp) lo lp
 · rcases h with h | ⟨_, h⟩
   · exact hM'.zlt b j h
   · exact h
 · obtain ⟨g1, g2, g3⟩ := hM'.glob g l hg
   refine ⟨?_, g2, g3⟩
   have := g1.cut (n := σ.length) hZ (.eptr _ _ fun j d hd => by
    rw [List.getElem?_map, Option.map_eq_some_iff] at hd
    obtain ⟨v, _, rfl⟩ := hd
    exact .lit v)
   rwa [htake] at this
 · rcases hF.res with ⟨v, v2, rfl, rfl, hf⟩ | ⟨v, v2, rfl, rfl, hf⟩
   · obtain ⟨u, rfl, hu⟩ := hR
     exact ⟨u, rfl, hrel hf hu⟩
   · obtain ⟨u, rfl, hu⟩ := hR
     exact ⟨u, rfl, hrel hf hu⟩
end
section
open Go.RowKit
noncomputable def relPrim (S : List AV → Sto → ARes → Sto → Prop) (args : List AV) (σ : Sto) : Option (ARes × Sto) :=
 @dite _ (∃ p : ARes × Sto, S args σ p.1 p.2) (Classical.propDecidable _) (fun h => some h.choose) fun _ => none
theorem relPrim_spec {S : List AV → Sto → ARes → Sto → Prop} {args : List AV} {σ σ' : Sto} {r : ARes} (h : relPrim S args σ = some (r, σ')) : S args σ r σ' := by
 unfold relPrim at h
 split at h
 · rename_i hx
   have := hx.choose_spec
   rw [Option.some.inj h] at this
   exact this
 · cases h
theorem relPrim_eq {S : List AV → Sto → ARes → Sto → Prop} (hS : ∀ args σ r σ' r2 σ2, S args σ r σ' → S args σ r2 σ2 → r = r2 ∧ σ' = σ2) {args : List AV} {σ σ' : Sto} {r : ARes} (h : S args σ r σ') : relPrim S args σ = some (r, σ') := by
 have hx : ∃ p : ARes × Sto, S args σ p.1 p.2 := ⟨(r, σ'), h⟩
 unfold relPrim
 rw [dif_pos hx]
 obtain ⟨h1, h2⟩ := hS _ _ _ _ _ _ hx.choose_spec h
 congr 1
 exact Prod.ext h1 h2
theorem JC.startW {P : Program} {E : Env} {M : List TypeId} {f : FuncId} {fn : Func} {c : Code} {args : List AV} {σ : Sto} {Q : ARes → Sto → Prop} (hf : E.code f = some fn) (hc : fn.body = some c) (hm : E.ms f = M) (hn : args.length ≤ fn.ntmps)
    (h : ∀ tm : List AV, tm.length = fn.ntmps → (∀ (i : Nat) (d : AV), args[i]? = some d → slot tm i = d) → CW P E M c tm σ (bodyW P fn Q)) : JC P E f args σ Q :=
 JC.start hf hc hm hn fun tm hl hs => J.cw (h tm hl hs)
theorem Fgt.pure {σ σ' : Sto} {v v2 : AV} (hx : Ext σ σ') (hf : Frz σ' σ.length v v2) : Fgt σ (.ret v) σ' (.ret v2) σ := by
 obtain ⟨g, rfl⟩ := hx
 exact ⟨.inl ⟨v, v2, rfl, rfl, hf⟩, rfl, fun id h => List.getElem?_append_left h, fun id o h => .inl h⟩
theorem Fgt.wrote {σ σ' : Sto} {v v2 : AV} {id : Nat} {o o' : AObj} (hx : Ext (σ.set id o) σ') (hid : σ[id]? = some o') (hl : o'.live) (hb : BelO σ.length o) (hf : Frz σ' σ.length v v2) : Fgt σ (.ret v) σ' (.ret v2) (σ.set id o) := by
 obtain ⟨g, rfl⟩ := hx
 refine ⟨.inl ⟨v, v2, rfl, rfl, hf⟩, by simp, fun i h => List.getElem?_append_left (by simpa using h), fun i p h => ?_⟩
 by_cases e : id = i
 · subst e
   rw [List.getElem?_set_self (List.getElem?_eq_some_iff.1 hid).1] at h
   cases h
   exact .inr ⟨⟨o', hid, hl⟩, hb⟩
 · rw [List.getElem?_set_ne e] at h
   exact .inl h
def still : AV → Prop := Bel 0
theorem Bel.mono {n m : Nat} (h : n ≤ m) {d : AV} (hd : Bel n d) : Bel m d := by
 induction hd with
 | lit v => exact .lit v
 | ptr id off hl => exact .ptr id off (by omega)
 | eptr row off _ ih => exact .eptr row off ih
 | sl es tok ht _ ih => exact .sl es tok (by cases tok <;> first | trivial | (have : _ < n := ht; exact Nat.lt_of_lt_of_le this h)) ih
 | asl id off m k hl => exact .asl id off m k (by omega)
 | mp id hl => exact .mp id (by omega)
 | fn f a b _ _ ih1 ih2 => exact .fn f a b ih1 ih2
 | ifc t d _ ih => exact .ifc t d ih
 | agg ds _ ih => exact .agg ds ih
 | tup ds _ ih => exact .tup ds ih
 | rsl es g _ ih => exact .rsl es g ih
theorem Frz.still {σ : Sto} {n : Nat} {d : AV} (h : Go.Proofs.YtmmgjaheffbpaaaGreatDoor.still d) : Frz σ n d d := .same d (Bel.mono (Nat.zero_le n) h)
theorem still_lit (v : Value) : still (.lit v) := .lit v
theorem still_rows {es : List (List AV)} (h : ∀ e ∈ es, ∀ d ∈ e, still d) : still (.sl es .no) := .sl es .no trivial fun i j e d he hd => h e (List.mem_of_getElem? he) d (List.mem_of_getElem? hd)
theorem still_agg {ds : List AV} (h : ∀ d ∈ ds, still d) : still (.agg ds) := .agg ds fun j d hd => h d (List.mem_of_getElem? hd)
theorem still_tup {ds : List AV} (h : ∀ d ∈ ds, still d) : still (.tup ds) := .tup ds fun j d hd => h d (List.mem_of_getElem? hd)
theorem Frz.rows {σ : Sto} {n : Nat} {es : List (List AV)} {tok : Tok} (h : ∀ e ∈ es, ∀ d ∈ e, Go.Proofs.YtmmgjaheffbpaaaGreatDoor.still d) : Frz σ n (.sl es tok) (.sl es .no) :=
 .sl es es tok rfl (fun i e f he hf => by rw [he] at hf; cases hf; rfl) fun i j e f d d' he hf hd hd' => by
  rw [he] at hf; cases hf
  rw [hd] at hd'; cases hd'
  exact Frz.still (h e (List.mem_of_getElem? he) d (List.mem_of_getElem? hd))
end
end Go.Proofs.YtmmgjaheffbpaaaGreatDoor
