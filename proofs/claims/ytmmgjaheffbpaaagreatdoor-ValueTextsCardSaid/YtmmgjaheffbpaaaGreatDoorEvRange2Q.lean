/-
 EV: A RANGE OVER A FUNCTION, ROUND BY ROUND: a round's code; the loop's record; the statement.
-/
import Derived.Test.YtmmgjaheffbpaaaGreatDoorEvXQ
import Derived.LoopNIn
import Derived.Test.YtmmgjaheffbpaaaGreatDoorEvJQ
import Derived.Recover
namespace Go.Proofs.YtmmgjaheffbpaaaGreatDoor
set_option linter.unusedSimpArgs false
set_option linter.unusedVariables false
set_option linter.unusedSectionVars false
section
open Go.RowKit
def FenceW (ro : Option Nat) : Fence := { Fence.wide with round := ro }
theorem callsIn_w {ro : Option Nat} {n : Nat} {P : Program} {f : FuncId} {args : Array Value} {w : World} {R : Ending → World → Prop} (h : Calls P f args w R) : CallsIn (FenceW ro) n P f args w R :=
 (callsIn_wide (n := n)).2 h
theorem rowsIn_w {ro : Option Nat} {n : Nat} {P : Program} {row : String} {args : Array Value} {w : World} {R : Value → World → Prop} (h : Rows P row args w R) : RowsIn (FenceW ro) n P row args w R := by
 intro c cs _
 obtain ⟨v, w', r, s⟩ := h c cs
 exact ⟨v, w', r, (StepsIn.of_steps s).mono fun m _ => fenced_wide P m⟩
def noDefer (o : Oper) : Bool := match o.op with | .defer _ => false | _ => true
theorem noDefer_of {o : Oper} (h : noDefer o = true) : ∀ c, o.op ≠ .defer c := by
 intro c e
 unfold noDefer at h
 rw [e] at h
 cases h
theorem opIn_of_wp {ro : Option Nat} {n : Nat} {P : Program} {o : Oper} {a : Act} {w : World} {next : Act → World → Prop} {Q : Exit → Act → World → Prop} (hd : noDefer o = true) (h : o.wp P a w next Q) : o.wpIn (FenceW ro) n P a w next Q := by
 refine ⟨fun _ _ => trivial, ?_⟩
 rw [show (FenceW ro).round = ro from rfl, Oper.semAt_eq _ _ _ (noDefer_of hd)]
 unfold Oper.wp at h
 generalize (execOp a.eval o).run P w = r at h
 cases r with
 | ok x w' =>
  cases x with
  | value v => exact h
  | skip => exact h
  | defer d => exact h
  | enter f args => exact ⟨fun h => by simp [FenceW, Fence.wide] at h, callsIn_w h⟩
  | row row args => exact ⟨fun h => by simp [FenceW, Fence.wide] at h, rowsIn_w h⟩
  | _ => exact h.elim
 | halt x w' => cases x <;> first | exact h | exact h.elim
theorem opsIn_of_wp {ro : Option Nat} {n : Nat} {P : Program} {ops : Array Oper} {K : Exit → Act → World → Prop} (hK : ∀ a w, ¬ K .outgrown a w) (hd : ∀ (i : Nat) (o : Oper), ops[i]? = some o → noDefer o = true) : ∀ (l : List Nat) (a : Act) (w : World), wpOps P ops K l a w → wpOpsIn (FenceW ro) n P ops K l a w
 | [], a, w, h => h
 | i :: rest, a, w, h => by
  rw [wpOps] at h
  rw [wpOpsIn]
  cases ho : ops[i]? with
  | none => rw [ho] at h; exact opsIn_of_wp hK hd rest a w h
  | some o =>
   rw [ho] at h
   dsimp only at h ⊢
   split at h
   · rename_i hw
     rw [if_pos hw]
     rcases h with h | ⟨_, a0, w0, h⟩
     · exact opIn_of_wp (hd i o ho) (Oper.wp_mono (fun a w h => opsIn_of_wp hK hd rest a w h) h)
     · exact (hK _ _ h).elim
   · rename_i hw
     rw [if_neg hw]
     exact ⟨fun _ _ => trivial, opsIn_of_wp hK hd rest _ w h⟩
def RJ (P : Program) (E : Env) (M : List TypeId) : Code → List AV → Sto → (List AV → Sto → Prop) → Prop
 | .skip, tm, σ, Q => Q tm σ
 | .seq a b, tm, σ, Q => RJ P E M a tm σ fun tm σ => RJ P E M b tm σ Q
 | .region _ ops false, tm, σ, Q => ops.all noDefer = true ∧ LJ P E M ops ops.toList tm σ fun x tm σ => x = .normal ∧ Q tm σ
 | .block _ a, tm, σ, Q => RJ P E M a tm σ Q
 | _, _, _, _ => False
section
variable {P : Program} {E : Env} {M : List TypeId}
theorem RJ.sound (hm : P.follows .mixedOrders = true) (hE : EnvOk P E) {ro : Option Nat} {n : Nat} : ∀ (c : Code) {tm : List AV} {σ : Sto} {Q : List AV → Sto → Prop} {ι : List Nat} {Z : Nat → Nat → Prop} {w : World} {a : Act}, RJ P E M c tm σ Q → Match σ ι Z w → FR ι Z w tm a.tmps →
    ∀ K : Act → World → Prop, (∀ tm' σ' ι' Z' w' a', Q tm' σ' → After ι Z w a tm' σ' ι' Z' w' a' → K a' w') → c.wpIn (FenceW ro) n P (fun e a w => e = .normal ∧ K a w) a w := by
 intro c
 induction c with
 | skip => exact fun h hM hF K hK => wpIn_skip ⟨rfl, hK _ _ _ _ _ _ h ⟨.refl _ _ _, hM, hF, rfl⟩⟩
 | seq x y ihx ihy =>
  intro tm σ Q ι Z w a h hM hF K hK
  refine wpIn_seq (wpIn_mono (ihx h hM hF (fun a' w' => y.wpIn (FenceW ro) n P (fun e a w => e = .normal ∧ K a w) a' w') ?_) ?_)
  · intro tm' σ' ι' Z' w' a' hq ha
    exact ihy hq ha.2.1 ha.2.2.1 K fun tm2 σ2 ι2 Z2 w2 a2 hq2 ha2 => hK _ _ _ _ _ _ hq2 ⟨ha.1.trans ha2.1, ha2.2.1, ha2.2.2.1, ha2.2.2.2.trans ha.2.2.2⟩
  · rintro e a' w' ⟨rfl, h⟩
    exact h
 | region id ops dr =>
  intro tm σ Q ι Z w a h hM hF K hK
  cases dr with
  | true => exact h.elim
  | false =>
   obtain ⟨hd, h⟩ := h
   have ht := J.tells hm hE (LJ.toJ _ _ _ _ h) 0 (fun j o hj => by rw [Nat.zero_add]; simpa using hj) ι Z w a hM hF (fun e a w => e = .normal ∧ K a w) fun x tm' σ' e a' w' hq hx => by
    obtain ⟨rfl, hq⟩ := hq
    obtain ⟨ι', Z', ha, hxr⟩ := hx
    cases hxr
    exact ⟨rfl, hK _ _ _ _ _ _ hq ha⟩
   refine wpIn_region ?_
   rw [List.range_eq_range']
   refine opsIn_of_wp (fun a w h => by cases h.1) (fun i o ho => ?_) _ _ _ (by simpa using ht)
   rw [Array.all_eq_true_iff_forall_mem] at hd
   exact hd o (Array.mem_of_getElem? ho)
 | block id x ih =>
  intro tm σ Q ι Z w a h hM hF K hK
  refine wpIn_block (wpIn_mono (ih h hM hF K hK) ?_)
  rintro e a' w' ⟨rfl, h⟩
  exact ⟨rfl, h⟩
 | _ => exact fun h => h.elim
end
structure Rec (L : Nat) (r : Loop) (ι : List Nat) (Z : Nat → Nat → Prop) (w : World) : Prop where
 obj : w.heap[L]? = some (.loop r)
 no : ∀ id : Nat, ι[id]? ≠ some L
 noz : ∀ j, ¬ Z L j
theorem Rec.go {L : Nat} {r : Loop} {ι ι' : List Nat} {Z Z' : Nat → Nat → Prop} {w w' : World} (h : Rec L r ι Z w) (e : Evo ι Z w ι' Z' w') : Rec L r ι' Z' w' := by
 have hD := (Array.getElem?_eq_some_iff.1 h.obj).1
 refine ⟨(e.keep L hD h.no).trans h.obj, fun id hid => ?_, fun j hj => ?_⟩
 · obtain ⟨i, hi⟩ := e.img id L hid hD
   exact h.no i hi
 · rcases e.znew L j hj hD with hz | ⟨id, hid⟩
   · exact h.noz j hz
   · exact h.no id hid
theorem Evo.around {ι ι' : List Nat} {Z Z' : Nat → Nat → Prop} {w w3 : World} {k : Nat} {o x : Obj} (hk : w.heap[k]? = some o) (ho : noCells o = true) (hx : noCells x = true) (hz : ∀ j, ¬ Z k j) (hz' : ∀ j, ¬ Z' k j) (e : Evo ι Z (w.putObj k x) ι' Z' w3) (h3 : w3.heap[k]? = some x) : Evo ι Z w ι' Z' (w3.putObj k o) := by
 have hlt : k < w.heap.size := (Array.getElem?_eq_some_iff.1 hk).1
 have hs : (w.putObj k x).heap.size = w.heap.size := putObj_size
 have e1 := turned_W (ι := ι) hk ho hx hz
 have e2 := turned_W (ι := ι') h3 hx ho hz'
 have hlt3 : k < w3.heap.size := (Array.getElem?_eq_some_iff.1 h3).1
 refine ⟨e.pre, fun id b h hb => e.img id b h (by rw [hs]; exact hb), e.zmono, fun b j h => (e2.zsame b j (e.zmono b j h)).trans ((e.zsame b j h).trans (e1.zsame b j h)), fun b hb => ?_, ?_, fun b hb hn => ?_, e.os, e.tape, e.output, fun b j h hb => e.znew b j h (by rw [hs]; exact hb), fun id b h => ?_⟩
 · have h1 := e1.csz b hb
   have h2 := e.csz b (by rw [hs]; exact hb)
   have h4 := e2.csz b (by have := e.size; rw [hs] at this; omega)
   omega
 · have := e.size
   rw [hs] at this
   rw [putObj_size]
   exact this
 · by_cases hb2 : b = k
   · subst hb2
     rw [World.putObj_heap_same hlt3, hk]
   · rw [putObj_other hb2, e.keep b (by rw [hs]; exact hb) hn, putObj_other hb2]
 · have := e.inew id b h
   rw [putObj_size]
   exact this
theorem FR.set2 {ι : List Nat} {Z : Nat → Nat → Prop} {w : World} {tm : List AV} {tmps : Array Value} {p : Tmp} {d : AV} {u : Value} (h : FR ι Z w tm tmps) (hv : VR ι Z w d u) : FR ι Z w (tm.set p d) (tmps.setIfInBounds p u) :=
 FR.put (a := { tmps, defers := [] }) h (some p) hv
section
variable {P : Program} {E : Env} {M : List TypeId}
theorem round_in (hm : P.follows .mixedOrders = true) (hE : EnvOk P E) {σ : Sto} {ι : List Nat} {Z : Nat → Nat → Prop} {w : World} (hM : Match σ ι Z w) {tmo : List AV} {r : Loop} {L : Nat} (hr : Rec L r ι Z w) (hst : r.state = .ready) (hpe : r.pending = none) (hF : FR ι Z w tmo r.tmps)
    {p0 p1 : Tmp} (hps : r.params = #[p0, p1]) {d0 d1 : AV} {u0 u1 : Value} (h0 : VR ι Z w d0 u0) (h1 : VR ι Z w d1 u1) {Q : Sto → Prop} (hq : RJ P E M r.assign ((tmo.set p0 d0).set p1 d1) σ fun tm1 σ1 => RJ P E M r.body tm1 σ1 fun _ σ2 => Q σ2) (n : Nat) :
    RoundIn Fence.wide n P L r.fn ((r.params.zip #[u0, u1]).foldl (fun t (p, v) => t.setIfInBounds p v) r.tmps) r.assign r.body w fun e w' => e = .returned (.bool true) ∧ ∃ σ' ι' Z', Q σ' ∧ Evo ι Z w ι' Z' w' ∧ Match σ' ι' Z' w' := by
 have hf : (r.params.zip #[u0, u1]).foldl (fun t (p, v) => t.setIfInBounds p v) r.tmps = (r.tmps.setIfInBounds p0 u0).setIfInBounds p1 u1 := by rw [hps]; simp
 rw [hf]
 refine roundIn_of_wpIn trivial ?_
 refine wpIn_mono (F := FenceW (some L)) (RJ.sound (ro := some L) hm hE r.assign hq hM ((hF.set2 h0).set2 h1) (fun a1 w1 => ∃ w2, (Instr.beginRound L).run P w1 = .ok () w2 ∧ r.body.wpIn (FenceW (some L)) n P (roundPost P L fun e w' => e = .returned (.bool true) ∧ ∃ σ' ι' Z', Q σ' ∧ Evo ι Z w ι' Z' w' ∧ Match σ' ι' Z' w') a1 w2) ?_) ?_
 · intro tm1 σ1 ι1 Z1 w1 a1 hq1 ha
   have hr1 := hr.go ha.1
   refine ⟨_, run_beginRound hr1.obj hst, ?_⟩
   have m1 := ha.2.1.turned hr1.obj rfl (show noCells (.loop { r with state := .busy }) = true from rfl) hr1.no hr1.noz
   have f1 : FR ι1 Z1 (w1.putObj L (.loop { r with state := .busy })) tm1 a1.tmps := ⟨ha.2.2.1.1, fun i d u hd hu => (ha.2.2.1.2 i d u hd hu).evoW (turned_W hr1.obj rfl rfl hr1.noz)⟩
   have hlt := (Array.getElem?_eq_some_iff.1 hr1.obj).1
   have hb1 : Rec L { r with state := .busy } ι1 Z1 (w1.putObj L (.loop { r with state := .busy })) := ⟨World.putObj_heap_same hlt, hr1.no, hr1.noz⟩
   refine wpIn_mono (F := FenceW (some L)) (RJ.sound (ro := some L) hm hE r.body hq1 m1 f1 (fun a2 w2 => ∃ σ' ι' Z', Q σ' ∧ Evo ι1 Z1 (w1.putObj L (.loop { r with state := .busy })) ι' Z' w2 ∧ Match σ' ι' Z' w2) ?_) ?_
   · intro tm2 σ2 ι2 Z2 w2 a2 hq2 ha2
     exact ⟨σ2, ι2, Z2, hq2, ha2.1, ha2.2.1⟩
   · rintro e a2 w2 ⟨rfl, σ2, ι2, Z2, hq2, e2, m2⟩
     have hr2 := hb1.go e2
     have he := run_endRound (P := P) none hr2.obj
     have hrr : ({ { r with state := .busy } with state := if (none : Option Code).isNone then .ready else .done, pending := none } : Loop) = r := by
      cases r; simp only at hst hpe; subst hst; subst hpe; rfl
     rw [hrr] at he
     exact ⟨_, _, he, rfl, σ2, ι2, Z2, hq2, ha.1.trans (Evo.around hr1.obj rfl rfl hr1.noz hr2.noz e2 hr2.obj), m2.turned hr2.obj rfl rfl hr2.no hr2.noz⟩
 · rintro e a1 w1 ⟨rfl, h⟩
   exact h
theorem opsIn_val {ro : Option Nat} {n : Nat} {ops : Array Oper} {K : Exit → Act → World → Prop} {i : Nat} {rest : List Nat} {o : Oper} {tm : List AV} {σ σ' : Sto} {v : AV} {acc : Acc} {ι : List Nat} {Z : Nat → Nat → Prop} {w : World} {a : Act} (ho : ops[i]? = some o) (hd : noDefer o = true) (hg : o.guard = none)
    (hs : evStep P M (evx tm) σ o = some (.val v σ' acc)) (hM : Match σ ι Z w) (hF : FR ι Z w tm a.tmps) (k : ∀ ι' Z' w' a', After ι Z w a (putA tm o.dst v) σ' ι' Z' w' a' → wpOpsIn (FenceW ro) n P ops K rest a' w') : wpOpsIn (FenceW ro) n P ops K (i :: rest) a w := by
 have hw : ∀ y, Region.wanted o y = true := fun y => by unfold Region.wanted; rw [hg]
 rw [wpOpsIn]
 simp only [ho]
 rw [if_pos (hw _)]
 have hev : evOp P M noCall ops o tm σ = some (.inr (putA tm o.dst v, acc), σ') := by unfold evOp; rw [if_pos (hw _), hs]
 have hno : CallSound P noCall := fun f args σ r σ' h => by cases h
 have := evOp_sound hno hev hM hF (wpOpsIn (FenceW ro) n P ops K rest) K (fun tm1 acc1 hr1 ι' Z' w' a' ha => by cases hr1; exact k ι' Z' w' a' ha) (fun v hr1 => by cases hr1)
 rw [if_pos (hw _)] at this
 exact opIn_of_wp hd this
def LV (P : Program) (M : List TypeId) : List Oper → List AV → Sto → (List AV → Sto → Prop) → Prop
 | [], tm, σ, Q => Q tm σ
 | o :: rest, tm, σ, Q => o.guard = none ∧ noDefer o = true ∧ isVal (evStep P M (evx tm) σ o) = true ∧ LV P M rest (putA tm o.dst (valOf (evStep P M (evx tm) σ o))) (stOf (evStep P M (evx tm) σ o)) Q
theorem LV.sound {ro : Option Nat} {n : Nat} {ops : Array Oper} {K : Exit → Act → World → Prop} {rest : List Nat} : ∀ (l : List Oper) (k : Nat) {tm : List AV} {σ : Sto} {Q : List AV → Sto → Prop} {ι : List Nat} {Z : Nat → Nat → Prop} {w : World} {a : Act}, LV P M l tm σ Q → (∀ (j : Nat) (o : Oper), l[j]? = some o → ops[k + j]? = some o) → Match σ ι Z w → FR ι Z w tm a.tmps →
    (∀ tm' σ' ι' Z' w' a', Q tm' σ' → After ι Z w a tm' σ' ι' Z' w' a' → wpOpsIn (FenceW ro) n P ops K rest a' w') → wpOpsIn (FenceW ro) n P ops K (List.range' k l.length ++ rest) a w
 | [], k, tm, σ, Q, ι, Z, w, a, h, hk, hM, hF, hQ => hQ _ _ _ _ _ _ h ⟨.refl _ _ _, hM, hF, rfl⟩
 | o :: l, k, tm, σ, Q, ι, Z, w, a, h, hk, hM, hF, hQ => by
  obtain ⟨hg, hd, hv, h⟩ := h
  cases hs : evStep P M (evx tm) σ o with
  | none => rw [hs] at hv; cases hv
  | some s =>
   rw [hs] at hv h
   cases s with
   | val v σ1 acc =>
    rw [List.length_cons, List.range'_succ, List.cons_append]
    refine opsIn_val (by simpa using hk 0 o rfl) hd hg hs hM hF fun ι' Z' w' a' ha => ?_
    exact LV.sound l (k + 1) h (fun j q hj => by have := hk (j + 1) q (by simpa using hj); rw [show k + 1 + j = k + (j + 1) by omega]; exact this) ha.2.1 ha.2.2.1 fun tm2 σ2 ι2 Z2 w2 a2 hq ha2 => hQ _ _ _ _ _ _ hq ⟨ha.1.trans ha2.1, ha2.2.1, ha2.2.2.1, ha2.2.2.2.trans ha.2.2.2⟩
   | _ => cases hv
theorem LV.first (m : Nat) {ro : Option Nat} {n : Nat} {ops : Array Oper} (hm : m ≤ ops.size) {K : Exit → Act → World → Prop} {rest : List Nat} {tm : List AV} {σ : Sto} {Q : List AV → Sto → Prop} {ι : List Nat} {Z : Nat → Nat → Prop} {w : World} {a : Act} (h : LV P M (ops.toList.take m) tm σ Q) (hM : Match σ ι Z w) (hF : FR ι Z w tm a.tmps)
    (hQ : ∀ tm' σ' ι' Z' w' a', Q tm' σ' → After ι Z w a tm' σ' ι' Z' w' a' → wpOpsIn (FenceW ro) n P ops K rest a' w') : wpOpsIn (FenceW ro) n P ops K (List.range' 0 m ++ rest) a w := by
 have := LV.sound (ro := ro) (n := n) (K := K) (rest := rest) (ops := ops) (ops.toList.take m) 0 h (fun j o hj => by
  rw [List.getElem?_take] at hj
  split at hj
  · rw [Nat.zero_add]; simpa using hj
  · cases hj) hM hF hQ
 have hl : (ops.toList.take m).length = m := by simp; omega
 rw [hl] at this
 exact this
theorem LV.one {ro : Option Nat} {n : Nat} {ops : Array Oper} {K : Exit → Act → World → Prop} {i : Nat} {rest : List Nat} {o : Oper} {tm : List AV} {σ : Sto} {Q : List AV → Sto → Prop} {ι : List Nat} {Z : Nat → Nat → Prop} {w : World} {a : Act} (ho : ops[i]? = some o) (h : LV P M [o] tm σ Q) (hM : Match σ ι Z w) (hF : FR ι Z w tm a.tmps)
    (hQ : ∀ tm' σ' ι' Z' w' a', Q tm' σ' → After ι Z w a tm' σ' ι' Z' w' a' → wpOpsIn (FenceW ro) n P ops K rest a' w') : wpOpsIn (FenceW ro) n P ops K (i :: rest) a w :=
 LV.sound (ro := ro) (n := n) (K := K) (rest := rest) (ops := ops) [o] i h (fun j q hj => by
  cases j with
  | zero => cases hj; exact ho
  | succ j => simp at hj) hM hF hQ
theorem opsIn_yield (hm : P.follows .mixedOrders = true) (hE : EnvOk P E) {n : Nat} {ops : Array Oper} {K : Exit → Act → World → Prop} {i : Nat} {rest : List Nat} {dst : Option Tmp} {f x0 x1 : Operand} {tys : Array TypeId} {ty : TypeId} {po : String} {af : Array Edge} {tm tmo : List AV} {σ : Sto} {ι : List Nat} {Z : Nat → Nat → Prop} {w : World} {a : Act}
    (ho : ops[i]? = some ⟨dst, .call { callee := .value f, args := #[x0, x1], argTypes := tys }, ty, po, af, none⟩) {L : Nat} {r : Loop} {d0 d1 : AV} (hf : evx tm f = some (.fn (.yield L) [] [])) (h0 : evx tm x0 = some d0) (h1 : evx tm x1 = some d1) (hM : Match σ ι Z w) (hF : FR ι Z w tm a.tmps)
    (hr : Rec L r ι Z w) (hst : r.state = .ready) (hpe : r.pending = none) (hFo : FR ι Z w tmo r.tmps) {p0 p1 : Tmp} (hps : r.params = #[p0, p1]) {Q : Sto → Prop} (hq : RJ P E M r.assign ((tmo.set p0 d0).set p1 d1) σ fun tm1 σ1 => RJ P E M r.body tm1 σ1 fun _ σ2 => Q σ2)
    (k : ∀ σ' ι' Z' w' a', Q σ' → After ι Z w a (putA tm dst (.lit (.bool true))) σ' ι' Z' w' a' → wpOpsIn Fence.wide n P ops K rest a' w') : wpOpsIn Fence.wide n P ops K (i :: rest) a w := by
 have hv := evx_rel hM hF f _ hf
 generalize hfe : a.eval f = fv at hv
 cases hv with
 | fn _ _ _ fs cs g1 g2 _ _ =>
 obtain rfl : fs = #[] := Array.eq_empty_of_size_eq_zero (by simpa using g1.symm)
 obtain rfl : cs = #[] := Array.eq_empty_of_size_eq_zero (by simpa using g2.symm)
 have v0 := evx_rel hM hF x0 _ h0
 have v1 := evx_rel hM hF x1 _ h1
 rw [wpOpsIn]
 simp only [ho]
 rw [if_pos (by unfold Region.wanted; rfl)]
 refine ⟨fun _ _ => trivial, ?_⟩
 rw [show Fence.wide.round = none from rfl, Oper.semAt_none]
 have hy := run_yield (P := P) (args := #[a.eval x0, a.eval x1]) hr.obj (by rw [hps]; rfl)
 have he : (execOp a.eval ⟨dst, .call { callee := .value f, args := #[x0, x1], argTypes := tys }, ty, po, af, none⟩).run P w = .ok (.round L r.fn ((r.params.zip #[a.eval x0, a.eval x1]).foldl (fun t (p, v) => t.setIfInBounds p v) r.tmps) r.assign r.body) w := by
  generalize a.eval = ρ at hfe hy
  simp [execOp, resolve, hfe, go_sem, invoke, hy]
 rw [he, Oper.uponIn_round]
 refine ⟨fun h => by simp [Fence.wide] at h, (round_in hm hE hM hr hst hpe hFo hps v0 v1 hq _).mono ?_⟩
 rintro e w' ⟨rfl, σ', ι', Z', hq', e', m'⟩
 exact k σ' ι' Z' w' _ hq' ⟨e', m', (hF.evo e').put dst (.lit _ rfl), Act.put_defers' _ _ _⟩
theorem FR.start {ι : List Nat} {Z : Nat → Nat → Prop} {w : World} {args : List AV} {us : Array Value} (hlen : args.length = us.size) (hargs : ∀ (i : Nat) (d : AV) (u : Value), args[i]? = some d → us[i]? = some u → VR ι Z w d u) (n : Nat) : FR ι Z w (args ++ List.replicate (n - args.length) (.tup [])) (us ++ Array.replicate (n - us.size) undef) := by
 refine ⟨by simp [hlen], fun i d u hd hu => ?_⟩
 rcases Nat.lt_or_ge i args.length with hl | hl
 · rw [List.getElem?_append_left hl] at hd
   rw [Array.getElem?_append_left (by omega)] at hu
   exact hargs i d u hd hu
 · rw [List.getElem?_append_right hl] at hd
   rw [Array.getElem?_append_right (by omega)] at hu
   have h1 := (List.mem_replicate.1 (List.mem_of_getElem? hd)).2
   have h2 : u = undef := (Array.mem_replicate.1 (Array.mem_of_getElem? hu)).2
   subst h1; subst h2
   exact undef_rel
theorem wpIn_cw (hm : P.follows .mixedOrders = true) (hE : EnvOk P E) {n : Nat} {c : Code} {tm : List AV} {σ : Sto} {Q : List AV → Sto → Prop} {ι : List Nat} {Z : Nat → Nat → Prop} {w : World} {a : Act} {K : Act → World → Prop} {Q' : Exit → Act → World → Prop} (h : CW P E M c tm σ fun x tm σ => x = .normal ∧ Q tm σ) (hM : Match σ ι Z w) (hF : FR ι Z w tm a.tmps)
    (hK : ∀ tm' σ' ι' Z' w' a', Q tm' σ' → After ι Z w a tm' σ' ι' Z' w' a' → K a' w') : c.wpIn Fence.wide n P (Exit.then K Q') a w :=
 wpIn_wide.2 (J.tells hm hE (J.cw h) ι Z w a hM hF _ fun x tm' σ' e a' w' hq hx => by
  obtain ⟨rfl, hq⟩ := hq
  obtain ⟨ι', Z', ha, hxr⟩ := hx
  cases hxr
  exact hK _ _ _ _ _ _ hq ha)
theorem After.trans {ι ι1 ι2 : List Nat} {Z Z1 Z2 : Nat → Nat → Prop} {w w1 w2 : World} {a a1 a2 : Act} {tm1 tm2 : List AV} {σ1 σ2 : Sto} (ha : After ι Z w a tm1 σ1 ι1 Z1 w1 a1) (hb : After ι1 Z1 w1 a1 tm2 σ2 ι2 Z2 w2 a2) : After ι Z w a tm2 σ2 ι2 Z2 w2 a2 := ⟨ha.1.trans hb.1, hb.2.1, hb.2.2.1, hb.2.2.2.trans ha.2.2.2⟩
theorem wp_range (hm : P.follows .mixedOrders = true) {g : Operand} {ps : Array Tmp} {assign body : Code} {tm cap : List AV} {σ : Sto} {f : FuncId} {R : Sto → Prop} (hg : evx tm g = some (.fn (.func f) [] cap)) (hrun : ∀ args w, (callFunc f args).run P w = .ok (.enter f args) w)
    (hit : ∀ (L : Nat) (r : Loop) (cs : Array Value) (ι : List Nat) (Z : Nat → Nat → Prop) (w : World), r.state = .ready → r.pending = none → r.params = ps → r.assign = assign → r.body = body → FR ι Z w tm r.tmps → Rec L r ι Z w → Match σ ι Z w → cap.length = cs.size → (∀ (i : Nat) (d : AV) (u : Value), cap[i]? = some d → cs[i]? = some u → VR ι Z w d u) →
     CallsIn Fence.wide 0 P f (#[.func (.yield L) #[] #[]] ++ cs) w fun e w' => (∃ v, e = .returned v) ∧ ∃ σ' ι' Z', R σ' ∧ Evo ι Z w ι' Z' w' ∧ Match σ' ι' Z' w')
    {ι0 ι : List Nat} {Z0 Z : Nat → Nat → Prop} {w0 w : World} {a : Act} (hev : Evo ι0 Z0 w0 ι Z w) (hM : Match σ ι Z w) (hF : FR ι Z w tm a.tmps) {K : Exit → Act → World → Prop}
    (hK : ∀ σ' ι' Z' w' D, R σ' → Marked ι0 Z0 w0 D ι' Z' w' → Match σ' ι' Z' w' → FR ι' Z' w' tm a.tmps → K .normal { a with defers := { target := .collected D, args := #[] } :: a.defers } w') :
    (Code.rangeFunc g ps assign body).wp P K a w := by
 refine (wpIn_wide (n := 1)).1 (wpIn_rangeFunc (F := Fence.wide) ?_)
 intro fn hfn
 have hgv := evx_rel hM hF g _ hg
 generalize hv : a.eval g = gv at hgv
 cases hgv with
 | fn _ _ _ fs cs hfs hcs _ hcap =>
 have hfs0 : fs = #[] := by
  have : fs.size = 0 := by simpa using hfs.symm
  exact Array.eq_empty_of_size_eq_zero this
 subst hfs0
 let D := w.heap.size
 let rec' : LoopState → Option Code → Loop := fun st pe => { state := st, pending := pe, fn, tmps := a.tmps, params := ps, assign, body, defers := w.heap.size }
 obtain ⟨e1, m1⟩ := hM.laid (.deferred (some []))
 obtain ⟨e2, m2⟩ := m1.laid (.loop (rec' .ready none))
 let W1 : World := (w.alloc (.deferred (some []))).alloc (.loop (rec' .ready none))
 have hs1 : (w.alloc (.deferred (some []))).heap.size = w.heap.size + 1 := by simp
 have hL1 : W1.heap[w.heap.size + 1]? = some (.loop (rec' .ready none)) := by
  have := World.alloc_heap_new (w.alloc (.deferred (some []))) (.loop (rec' .ready none)); rwa [hs1] at this
 have hD1 : W1.heap[w.heap.size]? = some (.deferred (some [])) := (Below.heap_alloc _ _ _ (by simp)).trans (World.alloc_heap_new w _)
 have e12 := e1.trans e2
 have hlt1 : w.heap.size + 1 < W1.heap.size := (Array.getElem?_eq_some_iff.1 hL1).1
 have hno1 : ∀ id : Nat, ι[id]? ≠ some (w.heap.size + 1) := fun id h => by have := hM.ilt id _ h; omega
 have hno0 : ∀ id : Nat, ι[id]? ≠ some w.heap.size := fun id h => by have := hM.ilt id _ h; omega
 have hz1 : ∀ j, ¬ Z (w.heap.size + 1) j := fun j h => by have := hM.zlt _ j h; omega
 have hz0 : ∀ j, ¬ Z w.heap.size j := fun j h => by have := hM.zlt _ j h; omega
 have hR1 : Rec (w.heap.size + 1) (rec' .ready none) ι Z W1 := ⟨hL1, hno1, hz1⟩
 have hcall := hit (w.heap.size + 1) (rec' .ready none) cs ι Z W1 rfl rfl rfl rfl rfl (hF.evo e12) hR1 m2 hcs (fun i d u hd hu => (hcap i d u hd hu).evo e12)
 refine ⟨w.heap.size + 1, [{ target := .collected w.heap.size, args := #[] }], W1, { target := .fn (.func f) cs, args := #[.func (.yield (w.heap.size + 1)) #[] #[]] }, W1, f, #[.func (.yield (w.heap.size + 1)) #[] #[]] ++ cs, W1, ?_, ?_, fun _ _ => trivial, ?_, fun h => by simp [Fence.wide] at h, ?_⟩
 · exact run_enterLoop_outer fn a.tmps ps assign body
 · simp only [resolve, hv]
   simp [go_sem]
 · have := hrun (#[.func (.yield (w.heap.size + 1)) #[] #[]] ++ cs) W1
   simp [invoke, go_sem, this, W1]
 · refine hcall.mono ?_
   rintro e w' ⟨⟨v, rfl⟩, σ', ι', Z', hR, e3, m3⟩
   have hM1 : Marked ι0 Z0 w0 w.heap.size ι Z W1 := ⟨hev.trans e12, hev.size, hD1, hno0, hz0⟩
   have hM2 := hM1.go e3
   have hR2 := hR1.go e3
   refine ⟨none, _, run_endLoop hR2.obj (by simp [rec']), ?_⟩
   refine hK σ' ι' Z' _ w.heap.size hR ?_ (m3.turned hR2.obj rfl rfl hR2.no hR2.noz) ?_
   · refine ⟨hM2.evo.turned (by have := hev.size; omega) hR2.noz, hev.size, (putObj_other (by omega)).trans hM2.obj, hM2.no, hM2.noz⟩
   · refine ⟨hF.1, fun i d u hd hu => ?_⟩
     exact (((hF.2 i d u hd hu).evo e12).evo e3).evoW (turned_W hR2.obj rfl rfl hR2.noz)
end
end
section
open Go.RowKit
section
variable (P : Program) (fn : Func) (Q : ARes → Sto → Prop) (ι0 : List Nat) (Z0 : Nat → Nat → Prop) (w0 : World)
def EndR (e : Ending) (w' : World) : Prop := ∃ r σ' ι' Z', Q r σ' ∧ Evo ι0 Z0 w0 ι' Z' w' ∧ Match σ' ι' Z' w' ∧ ERel ι' Z' w' r e
def Sem (c : Code) (tm : List AV) (σ : Sto) : Prop := ∀ (ι : List Nat) (Z : Nat → Nat → Prop) (w : World) (a : Act), Evo ι0 Z0 w0 ι Z w → Match σ ι Z w → FR ι Z w tm a.tmps → a.defers = [] → c.wp P (bodyPostM Fence.wide 1 P fn (EndR Q ι0 Z0 w0)) a w
def SemM (c : Code) (tm : List AV) (σ : Sto) : Prop := ∀ (ι : List Nat) (Z : Nat → Nat → Prop) (w : World) (a : Act) (D : Nat), Marked ι0 Z0 w0 D ι Z w → Match σ ι Z w → FR ι Z w tm a.tmps → a.defers = [{ target := .collected D, args := #[] }] → c.wp P (bodyPostM Fence.wide 1 P fn (EndR Q ι0 Z0 w0)) a w
end
section
variable {P : Program} {E : Env} {M : List TypeId} {fn : Func} {Q : ARes → Sto → Prop} {ι0 : List Nat} {Z0 : Nat → Nat → Prop} {w0 : World}
def Go1 (P : Program) (fn : Func) (Q : ARes → Sto → Prop) (N : List AV → Sto → Prop) : AExit → List AV → Sto → Prop
 | .normal, tm, σ => N tm σ
 | .ret, tm, σ => ∃ v, zA P fn tm σ = some v ∧ Q (.ret v) σ
 | _, _, _ => False
theorem Sem.seq (hm : P.follows .mixedOrders = true) (hE : EnvOk P E) {c d : Code} {tm : List AV} {σ : Sto} (h : JD P E M c tm σ (Go1 P fn Q fun tm σ => Sem P fn Q ι0 Z0 w0 d tm σ)) : Sem P fn Q ι0 Z0 w0 (.seq c d) tm σ := by
 intro ι Z w a hev hM hF hd
 refine wp_seq (J.tells hm hE h ι Z w a hM hF _ fun x tm' σ' e a' w' hq hx => ?_)
 obtain ⟨ι', Z', ha, hxr⟩ := hx
 cases x with
 | normal =>
  cases hxr
  exact hq ι' Z' w' a' (hev.trans ha.1) ha.2.1 ha.2.2.1 (ha.2.2.2.trans hd)
 | ret =>
  cases hxr
  obtain ⟨v, hv, hQ⟩ := hq
  obtain ⟨u, g1, g2⟩ := results_rel ha.2.1 ha.2.2.1 hv
  have hd' : a'.defers = [] := ha.2.2.2.trans hd
  show LeavesInM Fence.wide 1 P fn a'.tmps _ a'.defers .returning w'
  rw [hd']
  exact ⟨u, g1, .ret v, σ', ι', Z', hQ, hev.trans ha.1, ha.2.1, u, rfl, g2⟩
 | _ => exact hq.elim
theorem Sem.seqK (hm : P.follows .mixedOrders = true) (hE : EnvOk P E) {c d : Code} {tm : List AV} {σ : Sto} (h : ∀ K : AExit → List AV → Sto → Prop, (∀ tm σ, Sem P fn Q ι0 Z0 w0 d tm σ → K .normal tm σ) → (∀ tm σ v, zA P fn tm σ = some v → Q (.ret v) σ → K .ret tm σ) → JD P E M c tm σ K) : Sem P fn Q ι0 Z0 w0 (.seq c d) tm σ :=
 Sem.seq hm hE (h _ (fun _ _ h => h) fun _ _ v h1 h2 => ⟨v, h1, h2⟩)
theorem Sem.range (hm : P.follows .mixedOrders = true) (hE : EnvOk P E) {id : Nat} {g : Operand} {ps : Array Tmp} {assign body pre rest : Code} {tm : List AV} {σ : Sto}
    (h : JD P E M pre tm σ (Go1 P fn (fun _ _ => False) fun tm σ => ∃ (f : FuncId) (cap : List AV) (R : Sto → Prop), evx tm g = some (.fn (.func f) [] cap) ∧ (∀ args w, (callFunc f args).run P w = .ok (.enter f args) w) ∧
     (∀ (L : Nat) (r : Loop) (cs : Array Value) (ι : List Nat) (Z : Nat → Nat → Prop) (w : World), r.state = .ready → r.pending = none → r.params = ps → r.assign = assign → r.body = body → FR ι Z w tm r.tmps → Rec L r ι Z w → Match σ ι Z w → cap.length = cs.size → (∀ (i : Nat) (d : AV) (u : Value), cap[i]? = some d → cs[i]? = some u → VR ι Z w d u) →
      CallsIn Fence.wide 0 P f (#[.func (.yield L) #[] #[]] ++ cs) w fun e w' => (∃ v, e = .returned v) ∧ ∃ σ' ι' Z', R σ' ∧ Evo ι Z w ι' Z' w' ∧ Match σ' ι' Z' w') ∧
     ∀ σ', R σ' → SemM P fn Q ι0 Z0 w0 rest tm σ')) : Sem P fn Q ι0 Z0 w0 (.seq (.seq pre (.block id (.rangeFunc g ps assign body))) rest) tm σ := by
 intro ι Z w a hev hM hF hd
 refine wp_seq (wp_seq (J.tells hm hE h ι Z w a hM hF _ fun x tm' σ' e a' w' hq hx => ?_))
 obtain ⟨ι', Z', ha, hxr⟩ := hx
 cases x with
 | normal =>
  cases hxr
  obtain ⟨f, cap, R, hg, hrun, hit, hk⟩ := hq
  refine wp_block (wp_range hm hg hrun hit (hev.trans ha.1) ha.2.1 ha.2.2.1 ?_)
  intro σ2 ι2 Z2 w2 D hR hmk m2 f2
  refine hk σ2 hR ι2 Z2 w2 _ D hmk m2 f2 ?_
  show _ :: a'.defers = _
  rw [ha.2.2.2.trans hd]
 | ret => obtain ⟨v, _, hf⟩ := hq; exact hf.elim
 | _ => exact hq.elim
theorem SemM.of (hm : P.follows .mixedOrders = true) (hE : EnvOk P E) {c : Code} {tm : List AV} {σ : Sto} (h : JD P E M c tm σ (Go1 P fn Q fun _ _ => False)) : SemM P fn Q ι0 Z0 w0 c tm σ := by
 intro ι Z w a D hmk hM hF hd
 refine J.tells hm hE h ι Z w a hM hF _ fun x tm' σ' e a' w' hq hx => ?_
 obtain ⟨ι', Z', ha, hxr⟩ := hx
 cases x with
 | normal => exact hq.elim
 | ret =>
  cases hxr
  obtain ⟨v, hv, hQ⟩ := hq
  have h2 := hmk.go ha.1
  have hd' : a'.defers = [{ target := .collected D, args := #[] }] := ha.2.2.2.trans hd
  have m3 := ha.2.1.turned h2.obj rfl (show noCells (.deferred none) = true from rfl) h2.no h2.noz
  have f3 : FR ι' Z' (w'.putObj D (.deferred none)) tm' a'.tmps := ⟨ha.2.2.1.1, fun i d u hd hu => (ha.2.2.1.2 i d u hd hu).evoW (turned_W h2.obj rfl rfl h2.noz)⟩
  obtain ⟨u, g1, g2⟩ := results_rel m3 f3 hv
  show LeavesInM Fence.wide 1 P fn a'.tmps _ a'.defers .returning w'
  rw [hd']
  refine ⟨by simp, .inl ⟨D, _, rfl, run_takeDeferred h2.obj, ?_⟩⟩
  exact ⟨u, g1, .ret v, σ', ι', Z', hQ, h2.evo.turned h2.ge h2.noz, m3, u, rfl, g2⟩
 | _ => exact hq.elim
theorem Sem.call (hE : EnvOk P E) {f : FuncId} {c : Code} {args : List AV} {σ : Sto} (hf : E.code f = some fn) (hc : fn.body = some c)
    (h : ∀ (ι0 : List Nat) (Z0 : Nat → Nat → Prop) (w0 : World), Sem P fn Q ι0 Z0 w0 c (args ++ List.replicate (fn.ntmps - args.length) (.tup [])) σ) : Tells P (.call f args σ Q) := by
 intro ι Z w us hM hl ha
 obtain ⟨hP, hrun⟩ := hE.code f fn hf
 refine ⟨hrun us w, callsIn_wide.1 (callsIn_of_wp_marks (n := 1) hP hc trivial ((wpIn_wide (n := 1)).2 ?_))⟩
 exact h ι Z w ι Z w _ (.refl _ _ _) hM (FR.start hl ha fn.ntmps) rfl
end
theorem prim_sound' {P : Program} {f : FuncId} {S : List AV → Sto → ARes → Sto → Prop} (h : ∀ args σ r σ', S args σ r σ' → Tells P (.call f args σ fun r1 σ1 => Fgt σ r1 σ1 r σ')) :
    CallSound P fun f' args σ => if f' = f then relPrim S args σ else none := by
 intro f' args σ r σ' hr ι Z w us hM hl hargs
 dsimp only at hr
 split at hr
 · rename_i e
   subst e
   have hs := relPrim_spec hr
   obtain ⟨h1, h2⟩ := h _ _ _ _ hs ι Z w us hM hl hargs
   refine ⟨h1, h2.mono fun e w' hx => ?_⟩
   obtain ⟨r1, σ1, ι', Z', hF, hEv, hM', hR⟩ := hx
   exact forget hM hEv hM' hR hF
 · cases hr
end
section
open Go.RowKit
def recV : FrameMode → Value × FrameMode
 | .panicking ({ v, recovered := false, goexit := false } :: older) => (v, .panicking ({ v, recovered := true } :: older))
 | u => (.nilIface, u)
section
variable {P : Program} {E : Env} {Q : ARes → Sto → Prop}
theorem clos_sound (hm : P.follows .mixedOrders = true) (hE : EnvOk P E) {g : FuncId} {gn : Func} {id : Nat} {t5 t2 : Tmp} {y0 y1 : TypeId} {p0 p1 : String} {a0 a1 : Array Edge} {rest : Code} (hf : E.code g = some gn) (ht : t5 < gn.ntmps)
    (hb : gn.body = some (.seq (.region id #[⟨some t5, .call ⟨.builtin .recover, #[], #[]⟩, y0, p0, a0, none⟩, ⟨some t2, .assign (.tmp t5), y1, p1, a1, none⟩] false) rest))
    {args : List AV} {us : Array Value} {σ : Sto} {ι : List Nat} {Z : Nat → Nat → Prop} {w : World} {u : FrameMode} {dv : AV} (hM : Match σ ι Z w) (hl : args.length = us.size) (ha : ∀ (i : Nat) (d : AV) (x : Value), args[i]? = some d → us[i]? = some x → VR ι Z w d x) (hv : VR ι Z w dv (recV u).1)
    (h : JD P E (E.ms g) rest (((args ++ List.replicate (gn.ntmps - args.length) (AV.tup [])).set t5 dv).set t2 dv) σ (bodyW P gn Q)) :
    CallsD P g us u w fun e u' w' => u' = (recV u).2 ∧ ∃ r σ' ι' Z', Q r σ' ∧ Evo ι Z w ι' Z' w' ∧ Match σ' ι' Z' w' ∧ ERel ι' Z' w' r e := by
 obtain ⟨hP, _⟩ := hE.code g gn hf
 refine callsD_of_wpS hP hb fun c₀ cs hu => ?_
 refine wpS_seq (wpS_region ?_)
 show wpOpsS P _ _ [0, 1] _ _ _
 have o0 : (#[⟨some t5, .call ⟨.builtin .recover, #[], #[]⟩, y0, p0, a0, none⟩, ⟨some t2, .assign (.tmp t5), y1, p1, a1, none⟩] : Array Oper)[0]? = some ⟨some t5, .call ⟨.builtin .recover, #[], #[]⟩, y0, p0, a0, none⟩ := rfl
 have o1 : (#[⟨some t5, .call ⟨.builtin .recover, #[], #[]⟩, y0, p0, a0, none⟩, ⟨some t2, .assign (.tmp t5), y1, p1, a1, none⟩] : Array Oper)[1]? = some ⟨some t2, .assign (.tmp t5), y1, p1, a1, none⟩ := rfl
 generalize (#[⟨some t5, .call ⟨.builtin .recover, #[], #[]⟩, y0, p0, a0, none⟩, ⟨some t2, .assign (.tmp t5), y1, p1, a1, none⟩] : Array Oper) = ops at *
 have key : ∀ v cs', (recV u).1 = v → cs' = { c₀ with mode := (recV u).2 } :: cs →
     wpOpsS P ops (Exit.thenS (rest.wpS P (bodyPostS P gn c₀ cs fun e u' w' => u' = (recV u).2 ∧ ∃ r σ' ι' Z', Q r σ' ∧ Evo ι Z w ι' Z' w' ∧ Match σ' ι' Z' w' ∧ ERel ι' Z' w' r e)) (bodyPostS P gn c₀ cs fun e u' w' => u' = (recV u).2 ∧ ∃ r σ' ι' Z', Q r σ' ∧ Evo ι Z w ι' Z' w' ∧ Match σ' ι' Z' w' ∧ ERel ι' Z' w' r e)) [1]
      ((⟨us ++ Array.replicate (gn.ntmps - us.size) undef, []⟩ : Act).put (some t5) v) cs' w := by
  intro v cs' hv1 hcs
  subst hv1 hcs
  simp only [wpOpsS, o1]
  rw [if_pos (by rfl)]
  simp only [execOp, Oper.upon, Sem.run, pure]
  refine wpS_of_wp (J.tells hm hE h ι Z w _ hM ?_ _ ?_)
  · have h0 := FR.start hl ha gn.ntmps
    have hv' : VR ι Z w dv (((⟨us ++ Array.replicate (gn.ntmps - us.size) undef, []⟩ : Act).put (some t5) (recV u).1).eval (.tmp t5)) := by
     simp only [Act.put, Act.eval]
     have hlt : t5 < (us ++ Array.replicate (gn.ntmps - us.size) undef).size := by rw [Array.size_append, Array.size_replicate]; exact Nat.lt_of_lt_of_le ht (by omega)
     rw [show (((us ++ Array.replicate (gn.ntmps - us.size) undef).setIfInBounds t5 (recV u).1).getD t5 undef) = (recV u).1 by rw [Array.getD_eq_getD_getElem?, Array.getElem?_setIfInBounds_self_of_lt hlt]; rfl]
     exact hv
    exact (h0.set2 hv).set2 hv'
  · intro x tm' σ' e a' w' hq hx
    obtain ⟨ι', Z', hA, hxr⟩ := hx
    have hd : a'.defers = [] := hA.2.2.2.trans (by simp [Act.put])
    cases x with
    | normal =>
     cases hxr
     obtain ⟨v, hv, hQ⟩ := hq
     obtain ⟨y, g1, g2⟩ := results_rel hA.2.1 hA.2.2.1 hv
     exact ⟨hd, _, rfl, y, g1, rfl, .ret v, σ', ι', Z', hQ, hA.1, hA.2.1, y, rfl, g2⟩
    | ret =>
     cases hxr
     obtain ⟨v, hv, hQ⟩ := hq
     obtain ⟨y, g1, g2⟩ := results_rel hA.2.1 hA.2.2.1 hv
     exact ⟨hd, _, rfl, y, g1, rfl, .ret v, σ', ι', Z', hQ, hA.1, hA.2.1, y, rfl, g2⟩
    | pan v =>
     obtain ⟨y, rfl, hy⟩ := hxr
     exact ⟨hd, _, rfl, rfl, .pan v, σ', ι', Z', hq, hA.1, hA.2.1, y, rfl, hy⟩
    | exit i => exact hq.elim
 rw [wpOpsS]
 simp only [o0]
 rw [if_pos (by rfl)]
 have hrun : (execOp (Act.eval ⟨us ++ Array.replicate (gn.ntmps - us.size) undef, []⟩) ⟨some t5, .call ⟨.builtin .recover, #[], #[]⟩, y0, p0, a0, none⟩).run P w = .ok .recover w := rfl
 rw [hrun]
 subst hu
 cases hr : recoverD (c₀ :: cs) with
 | some q =>
  obtain ⟨v, cs'⟩ := q
  dsimp only
  refine key v cs' ?_ ?_
  all_goals
   simp only [recoverD] at hr
   split at hr
   · rename_i v' older hmode
     cases hr
     rw [hmode]; rfl
   · cases hr
 | none =>
  dsimp only
  have hrec : recV c₀.mode = (.nilIface, c₀.mode) := by
   simp only [recoverD] at hr
   split at hr
   · cases hr
   · rename_i hno
     unfold recV
     split
     · rename_i v older hmode; exact (hno _ _ hmode).elim
     · rfl
  exact key .nilIface _ (by rw [hrec]) (by rw [hrec])
def AfterD (P : Program) (E : Env) (fn gn : Func) (g : FuncId) (grest : Code) (t5 t2 : Tmp) (capv : List AV) (Q : ARes → Sto → Prop) (x : AExit) (tm : List AV) (σ : Sto) : Prop :=
 ∃ dv, (match x with | .ret => dv = .lit .nilIface | .pan v => dv = v | _ => False) ∧
  JD P E (E.ms g) grest (((capv ++ List.replicate (gn.ntmps - capv.length) (AV.tup [])).set t5 dv).set t2 dv) σ (bodyW P gn fun r σ' => (∃ v0, r = .ret v0) ∧ ∃ v, zA P fn tm σ' = some v ∧ Q (.ret v) σ')
end
end
section
open Go.RowKit
section
variable {P : Program} {M : List TypeId} {σ : Sto} {ρ : Operand → Option AV} {ds : Option Tmp} {ty : TypeId} {po : String} {af : Array Edge} {gu : Option (Nat × Bool)}
end
end
end Go.Proofs.YtmmgjaheffbpaaaGreatDoor
