/-
 EV: REGIONS THAT DRAW, WITH CALLS THAT MAY END IN MORE THAN ONE WAY: the walk of an order, operation by operation, for simp; the orders checked by letters.
-/
import Derived.Test.YteajcnilihgheaaGreatDoorRStM
import Derived.Test.YteajcnilihgheaaGreatDoorEvSimM
namespace Go.Proofs.YteajcnilihgheaaGreatDoor
set_option maxRecDepth 100000
set_option maxHeartbeats 8000000
set_option linter.unusedSimpArgs false
set_option linter.unusedVariables false
section
open Go.RowKit
def pick (l : List Oper) : List Nat → List (Nat × Oper)
 | [] => []
 | i :: p => (i, l.getD i default) :: pick l p
def accL (ids : List Nat) (l : List Acc) (i : Nat) : Acc := (l.getD i .any).ren ids
section
variable (P : Program) (E : Env) (M : List TypeId) (C : Nat → Bool) (A : Nat → Acc) (Kp : List Nat) (Q : AExit → List AV → Sto → Prop)
def DJ : List (Nat × Oper) → List AV → Sto → Prop
 | [], tm, σ => Q .normal tm σ
 | p :: rest, tm, σ =>
  p.2.guard = none ∧ if C p.1 = true then (match evStep P M (evx tm) σ p.2 with
   | some (.enter f args) => JC P E f args σ (retK (fun v σ' => (∀ a ∈ Kp, σ'[a]? = σ[a]?) ∧ DJ rest (putA tm p.2.dst v) σ') (fun _ _ => False))
   | _ => False)
  else (match evStep P M (evx tm) σ p.2 with
   | some (.val v σ' acc) => leA acc (A p.1) ∧ DJ rest (putA tm p.2.dst v) σ'
   | some (.skip σ' acc) => leA acc (A p.1) ∧ DJ rest (putA tm p.2.dst (.tup [])) σ'
   | _ => False)
end
section
variable {P : Program} {E : Env} {M : List TypeId} {C : Nat → Bool} {A : Nat → Acc} {Kp : List Nat} {Q : AExit → List AV → Sto → Prop} {ops : Array Oper}
theorem DJ.run : ∀ (l : List (Nat × Oper)) (tm : List AV) (σ : Sto), (∀ p ∈ l, ops[p.1]? = some p.2) → DJ P E M C A Kp Q l tm σ → RunR P E M ops C A Kp Q (l.map (·.1)) (tm, σ)
 | [], tm, σ, _, h => h
 | p :: rest, tm, σ, ho, h => by
  have hp := ho p (by simp)
  have hr := fun q hq => ho q (List.mem_cons_of_mem _ hq)
  obtain ⟨hg, h⟩ := h
  have hw : ∀ tm, Region.wanted p.2 (yieldedA ops tm) = true := fun tm => by unfold Region.wanted; rw [hg]
  rw [List.map_cons, RunR]
  by_cases hc : C p.1 = true
  · rw [if_pos hc] at h ⊢
    split at h
    · rename_i f args hs
      refine ⟨p.2, f, args, _, hp, hw tm, hs, h, fun v σ' h => h, fun v σ' h => ⟨h.1, DJ.run rest _ _ hr h.2⟩⟩
    · exact h.elim
  · rw [if_neg hc] at h ⊢
    split at h
    · rename_i v σ' acc hs
      exact ⟨acc, _, ops1_mk hp (by unfold evOp; rw [if_pos (hw tm), hs]), h.1, DJ.run rest _ _ hr h.2⟩
    · rename_i σ' acc hs
      exact ⟨acc, _, ops1_mk hp (by unfold evOp; rw [if_pos (hw tm), hs]), h.1, DJ.run rest _ _ hr h.2⟩
    · exact h.elim
variable {i : Nat} {o : Oper} {rest : List (Nat × Oper)} {tm : List AV} {σ : Sto}
theorem DJ_nil : DJ P E M C A Kp Q [] tm σ = Q .normal tm σ := rfl
theorem DJ_val (hc : C i = false) (hg : o.guard = none) (h : isVal (evStep P M (evx tm) σ o) = true) : DJ P E M C A Kp Q ((i, o) :: rest) tm σ = (leA (accOf (evStep P M (evx tm) σ o)) (A i) ∧ DJ P E M C A Kp Q rest (putA tm o.dst (valOf (evStep P M (evx tm) σ o))) (stOf (evStep P M (evx tm) σ o))) := by
 rw [DJ]
 simp only [hg, hc, true_and, Bool.false_eq_true, if_false]
 cases hs : evStep P M (evx tm) σ o with
 | none => rw [hs] at h; cases h
 | some s => rw [hs] at h; cases s <;> first | rfl | cases h
theorem DJ_skip (hc : C i = false) (hg : o.guard = none) (h : isSkip (evStep P M (evx tm) σ o) = true) : DJ P E M C A Kp Q ((i, o) :: rest) tm σ = (leA (accOf (evStep P M (evx tm) σ o)) (A i) ∧ DJ P E M C A Kp Q rest (putA tm o.dst (.tup [])) (stOf (evStep P M (evx tm) σ o))) := by
 rw [DJ]
 simp only [hg, hc, true_and, Bool.false_eq_true, if_false]
 cases hs : evStep P M (evx tm) σ o with
 | none => rw [hs] at h; cases h
 | some s => rw [hs] at h; cases s <;> first | rfl | cases h
theorem DJ_enter (hc : C i = true) (hg : o.guard = none) (h : isEnter (evStep P M (evx tm) σ o) = true) : DJ P E M C A Kp Q ((i, o) :: rest) tm σ = JC P E (fnOf (evStep P M (evx tm) σ o)) (argsOf (evStep P M (evx tm) σ o)) σ (retK (fun v σ' => (∀ a ∈ Kp, σ'[a]? = σ[a]?) ∧ DJ P E M C A Kp Q rest (putA tm o.dst v) σ') (fun _ _ => False)) := by
 rw [DJ]
 simp only [hg, hc, true_and, if_true]
 cases hs : evStep P M (evx tm) σ o with
 | none => rw [hs] at h; cases h
 | some s => rw [hs] at h; cases s <;> first | rfl | cases h
theorem leA_refl {x : Acc} : leA x x = True := by simp [leA]
theorem leA_any {x : Acc} : leA x .any = True := by simp [leA]
def pairsB (f : Nat → Nat → Bool) : List Nat → Bool
 | [] => true
 | k :: r => r.all (f k) && pairsB f r
theorem pairsB_spec {f : Nat → Nat → Bool} : ∀ {L : List Nat}, pairsB f L = true → ∀ k i, Before L k i → f k i = true
 | [], _, k, i, ⟨a, b, e, hk⟩ => by cases a <;> cases e
 | q :: r, h, k, i, ⟨a, b, e, hk⟩ => by
  simp only [pairsB, Bool.and_eq_true, List.all_eq_true] at h
  cases a with
  | nil => cases hk
  | cons y a =>
   simp only [List.cons_append, List.cons.injEq] at e
   obtain ⟨rfl, rfl⟩ := e
   rcases List.mem_cons.1 hk with rfl | hk
   · exact h.1 i (by simp)
   · exact pairsB_spec h.2 k i ⟨a, b, rfl, hk⟩
def quietL (kp : List Nat) : Acc → Bool
 | .pure => true
 | .reads a => kp.contains a
 | _ => false
def okB (ops : Array Oper) (ms : List Nat) (cs : List Nat) (l : List Acc) (kp : List Nat) (sp : Bool) (x y : Nat) (k i : Nat) : Bool :=
 (sp && decide (i = y) && (decide (k = x) || (ms.getD x 0).testBit k)) || (ms.getD i 0).testBit k ||
 (match ops[k]?, ops[i]? with
  | some a, some b => Oper.apart ops a b && !cs.contains k && (if cs.contains i then quietL kp (l.getD k .any) else !clash (l.getD k .any) (l.getD i .any))
  | _, _ => false)
def permB (L : List Nat) (n : Nat) : Bool := (List.range n).all (fun i => L.contains i) && L.all (fun i => decide (i < n)) && pairsB (fun a b => decide (a ≠ b)) L
def drawB1 (ops : Array Oper) (L : List Nat) (cs : List Nat) (l : List Acc) (kp : List Nat) (n : Nat) : Bool :=
 let ms := masks ops.toList []
 edgesOk ops.toList 0 && permB L ops.size && pairsB (okB ops ms cs l kp false 0 0) L && l.all (Acc.under n)
def drawB2 (ops : Array Oper) (L1 L2 : List Nat) (z c : Nat) (cs : List Nat) (l1 l2 : List Acc) (kp : List Nat) (n : Nat) : Bool :=
 let ms := masks ops.toList []
 edgesOk ops.toList 0 && permB L1 ops.size && permB L2 ops.size && decide (cs = [c]) && decide (z ≠ c) && decide (z < ops.size) && decide (c < ops.size) &&
  pairsB (okB ops ms cs l1 kp true z c) L1 && pairsB (okB ops ms cs l2 kp true c z) L2 && l1.all (Acc.under n) && l2.all (Acc.under n)
theorem permB_spec {L : List Nat} {n : Nat} (h : permB L n = true) : L.Nodup ∧ ∀ i, i ∈ L ↔ i < n := by
 simp only [permB, Bool.and_eq_true, List.all_eq_true, List.mem_range, decide_eq_true_eq, List.contains_iff_mem] at h
 obtain ⟨⟨h1, h2⟩, h3⟩ := h
 refine ⟨?_, fun i => ⟨h2 i, h1 i⟩⟩
 clear h1 h2
 induction L with
 | nil => simp
 | cons a r ih =>
  simp only [pairsB, Bool.and_eq_true, List.all_eq_true, decide_eq_true_eq] at h3
  exact List.nodup_cons.2 ⟨fun h => h3.1 a h rfl, ih h3.2⟩
theorem pick_map (l : List Oper) : ∀ L : List Nat, (pick l L).map (·.1) = L
 | [] => rfl
 | i :: p => by rw [pick, List.map_cons, pick_map l p]
theorem pick_mem {l : List Oper} : ∀ {L : List Nat} {p : Nat × Oper}, p ∈ pick l L → p.1 ∈ L ∧ p.2 = l.getD p.1 default
 | [], p, h => by cases h
 | i :: r, p, h => by
  rw [pick] at h
  rcases List.mem_cons.1 h with rfl | h
  · exact ⟨by simp, rfl⟩
  · exact ⟨List.mem_cons_of_mem _ (pick_mem h).1, (pick_mem h).2⟩
theorem okB_spec {cs : List Nat} {ids : List Nat} (hids : ids.Nodup) {l : List Acc} {kp : List Nat} (k9 : l.all (Acc.under ids.length) = true) (sp : Bool) (x y k i : Nat) (h : okB ops (masks ops.toList []) cs l kp sp x y k i = true) :
    (sp = true ∧ i = y ∧ (k = x ∨ ((masks ops.toList []).getD x 0).testBit k = true)) ∨ ((masks ops.toList []).getD i 0).testBit k = true ∨ FreeR ops (fun i => cs.contains i) (accL ids l) (kp.map fun j => ids.getD j 0) k i := by
 have hun : ∀ k, (l.getD k .any).under ids.length = true := fun k => by
  rw [List.getD_eq_getElem?_getD]
  cases hn : l[k]? with
  | none => rfl
  | some a => exact List.all_eq_true.1 k9 a (List.mem_of_getElem? hn)
 simp only [okB, Bool.or_eq_true, Bool.and_eq_true, decide_eq_true_eq] at h
 rcases h with (h | h) | h
 · exact .inl ⟨h.1.1, h.1.2, h.2⟩
 · exact .inr (.inl h)
 · refine .inr (.inr ?_)
   split at h
   · rename_i a b ha hb
     simp only [Bool.and_eq_true, Bool.not_eq_true'] at h
     obtain ⟨⟨g1, g2⟩, g3⟩ := h
     refine ⟨a, b, ha, hb, g1, g2, ?_⟩
     unfold accL
     by_cases hc : cs.contains i = true
     · rw [if_pos hc] at g3 ⊢
       have hu := hun k
       cases hl : l.getD k .any with
       | pure => rfl
       | reads j =>
        rw [hl] at g3
        simp only [quietL, List.contains_iff_mem] at g3
        simp only [Acc.ren, quietA, List.contains_iff_mem, List.mem_map]
        exact ⟨j, g3, rfl⟩
       | _ => rw [hl] at g3; cases g3
     · rw [if_neg hc] at g3 ⊢
       rw [clash_ren hids (hun k) (hun i)]
       simpa using g3
   · cases h
theorem hops_pick {L : List Nat} (hm : ∀ i, i ∈ L ↔ i < ops.size) : ∀ p ∈ pick ops.toList L, ops[p.1]? = some p.2 := fun p hp => by
 obtain ⟨g1, g2⟩ := pick_mem hp
 have hlt := (hm _).1 g1
 rw [g2, List.getD_eq_getElem?_getD, Array.getElem?_eq_getElem hlt, List.getElem?_eq_getElem (by simpa using hlt)]
 simp
theorem unl_all {L : List Nat} (hm : ∀ i, i ∈ L ↔ i < ops.size) : L.filter (unl (Array.replicate ops.size false)) = L := by
 rw [List.filter_eq_self]
 intro i hi
 have := (hm i).1 hi
 simp [unl, Array.getD, this]
theorem perm_len {L : List Nat} (n1 : L.Nodup) (m1 : ∀ i, i ∈ L ↔ i < ops.size) : L.length = ops.size := by
 have p : L.Perm (List.range ops.size) := by
  rw [List.perm_ext_iff_of_nodup n1 List.nodup_range]
  intro i; rw [m1 i, List.mem_range]
 rw [p.length_eq, List.length_range]
theorem closed_none : Closed ops (Array.replicate ops.size false) := fun j q hq hj => by
 have hlt := (Array.getElem?_eq_some_iff.1 hq).1
 simp [Array.getD, hlt] at hj
theorem JD.draw1 {id : Nat} (L : List Nat) (cs : List Nat) (ids : List Nat) (hids : ids.Nodup) (l : List Acc) (kp : List Nat) (hk : drawB1 ops L cs l kp ids.length = true)
    (h1 : DJ P E M (fun i => cs.contains i) (accL ids l) (kp.map fun j => ids.getD j 0) Q (pick ops.toList L) tm σ) : JD P E M (.region id ops true) tm σ Q := by
 simp only [drawB1, Bool.and_eq_true] at hk
 obtain ⟨⟨⟨k1, k2⟩, k3⟩, k4⟩ := hk
 obtain ⟨n1, m1⟩ := permB_spec k2
 have r1 := DJ.run _ _ _ (hops_pick m1) h1
 rw [pick_map] at r1
 refine J.anyRegion ?_
 refine J.drawR (C := fun i => cs.contains i) (A := accL ids l) (Kp := kp.map fun j => ids.getD j 0) k1 n1 m1 (fun _ _ => False) (fun k i hb => ?_) ops.size _ (tm, σ) (by simp) closed_none (fun _ _ h => h.elim) (by rw [unl_all m1, perm_len n1 m1]) (by rw [unl_all m1]; exact r1)
 rcases okB_spec hids k4 _ _ _ _ _ (pairsB_spec k3 k i hb) with h | h
 · cases h.1
 · exact .inr h
theorem JD.draw {id : Nat} (L1 L2 : List Nat) (z c : Nat) (cs : List Nat) (ids : List Nat) (hids : ids.Nodup) (l1 l2 : List Acc) (kp : List Nat) (hk : drawB2 ops L1 L2 z c cs l1 l2 kp ids.length = true)
    (h1 : DJ P E M (fun i => cs.contains i) (accL ids l1) (kp.map fun j => ids.getD j 0) Q (pick ops.toList L1) tm σ) (h2 : DJ P E M (fun i => cs.contains i) (accL ids l2) (kp.map fun j => ids.getD j 0) Q (pick ops.toList L2) tm σ) : JD P E M (.region id ops true) tm σ Q := by
 simp only [drawB2, Bool.and_eq_true, decide_eq_true_eq] at hk
 obtain ⟨⟨⟨⟨⟨⟨⟨⟨⟨⟨k1, k2⟩, k3⟩, k4⟩, k5⟩, k6⟩, k7⟩, k8⟩, k9⟩, k10⟩, k11⟩ := hk
 obtain ⟨n1, m1⟩ := permB_spec k2
 obtain ⟨n2, m2⟩ := permB_spec k3
 have r1 := DJ.run _ _ _ (hops_pick m1) h1
 have r2 := DJ.run _ _ _ (hops_pick m2) h2
 rw [pick_map] at r1 r2
 refine J.anyRegion ?_
 refine J.drawR2 (C := fun i => cs.contains i) (A := accL ids l1) (A2 := accL ids l2) (Kp := kp.map fun j => ids.getD j 0) k1 n1 n2 m1 m2 k6 k7 (fun i hi => ?_) k5 (fun k i hb => ?_) (fun k i hb => ?_) ops.size _ (tm, σ) (by simp) closed_none (by simp [Array.getD, k6]) (by simp [Array.getD, k7]) (by rw [unl_all m1, perm_len n1 m1]) (by rw [unl_all m2, perm_len n2 m2]) (by rw [unl_all m1]; exact r1) (by rw [unl_all m2]; exact r2)
 · rw [k4] at hi; simpa using hi
 · rcases okB_spec hids k10 _ _ _ _ _ (pairsB_spec k8 k i hb) with h | h
   · exact .inl h.2
   · exact .inr h
 · rcases okB_spec hids k11 _ _ _ _ _ (pairsB_spec k9 k i hb) with h | h
   · exact .inl h.2
   · exact .inr h
end
end
section
open Go.RowKit
section
variable {P : Program} {E : Env} {M : List TypeId} {n : Nat} {fr : List (Nat × AV)} {tm : List AV} {σ : Sto} {Q : AExit → List AV → Sto → Prop}
theorem JD.keep (ks : List Nat) {c : Code} (h : ∀ tm, JD P E M c (fm n (sel ks fr) tm) σ Q) : JD P E M c (fm n fr tm) σ Q := by
 rw [fm_sel ks]; exact h _
theorem JD.loopF {α : Type} (F : α → List (Nat × AV)) (S : α → Sto) (G : α → Prop) (μ : α → Nat) {c : Code} (a : α) (h0 : sub (F a) fr) (hs : σ = S a) (hg : G a)
    (round : ∀ a tm, G a → ∀ R : AExit → List AV → Sto → Prop, (∀ tm1 σ1, (∃ a' fr' tm', tm1 = fm n fr' tm' ∧ sub (F a') fr' ∧ σ1 = S a' ∧ G a' ∧ μ a' < μ a) → R .normal tm1 σ1) → (∀ x tm1 σ1, x ≠ .normal → Q x tm1 σ1 → R x tm1 σ1) → JD P E M c (fm n (F a) tm) (S a) R) : JD P E M (.loop c) (fm n fr tm) σ Q := by
 refine JD.loopI (fun k tm σ => ∃ a fr' tm', k = μ a ∧ tm = fm n fr' tm' ∧ sub (F a) fr' ∧ σ = S a ∧ G a) ?_ (μ a) _ _ ⟨a, fr, tm, rfl, rfl, h0, hs, hg⟩
 rintro k tm σ ⟨a, fr', tm', rfl, rfl, h1, rfl, h2⟩
 rw [fm_sub h1]
 refine round a _ h2 _ (fun tm1 σ1 h => ?_) (fun x tm1 σ1 hx h => ?_)
 · obtain ⟨a', fr', tm', e1, e2, e3, e4, e5⟩ := h
   exact ⟨μ a', e5, a', fr', tm', rfl, e1, e2, e3, e4⟩
 · cases x with
   | normal => exact (hx rfl).elim
   | _ => exact h
end
theorem accL_0 {ids : List Nat} {a : Acc} {l : List Acc} : accL ids (a :: l) 0 = a.ren ids := rfl
theorem accL_s {ids : List Nat} {a : Acc} {l : List Acc} {i : Nat} : accL ids (a :: l) (i + 1) = accL ids l i := rfl
theorem ids_0 {a : Nat} {l : List Nat} : (a :: l).getD 0 0 = a := rfl
theorem ids_s {a : Nat} {l : List Nat} {i : Nat} : (a :: l).getD (i + 1) 0 = l.getD i 0 := rfl
theorem ops_0 {a : Oper} {l : List Oper} : (a :: l).getD 0 default = a := rfl
theorem ops_s {a : Oper} {l : List Oper} {i : Nat} : (a :: l).getD (i + 1) default = l.getD i default := rfl
theorem all_nil {P : Nat → Prop} : (∀ a ∈ ([] : List Nat), P a) = True := by simp
theorem all_cons {P : Nat → Prop} {x : Nat} {l : List Nat} : (∀ a ∈ x :: l, P a) = (P x ∧ ∀ a ∈ l, P a) := by simp
set_option linter.defProp false in
def symD := And.intro (And.intro @pick.eq_1 (And.intro @pick.eq_2 (And.intro @ops_0 @ops_s))) (And.intro (And.intro @DJ_nil (And.intro @DJ_val (And.intro @DJ_skip @DJ_enter))) (And.intro (And.intro @accL_0 (And.intro @accL_s (And.intro @ids_0 @ids_s))) (And.intro (And.intro @leA_refl @leA_any) (And.intro @Acc.ren.eq_1 (And.intro @Acc.ren.eq_2 (And.intro @Acc.ren.eq_3 (And.intro @Acc.ren.eq_4 (And.intro @Acc.ren.eq_5 @Acc.ren.eq_8))))))))
set_option linter.defProp false in
def symL := And.intro @LJ_nil (And.intro @LJ_val (And.intro @LJ_skip (And.intro @LJ_enter (And.intro @LJ_guardS @LJ_guardN))))
end
section
open Go.RowKit
variable {S : Sp} {N : Nat}
def prC (p : ByteArray × ByteArray) : List AV := [.lit (.string p.1), .lit (.string p.2)]
def prR (l : Bnd) : List (List AV) := l.map prC
theorem prR_get {l : Bnd} {i : Nat} (h : i < l.length) : (prR l)[i]? = some [.lit (.string l[i].1), .lit (.string l[i].2)] := by simp [prR, prC, h]
theorem St.stack {q : RQ} {u : List ByteArray} {st st' : ByteArray → List ByteArray} {σ σ' : Sto} {bs' : List (Value × AV)} (h : St q u st σ) (hk : ∀ p, p = q.rid ∨ p = q.iid ∨ p = q.nid ∨ (∃ u x y z, σ[q.rid]? = some (.cells [.sl u (.own p), x, y, z] 99)) → σ'[p]? = σ[p]?) (hb : σ'[q.bid]? = some (.map .str bs')) (hB : BS st' bs' σ') (hh : ∀ s, (st' s).length ≤ u.length) : St q u st' σ' := by
 obtain ⟨tok, a⟩ := h.a
 refine ⟨⟨tok, ?_, ?_, ?_, ?_, a.ne⟩, ⟨bs', hb, hB⟩, hh, h.ib, h.nb⟩
 · show σ'[q.rid]? = _
   rw [hk _ (.inl rfl)]; exact a.r
 · rcases a.t with g | ⟨i, e1, e2⟩
   · exact .inl g
   · refine .inr ⟨i, e1, ?_⟩
     have hr := a.r
     dsimp only at hr e1
     rw [e1] at hr
     rw [hk i (.inr (.inr (.inr ⟨_, _, _, _, hr⟩)))]
     exact e2
 · obtain ⟨is, i1, i2⟩ := a.i
   exact ⟨is, by show σ'[q.iid]? = _; rw [hk _ (.inr (.inl rfl))]; exact i1, i2⟩
 · obtain ⟨nx, n1, n2⟩ := a.n
   exact ⟨nx, by show σ'[q.nid]? = _; rw [hk _ (.inr (.inr (.inl rfl)))]; exact n1, n2⟩
theorem St.frB {q : RQ} {u : List ByteArray} {st : ByteArray → List ByteArray} {σ σ' : Sto} {bs bs' : List (Value × AV)} (h : St q u st σ) (hb : σ[q.bid]? = some (.map .str bs)) (hb' : σ'[q.bid]? = some (.map .str bs')) (hl : σ.length ≤ σ'.length) (hk : ∀ p, p < σ.length → p ≠ q.bid → (∀ s n, mapGet (.string s) bs ≠ some (.asl p 0 n 1)) → σ'[p]? = σ[p]?)
    (hr : σ'[q.rid]? = σ[q.rid]?) (hg : ∀ s p n, mapGet (.string s) bs' = some (.asl p 0 n 1) → (∃ s n, mapGet (.string s) bs = some (.asl p 0 n 1)) ∨ σ.length ≤ p) : Fr q nV σ σ' := by
 refine ⟨hl, fun p hp ho _ => hk p hp (fun e => ho (.inr (.inr (.inr (.inl e))))) fun s n e => ho (.inr (.inr (.inr (.inr (.inr ⟨bs, s, n, hb, e⟩))))), fun p hp => ?_⟩
 rcases hp with e | e | e | e | ⟨a, x, y, z, e⟩ | ⟨bs2, s, n, e1, e2⟩
 · exact .inl (.inl e)
 · exact .inl (.inr (.inl e))
 · exact .inl (.inr (.inr (.inl e)))
 · exact .inl (.inr (.inr (.inr (.inl e))))
 · rw [hr] at e; exact .inl (.inr (.inr (.inr (.inr (.inl ⟨a, x, y, z, e⟩)))))
 · rw [hb'] at e1
   cases e1
   rcases hg s p n e2 with ⟨s2, n2, g⟩ | g
   · exact .inl (.inr (.inr (.inr (.inr (.inr ⟨bs, s2, n2, hb, g⟩)))))
   · exact .inr g
theorem St.apart {q : RQ} {u : List ByteArray} {st : ByteArray → List ByteArray} {σ : Sto} {bs : List (Value × AV)} (h : St q u st σ) (hb : σ[q.bid]? = some (.map .str bs)) {p : Nat} (hp : p = q.rid ∨ p = q.iid ∨ p = q.nid ∨ (∃ u x y z, σ[q.rid]? = some (.cells [.sl u (.own p), x, y, z] 99))) : p ≠ q.bid ∧ (∀ s n, mapGet (.string s) bs ≠ some (.asl p 0 n 1)) ∧ p < σ.length := by
 obtain ⟨tok, bs', is, nx, r, t, i1, i2, n1, n2, b1, b2⟩ := h.get
 rw [hb] at b1
 cases b1
 have hn : ∀ (s : ByteArray) (n : Nat) (o : AObj), σ[p]? = some o → (∀ cs, o ≠ .cells cs 9) → mapGet (.string s) bs ≠ some (.asl p 0 n 1) := fun s n o ho hno e => by
  rcases b2.g s with ⟨g, _⟩ | ⟨id, cs, g1, g2, _⟩
  · rw [g] at e; cases e
  · rw [g1] at e
    cases e
    rw [ho] at g2
    cases g2
    exact hno _ rfl
 rcases hp with rfl | rfl | rfl | ⟨_, _, _, _, e⟩
 · exact ⟨fun e => (by rw [e, hb] at r; cases r), fun s n => hn s n _ r (fun cs e => (by cases e)), (List.getElem?_eq_some_iff.1 r).1⟩
 · exact ⟨h.ib, fun s n => hn s n _ i1 (fun cs e => (by cases e)), (List.getElem?_eq_some_iff.1 i1).1⟩
 · exact ⟨h.nb, fun s n => hn s n _ n1 (fun cs e => (by cases e)), (List.getElem?_eq_some_iff.1 n1).1⟩
 · rw [r] at e
   simp only [Option.some.injEq, AObj.cells.injEq, List.cons.injEq, AV.sl.injEq, and_true] at e
   rcases t with ⟨t1, _⟩ | ⟨i, t1, t2⟩
   · rw [t1] at e; cases e.1.2
   · rw [t1] at e
     cases e.1.2
     exact ⟨fun e => (by rw [e, hb] at t2; cases t2), fun s n => hn s n _ t2 (fun cs e => (by cases e)), (List.getElem?_eq_some_iff.1 t2).1⟩
theorem BS.mono {st : ByteArray → List ByteArray} {bs : List (Value × AV)} {σ σ' : Sto} (h : BS st bs σ) (hk : ∀ s id n, mapGet (.string s) bs = some (.asl id 0 n 1) → σ'[id]? = σ[id]?) : BS st bs σ' :=
 ⟨h.k, fun s => by
  rcases h.g s with g | ⟨id, cs, g1, g2, g3⟩
  · exact .inl g
  · exact .inr ⟨id, cs, g1, by rw [hk s id _ g1]; exact g2, g3⟩, h.inj⟩
theorem BS.lt {st : ByteArray → List ByteArray} {bs : List (Value × AV)} {σ : Sto} (h : BS st bs σ) {s : ByteArray} {id n : Nat} (hg : mapGet (.string s) bs = some (.asl id 0 n 1)) : id < σ.length ∧ ∃ cs, σ[id]? = some (.cells cs 9) := by
 rcases h.g s with ⟨g, _⟩ | ⟨id', cs, g1, g2, _⟩
 · rw [g] at hg; cases hg
 · rw [g1] at hg
   cases hg
   exact ⟨(List.getElem?_eq_some_iff.1 g2).1, cs, g2⟩
theorem St.push {q : RQ} {u : List ByteArray} {st : ByteArray → List ByteArray} {σ σ' : Sto} {bs : List (Value × AV)} (h : St q u st σ) (hb : σ[q.bid]? = some (.map .str bs)) (hB : BS st bs σ) (o w : ByteArray) (id' n' : Nat) (hn' : n' = (st o).length + 1) (hid : σ.length ≤ id') (hl : σ.length ≤ σ'.length)
    (hb' : σ'[q.bid]? = some (.map .str (mapPut (.string o) (.asl id' 0 n' 1) bs))) (h1 : σ'[id']? = some (.cells (strC (st o ++ [w])) 9)) (hk : ∀ p, p < σ.length → p ≠ q.bid → (∀ n, mapGet (.string o) bs ≠ some (.asl p 0 n 1)) → σ'[p]? = σ[p]?) (hu : (st o).length + 1 ≤ u.length) :
    St q u (upd st o (st o ++ [w])) σ' ∧ Fr q nV σ σ' := by
 subst hn'
 have hbid : ∀ s id n, mapGet (.string s) bs = some (.asl id 0 n 1) → id ≠ q.bid := fun s id n e f => by
  obtain ⟨_, cs, g⟩ := hB.lt e
  rw [f, hb] at g; cases g
 have hB' := hB.push (σ' := σ') o w id' hid h1 fun x id n hx hg => hk id (hB.lt hg).1 (hbid _ _ _ hg) fun n' e => hx (hB.inj x o id _ _ hg e)
 refine ⟨h.stack (fun p hp => ?_) hb' hB' fun s => ?_, h.frB hb hb' hl (fun p hp h1 h2 => hk p hp h1 (h2 o)) ?_ fun s p n e => ?_⟩
 · obtain ⟨a, b, c⟩ := h.apart hb hp
   exact hk p c a (b o)
 · unfold upd
   split
   · rw [List.length_append]; exact hu
   · exact h.h s
 · obtain ⟨a, b, c⟩ := h.apart hb (.inl rfl)
   exact hk _ c a (b o)
 · rw [mapGet_put hB.k] at e
   by_cases f : s = o
   · rw [if_pos f] at e
     injection e with e
     injection e with e
     exact .inr (by omega)
   · rw [if_neg f] at e
     exact .inl ⟨s, n, e⟩
theorem St.pop {q : RQ} {u : List ByteArray} {st : ByteArray → List ByteArray} {σ : Sto} {bs : List (Value × AV)} (h : St q u st σ) (hb : σ[q.bid]? = some (.map .str bs)) (hB : BS st bs σ) (o r : ByteArray) (l : List ByteArray) (hs : st o = l ++ [r]) :
    ∃ id cs, mapGet (.string o) bs = some (.asl id 0 (l.length + 1) 1) ∧ id ≠ q.bid ∧ σ[id]? = some (.cells cs 9) ∧ l.length + 1 ≤ cs.length ∧ ∀ σ' : Sto, σ.length ≤ σ'.length → (∀ p, p < σ.length → p ≠ q.bid → σ'[p]? = σ[p]?) → σ'[q.bid]? = some (.map .str (mapPut (.string o) (.asl id 0 l.length 1) bs)) → St q u (upd st o l) σ' ∧ Fr q nV σ σ' := by
 obtain ⟨id, e1, e2⟩ := hB.pop o r l hs
 have hbid : ∀ s id n, mapGet (.string s) bs = some (.asl id 0 n 1) → id ≠ q.bid := fun s id n e f => by
  obtain ⟨_, cs, g⟩ := hB.lt e
  rw [f, hb] at g; cases g
 rcases hB.g o with ⟨g, _⟩ | ⟨id', cs, g1, g2, g3⟩
 · rw [g] at e1; cases e1
 rw [g1] at e1
 injection e1 with e1
 injection e1 with e1 _ e3
 subst e1
 have hlen : (st o).length ≤ cs.length := by
  have := congrArg List.length g3
  rw [List.length_take] at this
  simp only [strC, List.length_map] at this
  omega
 refine ⟨id', cs, by rw [g1, e3], hbid _ _ _ g1, g2, by omega, fun σ' hl hk hb' => ⟨h.stack (fun p hp => ?_) hb' (e2.mono fun s id2 n hg => ?_) fun s => ?_, h.frB hb hb' hl (fun p hp h1 _ => hk p hp h1) ?_ fun s p n e => ?_⟩⟩
 · obtain ⟨a, b, c⟩ := h.apart hb hp
   exact hk p c a
 · have hx : ∃ s n, mapGet (.string s) bs = some (.asl id2 0 n 1) := by
    rw [mapGet_put hB.k] at hg
    by_cases f : s = o
    · rw [if_pos f] at hg
      injection hg with hg
      injection hg with hg
      subst hg
      exact ⟨o, _, g1⟩
    · rw [if_neg f] at hg; exact ⟨s, n, hg⟩
   obtain ⟨s2, n2, hx⟩ := hx
   exact hk id2 (hB.lt hx).1 (hbid _ _ _ hx)
 · unfold upd
   split
   · have := h.h o; rw [hs, List.length_append] at this; omega
   · exact h.h s
 · obtain ⟨a, b, c⟩ := h.apart hb (.inl rfl)
   exact hk _ c a
 · rw [mapGet_put hB.k] at e
   by_cases f : s = o
   · rw [if_pos f] at e
     injection e with e
     injection e with e
     subst e
     exact .inl ⟨o, _, g1⟩
   · rw [if_neg f] at e
     exact .inl ⟨s, n, e⟩
end
section
open Go.RowKit
variable {S : Sp} {N : Nat}
theorem within_j (hc : S.code = codeP Tryz.prog) (hs : S.sp 59 = none) (hb : S.base 59 = none) (hm : S.ms 59 = [23]) (q : RQ) (u u' : List ByteArray) (st : ByteArray → List ByteArray) (l : Bnd) (tk : Tok) (tf : FuncId) (tc : List AV) (V : Nat → Prop) (R : Sto → Prop) (σ : Sto)
    (h : St q u st σ) (hl : l.length ≤ 1000000000) (hu : u.length ≤ 1000000000) (hu' : u'.length ≤ 1000000000) (hh : ∀ s, (st s).length + l.length ≤ u.length)
    (hw : ∀ σ1, St q u (pushN st l) σ1 → Fr q nV σ σ1 → JC Tryz.prog (S.E N) tf tc σ1 fun r σ2 => r = .ret (.tup []) ∧ St q u' (pushN st l) σ2 ∧ Fr q V σ1 σ2 ∧ R σ2) :
    JC Tryz.prog (S.E N) 59 [.ptr q.rid 0, .fn (.func tf) [] tc, .sl (prR l) tk] σ fun r σ' => r = .ret (.tup []) ∧ St q u' st σ' ∧ Fr q V σ σ' ∧ ∃ σ2, R σ2 ∧ St q u' (pushN st l) σ2 ∧ Fr q nV σ2 σ' ∧ Fr q V σ σ2 := by
 refine JC.startG (fn := Tryz.f59) (codeOf hc Tryz.func59 rfl (by kernel_rfl)) rfl hm rfl (zL rfl) fun tm => ?_
 refine JD.hide fun R0 hR0 => ?_
 refine JD.seqK fun KL hKL => ?_
 refine JD.seqK fun KM hKM => ?_
 refine J.cw (CW.region ?_)
 simp (maxDischargeDepth := 16) [zY]
 refine hKM _ _ ?_; clear hKM KM
 have hlen : (prR l).length = l.length := by simp [prR]
 refine J.cw (CW.block (CW.hide fun R1 hR1 => ?_))
 refine CW.loopF (fun p : Nat × Sto => [(0, .ptr q.rid 0), (1, .fn (.func tf) [] tc), (2, .sl (prR l) tk), (10, .sl (prR l) tk), (11, intV l.length), (12, intV p.1)]) (fun p => p.2) (fun p => p.1 ≤ l.length ∧ St q u (pushN st (l.take p.1)) p.2 ∧ Fr q nV σ p.2) (fun p => l.length - p.1) (0, σ) (by simp [sub, lk, hlen]) rfl ⟨by simp, by simpa [pushN_nil] using h, .refl _ _ _⟩ ?_
 rintro ⟨i, σ1⟩ tm ⟨hi, h1, hf⟩
 dsimp only at hi h1 hf ⊢
 refine CW.hide fun R2 hR2 => CW.seqK fun K4 hK4 => CW.region ?_
 rcases Nat.lt_or_ge i l.length with hlt | hge
 · simp (maxDischargeDepth := 16) [zY, hlt]
   refine hK4 _ _ ?_
   refine CW.seqK fun K3 hK3 => ?_
   refine CW.cond (t := true) (by simp [zT, zF, lk]) ?_
   refine CW.skip (hK3 _ _ ?_)
   refine CW.seqK fun K5 hK5 => CW.block ?_
   have ha := prR_get hlt
   have hpt := pushN_take st l hlt
   have hpl : (pushN st (l.take i) l[i].1).length + 1 ≤ u.length := by
    have := pushN_len st (l.take i) l[i].1
    have := hh l[i].1
    rw [List.length_take_of_le (Nat.le_of_lt hlt)] at *
    omega
   refine CW.seqK fun K6 hK6 => CW.region ?_
   simp (maxDischargeDepth := 16) [zY, ha]
   refine hK6 _ _ ?_; clear hK6 K6
   generalize hP : σ1.length = P
   generalize l[i].1 = o at hpt hpl
   generalize l[i].2 = w at hpt
   obtain ⟨tok0, bs1, is0, nx0, hr1, tk0, ii1, ii2, nn1, nn2, hb1, hB1⟩ := h1.get
   have fin : ∀ (σ4 : Sto) (fr : List (Nat × AV)) (tm : List AV) (id' n' : Nat), n' = (pushN st (l.take i) o).length + 1 → P ≤ id' → P ≤ σ4.length → σ4[q.bid]? = some (.map .str (mapPut (.string o) (.asl id' 0 n' 1) bs1)) → σ4[id']? = some (.cells (strC (pushN st (l.take i) o ++ [w])) 9) → (∀ p, p < P → p ≠ q.bid → (∀ n, mapGet (.string o) bs1 ≠ some (.asl p 0 n 1)) → σ4[p]? = σ1[p]?) → sub [(0, .ptr q.rid 0), (1, .fn (.func tf) [] tc), (2, .sl (prR l) tk), (10, .sl (prR l) tk), (11, intV l.length), (12, intV i)] fr → K5 (fm 66 fr tm) σ4 := by
    intro σ4 fr tm id' n' e1 e2 e3 e4 e5 e6 hfr
    obtain ⟨g1, g2⟩ := h1.push hb1 hB1 o w id' n' e1 (by omega) (by omega) e4 e5 (by rw [hP]; exact e6) hpl
    rw [fm_sub hfr]
    refine hK5 _ _ ?_
    refine CW.region ?_
    simp (maxDischargeDepth := 16) [zY, wrap_succ (show i ≤ 1000000000000 by omega)]
    exact hR2 _ _ _ ⟨(i + 1, σ4), _, _, rfl, by simp [sub, lk], rfl, ⟨by show i + 1 ≤ l.length; omega, by show St q u (pushN st (l.take (i + 1))) σ4; rw [hpt]; exact g1, hf.trans0 g2⟩, by show l.length - (i + 1) < l.length - i; omega⟩
   clear hK5 hR2 hpt hh hw h hf tk0 nn2 ii2
   have hrl := (List.getElem?_eq_some_iff.1 hr1).1
   have hbl := (List.getElem?_eq_some_iff.1 hb1).1
   have hne : q.rid ≠ q.bid := fun e => by rw [e, hb1] at hr1; cases hr1
   have r2 : (σ1 ++ [AObj.cells [AV.lit (.string o), AV.lit (.string w)] 141])[q.rid]? = some (.cells [.sl (txtR u) tok0, .mp q.iid, .mp q.nid, .mp q.bid] 99) := by rw [List.getElem?_append_left hrl]; exact hr1
   have b2 : (σ1 ++ [AObj.cells [AV.lit (.string o), AV.lit (.string w)] 141])[q.bid]? = some (.map .str bs1) := by rw [List.getElem?_append_left hbl]; exact hb1
   have p2 : (σ1 ++ [AObj.cells [AV.lit (.string o), AV.lit (.string w)] 141])[P]? = some (AObj.cells [AV.lit (.string o), AV.lit (.string w)] 141) := by rw [← hP]; simp
   have l2 : (σ1 ++ [AObj.cells [AV.lit (.string o), AV.lit (.string w)] 141]).length = P + 1 := by simp [hP]
   generalize hσ2 : σ1 ++ [AObj.cells [AV.lit (.string o), AV.lit (.string w)] 141] = σ2 at *
   have k2 : ∀ p, p < P → σ2[p]? = σ1[p]? := fun p hp => by rw [← hσ2, List.getElem?_append_left (by omega)]
   generalize hS1 : pushN st (l.take i) = st1 at *
   rcases hB1.g o with ⟨g1, g2⟩ | ⟨id, cs, g1, g2, g3⟩
   · have hbs := fun tm ds ty po af gu x hx => bs_M (σ := σ2) (w := w) tm ds ty po af gu x hx
     have hap := fun tm ds ty po af gu x y hx hy => app_M0 (σ := σ2 ++ [.cells [.lit (.string w)] 9]) (B := σ2.length) (c := .lit (.string w)) (by simp) tm ds ty po af gu x y hx hy
     have b3 : ((σ2 ++ [.cells [.lit (.string w)] 9]) ++ [.cells [.lit (.string w)] 9])[q.bid]? = some (.map .str bs1) := by rw [List.getElem?_append_left (by simp; omega), List.getElem?_append_left (by omega)]; exact b2
     generalize hσ3 : σ2 ++ [AObj.cells [.lit (.string w)] 9] = σ3 at hbs hap b3
     generalize hσ4 : σ3 ++ [AObj.cells [.lit (.string w)] 9] = σ4 at hap b3
     have l3 : σ3.length = P + 1 + 1 := by rw [← hσ3]; simp [l2]
     refine CW.draw (by kernel_rfl) ?_
     simp (maxDischargeDepth := 16) [zY, r2, b2, p2, lookA, g1, hbs, hap, b3, AV.notTup]
     refine ⟨drawOk_ren [q.rid, q.bid, P, σ2.length, σ3.length] (by rw [l2, l3]; simp; omega) [.pure, .pure, .pure, .reads 0, .pure, .reads 2, .pure, .pure, .pure, .reads 0, .pure, .reads 2, .reads 1, .pure, .reads 2, .news 3, .grows none 4, .writes 1] (by kernel_rfl) (by kernel_rfl), ?_⟩
     have k4 : ∀ p, p < P → σ4[p]? = σ1[p]? := fun p hp => by rw [← hσ4, List.getElem?_append_left (by omega), ← hσ3, List.getElem?_append_left (by omega), k2 p hp]
     have l4 : σ4.length = P + 3 := by rw [← hσ4]; simp; omega
     have n4 : σ4[σ3.length]? = some (.cells [.lit (.string w)] 9) := by rw [← hσ4]; simp
     refine fin _ _ _ σ3.length 1 (by rw [g2]; rfl) (by omega) (by simp; omega) (by rw [List.getElem?_set_self (by omega)]) (by rw [List.getElem?_set_ne (by omega), n4, g2]; rfl) (fun p hp hpb _ => by rw [List.getElem?_set_ne hpb.symm]; exact k4 p hp) (by simp [sub, lk])
   · have lid := (List.getElem?_eq_some_iff.1 g2).1
     have hnl : (st1 o).length ≤ cs.length := by have := congrArg List.length g3; rw [List.length_take] at this; simp only [strC, List.length_map] at this; omega
     have hnb : (st1 o).length ≤ 1000000000 := by omega
     have hib : id ≠ q.bid := fun e => by rw [e, hb1] at g2; cases g2
     have hir : id ≠ q.rid := fun e => by rw [e, hr1] at g2; cases g2
     have hbs := fun tm ds ty po af gu x hx => bs_M (σ := σ2) (w := w) tm ds ty po af gu x hx
     have hap := fun tm ds ty po af gu x y hx hy => app_M1 (σ := σ2 ++ [.cells [.lit (.string w)] 9]) (B := σ2.length) (id := id) (n := (st1 o).length) (c := .lit (.string w)) (cs := cs) (by simp) (by rw [List.getElem?_append_left (by omega), k2 _ (by omega)]; exact g2) hnl hnb (chunks_one _ _ hnl).2 tm ds ty po af gu x y hx hy
     have e5 : (chunks 1 (st1 o).length cs).flatten ++ [AV.lit (.string w)] = strC (st1 o ++ [w]) := by rw [(chunks_one _ _ hnl).1, g3]; simp [strC]
     simp only [e5] at hap
     have b3 : ((σ2 ++ [AObj.cells [.lit (.string w)] 9]).set id AObj.dead ++ [AObj.cells (strC (st1 o ++ [w])) 9])[q.bid]? = some (.map .str bs1) := by rw [List.getElem?_append_left (by simp; omega), List.getElem?_set_ne hib, List.getElem?_append_left (by omega)]; exact b2
     generalize hσ3 : σ2 ++ [AObj.cells [.lit (.string w)] 9] = σ3 at hbs hap b3
     generalize hσ4 : σ3.set id AObj.dead ++ [AObj.cells (strC (st1 o ++ [w])) 9] = σ4 at hap b3
     have l3 : σ3.length = P + 1 + 1 := by rw [← hσ3]; simp [l2]
     refine CW.draw (by kernel_rfl) ?_
     simp (maxDischargeDepth := 16) [zY, r2, b2, p2, lookA, g1, hbs, hap, b3, AV.notTup]
     refine ⟨drawOk_ren [q.rid, q.bid, P, σ2.length, σ3.length, id] (by rw [l2, l3]; simp; omega) [.pure, .pure, .pure, .reads 0, .pure, .reads 2, .pure, .pure, .pure, .reads 0, .pure, .reads 2, .reads 1, .pure, .reads 2, .news 3, .grows (some 5) 4, .writes 1] (by kernel_rfl) (by kernel_rfl), ?_⟩
     have k4 : ∀ p, p < P → p ≠ id → σ4[p]? = σ1[p]? := fun p hp hpi => by rw [← hσ4, List.getElem?_append_left (by simp; omega), List.getElem?_set_ne hpi.symm, ← hσ3, List.getElem?_append_left (by omega), k2 p hp]
     have l4 : σ4.length = P + 3 := by rw [← hσ4]; simp; omega
     have n4 : σ4[σ3.length]? = some (.cells (strC (st1 o ++ [w])) 9) := by rw [← hσ4, List.getElem?_append_right (by simp)]; simp
     refine fin _ _ _ σ3.length ((st1 o).length + 1) rfl (by omega) (by simp; omega) (by rw [List.getElem?_set_self (by omega)]) (by rw [List.getElem?_set_ne (by omega), n4]) (fun p hp hpb hno => by rw [List.getElem?_set_ne hpb.symm]; exact k4 p hp fun e => hno _ (e ▸ g1)) (by simp [sub, lk])
 · simp (maxDischargeDepth := 16) [zY, Nat.not_lt.2 hge]
   refine hK4 _ _ ?_
   refine CW.seqK fun K3 hK3 => ?_
   refine CW.cond (t := false) (by simp [zT, zF, lk]) ?_
   refine CW.exit (hR2 _ _ _ (hR1 _ _ _ ?_))
   simp only [outOf, if_true]
   refine hKL _ _ ?_
   rw [List.take_of_length_le hge] at h1
   refine JD.seqK fun K5 hK5 => JD.region ?_
   simp (maxDischargeDepth := 16) [zY, symL]
   refine (hw σ1 h1 hf).mono ?_
   rintro r σ2 ⟨rfl, h2, hf2, hR⟩
   simp (maxDischargeDepth := 16) [zY, symL]
   refine hK5 _ _ ?_; clear hK5 K5
   refine JD.seqK fun K hK => J.cw (CW.region ?_)
   simp (maxDischargeDepth := 16) [zY, hlen]
   refine hK _ _ ?_; clear hK K
   have hpl := popN_end st l (j := l.length) (Nat.le_refl _)
   refine J.cw (CW.block (CW.hide fun R1 hR1 => ?_))
   refine CW.loopF (fun p : Nat × Sto => [(0, .ptr q.rid 0), (36, .sl (prR l) tk), (37, intV l.length), (38, intV p.1)]) (fun p => p.2) (fun p => p.1 ≤ l.length ∧ St q u' (popN st l p.1) p.2 ∧ Fr q nV σ2 p.2) (fun p => l.length - p.1) (0, σ2) (by simp [sub, lk, hlen]) rfl ⟨by simp, by simpa [popN_zero] using h2, .refl _ _ _⟩ ?_
   rintro ⟨j, σ3⟩ tm ⟨hj, h3, hf3⟩
   dsimp only at hj h3 hf3 ⊢
   refine CW.hide fun R2 hR2 => CW.seqK fun K4 hK4 => CW.region ?_
   rcases Nat.lt_or_ge j l.length with hlt | hge
   · simp (maxDischargeDepth := 16) [zY, hlt]
     refine hK4 _ _ ?_
     refine CW.seqK fun K3 hK3 => ?_
     refine CW.cond (t := true) (by simp [zT, zF, lk]) ?_
     refine CW.skip (hK3 _ _ ?_)
     refine CW.seqK fun K5 hK5 => CW.block ?_
     have ha := prR_get hlt
     obtain ⟨x, hx1, hx2⟩ := popN_step st l hlt
     refine CW.seqK fun K6 hK6 => CW.region ?_
     simp (maxDischargeDepth := 16) [zY, ha]
     refine hK6 _ _ ?_; clear hK6 K6
     generalize hP : σ3.length = P
     generalize l[j].1 = o at hx1 hx2
     generalize l[j].2 = w
     obtain ⟨tok0, bs1, is0, nx0, hr1, tk0, ii1, ii2, nn1, nn2, hb1, hB1⟩ := h3.get
     obtain ⟨id, cs, e1, e2, e3, e4, e5⟩ := h3.pop hb1 hB1 o x _ hx1
     rw [← hx2] at e5
     have hpu : (popN st l (j + 1) o).length + 1 ≤ u'.length := by have := h3.h o; rw [hx1, List.length_append] at this; exact this
     generalize hn : (popN st l (j + 1) o).length = n at *
     have hrl := (List.getElem?_eq_some_iff.1 hr1).1
     have hbl := (List.getElem?_eq_some_iff.1 hb1).1
     have hne : q.rid ≠ q.bid := fun e => by rw [e, hb1] at hr1; cases hr1
     have r2 : (σ3 ++ [AObj.cells [AV.lit (.string o), AV.lit (.string w)] 141])[q.rid]? = some (.cells [.sl (txtR u') tok0, .mp q.iid, .mp q.nid, .mp q.bid] 99) := by rw [List.getElem?_append_left hrl]; exact hr1
     have b2 : (σ3 ++ [AObj.cells [AV.lit (.string o), AV.lit (.string w)] 141])[q.bid]? = some (.map .str bs1) := by rw [List.getElem?_append_left hbl]; exact hb1
     have p2 : (σ3 ++ [AObj.cells [AV.lit (.string o), AV.lit (.string w)] 141])[P]? = some (AObj.cells [AV.lit (.string o), AV.lit (.string w)] 141) := by rw [← hP]; simp
     have l2 : (σ3 ++ [AObj.cells [AV.lit (.string o), AV.lit (.string w)] 141]).length = P + 1 := by simp [hP]
     generalize hσ4 : σ3 ++ [AObj.cells [AV.lit (.string o), AV.lit (.string w)] 141] = σ4 at *
     have k4 : ∀ p, p < P → σ4[p]? = σ3[p]? := fun p hp => by rw [← hσ4, List.getElem?_append_left (by omega)]
     have hwr : IntKind.i64.wrap (n : Int) = (n : Int) := IntWalk.i64_in _ ⟨by omega, by omega⟩
     have hn1 : (n : Int) ≤ (n : Int) + 1 := by omega
     refine CW.draw (by kernel_rfl) ?_
     simp (maxDischargeDepth := 16) [zY, r2, b2, p2, lookA, e1, hwr, hn1, AV.notTup]
     refine ⟨drawOk_ren [q.rid, q.bid, P] (by have := (show q.rid < P by omega); have := (show q.bid < P by omega); simp; omega) [.pure, .pure, .pure, .reads 0, .pure, .reads 2, .pure, .pure, .pure, .reads 0, .pure, .reads 2, .reads 1, .pure, .pure, .pure, .reads 0, .pure, .reads 2, .reads 1, .pure, .pure, .pure, .writes 1] (by kernel_rfl) (by kernel_rfl), ?_⟩
     obtain ⟨g1, g2⟩ := e5 (σ4.set q.bid (.map .str (mapPut (.string o) (.asl id 0 n 1) bs1))) (by simp; omega) (fun p hp hpb => by rw [List.getElem?_set_ne hpb.symm]; exact k4 p (by omega)) (by rw [List.getElem?_set_self (by omega)])
     refine hK5 _ _ ?_
     refine CW.region ?_
     simp (maxDischargeDepth := 16) [zY, wrap_succ (show j ≤ 1000000000000 by omega)]
     exact hR2 _ _ _ ⟨(j + 1, _), _, _, rfl, by simp [sub, lk], rfl, ⟨by show j + 1 ≤ l.length; omega, g1, hf3.trans0 g2⟩, by show l.length - (j + 1) < l.length - j; omega⟩
   · simp (maxDischargeDepth := 16) [zY, Nat.not_lt.2 hge]
     refine hK4 _ _ ?_
     refine CW.seqK fun K3 hK3 => ?_
     refine CW.cond (t := false) (by simp [zT, zF, lk]) ?_
     refine CW.exit (hR2 _ _ _ (hR1 _ _ _ ?_))
     simp only [outOf, if_true]
     obtain rfl : j = l.length := by omega
     rw [hpl] at h3
     exact hR0 _ _ _ ⟨.tup [], by simp [zA, omap], rfl, h3, (hf.none.trans0 hf2).trans0 hf3.none, σ2, hR, h2, hf3, hf.none.trans0 hf2⟩
end
end Go.Proofs.YteajcnilihgheaaGreatDoor
