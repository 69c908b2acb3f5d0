/-
 EV: REGIONS THAT DRAW THEIR ORDER, IN WHICH A CALL MAY END IN MORE THAN ONE WAY: one order is walked, or two (where an object is made beside a call); every order comes to one of them.
-/
import Derived.Test.YtmmgjaheffbpaaaGreatDoorEvJQ
import Derived.Test.YtmmgjaheffbpaaaGreatDoorEvDraw2Q
import Derived.Test.YtmmgjaheffbpaaaGreatDoorEvRange2Q
import Derived.Test.YtmmgjaheffbpaaaGreatDoorEvXQ
namespace Go.Proofs.YtmmgjaheffbpaaaGreatDoor
set_option linter.unusedSimpArgs false
set_option linter.unusedVariables false
set_option linter.unusedSectionVars false
section
open Go.RowKit
def leA (x a : Acc) : Prop := a = .any ∨ x = a
theorem leA_clash {x y a b : Acc} (hx : leA x a) (hy : leA y b) (h : clash a b = false) : clash x y = false := by
 rcases hx with rfl | rfl <;> rcases hy with rfl | rfl
 · simp [clash] at h
 · cases y <;> first | rfl | (simp [clash] at h; done) | (cases x <;> rfl)
 · cases x <;> first | rfl | (simp [clash] at h; done)
 · exact h
def quietA (kp : List Nat) : Acc → Bool
 | .pure => true
 | .reads a => kp.contains a
 | _ => false
section
variable (P : Program) (E : Env) (M : List TypeId) (ops : Array Oper) (C : Nat → Bool) (A : Nat → Acc) (Kp : List Nat) (Q : AExit → List AV → Sto → Prop)
def RunR : List Nat → List AV × Sto → Prop
 | [], s => Q .normal s.1 s.2
 | i :: l, s =>
  if C i = true then ∃ o f args R, ops[i]? = some o ∧ Region.wanted o (yieldedA ops s.1) = true ∧ evStep P M (evx s.1) s.2 o = some (.enter f args) ∧ J P E (.call f args s.2 R) ∧ (∀ v σ', ¬ R (.pan v) σ') ∧ ∀ v σ', R (.ret v) σ' → (∀ a ∈ Kp, σ'[a]? = s.2[a]?) ∧ RunR l (putA s.1 o.dst v, σ')
  else ∃ acc s', ops1 P M noCall ops i s = some (acc, s') ∧ leA acc (A i) ∧ RunR l s'
def FreeR (k i : Nat) : Prop := ∃ x y, ops[k]? = some x ∧ ops[i]? = some y ∧ Oper.apart ops x y = true ∧ C k = false ∧ (if C i = true then quietA Kp (A k) = true else clash (A k) (A i) = false)
end
section
variable {P : Program} {E : Env} {M : List TypeId} {ops : Array Oper} {C : Nat → Bool} {A : Nat → Acc} {Kp : List Nat} {Q : AExit → List AV → Sto → Prop}
theorem quiet_spec {acc a : Acc} (h : leA acc a) (hq : quietA Kp a = true) : acc = .pure ∨ ∃ id ∈ Kp, acc = .reads id := by
 rcases h with rfl | rfl
 · cases hq
 · cases acc with
   | pure => exact .inl rfl
   | reads id => exact .inr ⟨id, by simpa [quietA] using hq, rfl⟩
   | _ => cases hq
theorem RunR.front {i : Nat} : ∀ {l r : List Nat} {s : List AV × Sto}, RunR P E M ops C A Kp Q (l ++ i :: r) s → (∀ k ∈ l, FreeR ops C A Kp k i) → RunR P E M ops C A Kp Q (i :: (l ++ r)) s
 | [], r, s, h, _ => h
 | k :: l, r, s, h, hf => by
  obtain ⟨x, y, hx, hy, ha, hck, hcl⟩ := hf k (by simp)
  rw [List.cons_append, RunR, if_neg (by rw [hck]; simp)] at h
  obtain ⟨ak, s1, h1, hle, h2⟩ := h
  have h3 := RunR.front (l := l) h2 fun q hq => hf q (by simp [hq])
  obtain ⟨tm, σ⟩ := s
  obtain ⟨tm1, σ1⟩ := s1
  obtain ⟨o, ho, e1⟩ := ops1_some h1
  obtain rfl : o = x := by rw [hx] at ho; exact (Option.some.inj ho).symm
  cases hci : C i with
  | false =>
   rw [hci, if_neg (by simp)] at hcl
   rw [RunR, if_neg (by rw [hci]; simp)] at h3
   obtain ⟨ai, s2, g1, gle, g2⟩ := h3
   obtain ⟨s1', q1, q2⟩ := swap hx hy ha (leA_clash hle gle hcl) h1 g1
   rw [RunR, if_neg (by rw [hci]; simp)]
   refine ⟨ai, s1', q1, gle, ?_⟩
   rw [List.cons_append, RunR, if_neg (by rw [hck]; simp)]
   exact ⟨ak, s2, q2, hle, g2⟩
  | true =>
   rw [hci, if_pos rfl] at hcl
   rw [RunR, if_pos hci] at h3
   obtain ⟨o', f, args, R, ho', hw, hs, hJ, hp, hret⟩ := h3
   obtain rfl : o' = y := by rw [hy] at ho'; exact (Option.some.inj ho').symm
   obtain ⟨d1, d2, d3⟩ := Oper.apart_spec ha
   dsimp only at e1 hw hs hJ hret
   obtain ⟨vk, rfl, lk⟩ := evOp_local e1
   have hla : ∀ t ∈ o'.looksAt ops, tm[t]? = (putA tm o.dst vk)[t]? := fun t ht => (putA_other fun e => d1 t e ht).symm
   have hσ : σ1 = σ := by
    obtain ⟨_, l2⟩ := lk tm fun t ht => rfl
    rcases quiet_spec hle hcl with rfl | ⟨id, _, rfl⟩
    · exact l2.1
    · exact l2.1
   subst hσ
   rw [RunR, if_pos hci]
   refine ⟨o', f, args, R, hy, (wanted_congr hla).trans hw, ?_, hJ, hp, fun v σ' hR => ?_⟩
   · have hc := evx_congr hla
     unfold evStep at hs ⊢
     dsimp only at hs ⊢
     rw [← evLit_congr hc, ← evPure_congr hc, ← evMem_congr hc, ← evMut_congr hc]
     exact hs
   · obtain ⟨hk, hr⟩ := hret v σ' hR
     refine ⟨hk, ?_⟩
     rw [List.cons_append, RunR, if_neg (by rw [hck]; simp)]
     obtain ⟨l1, l2⟩ := lk (putA tm o'.dst v) fun t ht => putA_other fun e => d3 t e ht
     have fin : evOp P M noCall ops o (putA tm o'.dst v) σ' = some (.inr (putA (putA tm o'.dst v) o.dst vk, ak), σ') := by
      rcases quiet_spec hle hcl with rfl | ⟨id, hid, rfl⟩
      · exact l2.2 σ'
      · exact l2.2.2 σ' (hk id hid)
     rw [putA_comm (fun d e1 e2 => d2 d e2 e1)] at fin
     exact ⟨ak, _, ops1_mk hx fin, hle, hr⟩
def unl (listed : Array Bool) (i : Nat) : Bool := !listed.getD i true
theorem unl_split {L : List Nat} {listed : Array Bool} {i : Nat} (hnd : L.Nodup) (hi : i ∈ L) (hs : i < listed.size) (hl : listed.getD i true = false) :
    ∃ l1 l2, L.filter (unl listed) = l1 ++ i :: l2 ∧ L.filter (unl (listed.setIfInBounds i true)) = l1 ++ l2 ∧ (∀ k ∈ l1, listed.getD k true = false ∧ k ≠ i) ∧ ∃ a b, L = a ++ i :: b ∧ (∀ k ∈ l1, k ∈ a) := by
 obtain ⟨a, b, rfl⟩ := List.append_of_mem hi
 rw [List.nodup_append] at hnd
 obtain ⟨n1, n2, n3⟩ := hnd
 rw [List.nodup_cons] at n2
 have hcong : ∀ m : List Nat, i ∉ m → m.filter (unl (listed.setIfInBounds i true)) = m.filter (unl listed) := fun m hm => by
  refine List.filter_congr fun k hk => ?_
  unfold unl
  rw [getD_set hs, if_neg (fun e => hm (by rw [← e]; exact hk))]
 have hia : i ∉ a := fun h => n3 i h i (by simp) rfl
 refine ⟨a.filter (unl listed), b.filter (unl listed), ?_, ?_, fun k hk => ?_, a, b, rfl, fun k hk => (List.mem_filter.1 hk).1⟩
 · rw [List.filter_append, List.filter_cons, if_pos (by unfold unl; rw [hl]; rfl)]
 · rw [List.filter_append, List.filter_cons, if_neg (by unfold unl; rw [getD_set hs, if_pos rfl]; simp), hcong a hia, hcong b n2.1]
 · obtain ⟨h1, h2⟩ := List.mem_filter.1 hk
   exact ⟨by simpa [unl] using h2, fun e => hia (by rw [← e]; exact h1)⟩
def Before (L : List Nat) (k i : Nat) : Prop := ∃ a b, L = a ++ i :: b ∧ k ∈ a
theorem ready_mask {listed : Array Bool} (hsz : listed.size = ops.size) (hcl : Closed ops listed) {i : Nat} (hi : i ∈ Region.ready .any ops listed) : ∀ k, ((masks ops.toList []).getD i 0).testBit k = true → listed.getD k true = true := by
 obtain ⟨hlt, hul, hpre⟩ := ready_spec hsz hi
 obtain ⟨o, ho⟩ : ∃ o, ops[i]? = some o := ⟨_, Array.getElem?_eq_getElem hlt⟩
 exact mask_closed (fun k => listed.getD k true = true) (fun j q hq hj e hem hb => hcl j q hq hj e hem hb) i o ho (fun e hem hb => hpre o ho e hem hb)
theorem listed_mask {listed : Array Bool} (hcl : Closed ops listed) {i : Nat} (hlt : i < ops.size) (hi : listed.getD i true = true) : ∀ k, ((masks ops.toList []).getD i 0).testBit k = true → listed.getD k true = true := by
 obtain ⟨o, ho⟩ : ∃ o, ops[i]? = some o := ⟨_, Array.getElem?_eq_getElem hlt⟩
 exact mask_closed (fun k => listed.getD k true = true) (fun j q hq hj e hem hb => hcl j q hq hj e hem hb) i o ho (fun e hem hb => hcl i o ho hi e hem hb)
theorem J.drawR (he : edgesOk ops.toList 0 = true) {L : List Nat} (n1 : L.Nodup) (m1 : ∀ i, i ∈ L ↔ i < ops.size) (ex : Nat → Nat → Prop)
    (f1 : ∀ k i, Before L k i → ex k i ∨ ((masks ops.toList []).getD i 0).testBit k = true ∨ FreeR ops C A Kp k i) :
    ∀ (fuel : Nat) (listed : Array Bool) (s : List AV × Sto), listed.size = ops.size → Closed ops listed → (∀ k i, ex k i → listed.getD k true = true) → fuel = (L.filter (unl listed)).length → RunR P E M ops C A Kp Q (L.filter (unl listed)) s → J P E (.any M ops fuel listed s.1 s.2 Q)
 | 0, listed, s, hsz, hcl, hex, hf, h1 => by
  have hnil : L.filter (unl listed) = [] := List.eq_nil_of_length_eq_zero hf.symm
  rw [hnil] at h1
  refine J.anyDone ?_ h1
  apply List.eq_nil_iff_forall_not_mem.2
  intro i hi
  obtain ⟨q1, q2, _⟩ := ready_spec hsz hi
  have : i ∈ L.filter (unl listed) := List.mem_filter.2 ⟨(m1 i).2 q1, by simp [unl, q2]⟩
  rw [hnil] at this; simp at this
 | fuel + 1, listed, s, hsz, hcl, hex, hf, h1 => by
  have hne : Region.ready .any ops listed ≠ [] := fun hr => by
   have hl := ready_nil he hsz hr
   have : L.filter (unl listed) = [] := by
    apply List.eq_nil_iff_forall_not_mem.2
    intro i hi
    obtain ⟨q1, q2⟩ := List.mem_filter.1 hi
    have : i ∈ left listed ops.size := mem_left.2 ⟨(m1 i).1 q1, by simpa [unl] using q2⟩
    rw [hl] at this; simp at this
   rw [this] at hf; simp at hf
  have key : ∀ i, ∃ D : StepD, i ∈ Region.ready .any ops listed → ops[i]? = some D.o ∧
      (C i = false → evOp P M noCall ops D.o s.1 s.2 = some (.inr (D.tm, D.acc), D.σ) ∧ J P E (.any M ops fuel (listed.setIfInBounds i true) D.tm D.σ Q)) ∧
      (C i = true → (Region.wanted D.o (yieldedA ops s.1) = true ∧ evStep P M (evx s.1) s.2 D.o = some (.enter D.f D.args)) ∧ J P E (.call D.f D.args s.2 D.R) ∧ (∀ v σ', D.R (.ret v) σ' → J P E (.any M ops fuel (listed.setIfInBounds i true) (putA s.1 D.o.dst v) σ' Q)) ∧ ∀ v σ', ¬ D.R (.pan v) σ') := by
   intro i
   refine Classical.byCases (p := i ∈ Region.ready .any ops listed) (fun hi => ?_) (fun hi => ⟨⟨default, [], [], .any, default, [], fun _ _ => False⟩, fun h => (hi h).elim⟩)
   obtain ⟨hlt, hul, hpre⟩ := ready_spec hsz hi
   have hcl' : Closed ops (listed.setIfInBounds i true) := hcl.set (by omega) hpre
   have hmask := ready_mask hsz hcl hi
   have hsz' : (listed.setIfInBounds i true).size = ops.size := by simpa using hsz
   obtain ⟨a1, b1, e1, e1', u1, p1⟩ := unl_split (listed := listed) n1 ((m1 i).2 hlt) (by omega) hul
   have hf' : fuel = (L.filter (unl (listed.setIfInBounds i true))).length := by
    rw [e1] at hf; rw [e1']; simp at hf ⊢; omega
   have hex' : ∀ k j, ex k j → (listed.setIfInBounds i true).getD k true = true := fun k j h => by
    rw [getD_set (by omega)]
    split
    · rfl
    · exact hex k j h
   have go : ∀ (tm : List AV) (σ : Sto), RunR P E M ops C A Kp Q (L.filter (unl (listed.setIfInBounds i true))) (tm, σ) → J P E (.any M ops fuel (listed.setIfInBounds i true) tm σ Q) :=
    fun tm σ r1 => J.drawR he n1 m1 ex f1 fuel _ (tm, σ) hsz' hcl' hex' hf' r1
   have hfr : ∀ k ∈ a1, FreeR ops C A Kp k i := fun k hk => by
    obtain ⟨x, y, q1, q2⟩ := p1
    rcases f1 k i ⟨x, y, q1, q2 k hk⟩ with h | h | h
    · have := hex k i h; rw [(u1 k hk).1] at this; cases this
    · have := hmask k h; rw [(u1 k hk).1] at this; cases this
    · exact h
   rw [e1] at h1
   have h3 := h1.front hfr
   rw [← e1'] at h3
   cases hci : C i with
   | true =>
    rw [RunR, if_pos hci] at h3
    obtain ⟨o', f, args, R, ho', hw, hs, hJ, hp, hret⟩ := h3
    exact ⟨⟨o', [], [], .any, f, args, R⟩, fun _ => ⟨ho', fun e => (by cases e), fun _ => ⟨⟨hw, hs⟩, hJ, fun v σ' hR => go _ _ (hret v σ' hR).2, hp⟩⟩⟩
   | false =>
    rw [RunR, if_neg (by rw [hci]; simp)] at h3
    obtain ⟨acc, s', q1, q2, q3⟩ := h3
    obtain ⟨o', ho', q4⟩ := ops1_some q1
    exact ⟨⟨o', s'.1, s'.2, acc, default, [], fun _ _ => False⟩, fun _ => ⟨ho', fun _ => ⟨q4, go _ _ q3⟩, fun e => by cases e⟩⟩
  obtain ⟨D, hD⟩ := Classical.skolem.1 key
  exact J.anyStepC _ C D rfl hne (fun i hi => (hD i hi).1) (fun i hi hc => ((hD i hi).2.1 hc).1) (fun i hi hc => ((hD i hi).2.1 hc).2) (fun i hi hc => ((hD i hi).2.2 hc).1) (fun i hi hc => ((hD i hi).2.2 hc).2.1) (fun i hi hc => ((hD i hi).2.2 hc).2.2.1) (fun i hi hc => ((hD i hi).2.2 hc).2.2.2)
theorem J.drawR2 {A2 : Nat → Acc} (he : edgesOk ops.toList 0 = true) {L1 L2 : List Nat} {z c : Nat} (n1 : L1.Nodup) (n2 : L2.Nodup) (m1 : ∀ i, i ∈ L1 ↔ i < ops.size) (m2 : ∀ i, i ∈ L2 ↔ i < ops.size) (hz : z < ops.size) (hc : c < ops.size)
    (hC : ∀ i, C i = true → i = c) (hzc : z ≠ c)
    (f1 : ∀ k i, Before L1 k i → (i = c ∧ (k = z ∨ ((masks ops.toList []).getD z 0).testBit k = true)) ∨ ((masks ops.toList []).getD i 0).testBit k = true ∨ FreeR ops C A Kp k i)
    (f2 : ∀ k i, Before L2 k i → (i = z ∧ (k = c ∨ ((masks ops.toList []).getD c 0).testBit k = true)) ∨ ((masks ops.toList []).getD i 0).testBit k = true ∨ FreeR ops C A2 Kp k i) :
    ∀ (fuel : Nat) (listed : Array Bool) (s : List AV × Sto), listed.size = ops.size → Closed ops listed → listed.getD z true = false → listed.getD c true = false → fuel = (L1.filter (unl listed)).length → fuel = (L2.filter (unl listed)).length → RunR P E M ops C A Kp Q (L1.filter (unl listed)) s → RunR P E M ops C A2 Kp Q (L2.filter (unl listed)) s → J P E (.any M ops fuel listed s.1 s.2 Q)
 | 0, listed, s, hsz, hcl, hnz, hnc, hf, _, h1, h2 => by
  have hnil : L1.filter (unl listed) = [] := List.eq_nil_of_length_eq_zero hf.symm
  have : z ∈ L1.filter (unl listed) := List.mem_filter.2 ⟨(m1 z).2 hz, by simp [unl, hnz]⟩
  rw [hnil] at this; simp at this
 | fuel + 1, listed, s, hsz, hcl, hnz, hnc, hf, hff, h1, h2 => by
  have hne : Region.ready .any ops listed ≠ [] := fun hr => by
   have hl := ready_nil he hsz hr
   have : z ∈ left listed ops.size := mem_left.2 ⟨hz, hnz⟩
   rw [hl] at this; simp at this
  have key : ∀ i, ∃ D : StepD, i ∈ Region.ready .any ops listed → ops[i]? = some D.o ∧
      (C i = false → evOp P M noCall ops D.o s.1 s.2 = some (.inr (D.tm, D.acc), D.σ) ∧ J P E (.any M ops fuel (listed.setIfInBounds i true) D.tm D.σ Q)) ∧
      (C i = true → (Region.wanted D.o (yieldedA ops s.1) = true ∧ evStep P M (evx s.1) s.2 D.o = some (.enter D.f D.args)) ∧ J P E (.call D.f D.args s.2 D.R) ∧ (∀ v σ', D.R (.ret v) σ' → J P E (.any M ops fuel (listed.setIfInBounds i true) (putA s.1 D.o.dst v) σ' Q)) ∧ ∀ v σ', ¬ D.R (.pan v) σ') := by
   intro i
   refine Classical.byCases (p := i ∈ Region.ready .any ops listed) (fun hi => ?_) (fun hi => ⟨⟨default, [], [], .any, default, [], fun _ _ => False⟩, fun h => (hi h).elim⟩)
   obtain ⟨hlt, hul, hpre⟩ := ready_spec hsz hi
   have hcl' : Closed ops (listed.setIfInBounds i true) := hcl.set (by omega) hpre
   have hmask := ready_mask hsz hcl hi
   have hsz' : (listed.setIfInBounds i true).size = ops.size := by simpa using hsz
   obtain ⟨a1, b1, e1, e1', u1, p1⟩ := unl_split (listed := listed) n1 ((m1 i).2 hlt) (by omega) hul
   obtain ⟨a2, b2, g1, g1', u2, p2⟩ := unl_split (listed := listed) n2 ((m2 i).2 hlt) (by omega) hul
   have hf' : fuel = (L1.filter (unl (listed.setIfInBounds i true))).length := by
    rw [e1] at hf; rw [e1']; simp at hf ⊢; omega
   have hff' : fuel = (L2.filter (unl (listed.setIfInBounds i true))).length := by
    rw [g1] at hff; rw [g1']; simp at hff ⊢; omega
   have setI : (listed.setIfInBounds i true).getD i true = true := by rw [getD_set (by omega), if_pos rfl]
   have setN : ∀ j, j ≠ i → (listed.setIfInBounds i true).getD j true = listed.getD j true := fun j hj => by rw [getD_set (by omega), if_neg hj]
   by_cases hic : i = c
   · -- the call comes first
     have hfr : ∀ k ∈ a2, FreeR ops C A2 Kp k i := fun k hk => by
      obtain ⟨x, y, q1, q2⟩ := p2
      rcases f2 k i ⟨x, y, q1, q2 k hk⟩ with ⟨e, _⟩ | h | h
      · exact absurd (e.symm.trans hic) hzc
      · have := hmask k h; rw [(u2 k hk).1] at this; cases this
      · exact h
     have hlc : (listed.setIfInBounds i true).getD c true = true := by rw [← hic]; exact setI
     have go : ∀ (tm : List AV) (σ : Sto), RunR P E M ops C A2 Kp Q (L2.filter (unl (listed.setIfInBounds i true))) (tm, σ) → J P E (.any M ops fuel (listed.setIfInBounds i true) tm σ Q) :=
      fun tm σ r1 => J.drawR he n2 m2 (fun k j => j = z ∧ (k = c ∨ ((masks ops.toList []).getD c 0).testBit k = true)) f2 fuel _ (tm, σ) hsz' hcl' (fun k j h => by
       rcases h.2 with e | e
       · rw [e]; exact hlc
       · exact listed_mask hcl' hc hlc k e) hff' r1
     rw [g1] at h2
     have h3 := h2.front hfr
     rw [← g1'] at h3
     cases hci : C i with
     | true =>
      rw [RunR, if_pos hci] at h3
      obtain ⟨o', f, args, R, ho', hw, hs, hJ, hp, hret⟩ := h3
      exact ⟨⟨o', [], [], .any, f, args, R⟩, fun _ => ⟨ho', fun e => (by cases e), fun _ => ⟨⟨hw, hs⟩, hJ, fun v σ' hR => go _ _ (hret v σ' hR).2, hp⟩⟩⟩
     | false =>
      rw [RunR, if_neg (by rw [hci]; simp)] at h3
      obtain ⟨acc, s', q1, q2, q3⟩ := h3
      obtain ⟨o', ho', q4⟩ := ops1_some q1
      exact ⟨⟨o', s'.1, s'.2, acc, default, [], fun _ _ => False⟩, fun _ => ⟨ho', fun _ => ⟨q4, go _ _ q3⟩, fun e => by cases e⟩⟩
   · have hci : C i = false := by
      cases h : C i with
      | false => rfl
      | true => exact absurd (hC i h) hic
     have hfr : ∀ k ∈ a1, FreeR ops C A Kp k i := fun k hk => by
      obtain ⟨x, y, q1, q2⟩ := p1
      rcases f1 k i ⟨x, y, q1, q2 k hk⟩ with ⟨e, _⟩ | h | h
      · exact absurd e hic
      · have := hmask k h; rw [(u1 k hk).1] at this; cases this
      · exact h
     rw [e1] at h1
     have h3 := h1.front hfr
     rw [← e1'] at h3
     rw [RunR, if_neg (by rw [hci]; simp)] at h3
     obtain ⟨acc, s', q1, q2, q3⟩ := h3
     obtain ⟨o', ho', q4⟩ := ops1_some q1
     refine ⟨⟨o', s'.1, s'.2, acc, default, [], fun _ _ => False⟩, fun _ => ⟨ho', fun _ => ⟨q4, ?_⟩, fun e => by rw [hci] at e; cases e⟩⟩
     by_cases hiz : i = z
     · have hlz : (listed.setIfInBounds i true).getD z true = true := by rw [← hiz]; exact setI
       exact J.drawR he n1 m1 (fun k j => j = c ∧ (k = z ∨ ((masks ops.toList []).getD z 0).testBit k = true)) f1 fuel _ s' hsz' hcl' (fun k j h => by
        rcases h.2 with e | e
        · rw [e]; exact hlz
        · exact listed_mask hcl' hz hlz k e) hf' q3
     · have hfr2 : ∀ k ∈ a2, FreeR ops C A2 Kp k i := fun k hk => by
        obtain ⟨x, y, q1, q2⟩ := p2
        rcases f2 k i ⟨x, y, q1, q2 k hk⟩ with ⟨e, _⟩ | h | h
        · exact absurd e hiz
        · have := hmask k h; rw [(u2 k hk).1] at this; cases this
        · exact h
       rw [g1] at h2
       have h4 := h2.front hfr2
       rw [← g1'] at h4
       rw [RunR, if_neg (by rw [hci]; simp)] at h4
       obtain ⟨acc2, s2, r1, r2, r3⟩ := h4
       rw [q1] at r1
       cases r1
       exact J.drawR2 he n1 n2 m1 m2 hz hc hC hzc f1 f2 fuel _ s' hsz' hcl' (by rw [setN z (fun e => hiz e.symm)]; exact hnz) (by rw [setN c (fun e => hic e.symm)]; exact hnc) hf' hff' q3 r3
  obtain ⟨D, hD⟩ := Classical.skolem.1 key
  exact J.anyStepC _ C D rfl hne (fun i hi => (hD i hi).1) (fun i hi hc => ((hD i hi).2.1 hc).1) (fun i hi hc => ((hD i hi).2.1 hc).2) (fun i hi hc => ((hD i hi).2.2 hc).1) (fun i hi hc => ((hD i hi).2.2 hc).2.1) (fun i hi hc => ((hD i hi).2.2 hc).2.2.1) (fun i hi hc => ((hD i hi).2.2 hc).2.2.2)
end
end
section
open Go.RowKit
def Acc.ren (ids : List Nat) : Acc → Acc
 | .pure => .pure
 | .reads i => .reads (ids.getD i 0)
 | .writes i => .writes (ids.getD i 0)
 | .news i => .news (ids.getD i 0)
 | .grows k n => .grows (k.map fun i => ids.getD i 0) (ids.getD n 0)
 | .calls n b => .calls n b
 | .lcalls b => .lcalls b
 | .any => .any
def Acc.under (n : Nat) : Acc → Bool
 | .reads i | .writes i | .news i => decide (i < n)
 | .grows none i => decide (i < n)
 | .grows (some k) i => decide (k < n) && decide (i < n)
 | .calls _ _ => false
 | .lcalls _ => false
 | _ => true
theorem getD_inj {ids : List Nat} (h : ids.Nodup) {i j : Nat} (hi : i < ids.length) (hj : j < ids.length) : (ids.getD i 0 == ids.getD j 0) = (i == j) := by
 rw [List.getD_eq_getElem?_getD, List.getD_eq_getElem?_getD, List.getElem?_eq_getElem hi, List.getElem?_eq_getElem hj]
 simp only [Option.getD_some]
 by_cases e : i = j
 · subst e; simp
 · have hne : ids[i] ≠ ids[j] := by
    rcases Nat.lt_or_gt_of_ne e with hlt | hgt
    · exact List.pairwise_iff_getElem.1 h i j hi hj hlt
    · exact Ne.symm (List.pairwise_iff_getElem.1 h j i hj hi hgt)
   rw [beq_eq_false_iff_ne.2 hne, beq_eq_false_iff_ne.2 e]
theorem clash_ren {ids : List Nat} (h : ids.Nodup) {a b : Acc} (ha : a.under ids.length = true) (hb : b.under ids.length = true) : clash (a.ren ids) (b.ren ids) = clash a b := by
 have key : ∀ {i j : Nat}, i < ids.length → j < ids.length → (ids.getD i 0 == ids.getD j 0) = (i == j) := fun hi hj => getD_inj h hi hj
 have keyo : ∀ {i j : Nat}, i < ids.length → j < ids.length → (some (ids.getD i 0) == some (ids.getD j 0)) = (some i == some j) := fun {i j} hi hj => key hi hj
 have keyn : ∀ {i j : Nat}, ((none : Option Nat) == some (ids.getD j 0)) = ((none : Option Nat) == some j) := fun {i j} => rfl
 rcases a with _ | i | i | i | ⟨_ | k, i⟩ | ⟨m, c⟩ | c | _ <;> rcases b with _ | j | j | j | ⟨_ | l, j⟩ | ⟨m', c'⟩ | c' | _ <;> (try rfl) <;> (try (first | (cases ha; done) | (cases hb; done))) <;> simp only [Acc.under, Bool.and_eq_true, decide_eq_true_eq] at ha hb <;> simp only [Acc.ren, clash, Option.map_some, Option.map_none]
 all_goals first
  | exact key ha hb
  | (rw [key ha hb]; rfl)
  | (rw [key hb ha]; rfl)
  | (rw [keyo hb.1 ha, key ha hb.2])
  | (rw [keyo ha.1 hb, key hb ha.2])
theorem drawOk_ren {ops : Array Oper} (ids : List Nat) (h : ids.Nodup) (l : List Acc) (hl : l.all (Acc.under ids.length) = true) (hd : drawOk ops l = true) : drawOk ops (l.map (Acc.ren ids)) = true := by
 unfold drawOk at hd ⊢
 simp only [List.length_map, List.all_eq_true, List.mem_range] at hd ⊢
 intro i hi k hk
 have := hd i hi k hk
 unfold freeAt at this ⊢
 have g : ∀ n : Nat, (l.map (Acc.ren ids)).getD n .any = (l.getD n .any).ren ids := by
  intro n
  rw [List.getD_eq_getElem?_getD, List.getD_eq_getElem?_getD, List.getElem?_map]
  cases l[n]? <;> rfl
 have u : ∀ n : Nat, (l.getD n .any).under ids.length = true := by
  intro n
  rw [List.getD_eq_getElem?_getD]
  cases hn : l[n]? with
  | none => rfl
  | some a => exact List.all_eq_true.1 hl a (List.mem_of_getElem? hn)
 rw [g, g, clash_ren h (u k) (u i)]
 exact this
end
section
open Go.RowKit
def pick (l : List Oper) : List Nat → List (Nat × Oper)
 | [] => []
 | i :: p => (i, l.getD i default) :: pick l p
def accL (ids : List Nat) (l : List Acc) (i : Nat) : Acc := (l.getD i .any).ren ids
section
variable (P : Program) (E : Env) (M : List TypeId) (C : Nat → Bool) (A : Nat → Acc) (Kp : List Nat) (Q : AExit → List AV → Sto → Prop)
def DJ : List (Nat × Oper) → List AV → Sto → Prop
 | [], tm, σ => Q .normal tm σ
 | p :: rest, tm, σ =>
  p.2.guard = none ∧ if C p.1 = true then (match evStep P M (evx tm) σ p.2 with
   | some (.enter f args) => JC P E f args σ (retK (fun v σ' => (∀ a ∈ Kp, σ'[a]? = σ[a]?) ∧ DJ rest (putA tm p.2.dst v) σ') (fun _ _ => False))
   | _ => False)
  else (match evStep P M (evx tm) σ p.2 with
   | some (.val v σ' acc) => leA acc (A p.1) ∧ DJ rest (putA tm p.2.dst v) σ'
   | some (.skip σ' acc) => leA acc (A p.1) ∧ DJ rest (putA tm p.2.dst (.tup [])) σ'
   | _ => False)
end
section
variable {P : Program} {E : Env} {M : List TypeId} {C : Nat → Bool} {A : Nat → Acc} {Kp : List Nat} {Q : AExit → List AV → Sto → Prop} {ops : Array Oper}
theorem DJ.run : ∀ (l : List (Nat × Oper)) (tm : List AV) (σ : Sto), (∀ p ∈ l, ops[p.1]? = some p.2) → DJ P E M C A Kp Q l tm σ → RunR P E M ops C A Kp Q (l.map (·.1)) (tm, σ)
 | [], tm, σ, _, h => h
 | p :: rest, tm, σ, ho, h => by
  have hp := ho p (by simp)
  have hr := fun q hq => ho q (List.mem_cons_of_mem _ hq)
  obtain ⟨hg, h⟩ := h
  have hw : ∀ tm, Region.wanted p.2 (yieldedA ops tm) = true := fun tm => by unfold Region.wanted; rw [hg]
  rw [List.map_cons, RunR]
  by_cases hc : C p.1 = true
  · rw [if_pos hc] at h ⊢
    split at h
    · rename_i f args hs
      refine ⟨p.2, f, args, _, hp, hw tm, hs, h, fun v σ' h => h, fun v σ' h => ⟨h.1, DJ.run rest _ _ hr h.2⟩⟩
    · exact h.elim
  · rw [if_neg hc] at h ⊢
    split at h
    · rename_i v σ' acc hs
      exact ⟨acc, _, ops1_mk hp (by unfold evOp; rw [if_pos (hw tm), hs]), h.1, DJ.run rest _ _ hr h.2⟩
    · rename_i σ' acc hs
      exact ⟨acc, _, ops1_mk hp (by unfold evOp; rw [if_pos (hw tm), hs]), h.1, DJ.run rest _ _ hr h.2⟩
    · exact h.elim
variable {i : Nat} {o : Oper} {rest : List (Nat × Oper)} {tm : List AV} {σ : Sto}
def pairsB (f : Nat → Nat → Bool) : List Nat → Bool
 | [] => true
 | k :: r => r.all (f k) && pairsB f r
theorem pairsB_spec {f : Nat → Nat → Bool} : ∀ {L : List Nat}, pairsB f L = true → ∀ k i, Before L k i → f k i = true
 | [], _, k, i, ⟨a, b, e, hk⟩ => by cases a <;> cases e
 | q :: r, h, k, i, ⟨a, b, e, hk⟩ => by
  simp only [pairsB, Bool.and_eq_true, List.all_eq_true] at h
  cases a with
  | nil => cases hk
  | cons y a =>
   simp only [List.cons_append, List.cons.injEq] at e
   obtain ⟨rfl, rfl⟩ := e
   rcases List.mem_cons.1 hk with rfl | hk
   · exact h.1 i (by simp)
   · exact pairsB_spec h.2 k i ⟨a, b, rfl, hk⟩
def quietL (kp : List Nat) : Acc → Bool
 | .pure => true
 | .reads a => kp.contains a
 | _ => false
def okB (ops : Array Oper) (ms : List Nat) (cs : List Nat) (l : List Acc) (kp : List Nat) (sp : Bool) (x y : Nat) (k i : Nat) : Bool :=
 (sp && decide (i = y) && (decide (k = x) || (ms.getD x 0).testBit k)) || (ms.getD i 0).testBit k ||
 (match ops[k]?, ops[i]? with
  | some a, some b => Oper.apart ops a b && !cs.contains k && (if cs.contains i then quietL kp (l.getD k .any) else !clash (l.getD k .any) (l.getD i .any))
  | _, _ => false)
def permB (L : List Nat) (n : Nat) : Bool := (List.range n).all (fun i => L.contains i) && L.all (fun i => decide (i < n)) && pairsB (fun a b => decide (a ≠ b)) L
def drawB2 (ops : Array Oper) (L1 L2 : List Nat) (z c : Nat) (cs : List Nat) (l1 l2 : List Acc) (kp : List Nat) (n : Nat) : Bool :=
 let ms := masks ops.toList []
 edgesOk ops.toList 0 && permB L1 ops.size && permB L2 ops.size && decide (cs = [c]) && decide (z ≠ c) && decide (z < ops.size) && decide (c < ops.size) &&
  pairsB (okB ops ms cs l1 kp true z c) L1 && pairsB (okB ops ms cs l2 kp true c z) L2 && l1.all (Acc.under n) && l2.all (Acc.under n)
theorem permB_spec {L : List Nat} {n : Nat} (h : permB L n = true) : L.Nodup ∧ ∀ i, i ∈ L ↔ i < n := by
 simp only [permB, Bool.and_eq_true, List.all_eq_true, List.mem_range, decide_eq_true_eq, List.contains_iff_mem] at h
 obtain ⟨⟨h1, h2⟩, h3⟩ := h
 refine ⟨?_, fun i => ⟨h2 i, h1 i⟩⟩
 clear h1 h2
 induction L with
 | nil => simp
 | cons a r ih =>
  simp only [pairsB, Bool.and_eq_true, List.all_eq_true, decide_eq_true_eq] at h3
  exact List.nodup_cons.2 ⟨fun h => h3.1 a h rfl, ih h3.2⟩
theorem pick_map (l : List Oper) : ∀ L : List Nat, (pick l L).map (·.1) = L
 | [] => rfl
 | i :: p => by rw [pick, List.map_cons, pick_map l p]
theorem pick_mem {l : List Oper} : ∀ {L : List Nat} {p : Nat × Oper}, p ∈ pick l L → p.1 ∈ L ∧ p.2 = l.getD p.1 default
 | [], p, h => by cases h
 | i :: r, p, h => by
  rw [pick] at h
  rcases List.mem_cons.1 h with rfl | h
  · exact ⟨by simp, rfl⟩
  · exact ⟨List.mem_cons_of_mem _ (pick_mem h).1, (pick_mem h).2⟩
theorem okB_spec {cs : List Nat} {ids : List Nat} (hids : ids.Nodup) {l : List Acc} {kp : List Nat} (k9 : l.all (Acc.under ids.length) = true) (sp : Bool) (x y k i : Nat) (h : okB ops (masks ops.toList []) cs l kp sp x y k i = true) :
    (sp = true ∧ i = y ∧ (k = x ∨ ((masks ops.toList []).getD x 0).testBit k = true)) ∨ ((masks ops.toList []).getD i 0).testBit k = true ∨ FreeR ops (fun i => cs.contains i) (accL ids l) (kp.map fun j => ids.getD j 0) k i := by
 have hun : ∀ k, (l.getD k .any).under ids.length = true := fun k => by
  rw [List.getD_eq_getElem?_getD]
  cases hn : l[k]? with
  | none => rfl
  | some a => exact List.all_eq_true.1 k9 a (List.mem_of_getElem? hn)
 simp only [okB, Bool.or_eq_true, Bool.and_eq_true, decide_eq_true_eq] at h
 rcases h with (h | h) | h
 · exact .inl ⟨h.1.1, h.1.2, h.2⟩
 · exact .inr (.inl h)
 · refine .inr (.inr ?_)
   split at h
   · rename_i a b ha hb
     simp only [Bool.and_eq_true, Bool.not_eq_true'] at h
     obtain ⟨⟨g1, g2⟩, g3⟩ := h
     refine ⟨a, b, ha, hb, g1, g2, ?_⟩
     unfold accL
     by_cases hc : cs.contains i = true
     · rw [if_pos hc] at g3 ⊢
       have hu := hun k
       cases hl : l.getD k .any with
       | pure => rfl
       | reads j =>
        rw [hl] at g3
        simp only [quietL, List.contains_iff_mem] at g3
        simp only [Acc.ren, quietA, List.contains_iff_mem, List.mem_map]
        exact ⟨j, g3, rfl⟩
       | _ => rw [hl] at g3; cases g3
     · rw [if_neg hc] at g3 ⊢
       rw [clash_ren hids (hun k) (hun i)]
       simpa using g3
   · cases h
theorem hops_pick {L : List Nat} (hm : ∀ i, i ∈ L ↔ i < ops.size) : ∀ p ∈ pick ops.toList L, ops[p.1]? = some p.2 := fun p hp => by
 obtain ⟨g1, g2⟩ := pick_mem hp
 have hlt := (hm _).1 g1
 rw [g2, List.getD_eq_getElem?_getD, Array.getElem?_eq_getElem hlt, List.getElem?_eq_getElem (by simpa using hlt)]
 simp
theorem unl_all {L : List Nat} (hm : ∀ i, i ∈ L ↔ i < ops.size) : L.filter (unl (Array.replicate ops.size false)) = L := by
 rw [List.filter_eq_self]
 intro i hi
 have := (hm i).1 hi
 simp [unl, Array.getD, this]
theorem perm_len {L : List Nat} (n1 : L.Nodup) (m1 : ∀ i, i ∈ L ↔ i < ops.size) : L.length = ops.size := by
 have p : L.Perm (List.range ops.size) := by
  rw [List.perm_ext_iff_of_nodup n1 List.nodup_range]
  intro i; rw [m1 i, List.mem_range]
 rw [p.length_eq, List.length_range]
theorem closed_none : Closed ops (Array.replicate ops.size false) := fun j q hq hj => by
 have hlt := (Array.getElem?_eq_some_iff.1 hq).1
 simp [Array.getD, hlt] at hj
theorem JD.draw {id : Nat} (L1 L2 : List Nat) (z c : Nat) (cs : List Nat) (ids : List Nat) (hids : ids.Nodup) (l1 l2 : List Acc) (kp : List Nat) (hk : drawB2 ops L1 L2 z c cs l1 l2 kp ids.length = true)
    (h1 : DJ P E M (fun i => cs.contains i) (accL ids l1) (kp.map fun j => ids.getD j 0) Q (pick ops.toList L1) tm σ) (h2 : DJ P E M (fun i => cs.contains i) (accL ids l2) (kp.map fun j => ids.getD j 0) Q (pick ops.toList L2) tm σ) : JD P E M (.region id ops true) tm σ Q := by
 simp only [drawB2, Bool.and_eq_true, decide_eq_true_eq] at hk
 obtain ⟨⟨⟨⟨⟨⟨⟨⟨⟨⟨k1, k2⟩, k3⟩, k4⟩, k5⟩, k6⟩, k7⟩, k8⟩, k9⟩, k10⟩, k11⟩ := hk
 obtain ⟨n1, m1⟩ := permB_spec k2
 obtain ⟨n2, m2⟩ := permB_spec k3
 have r1 := DJ.run _ _ _ (hops_pick m1) h1
 have r2 := DJ.run _ _ _ (hops_pick m2) h2
 rw [pick_map] at r1 r2
 refine J.anyRegion ?_
 refine J.drawR2 (C := fun i => cs.contains i) (A := accL ids l1) (A2 := accL ids l2) (Kp := kp.map fun j => ids.getD j 0) k1 n1 n2 m1 m2 k6 k7 (fun i hi => ?_) k5 (fun k i hb => ?_) (fun k i hb => ?_) ops.size _ (tm, σ) (by simp) closed_none (by simp [Array.getD, k6]) (by simp [Array.getD, k7]) (by rw [unl_all m1, perm_len n1 m1]) (by rw [unl_all m2, perm_len n2 m2]) (by rw [unl_all m1]; exact r1) (by rw [unl_all m2]; exact r2)
 · rw [k4] at hi; simpa using hi
 · rcases okB_spec hids k10 _ _ _ _ _ (pairsB_spec k8 k i hb) with h | h
   · exact .inl h.2
   · exact .inr h
 · rcases okB_spec hids k11 _ _ _ _ _ (pairsB_spec k9 k i hb) with h | h
   · exact .inl h.2
   · exact .inr h
end
end
section
open Go.RowKit
section
variable {P : Program} {E : Env} {M : List TypeId} {n : Nat} {fr : List (Nat × AV)} {tm : List AV} {σ : Sto} {Q : AExit → List AV → Sto → Prop}
theorem JD.keep (ks : List Nat) {c : Code} (h : ∀ tm, JD P E M c (fm n (sel ks fr) tm) σ Q) : JD P E M c (fm n fr tm) σ Q := by
 rw [fm_sel ks]; exact h _
theorem JD.loopF {α : Type} (F : α → List (Nat × AV)) (S : α → Sto) (G : α → Prop) (μ : α → Nat) {c : Code} (a : α) (h0 : sub (F a) fr) (hs : σ = S a) (hg : G a)
    (round : ∀ a tm, G a → ∀ R : AExit → List AV → Sto → Prop, (∀ tm1 σ1, (∃ a' fr' tm', tm1 = fm n fr' tm' ∧ sub (F a') fr' ∧ σ1 = S a' ∧ G a' ∧ μ a' < μ a) → R .normal tm1 σ1) → (∀ x tm1 σ1, x ≠ .normal → Q x tm1 σ1 → R x tm1 σ1) → JD P E M c (fm n (F a) tm) (S a) R) : JD P E M (.loop c) (fm n fr tm) σ Q := by
 refine JD.loopI (fun k tm σ => ∃ a fr' tm', k = μ a ∧ tm = fm n fr' tm' ∧ sub (F a) fr' ∧ σ = S a ∧ G a) ?_ (μ a) _ _ ⟨a, fr, tm, rfl, rfl, h0, hs, hg⟩
 rintro k tm σ ⟨a, fr', tm', rfl, rfl, h1, rfl, h2⟩
 rw [fm_sub h1]
 refine round a _ h2 _ (fun tm1 σ1 h => ?_) (fun x tm1 σ1 hx h => ?_)
 · obtain ⟨a', fr', tm', e1, e2, e3, e4, e5⟩ := h
   exact ⟨μ a', e5, a', fr', tm', rfl, e1, e2, e3, e4⟩
 · cases x with
   | normal => exact (hx rfl).elim
   | _ => exact h
end
theorem all_nil {P : Nat → Prop} : (∀ a ∈ ([] : List Nat), P a) = True := by simp
theorem all_cons {P : Nat → Prop} {x : Nat} {l : List Nat} : (∀ a ∈ x :: l, P a) = (P x ∧ ∀ a ∈ l, P a) := by simp
end
section
open Go.RowKit
section
variable {P : Program} {ι : List Nat} {Z : Nat → Nat → Prop} {w : World} {r : Operand → Value} {ρ : Operand → Option AV}
theorem pure_room (hρ : ∀ x d, ρ x = some d → VR ι Z w d (r x)) {o : Oper} {x y : Operand} {t e k : Nat} {es : List (List AV)} {g : Nat} {tok : Tok} (ho : o.op = .slice t x none (some y) none) (ht : P.underlying t = some (.slice e)) (hx : ρ x = some (.sl (es ++ roomRows g) tok))
    (hk : szOf P e = some (k + 1)) (hy : (ρ y).bind litInt = some ((es.length : Nat) : Int)) (hp : 0 < (es ++ roomRows g).length) : PureR P ι Z w r o (.rsl es g) := by
 have hv := hρ x _ hx
 obtain ⟨d, hd1, hd2⟩ := Option.bind_eq_some_iff.1 hy
 obtain ⟨ki, hki⟩ := litInt_rel (hρ y d hd1) hd2
 generalize hrx : r x = u at hv
 generalize hl : es ++ roomRows g = l at hv
 cases hv with
 | nils a c tok h1 h2 => rw [hl] at hp; simp at hp
 | frs t k c b h1 h2 h3 => rw [hl] at hp; simp at hp
 | sl b q n c k' _ tok U h1 h2 h3 h4 h5 h6 h7 h8 =>
  subst hl
  have hel : es.length ≤ c := by rw [List.length_append] at h1; omega
  refine ⟨.slice (some ⟨b, q, none⟩) es.length c, ?_, .rsl b q c k' es g U (by omega) (by omega) h4 h5 h6 h8⟩
  unfold execOp
  rw [ho]
  refine run_v ?_
  have hcm : (es.length : Int) ≤ (c : Int) := by omega
  have hb : (Instr.sliceBounds true n c none (some (r y)) none).run P w = .ok (0, es.length, c) w := by
   unfold Instr.sliceBounds
   simp [hki, Instr.sliceBound, asIntOf, hcm, hel, Nat.not_lt.2 hel]
  simp only [Instr.sliceAt, Sem.run_bind, run_underlying ht, Result.andThen_ok, Instr.slice, hrx, Option.map_none, Option.map_some, hb, run_szOf hk]
  simp [Addr.add]
end
theorem J.room {P : Program} {E : Env} {M : List TypeId} {ops : Array Oper} {d : Option Tmp} {t e k ty : Nat} {x y : Operand} {po : String} {af : Array Edge} {gu : Option (Nat × Bool)} {rest : List Oper} {tm : List AV} {σ : Sto} {es : List (List AV)} {g : Nat} {tok : Tok} {Q : AExit → List AV → Sto → Prop}
    (hw : Region.wanted ⟨d, .slice t x none (some y) none, ty, po, af, gu⟩ (yieldedA ops tm) = true) (ht : P.underlying t = some (.slice e)) (hk : szOf P e = some (k + 1)) (hx : evx tm x = some (.sl (es ++ roomRows g) tok)) (hy : (evx tm y).bind litInt = some ((es.length : Nat) : Int)) (hp : 0 < (es ++ roomRows g).length)
    (h : J P E (.list M ops rest (putA tm d (.rsl es g)) σ Q)) : J P E (.list M ops (⟨d, .slice t x none (some y) none, ty, po, af, gu⟩ :: rest) tm σ Q) :=
 J.stepR (fun v σ' => v = .rsl es g ∧ σ' = σ) hw (fun ι Z w r hM hρ => ⟨_, _, .pure, ⟨rfl, rfl⟩, (pure_room hρ rfl ht hx hk hy hp).step hM⟩) (by rintro _ _ ⟨rfl, rfl⟩; exact h)
def TokN (σ0 σ : Sto) (m : Nat) (e k : Nat) (t : Tok) : Prop := TokAt σ0 σ m e t ∨ (m = 0 ∧ ∃ id, t = .fresh id k ∧ σ0.length ≤ id ∧ σ[id]? = some (.tok 0 e))
theorem TokN.ext {σ0 a b : Sto} {m e k : Nat} {t : Tok} (h : TokN σ0 a m e k t) (g : Ext a b) : TokN σ0 b m e k t := by
 rcases h with h | ⟨h0, id, h1, h2, h3⟩
 · exact .inl (h.ext g)
 · exact .inr ⟨h0, id, h1, h2, g.get h3⟩
theorem append_N {P : Program} {M : List TypeId} {σ0 σ : Sto} {es fs : List (List AV)} {tok tk : Tok} {t e k by_ : Nat} {z : Value} (ht : P.underlying t = some (.slice e)) (hk : szOf P e = some (k + 1)) (hb : bytesOf P e = some by_) (hz : ((P.info? e).bind fun x => x.zero) = some z) (hzk : z.cells.size = k + 1)
    (htok : TokN σ0 σ (es.length * (k + 1)) e (k + 1) tok) (hext : Ext σ0 σ) (h1 : es.head?.all (·.length == k + 1) = true) (h2 : fs.head?.all (·.length == k + 1) = true) (hf : fs.length ≠ 0) (hby : (es.length + fs.length) * by_ ≤ 140737488355328) (hle : es.length + fs.length ≤ 140737488355328) (hMt : M.contains t = false := by rfl) :
    ∃ t' σ' acc, Ext σ0 σ' ∧ TokAt σ0 σ' ((es.length + fs.length) * (k + 1)) e t' ∧ ∀ (tm : List AV) (ds : Option Tmp) (ty : TypeId) (po : String) (af : Array Edge) (gu : Option (Nat × Bool)) (x y : Operand), evx tm x = some (.sl es tok) → evx tm y = some (.sl fs tk) →
     evStep P M (evx tm) σ ⟨ds, .call ⟨.builtin .append, #[x, y], #[t, t]⟩, ty, po, af, gu⟩ = some (.val (.sl (es ++ stripRows fs) t') σ' acc) := by
 rcases htok with htok | ⟨h0, id, rfl, hid, hσ⟩
 · exact append_at ht hk hb hz hzk htok hext h1 h2 hf hby hle hMt
 · have hes : es = [] := by
    rcases Nat.mul_eq_zero.1 h0 with h | h
    · exact List.length_eq_zero_iff.1 h
    · omega
   subst hes
   have hz' : ((P.info? e).bind (·.zero)).map (·.cells.size) = some (k + 1) := by rw [hz]; simp [hzk]
   refine ⟨.own σ.length, _, .any, (hext.set hid).push _, TokAt.next hext, fun tm ds ty po af gu x y hx hy => ?_⟩
   have hlit : evLit P (evx tm) σ ⟨ds, .call ⟨.builtin .append, #[x, y], #[t, t]⟩, ty, po, af, gu⟩ = none := by
    unfold evLit
    simp [Op.operands, Call.operands, hx, conc, conc2]
   unfold evStep
   rw [if_neg (by simp only [mutOp, hMt]; exact Bool.false_ne_true), hlit]
   simp only [evPure, evMem]
   unfold evAppend
   simp only [ht, hx, hy, hk, hb, hz', if_true]
   rw [if_pos ⟨trivial, h1, h2, hby, hle⟩, if_neg hf]
   simp only [hσ]
   rw [if_pos ⟨⟨by simp, trivial⟩, trivial, trivial⟩]
theorem JD.lentEnd {P : Program} {E : Env} {M : List TypeId} {id n a b c d r o l t e k t1 t2 t3 t4 t5 : Nat} {p1 p2 p3 p4 p5 : String} {f1 f2 f3 f4 f5 : Array Edge} {fr : List (Nat × AV)} {tm : List AV} {σ : Sto} {Q : AExit → List AV → Sto → Prop} {es ls : List (List AV)} {g : Nat} {tok tk : Tok}
    (hn : a < n ∧ b < n ∧ c < n ∧ d < n ∧ o < n ∧ l < n) (hne : l ≠ a ∧ b ≠ a ∧ c ≠ a ∧ c ≠ b) (ht : P.underlying t = some (.slice e)) (hk : szOf P e = some (k + 1)) (ho : ∀ x, lk o fr x = .sl (es ++ roomRows g) tok) (hl : ∀ x, lk l fr x = .sl ls tk) (hle : ls.length = es.length) (hp : 0 < (es ++ roomRows g).length)
    (h : Q .normal (fm n (pt r (.rsl es g) (pt d (.rsl es g) (pt c (.lit (.int .i64 es.length)) (pt b (.sl ls tk) (pt a (.sl (es ++ roomRows g) tok) fr))))) tm) σ) :
    JD P E M (.region id #[⟨some a, .move (.tmp o), t1, p1, f1, none⟩, ⟨some b, .move (.tmp l), t2, p2, f2, none⟩, ⟨some c, .call ⟨.builtin .len, #[.tmp b], #[t]⟩, t3, p3, f3, none⟩, ⟨some d, .slice t (.tmp a) none (some (.tmp c)) none, t4, p4, f4, none⟩, ⟨some r, .assign (.tmp d), t5, p5, f5, none⟩] false) (fm n fr tm) σ Q := by
 have lkp : ∀ {i j : Nat} {v x : AV} {fr : List (Nat × AV)}, lk i (pt j v fr) x = if i = j then v else lk i fr x := by
  intro i j v x fr
  induction fr with
  | nil =>
   by_cases e : i = j
   · subst e; simp [pt, lk]
   · have e2 : ¬ j = i := fun h => e h.symm
     simp [pt, lk, e, e2]
  | cons q fr ih =>
   obtain ⟨q1, q2⟩ := q
   rw [pt]
   by_cases e : i = j
   · subst e
     split
     · simp [lk]
     · rename_i h
       have h2 : ¬ q1 = i := by simpa using h
       simp [lk, ih, h2]
   · have e2 : ¬ j = i := fun h => e h.symm
     split
     · rename_i h
       have h : q1 = j := by simpa using h
       subst h
       simp [lk, e, e2]
     · simp only [lk, ih]
       rw [if_neg e]
 refine J.region ?_
 refine J.val (v := .sl (es ++ roomRows g) tok) (σ' := σ) (acc := .pure) rfl (by simp [evStep, mutOp, evPure, zT, slot_fm, hn, ho]) ?_
 rw [show putA (fm n fr tm) (some a) (.sl (es ++ roomRows g) tok) = fm n (pt a (.sl (es ++ roomRows g) tok) fr) tm from set_fm]
 refine J.val (v := .sl ls tk) (σ' := σ) (acc := .pure) rfl (by simp [evStep, mutOp, evPure, zT, slot_fm, hn, lkp, hne, hl]) ?_
 rw [show ∀ fr, putA (fm n fr tm) (some b) (.sl ls tk) = fm n (pt b (.sl ls tk) fr) tm from fun _ => set_fm]
 refine J.val (v := .lit (.int .i64 es.length)) (σ' := σ) (acc := .pure) rfl (by simp [evStep, mutOp, evPure, zT, slot_fm, hn, lkp, ht, hle]) ?_
 rw [show ∀ fr, putA (fm n fr tm) (some c) (.lit (.int .i64 es.length)) = fm n (pt c (.lit (.int .i64 es.length)) fr) tm from fun _ => set_fm]
 refine J.room (k := k) (e := e) (tok := tok) rfl ht hk (by simp [zT, slot_fm, hn, lkp, hne.2.1.symm, hne.2.2.1.symm]) (by simp [zT, slot_fm, hn, lkp, litInt]) hp ?_
 rw [show ∀ fr, putA (fm n fr tm) (some d) (.rsl es g) = fm n (pt d (.rsl es g) fr) tm from fun _ => set_fm]
 refine J.val (v := .rsl es g) (σ' := σ) (acc := .pure) rfl (by simp [evStep, mutOp, evPure, zT, slot_fm, hn, lkp]) ?_
 rw [show ∀ fr, putA (fm n fr tm) (some r) (.rsl es g) = fm n (pt r (.rsl es g) fr) tm from fun _ => set_fm]
 exact J.nil h
end
end Go.Proofs.YtmmgjaheffbpaaaGreatDoor
