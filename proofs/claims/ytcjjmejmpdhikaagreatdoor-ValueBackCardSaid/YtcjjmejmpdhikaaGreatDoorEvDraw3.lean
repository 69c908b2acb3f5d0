/-
  EV: REGIONS THAT DRAW THEIR ORDER: sound.
-/
import Derived.Test.YtcjjmejmpdhikaaGreatDoorEvDraw2
namespace Go.Proofs.YtcjjmejmpdhikaaGreatDoor
set_option linter.unusedSimpArgs false
set_option linter.unusedVariables false
open Go.RowKit

section
variable {P : Program} {M : List TypeId} {call : CallF} {ops : Array Oper}

/-- what is left, in the text's order -/
def left (listed : Array Bool) (p : Nat) : List Nat := (List.range p).filter fun i => !listed.getD i true

theorem range_split {p i : Nat} (h : i < p) : ∃ r, List.range p = List.range i ++ i :: r ∧ ∀ j ∈ r, i < j ∧ j < p := by
  refine ⟨List.range' (i + 1) (p - i - 1), ?_, fun j hj => by rw [List.mem_range'_1] at hj; omega⟩
  rw [List.range_eq_range', List.range_eq_range']
  rw [show p = i + (1 + (p - i - 1)) by omega, ← List.range'_append_1, ← List.range'_append_1]
  simp [List.range'_succ]

theorem getD_set {listed : Array Bool} {i j : Nat} (hi : i < listed.size) : (listed.setIfInBounds i true).getD j true = if j = i then true else listed.getD j true := by
  by_cases h : j = i
  · subst h; simp [Array.getD, hi]
  · simp only [if_neg h, Array.getD_eq_getD_getElem?]
    rw [Array.getElem?_setIfInBounds_ne (Ne.symm h)]

theorem left_split {listed : Array Bool} {p i : Nat} (hi : i < p) (hs : i < listed.size) (hl : listed.getD i true = false) :
    ∃ l1 l2, left listed p = l1 ++ i :: l2 ∧ left (listed.setIfInBounds i true) p = l1 ++ l2 ∧ ∀ k ∈ l1, k < i ∧ listed.getD k true = false := by
  obtain ⟨r, hr, hr2⟩ := range_split hi
  refine ⟨(List.range i).filter fun k => !listed.getD k true, r.filter fun k => !listed.getD k true, ?_, ?_, fun k hk => ?_⟩
  · unfold left; rw [hr, List.filter_append, List.filter_cons, hl]; rfl
  · unfold left
    rw [hr, List.filter_append, List.filter_cons, getD_set hs, if_pos rfl]
    simp only [Bool.not_true, Bool.false_eq_true, if_false]
    congr 1
    · refine List.filter_congr fun k hk => ?_
      rw [List.mem_range] at hk
      rw [getD_set hs, if_neg (by omega)]
    · refine List.filter_congr fun k hk => ?_
      have := hr2 k hk
      rw [getD_set hs, if_neg (by omega)]
  · rw [List.mem_filter, List.mem_range] at hk
    exact ⟨hk.1, by simpa using hk.2⟩

theorem mem_left {listed : Array Bool} {p i : Nat} : i ∈ left listed p ↔ i < p ∧ listed.getD i true = false := by
  unfold left; rw [List.mem_filter, List.mem_range]; simp

/-- no order is stuck -/
theorem ready_nil (he : edgesOk ops.toList 0 = true) {listed : Array Bool} (hsz : listed.size = ops.size) (h : Region.ready .any ops listed = []) : left listed ops.size = [] := by
  have key : ∀ i, i < ops.size → listed.getD i true = true := by
    intro i
    induction i using Nat.strongRecOn with
    | _ i ih =>
      intro hi
      cases hl : listed.getD i true with
      | true => rfl
      | false =>
        exfalso
        have : i ∈ Region.ready .any ops listed := by
          unfold Region.ready
          rw [List.mem_filter, List.mem_range]
          refine ⟨hi, ?_⟩
          rw [hl]
          simp only [Bool.not_false, Bool.true_and, Array.getElem?_eq_getElem hi, Option.map_some, Option.getD_some, Array.all_eq_true']
          intro e hem
          cases hb : Region.binds .any e with
          | false => rfl
          | true =>
            have hlt := edgesOk_spec ops.toList 0 he i ops[i] (by simp [hi]) e (by simpa using hem) hb
            have h1 := ih e.on (by omega) (by omega)
            have : listed.getD e.on false = true := by
              have hs : e.on < listed.size := by omega
              simp [Array.getD, hs] at h1 ⊢
              exact h1
            simp [this]
        rw [h] at this
        simp at this
  apply List.eq_nil_iff_forall_not_mem.2
  intro i hi
  rw [mem_left] at hi
  rw [key i hi.1] at hi
  simp at hi

def Closed (ops : Array Oper) (listed : Array Bool) : Prop := ∀ (i : Nat) (o : Oper), ops[i]? = some o → listed.getD i true = true → ∀ e ∈ o.after.toList, Region.binds .any e = true → listed.getD e.on true = true

theorem ready_spec {listed : Array Bool} (hsz : listed.size = ops.size) {i : Nat} (h : i ∈ Region.ready .any ops listed) : i < ops.size ∧ listed.getD i true = false ∧ ∀ o, ops[i]? = some o → ∀ e ∈ o.after.toList, Region.binds .any e = true → listed.getD e.on true = true := by
  unfold Region.ready at h
  rw [List.mem_filter, List.mem_range] at h
  obtain ⟨h1, h2⟩ := h
  rw [Bool.and_eq_true] at h2
  refine ⟨h1, by simpa using h2.1, fun o ho e he hb => ?_⟩
  have h3 := h2.2
  rw [ho] at h3
  simp only [Option.map_some, Option.getD_some, Array.all_eq_true'] at h3
  have h4 := h3 e (by simpa using he)
  rw [hb] at h4
  simp only [Bool.not_true, Bool.false_or] at h4
  by_cases hs : e.on < listed.size
  · simp [Array.getD, hs] at h4 ⊢; exact h4
  · simp [Array.getD, hs]

theorem Closed.set {listed : Array Bool} (h : Closed ops listed) {i : Nat} (hi : i < listed.size) (hp : ∀ o, ops[i]? = some o → ∀ e ∈ o.after.toList, Region.binds .any e = true → listed.getD e.on true = true) : Closed ops (listed.setIfInBounds i true) := by
  intro j o ho hj e he hb
  rw [getD_set hi] at hj ⊢
  split
  · rfl
  · by_cases hji : j = i
    · subst hji; exact hp o ho e he hb
    · rw [if_neg hji] at hj; exact h j o ho hj e he hb

theorem region_any (hcall : CallSound P call) {A : Nat → Acc} {p : Nat} {fin : List AV × Sto} (he : edgesOk ops.toList 0 = true) (hp : p ≤ ops.size)
    (hfree : ∀ k i, k < i → i < p → ((masks ops.toList []).getD i 0).testBit k = true ∨ Free ops A k i)
    (res : Option AV) (σ' : Sto) (hnone : res = none → p = ops.size ∧ fin.2 = σ')
    (hsome : ∀ v, res = some v → p < ops.size ∧ (∃ o, ops[p]? = some o ∧ evOp P M call ops o fin.1 fin.2 = some (.inl v, σ')) ∧ (∀ k, k < p → ((masks ops.toList []).getD p 0).testBit k = true) ∧ ∀ j, p < j → j < ops.size → ((masks ops.toList []).getD j 0).testBit p = true)
    (Q : Exit → Act → World → Prop) {ι0 : List Nat} {Z0 : Nat → Nat → Prop} {w0 : World} {a0 : Act}
    (hQn : res = none → ∀ ι Z w a, After ι0 Z0 w0 a0 fin.1 σ' ι Z w a → Q .normal a w)
    (hQp : ∀ v, res = some v → ∀ ι Z w a u, After ι0 Z0 w0 a0 fin.1 σ' ι Z w a → VR ι Z w v u → Q (.panic [{ v := u, recovered := false }]) a w) :
    ∀ (fuel : Nat) (listed : Array Bool) (s : List AV × Sto) (ι : List Nat) (Z : Nat → Nat → Prop) (w : World) (a : Act), listed.size = ops.size → Closed ops listed → fuel = (left listed ops.size).length → RunA P M call ops A (left listed p) s fin →
      (∀ i, p ≤ i → i < ops.size → listed.getD i true = false) → After ι0 Z0 w0 a0 s.1 s.2 ι Z w a → wpAny P .any ops Q fuel listed a w
  | 0, listed, s, ι, Z, w, a, hsz, hcl, hf, hrun, hun, haf => by
    have hnil : left listed ops.size = [] := List.eq_nil_of_length_eq_zero hf.symm
    refine ⟨?_, ?_⟩
    · apply List.eq_nil_iff_forall_not_mem.2
      intro i hi
      obtain ⟨h1, h2, _⟩ := ready_spec hsz hi
      have : i ∈ left listed ops.size := mem_left.2 ⟨h1, h2⟩
      rw [hnil] at this; simp at this
    · cases hres : res with
      | some v =>
        obtain ⟨h1, _⟩ := hsome v hres
        have : p ∈ left listed ops.size := mem_left.2 ⟨h1, hun p (Nat.le_refl _) h1⟩
        rw [hnil] at this; simp at this
      | none =>
        obtain ⟨h1, h2⟩ := hnone hres
        subst h1
        rw [hnil] at hrun
        cases hrun
        rw [h2] at haf
        exact hQn hres ι Z w a haf
  | fuel + 1, listed, s, ι, Z, w, a, hsz, hcl, hf, hrun, hun, haf => by
    refine ⟨fun hr => ?_, fun i hi => ?_⟩
    · have := ready_nil he hsz hr
      rw [this] at hf; simp at hf
    · obtain ⟨hlt, hul, hpre⟩ := ready_spec hsz hi
      have hcl' : Closed ops (listed.setIfInBounds i true) := hcl.set (by omega) hpre
      obtain ⟨o, ho⟩ : ∃ o, ops[i]? = some o := ⟨_, Array.getElem?_eq_getElem hlt⟩
      have hmask : ∀ k, ((masks ops.toList []).getD i 0).testBit k = true → listed.getD k true = true :=
        mask_closed (fun k => listed.getD k true = true) (fun j q hq hj e hem hb => hcl j q hq hj e hem hb) i o ho (fun e hem hb => hpre o ho e hem hb)
      have hsz' : (listed.setIfInBounds i true).size = ops.size := by simpa using hsz
      have hf' : fuel = (left (listed.setIfInBounds i true) ops.size).length := by
        obtain ⟨l1, l2, e1, e2, _⟩ := left_split (p := ops.size) hlt (by omega) hul
        rw [e1] at hf; rw [e2]; simp at hf ⊢; omega
      obtain ⟨ev0, m0, f0, d0⟩ := haf
      have finish : ∀ {r : AV ⊕ (List AV × Acc)} {σ1 : Sto}, evOp P M call ops o s.1 s.2 = some (r, σ1) →
          (∀ tm' acc, r = .inr (tm', acc) → ∀ ι' Z' w' a', After ι0 Z0 w0 a0 tm' σ1 ι' Z' w' a' → wpAny P .any ops Q fuel (listed.setIfInBounds i true) a' w') →
          (∀ v, r = .inl v → ∀ ι' Z' w' a' u, After ι0 Z0 w0 a0 s.1 σ1 ι' Z' w' a' → VR ι' Z' w' v u → Q (.panic [{ v := u, recovered := false }]) a' w') →
          wpOp P ops Q i (wpAny P .any ops Q fuel (listed.setIfInBounds i true)) a w := by
        intro r σ1 h1 h2 h3
        have := evOp_sound hcall h1 m0 f0 (wpAny P .any ops Q fuel (listed.setIfInBounds i true)) Q
          (fun tm' acc hr ι' Z' w' a' ha => h2 tm' acc hr ι' Z' w' a' ⟨ev0.trans ha.1, ha.2.1, ha.2.2.1, ha.2.2.2.trans d0⟩)
          (fun v hr ι' Z' w' a' u ha hv => h3 v hr ι' Z' w' a' u ⟨ev0.trans ha.1, ha.2.1, ha.2.2.1, ha.2.2.2.trans d0⟩ hv)
        unfold wpOp
        simp only [ho]
        split
        · rename_i hw; rw [if_pos hw] at this; exact .inl this
        · rename_i hw; rw [if_neg hw] at this; exact this
      rcases Nat.lt_trichotomy i p with hip | hip | hip
      · obtain ⟨l1, l2, e1, e2, e3⟩ := left_split (p := p) hip (by omega) hul
        rw [e1] at hrun
        have hfr : ∀ k ∈ l1, Free ops A k i := by
          intro k hk
          obtain ⟨hk1, hk2⟩ := e3 k hk
          rcases hfree k i hk1 hip with h | h
          · rw [hmask k h] at hk2; cases hk2
          · exact h
        obtain ⟨s1, g1, g2⟩ := hrun.front hfr
        obtain ⟨o', ho', g3⟩ := ops1_some g1
        have : o' = o := by rw [ho] at ho'; exact (Option.some.inj ho').symm
        subst this
        refine finish g3 (fun tm' acc hr ι' Z' w' a' ha => ?_) (fun v hr => by cases hr)
        cases hr
        refine region_any hcall he hp hfree res σ' hnone hsome Q hQn hQp fuel _ s1 ι' Z' w' a' hsz' hcl' hf' (by rw [e2]; exact g2) (fun j hj1 hj2 => ?_) ha
        rw [getD_set (by omega), if_neg (by omega)]
        exact hun j hj1 hj2
      · subst hip
        cases hres : res with
        | none => have := (hnone hres).1; omega
        | some v =>
          obtain ⟨h1, ⟨o', ho', h2⟩, h3, h4⟩ := hsome v hres
          have : o' = o := by rw [ho] at ho'; exact (Option.some.inj ho').symm
          subst this
          have hnil : left listed i = [] := by
            apply List.eq_nil_iff_forall_not_mem.2
            intro k hk
            rw [mem_left] at hk
            rw [hmask k (h3 k hk.1)] at hk
            simp at hk
          rw [hnil] at hrun
          cases hrun
          exact finish h2 (fun tm' acc hr => by cases hr) (fun v' hr ι' Z' w' a' u ha hv => by cases hr; exact hQp v hres ι' Z' w' a' u ha hv)
      · cases hres : res with
        | none => have := (hnone hres).1; omega
        | some v =>
          obtain ⟨h1, _, _, h4⟩ := hsome v hres
          have h5 := hmask p (h4 i hip hlt)
          rw [hun p (Nat.le_refl _) h1] at h5
          cases h5

/-- A REGION: in order, or in any order. -/
theorem evRegion_sound (hm : P.follows .mixedOrders = true) (hcall : CallSound P call) {id : Nat} {draw : Bool} {tm tm' : List AV} {σ σ' : Sto} {x : AExit} {ι : List Nat} {Z : Nat → Nat → Prop} {w : World} {a : Act} (h : evRegion P M call ops draw tm σ = some (x, tm', σ')) (hM : Match σ ι Z w) (hF : FR ι Z w tm a.tmps)
    (Q : Exit → Act → World → Prop) (hQ : ∀ e a' w', Ends ι Z w a x tm' σ' e a' w' → Q e a' w') : (Code.region id ops draw).wp P Q a w := by
  unfold evRegion at h
  cases draw with
  | false =>
    simp only [Bool.false_eq_true, if_false] at h
    exact wp_region (evOps_sound hcall _ h hM hF Q hQ)
  | true =>
    simp only [if_true] at h
    have start : ∀ (accs : List Acc) (res : Option AV) (σe : Sto), evD P M call ops (List.range ops.size) tm σ = some (accs, res, tm', σe) → edgesOk ops.toList 0 = true → drawOk ops accs = true → (∀ v, res = some v → panicOk ops accs.length = true) →
        (res = none → ∀ ι2 Z2 w2 a2, After ι Z w a tm' σe ι2 Z2 w2 a2 → Q .normal a2 w2) → (∀ v, res = some v → ∀ ι2 Z2 w2 a2 u, After ι Z w a tm' σe ι2 Z2 w2 a2 → VR ι2 Z2 w2 v u → Q (.panic [{ v := u, recovered := false }]) a2 w2) →
        (Code.region id ops true).wp P Q a w := by
      intro accs res σe hD he hd hpan hn hp
      rw [List.range_eq_range'] at hD
      obtain ⟨g0, σ1, g1, g2, g3⟩ := evD_run (fun i => accs.getD i .any) ops.size 0 tm σ accs res tm' σe hD (fun j b hj => by rw [Nat.zero_add, List.getD_eq_getElem?_getD, hj]; rfl)
      have hwd : After ι Z w a tm σ ι Z { w with drawn := w.drawn + 1 } a := ⟨Evo.drew ι Z w, hM.drew, hF.evo (Evo.drew ι Z w), rfl⟩
      have hrep : ∀ i, i < ops.size → (Array.replicate ops.size false).getD i true = false := by intro i hi; simp [Array.getD, hi]
      have hleft : ∀ p, p ≤ ops.size → left (Array.replicate ops.size false) p = List.range' 0 p := by
        intro p hp
        unfold left
        rw [← List.range_eq_range']
        refine List.filter_eq_self.2 fun i hi => ?_
        rw [List.mem_range] at hi
        rw [hrep i (by omega)]; rfl
      refine wp_region_any hm ?_
      refine region_any (M := M) (P := P) (call := call) (A := fun i => accs.getD i .any) (p := accs.length) (fin := (tm', σ1)) hcall he g0 ?_ res σe ?_ ?_ Q hn hp ops.size (Array.replicate ops.size false) (tm, σ) ι Z _ a (by simp) ?_ ?_ ?_ ?_ hwd
      · intro k i hki hip
        unfold drawOk at hd
        rw [List.all_eq_true] at hd
        have h1 := hd i (by simpa using hip)
        rw [List.all_eq_true] at h1
        have h2 := h1 k (by simpa using hki)
        unfold freeAt at h2
        rw [Bool.or_eq_true] at h2
        rcases h2 with h2 | h2
        · exact .inl h2
        · refine .inr ?_
          split at h2
          · rename_i x y hx hy
            simp only [Bool.and_eq_true, Bool.not_eq_true'] at h2
            exact ⟨x, y, hx, hy, h2.1.1, h2.2⟩
          · cases h2
      · intro hr; obtain ⟨h1, h2⟩ := g2 hr; exact ⟨h1, h2⟩
      · intro v hv
        obtain ⟨h1, o, h2, h3⟩ := g3 v hv
        have h4 := hpan v hv
        unfold panicOk at h4
        rw [Bool.and_eq_true, List.all_eq_true, List.all_eq_true] at h4
        refine ⟨h1, ⟨o, by simpa using h2, h3⟩, fun k hk => h4.1 k (by simpa using hk), fun j hj1 hj2 => ?_⟩
        have := h4.2 j (by simpa using hj2)
        rw [Bool.or_eq_true, decide_eq_true_eq] at this
        rcases this with h | h
        · omega
        · exact h
      · intro i o ho hi
        have hlt := (Array.getElem?_eq_some_iff.1 ho).1
        rw [hrep i hlt] at hi; cases hi
      · rw [hleft _ (Nat.le_refl _)]; simp
      · rw [hleft _ g0]; exact g1
      · intro i _ hi; exact hrep i hi
    split at h
    · rename_i accs tm1 σe hD
      split at h
      · rename_i hc
        rw [Bool.and_eq_true] at hc
        cases h
        exact start accs none σ' hD hc.1 hc.2 (fun v hv => by cases hv) (fun _ ι2 Z2 w2 a2 ha => hQ _ _ _ ⟨ι2, Z2, ha, rfl⟩) (fun v hv => by cases hv)
      · cases h
    · rename_i accs v tm1 σe hD
      split at h
      · rename_i hc
        rw [Bool.and_eq_true, Bool.and_eq_true] at hc
        cases h
        exact start accs (some v) σ' hD hc.1.1 hc.1.2 (fun _ _ => hc.2) (fun hr => by cases hr) (fun v' hv ι2 Z2 w2 a2 u ha hu => by cases hv; exact hQ _ _ _ ⟨ι2, Z2, ha, u, rfl, hu⟩)
      · cases h
    · cases h

end
end Go.Proofs.YtcjjmejmpdhikaaGreatDoor
