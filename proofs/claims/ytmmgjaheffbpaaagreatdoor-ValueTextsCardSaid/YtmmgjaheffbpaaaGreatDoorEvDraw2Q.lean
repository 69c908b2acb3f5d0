/-
 EV: REGIONS THAT DRAW THEIR ORDER, the exchange of two operations; every order.
-/
import Derived.Test.YtmmgjaheffbpaaaGreatDoorEvSoundQ
namespace Go.Proofs.YtmmgjaheffbpaaaGreatDoor
set_option linter.unusedSimpArgs false
set_option linter.unusedVariables false
set_option linter.unusedSectionVars false
section
open Go.RowKit
section
variable {P : Program} {M : List TypeId} {call : CallF} {ops : Array Oper}
noncomputable def ops1 (P : Program) (M : List TypeId) (call : CallF) (ops : Array Oper) (i : Nat) (s : List AV × Sto) : Option (Acc × List AV × Sto) :=
 match ops[i]? with
 | none => none
 | some o => match evOp P M call ops o s.1 s.2 with | some (.inr (tm', acc), σ') => some (acc, tm', σ') | _ => none
theorem ops1_some {i : Nat} {s : List AV × Sto} {acc : Acc} {s' : List AV × Sto} (h : ops1 P M call ops i s = some (acc, s')) : ∃ o, ops[i]? = some o ∧ evOp P M call ops o s.1 s.2 = some (.inr (s'.1, acc), s'.2) := by
 unfold ops1 at h
 split at h
 · cases h
 · rename_i o ho
   refine ⟨o, ho, ?_⟩
   split at h
   · rename_i h1; cases h; exact h1
   · cases h
theorem ops1_mk {i : Nat} {o : Oper} {s : List AV × Sto} {acc : Acc} {tm : List AV} {σ : Sto} (ho : ops[i]? = some o) (h : evOp P M call ops o s.1 s.2 = some (.inr (tm, acc), σ)) : ops1 P M call ops i s = some (acc, tm, σ) := by
 unfold ops1; simp only [ho, h]
theorem putA_other {tm : List AV} {dst : Option Tmp} {v : AV} {t : Nat} (h : dst ≠ some t) : (putA tm dst v)[t]? = tm[t]? := by
 cases dst with
 | none => rfl
 | some d => simp only [putA]; rw [List.getElem?_set_ne (fun e => h (by rw [e]))]
theorem putA_comm {tm : List AV} {a b : Option Tmp} {u v : AV} (h : ∀ d, a = some d → b ≠ some d) : putA (putA tm a u) b v = putA (putA tm b v) a u := by
 cases a with
 | none => rfl
 | some d =>
  cases b with
  | none => rfl
  | some e =>
   have hne : d ≠ e := fun q => h d rfl (by rw [q])
   simp only [putA]; rw [List.set_comm _ _ hne]
theorem swap {i j : Nat} {oi oj : Oper} {ai aj : Acc} {s s1 s2 : List AV × Sto} (hi : ops[i]? = some oi) (hj : ops[j]? = some oj) (ha : Oper.apart ops oi oj = true) (hc : clash ai aj = false) (h1 : ops1 P M call ops i s = some (ai, s1)) (h2 : ops1 P M call ops j s1 = some (aj, s2)) :
    ∃ s1', ops1 P M call ops j s = some (aj, s1') ∧ ops1 P M call ops i s1' = some (ai, s2) := by
 obtain ⟨tm, σ⟩ := s
 obtain ⟨tm1, σ1⟩ := s1
 obtain ⟨tm2, σ2⟩ := s2
 obtain ⟨d1, d2, d3⟩ := Oper.apart_spec ha
 obtain ⟨o, ho, e1⟩ := ops1_some h1
 obtain rfl : o = oi := by rw [hi] at ho; exact (Option.some.inj ho).symm
 obtain ⟨o', ho', e2⟩ := ops1_some h2
 obtain rfl : o' = oj := by rw [hj] at ho'; exact (Option.some.inj ho').symm
 dsimp only at e1 e2
 obtain ⟨vi, rfl, li⟩ := evOp_local e1
 obtain ⟨vj, rfl, lj⟩ := evOp_local e2
 have gj := lj tm fun t ht => (putA_other fun e => d1 t e ht).symm
 have gi := li (putA tm o'.dst vj) fun t ht => putA_other fun e => d3 t e ht
 have hcomm : putA (putA tm o'.dst vj) o.dst vi = putA (putA tm o.dst vi) o'.dst vj := (putA_comm d2).symm
 rw [hcomm] at gi
 have fin : ∀ σ' : Sto, evOp P M call ops o' tm σ = some (.inr (putA tm o'.dst vj, aj), σ') → evOp P M call ops o (putA tm o'.dst vj) σ' = some (.inr (putA (putA tm o.dst vi) o'.dst vj, ai), σ2) →
     ∃ s1', ops1 P M call ops j (tm, σ) = some (aj, s1') ∧ ops1 P M call ops i s1' = some (ai, putA (putA tm o.dst vi) o'.dst vj, σ2) :=
  fun σ' g1 g2 => ⟨(putA tm o'.dst vj, σ'), ops1_mk hj g1, ops1_mk hi g2⟩
 obtain ⟨gi1, gi2⟩ := gi
 obtain ⟨gj1, gj2⟩ := gj
 cases ai with
 | pure =>
  obtain ⟨rfl, f⟩ := gi2
  exact fin σ2 gj1 (f σ2)
 | reads a =>
  obtain ⟨rfl, la, f⟩ := gi2
  cases aj with
  | pure => obtain ⟨rfl, g⟩ := gj2; exact fin _ gj1 (f _ rfl)
  | reads b => obtain ⟨rfl, lb, g⟩ := gj2; exact fin _ gj1 (f _ rfl)
  | writes b =>
   obtain ⟨x, lb, rfl, g⟩ := gj2
   have hne : a ≠ b := by simpa [clash] using hc
   exact fin _ gj1 (f _ (by rw [List.getElem?_set_ne (Ne.symm hne)]))
  | news b =>
   obtain ⟨x, hb, rfl, g⟩ := gj2
   exact fin _ gj1 (f _ (by rw [List.getElem?_append_left la]))
  | grows k n =>
   obtain ⟨x, hn, rfl⟩ := gj2
   have hka : ¬ k = some a := by intro e; subst e; simp [clash] at hc
   refine fin _ gj1 (f _ ?_)
   cases k with
   | none => exact List.getElem?_append_left la
   | some i => rw [List.getElem?_append_left (by simpa [gone] using la)]; exact List.getElem?_set_ne (fun e => hka (by rw [e]))
  | calls n b =>
   obtain ⟨hn, hb⟩ := gj2
   exact fin _ gj1 (f _ (hb a (by simpa [clash] using hc) la))
  | lcalls b =>
   obtain ⟨hn, hb, _⟩ := gj2
   exact fin _ gj1 (f _ (hb a (by simpa [clash] using hc)))
  | any => simp [clash] at hc
 | writes a =>
  obtain ⟨x, la, rfl, f⟩ := gi2
  cases aj with
  | pure => obtain ⟨rfl, g⟩ := gj2; exact fin σ (g σ) (f _ rfl)
  | reads b =>
   obtain ⟨rfl, lb, g⟩ := gj2
   have hne : a ≠ b := by simpa [clash] using hc
   exact fin σ (g σ (by rw [List.getElem?_set_ne hne])) (f _ rfl)
  | writes b =>
   obtain ⟨y, lb, rfl, g⟩ := gj2
   have hne : a ≠ b := by simpa [clash] using hc
   refine fin _ (g σ (by rw [List.getElem?_set_ne hne])) ?_
   rw [List.set_comm _ _ hne]
   exact f _ (by rw [List.getElem?_set_ne (Ne.symm hne)])
  | news b =>
   obtain ⟨y, hb, rfl, g⟩ := gj2
   refine fin _ (g σ (by simp)) ?_
   have := f (σ ++ [y]) (by rw [List.getElem?_append_left la])
   rw [List.set_append_left _ _ la] at this
   exact this
  | grows k n => simp [clash] at hc
  | calls n b => simp [clash] at hc
  | lcalls b => simp [clash] at hc
  | any => simp [clash] at hc
 | news a =>
  obtain ⟨x, hla, rfl, f⟩ := gi2
  cases aj with
  | pure => obtain ⟨rfl, g⟩ := gj2; exact fin σ (g σ) (f _ rfl)
  | reads b =>
   obtain ⟨rfl, lb, g⟩ := gj2
   have hne : a ≠ b := by simpa [clash] using hc
   have lb' : b < σ.length := by simp at lb; omega
   exact fin σ (g σ (by rw [List.getElem?_append_left lb'])) (f _ rfl)
  | writes b =>
   obtain ⟨y, lb, rfl, g⟩ := gj2
   have hne : a ≠ b := by simpa [clash] using hc
   have lb' : b < σ.length := by simp at lb; omega
   refine fin _ (g σ (by rw [List.getElem?_append_left lb'])) ?_
   rw [List.set_append_left _ _ lb']
   exact f _ (by simp)
  | news b => simp [clash] at hc
  | grows k n => simp [clash] at hc
  | calls n b => simp [clash] at hc
  | lcalls b => simp [clash] at hc
  | any => simp [clash] at hc
 | grows k n =>
  obtain ⟨x, hn, rfl⟩ := gi2
  cases aj with
  | pure => obtain ⟨rfl, g⟩ := gj2; exact fin σ (g σ) gi1
  | reads b =>
   obtain ⟨rfl, lb, g⟩ := gj2
   have hc' : ¬ k = some b ∧ ¬ b = n := by simpa [clash] using hc
   have hgl : (gone k σ).length = σ.length := by cases k <;> simp [gone]
   have lb' : b < σ.length := by simp [hgl] at lb; omega
   refine fin σ (g σ ?_) gi1
   rw [List.getElem?_append_left (by rw [hgl]; exact lb')]
   cases k with
   | none => rfl
   | some i => exact (List.getElem?_set_ne (fun e => hc'.1 (by rw [e]))).symm
  | _ => simp [clash] at hc
 | calls n b =>
  obtain ⟨hn, hb⟩ := gi2
  cases aj with
  | pure => obtain ⟨rfl, g⟩ := gj2; exact fin σ (g σ) gi1
  | reads a =>
   obtain ⟨rfl, lb, g⟩ := gj2
   have hc' : b a = true ∧ a < n := by simpa [clash] using hc
   exact fin σ (g σ (hb a hc'.1 (by omega)).symm) gi1
  | _ => simp [clash] at hc
 | lcalls b =>
  obtain ⟨hn, hb, f⟩ := gi2
  cases aj with
  | pure => obtain ⟨rfl, g⟩ := gj2; exact fin σ (g σ) gi1
  | reads a =>
   obtain ⟨rfl, lb, g⟩ := gj2
   have hc' : b a = true := by simpa [clash] using hc
   exact fin σ (g σ (hb a hc').symm) gi1
  | news a =>
   obtain ⟨y, ha, rfl, g⟩ := gj2
   exact fin _ (g σ hn.symm) (f [y])
  | _ => simp [clash] at hc
 | any =>
  cases aj with
  | pure => obtain ⟨rfl, g⟩ := gj2; exact fin σ (g σ) gi1
  | _ => simp [clash] at hc
def RunA (P : Program) (M : List TypeId) (call : CallF) (ops : Array Oper) (A : Nat → Acc) : List Nat → List AV × Sto → List AV × Sto → Prop
 | [], s, s' => s = s'
 | i :: l, s, s' => ∃ s1, ops1 P M call ops i s = some (A i, s1) ∧ RunA P M call ops A l s1 s'
def Free (ops : Array Oper) (A : Nat → Acc) (k i : Nat) : Prop := ∃ x y, ops[k]? = some x ∧ ops[i]? = some y ∧ Oper.apart ops x y = true ∧ clash (A k) (A i) = false
theorem RunA.front {A : Nat → Acc} {i : Nat} : ∀ {l r : List Nat} {s s' : List AV × Sto}, RunA P M call ops A (l ++ i :: r) s s' → (∀ k ∈ l, Free ops A k i) → RunA P M call ops A (i :: (l ++ r)) s s'
 | [], r, s, s', h, _ => h
 | k :: l, r, s, s', h, hf => by
  obtain ⟨s1, h1, h2⟩ := h
  obtain ⟨s2, h3, h4⟩ := RunA.front (l := l) h2 fun q hq => hf q (by simp [hq])
  obtain ⟨x, y, hx, hy, ha, hc⟩ := hf k (by simp)
  obtain ⟨s1', g1, g2⟩ := swap hx hy ha hc h1 h3
  exact ⟨s1', g1, s2, g2, h4⟩
theorem masks_spec : ∀ (l : List Oper) (acc : List Nat), (masks l acc).length = acc.length + l.length ∧ (∀ j, j < acc.length → (masks l acc)[j]? = acc[j]?) ∧
    ∀ (i : Nat) (o : Oper), l[i]? = some o → (masks l acc)[acc.length + i]? = some (maskOf o ((masks l acc).take (acc.length + i)))
 | [], acc => ⟨by simp [masks], fun j _ => rfl, fun i o h => by simp at h⟩
 | o :: l, acc => by
  obtain ⟨h1, h2, h3⟩ := masks_spec l (acc ++ [maskOf o acc])
  rw [masks]
  have hacc : ∀ j, j < acc.length → (masks l (acc ++ [maskOf o acc]))[j]? = acc[j]? := fun j hj => by rw [h2 j (by simp; omega), List.getElem?_append_left hj]
  refine ⟨by rw [h1]; simp; omega, hacc, fun i q hq => ?_⟩
  cases i with
  | zero =>
   simp at hq; subst hq
   rw [Nat.add_zero, h2 acc.length (by simp), List.getElem?_append_right (Nat.le_refl _)]
   simp only [Nat.sub_self, List.getElem?_cons_zero]
   have : (masks l (acc ++ [maskOf o acc])).take acc.length = acc := by
    apply List.ext_getElem?
    intro j
    rw [List.getElem?_take]
    split
    · rename_i hj; exact hacc j hj
    · rename_i hj; rw [List.getElem?_eq_none (by omega)]
   rw [this]
  | succ i =>
   have := h3 i q (by simpa using hq)
   simp only [List.length_append, List.length_cons, List.length_nil, Nat.zero_add] at this
   rw [show acc.length + (i + 1) = acc.length + 1 + i by omega]
   exact this
theorem maskOf_bit {o : Oper} {acc : List Nat} {k : Nat} (h : (maskOf o acc).testBit k = true) : ∃ e ∈ o.after.toList, Region.binds .any e = true ∧ (k = e.on ∨ (acc.getD e.on 0).testBit k = true) := by
 unfold maskOf at h
 have key : ∀ (l : List Edge) (s : Nat), (l.foldl (fun s e => if Region.binds .any e then s ||| 2 ^ e.on ||| acc.getD e.on 0 else s) s).testBit k = true → s.testBit k = true ∨ ∃ e ∈ l, Region.binds .any e = true ∧ (k = e.on ∨ (acc.getD e.on 0).testBit k = true) := by
  intro l
  induction l with
  | nil => intro s h; exact .inl h
  | cons e l ih =>
   intro s h
   rw [List.foldl_cons] at h
   rcases ih _ h with h | ⟨e', he', h'⟩
   · split at h
     · rename_i hb
       simp only [Nat.testBit_or, Bool.or_eq_true, Nat.testBit_two_pow, decide_eq_true_eq] at h
       rcases h with (h | h) | h
       · exact .inl h
       · exact .inr ⟨e, by simp, hb, .inl h.symm⟩
       · exact .inr ⟨e, by simp, hb, .inr h⟩
     · exact .inl h
   · exact .inr ⟨e', by simp [he'], h'⟩
 rcases key _ 0 h with h | h
 · simp at h
 · exact h
theorem mask_closed (L : Nat → Prop) (hL : ∀ (i : Nat) (o : Oper), ops[i]? = some o → L i → ∀ e ∈ o.after.toList, Region.binds .any e = true → L e.on) :
    ∀ (i : Nat) (o : Oper), ops[i]? = some o → (∀ e ∈ o.after.toList, Region.binds .any e = true → L e.on) → ∀ k, ((masks ops.toList []).getD i 0).testBit k = true → L k := by
 intro i
 induction i using Nat.strongRecOn with
 | _ i ih =>
  intro o ho hp k hk
  obtain ⟨h1, h2, h3⟩ := masks_spec ops.toList []
  have hm := h3 i o (by simpa using ho)
  simp only [List.length_nil, Nat.zero_add] at hm
  rw [List.getD_eq_getElem?_getD, hm, Option.getD_some] at hk
  obtain ⟨e, he, hb, hk⟩ := maskOf_bit hk
  rcases hk with rfl | hk
  · exact hp e he hb
  · rw [List.getD_eq_getElem?_getD, List.getElem?_take] at hk
    split at hk
    · rename_i hlt
      have hlen : i < ops.size := (Array.getElem?_eq_some_iff.1 ho).1
      obtain ⟨o', ho'⟩ : ∃ o', ops[e.on]? = some o' := ⟨_, Array.getElem?_eq_getElem (by omega)⟩
      exact ih e.on hlt o' ho' (hL e.on o' ho' (hp e he hb)) k (by rw [List.getD_eq_getElem?_getD]; exact hk)
    · simp at hk
theorem edgesOk_spec : ∀ (l : List Oper) (b : Nat), edgesOk l b = true → ∀ (i : Nat) (o : Oper), l[i]? = some o → ∀ e ∈ o.after.toList, Region.binds .any e = true → e.on < b + i
 | [], _, _, i, o, h => by simp at h
 | q :: l, b, h, i, o, ho => by
  simp only [edgesOk, Bool.and_eq_true, List.all_eq_true] at h
  cases i with
  | zero =>
   simp at ho; subst ho
   intro e he hb
   have := h.1 e he
   simp [hb] at this
   omega
  | succ i =>
   intro e he hb
   have := edgesOk_spec l (b + 1) h.2 i o (by simpa using ho) e he hb
   omega
theorem evD_run (A : Nat → Acc) : ∀ (m k : Nat) (tm : List AV) (σ : Sto) (accs : List Acc) (res : Option AV) (tm' : List AV) (σ' : Sto), evD P M call ops (List.range' k m) tm σ = some (accs, res, tm', σ') → (∀ (j : Nat) (a : Acc), accs[j]? = some a → A (k + j) = a) →
    accs.length ≤ m ∧ ∃ σ1, RunA P M call ops A (List.range' k accs.length) (tm, σ) (tm', σ1) ∧ (res = none → accs.length = m ∧ σ1 = σ') ∧ (∀ v, res = some v → accs.length < m ∧ ∃ o, ops[k + accs.length]? = some o ∧ evOp P M call ops o tm' σ1 = some (.inl v, σ'))
 | 0, k, tm, σ, accs, res, tm', σ', h, hA => by
  simp [evD] at h
  obtain ⟨rfl, rfl, rfl, rfl⟩ := h
  exact ⟨Nat.le_refl _, σ, rfl, fun _ => ⟨rfl, rfl⟩, fun v hv => by cases hv⟩
 | m + 1, k, tm, σ, accs, res, tm', σ', h, hA => by
  rw [List.range'_succ, evD] at h
  split at h
  · cases h
  · rename_i o ho
    split at h
    · rename_i tm1 acc σ1 h1
      split at h
      · rename_i accs1 r h2
        cases h
        obtain ⟨g0, σ2, g1, g2, g3⟩ := evD_run A m (k + 1) tm1 σ1 accs1 res tm' σ' h2 (fun j a hj => by
         have := hA (j + 1) a (by simpa using hj)
         rw [show k + 1 + j = k + (j + 1) by omega]; exact this)
        refine ⟨by simp; omega, σ2, ?_, fun hr => ⟨by have := (g2 hr).1; simp; omega, (g2 hr).2⟩, fun v hv => ?_⟩
        · rw [List.length_cons, List.range'_succ]
          refine ⟨(tm1, σ1), ?_, g1⟩
          rw [ops1_mk ho h1]
          have := hA 0 acc rfl
          rw [Nat.add_zero] at this
          rw [this]
        · obtain ⟨a1, o', a2, a3⟩ := g3 v hv
          refine ⟨by simp; omega, o', ?_, a3⟩
          rw [List.length_cons, show k + (accs1.length + 1) = k + 1 + accs1.length by omega]
          exact a2
      · cases h
    · rename_i v σ1 h1
      cases h
      exact ⟨by simp, σ, rfl, fun hr => (by cases hr), fun v' hv => (by cases hv; exact ⟨by simp, o, by simpa using ho, h1⟩)⟩
    · cases h
end
end
section
open Go.RowKit
section
variable {P : Program} {M : List TypeId} {call : CallF} {ops : Array Oper}
def left (listed : Array Bool) (p : Nat) : List Nat := (List.range p).filter fun i => !listed.getD i true
theorem range_split {p i : Nat} (h : i < p) : ∃ r, List.range p = List.range i ++ i :: r ∧ ∀ j ∈ r, i < j ∧ j < p := by
 refine ⟨List.range' (i + 1) (p - i - 1), ?_, fun j hj => by rw [List.mem_range'_1] at hj; omega⟩
 rw [List.range_eq_range', List.range_eq_range']
 rw [show p = i + (1 + (p - i - 1)) by omega, ← List.range'_append_1, ← List.range'_append_1]
 simp [List.range'_succ]
theorem getD_set {listed : Array Bool} {i j : Nat} (hi : i < listed.size) : (listed.setIfInBounds i true).getD j true = if j = i then true else listed.getD j true := by
 by_cases h : j = i
 · subst h; simp [Array.getD, hi]
 · simp only [if_neg h, Array.getD_eq_getD_getElem?]
   rw [Array.getElem?_setIfInBounds_ne (Ne.symm h)]
theorem left_split {listed : Array Bool} {p i : Nat} (hi : i < p) (hs : i < listed.size) (hl : listed.getD i true = false) :
    ∃ l1 l2, left listed p = l1 ++ i :: l2 ∧ left (listed.setIfInBounds i true) p = l1 ++ l2 ∧ ∀ k ∈ l1, k < i ∧ listed.getD k true = false := by
 obtain ⟨r, hr, hr2⟩ := range_split hi
 refine ⟨(List.range i).filter fun k => !listed.getD k true, r.filter fun k => !listed.getD k true, ?_, ?_, fun k hk => ?_⟩
 · unfold left; rw [hr, List.filter_append, List.filter_cons, hl]; rfl
 · unfold left
   rw [hr, List.filter_append, List.filter_cons, getD_set hs, if_pos rfl]
   simp only [Bool.not_true, Bool.false_eq_true, if_false]
   congr 1
   · refine List.filter_congr fun k hk => ?_
     rw [List.mem_range] at hk
     rw [getD_set hs, if_neg (by omega)]
   · refine List.filter_congr fun k hk => ?_
     have := hr2 k hk
     rw [getD_set hs, if_neg (by omega)]
 · rw [List.mem_filter, List.mem_range] at hk
   exact ⟨hk.1, by simpa using hk.2⟩
theorem mem_left {listed : Array Bool} {p i : Nat} : i ∈ left listed p ↔ i < p ∧ listed.getD i true = false := by
 unfold left; rw [List.mem_filter, List.mem_range]; simp
theorem ready_nil (he : edgesOk ops.toList 0 = true) {listed : Array Bool} (hsz : listed.size = ops.size) (h : Region.ready .any ops listed = []) : left listed ops.size = [] := by
 have key : ∀ i, i < ops.size → listed.getD i true = true := by
  intro i
  induction i using Nat.strongRecOn with
  | _ i ih =>
   intro hi
   cases hl : listed.getD i true with
   | true => rfl
   | false =>
    exfalso
    have : i ∈ Region.ready .any ops listed := by
     unfold Region.ready
     rw [List.mem_filter, List.mem_range]
     refine ⟨hi, ?_⟩
     rw [hl]
     simp only [Bool.not_false, Bool.true_and, Array.getElem?_eq_getElem hi, Option.map_some, Option.getD_some, Array.all_eq_true']
     intro e hem
     cases hb : Region.binds .any e with
     | false => rfl
     | true =>
      have hlt := edgesOk_spec ops.toList 0 he i ops[i] (by simp [hi]) e (by simpa using hem) hb
      have h1 := ih e.on (by omega) (by omega)
      have : listed.getD e.on false = true := by
       have hs : e.on < listed.size := by omega
       simp [Array.getD, hs] at h1 ⊢
       exact h1
      simp [this]
    rw [h] at this
    simp at this
 apply List.eq_nil_iff_forall_not_mem.2
 intro i hi
 rw [mem_left] at hi
 rw [key i hi.1] at hi
 simp at hi
def Closed (ops : Array Oper) (listed : Array Bool) : Prop := ∀ (i : Nat) (o : Oper), ops[i]? = some o → listed.getD i true = true → ∀ e ∈ o.after.toList, Region.binds .any e = true → listed.getD e.on true = true
theorem ready_spec {listed : Array Bool} (hsz : listed.size = ops.size) {i : Nat} (h : i ∈ Region.ready .any ops listed) : i < ops.size ∧ listed.getD i true = false ∧ ∀ o, ops[i]? = some o → ∀ e ∈ o.after.toList, Region.binds .any e = true → listed.getD e.on true = true := by
 unfold Region.ready at h
 rw [List.mem_filter, List.mem_range] at h
 obtain ⟨h1, h2⟩ := h
 rw [Bool.and_eq_true] at h2
 refine ⟨h1, by simpa using h2.1, fun o ho e he hb => ?_⟩
 have h3 := h2.2
 rw [ho] at h3
 simp only [Option.map_some, Option.getD_some, Array.all_eq_true'] at h3
 have h4 := h3 e (by simpa using he)
 rw [hb] at h4
 simp only [Bool.not_true, Bool.false_or] at h4
 by_cases hs : e.on < listed.size
 · simp [Array.getD, hs] at h4 ⊢; exact h4
 · simp [Array.getD, hs]
theorem Closed.set {listed : Array Bool} (h : Closed ops listed) {i : Nat} (hi : i < listed.size) (hp : ∀ o, ops[i]? = some o → ∀ e ∈ o.after.toList, Region.binds .any e = true → listed.getD e.on true = true) : Closed ops (listed.setIfInBounds i true) := by
 intro j o ho hj e he hb
 rw [getD_set hi] at hj ⊢
 split
 · rfl
 · by_cases hji : j = i
   · subst hji; exact hp o ho e he hb
   · rw [if_neg hji] at hj; exact h j o ho hj e he hb
theorem region_any (hcall : CallSound P call) {A : Nat → Acc} {p : Nat} {fin : List AV × Sto} (he : edgesOk ops.toList 0 = true) (hp : p ≤ ops.size)
    (hfree : ∀ k i, k < i → i < p → ((masks ops.toList []).getD i 0).testBit k = true ∨ Free ops A k i)
    (res : Option AV) (σ' : Sto) (hnone : res = none → p = ops.size ∧ fin.2 = σ')
    (hsome : ∀ v, res = some v → p < ops.size ∧ (∃ o, ops[p]? = some o ∧ evOp P M call ops o fin.1 fin.2 = some (.inl v, σ')) ∧ (∀ k, k < p → ((masks ops.toList []).getD p 0).testBit k = true) ∧ ∀ j, p < j → j < ops.size → ((masks ops.toList []).getD j 0).testBit p = true)
    (Q : Exit → Act → World → Prop) {ι0 : List Nat} {Z0 : Nat → Nat → Prop} {w0 : World} {a0 : Act}
    (hQn : res = none → ∀ ι Z w a, After ι0 Z0 w0 a0 fin.1 σ' ι Z w a → Q .normal a w)
    (hQp : ∀ v, res = some v → ∀ ι Z w a u, After ι0 Z0 w0 a0 fin.1 σ' ι Z w a → VR ι Z w v u → Q (.panic [{ v := u, recovered := false }]) a w) :
    ∀ (fuel : Nat) (listed : Array Bool) (s : List AV × Sto) (ι : List Nat) (Z : Nat → Nat → Prop) (w : World) (a : Act), listed.size = ops.size → Closed ops listed → fuel = (left listed ops.size).length → RunA P M call ops A (left listed p) s fin →
     (∀ i, p ≤ i → i < ops.size → listed.getD i true = false) → After ι0 Z0 w0 a0 s.1 s.2 ι Z w a → wpAny P .any ops Q fuel listed a w
 | 0, listed, s, ι, Z, w, a, hsz, hcl, hf, hrun, hun, haf => by
  have hnil : left listed ops.size = [] := List.eq_nil_of_length_eq_zero hf.symm
  refine ⟨?_, ?_⟩
  · apply List.eq_nil_iff_forall_not_mem.2
    intro i hi
    obtain ⟨h1, h2, _⟩ := ready_spec hsz hi
    have : i ∈ left listed ops.size := mem_left.2 ⟨h1, h2⟩
    rw [hnil] at this; simp at this
  · cases hres : res with
    | some v =>
     obtain ⟨h1, _⟩ := hsome v hres
     have : p ∈ left listed ops.size := mem_left.2 ⟨h1, hun p (Nat.le_refl _) h1⟩
     rw [hnil] at this; simp at this
    | none =>
     obtain ⟨h1, h2⟩ := hnone hres
     subst h1
     rw [hnil] at hrun
     cases hrun
     rw [h2] at haf
     exact hQn hres ι Z w a haf
 | fuel + 1, listed, s, ι, Z, w, a, hsz, hcl, hf, hrun, hun, haf => by
  refine ⟨fun hr => ?_, fun i hi => ?_⟩
  · have := ready_nil he hsz hr
    rw [this] at hf; simp at hf
  · obtain ⟨hlt, hul, hpre⟩ := ready_spec hsz hi
    have hcl' : Closed ops (listed.setIfInBounds i true) := hcl.set (by omega) hpre
    obtain ⟨o, ho⟩ : ∃ o, ops[i]? = some o := ⟨_, Array.getElem?_eq_getElem hlt⟩
    have hmask : ∀ k, ((masks ops.toList []).getD i 0).testBit k = true → listed.getD k true = true :=
     mask_closed (fun k => listed.getD k true = true) (fun j q hq hj e hem hb => hcl j q hq hj e hem hb) i o ho (fun e hem hb => hpre o ho e hem hb)
    have hsz' : (listed.setIfInBounds i true).size = ops.size := by simpa using hsz
    have hf' : fuel = (left (listed.setIfInBounds i true) ops.size).length := by
     obtain ⟨l1, l2, e1, e2, _⟩ := left_split (p := ops.size) hlt (by omega) hul
     rw [e1] at hf; rw [e2]; simp at hf ⊢; omega
    obtain ⟨ev0, m0, f0, d0⟩ := haf
    have finish : ∀ {r : AV ⊕ (List AV × Acc)} {σ1 : Sto}, evOp P M call ops o s.1 s.2 = some (r, σ1) →
        (∀ tm' acc, r = .inr (tm', acc) → ∀ ι' Z' w' a', After ι0 Z0 w0 a0 tm' σ1 ι' Z' w' a' → wpAny P .any ops Q fuel (listed.setIfInBounds i true) a' w') →
        (∀ v, r = .inl v → ∀ ι' Z' w' a' u, After ι0 Z0 w0 a0 s.1 σ1 ι' Z' w' a' → VR ι' Z' w' v u → Q (.panic [{ v := u, recovered := false }]) a' w') →
        wpOp P ops Q i (wpAny P .any ops Q fuel (listed.setIfInBounds i true)) a w := by
     intro r σ1 h1 h2 h3
     have := evOp_sound hcall h1 m0 f0 (wpAny P .any ops Q fuel (listed.setIfInBounds i true)) Q
      (fun tm' acc hr ι' Z' w' a' ha => h2 tm' acc hr ι' Z' w' a' ⟨ev0.trans ha.1, ha.2.1, ha.2.2.1, ha.2.2.2.trans d0⟩)
      (fun v hr ι' Z' w' a' u ha hv => h3 v hr ι' Z' w' a' u ⟨ev0.trans ha.1, ha.2.1, ha.2.2.1, ha.2.2.2.trans d0⟩ hv)
     unfold wpOp
     simp only [ho]
     split
     · rename_i hw; rw [if_pos hw] at this; exact .inl this
     · rename_i hw; rw [if_neg hw] at this; exact this
    rcases Nat.lt_trichotomy i p with hip | hip | hip
    · obtain ⟨l1, l2, e1, e2, e3⟩ := left_split (p := p) hip (by omega) hul
      rw [e1] at hrun
      have hfr : ∀ k ∈ l1, Free ops A k i := by
       intro k hk
       obtain ⟨hk1, hk2⟩ := e3 k hk
       rcases hfree k i hk1 hip with h | h
       · rw [hmask k h] at hk2; cases hk2
       · exact h
      obtain ⟨s1, g1, g2⟩ := hrun.front hfr
      obtain ⟨o', ho', g3⟩ := ops1_some g1
      have : o' = o := by rw [ho] at ho'; exact (Option.some.inj ho').symm
      subst this
      refine finish g3 (fun tm' acc hr ι' Z' w' a' ha => ?_) (fun v hr => by cases hr)
      cases hr
      refine region_any hcall he hp hfree res σ' hnone hsome Q hQn hQp fuel _ s1 ι' Z' w' a' hsz' hcl' hf' (by rw [e2]; exact g2) (fun j hj1 hj2 => ?_) ha
      rw [getD_set (by omega), if_neg (by omega)]
      exact hun j hj1 hj2
    · subst hip
      cases hres : res with
      | none => have := (hnone hres).1; omega
      | some v =>
       obtain ⟨h1, ⟨o', ho', h2⟩, h3, h4⟩ := hsome v hres
       have : o' = o := by rw [ho] at ho'; exact (Option.some.inj ho').symm
       subst this
       have hnil : left listed i = [] := by
        apply List.eq_nil_iff_forall_not_mem.2
        intro k hk
        rw [mem_left] at hk
        rw [hmask k (h3 k hk.1)] at hk
        simp at hk
       rw [hnil] at hrun
       cases hrun
       exact finish h2 (fun tm' acc hr => by cases hr) (fun v' hr ι' Z' w' a' u ha hv => by cases hr; exact hQp v hres ι' Z' w' a' u ha hv)
    · cases hres : res with
      | none => have := (hnone hres).1; omega
      | some v =>
       obtain ⟨h1, _, _, h4⟩ := hsome v hres
       have h5 := hmask p (h4 i hip hlt)
       rw [hun p (Nat.le_refl _) h1] at h5
       cases h5
theorem evRegion_sound (hm : P.follows .mixedOrders = true) (hcall : CallSound P call) {id : Nat} {draw : Bool} {tm tm' : List AV} {σ σ' : Sto} {x : AExit} {ι : List Nat} {Z : Nat → Nat → Prop} {w : World} {a : Act} (h : evRegion P M call ops draw tm σ = some (x, tm', σ')) (hM : Match σ ι Z w) (hF : FR ι Z w tm a.tmps)
    (Q : Exit → Act → World → Prop) (hQ : ∀ e a' w', Ends ι Z w a x tm' σ' e a' w' → Q e a' w') : (Code.region id ops draw).wp P Q a w := by
 unfold evRegion at h
 cases draw with
 | false =>
  simp only [Bool.false_eq_true, if_false] at h
  exact wp_region (evOps_sound hcall _ h hM hF Q hQ)
 | true =>
  simp only [if_true] at h
  have start : ∀ (accs : List Acc) (res : Option AV) (σe : Sto), evD P M call ops (List.range ops.size) tm σ = some (accs, res, tm', σe) → edgesOk ops.toList 0 = true → drawOk ops accs = true → (∀ v, res = some v → panicOk ops accs.length = true) →
      (res = none → ∀ ι2 Z2 w2 a2, After ι Z w a tm' σe ι2 Z2 w2 a2 → Q .normal a2 w2) → (∀ v, res = some v → ∀ ι2 Z2 w2 a2 u, After ι Z w a tm' σe ι2 Z2 w2 a2 → VR ι2 Z2 w2 v u → Q (.panic [{ v := u, recovered := false }]) a2 w2) →
      (Code.region id ops true).wp P Q a w := by
   intro accs res σe hD he hd hpan hn hp
   rw [List.range_eq_range'] at hD
   obtain ⟨g0, σ1, g1, g2, g3⟩ := evD_run (fun i => accs.getD i .any) ops.size 0 tm σ accs res tm' σe hD (fun j b hj => by rw [Nat.zero_add, List.getD_eq_getElem?_getD, hj]; rfl)
   have hwd : After ι Z w a tm σ ι Z { w with drawn := w.drawn + 1 } a := ⟨Evo.drew ι Z w, hM.drew, hF.evo (Evo.drew ι Z w), rfl⟩
   have hrep : ∀ i, i < ops.size → (Array.replicate ops.size false).getD i true = false := by intro i hi; simp [Array.getD, hi]
   have hleft : ∀ p, p ≤ ops.size → left (Array.replicate ops.size false) p = List.range' 0 p := by
    intro p hp
    unfold left
    rw [← List.range_eq_range']
    refine List.filter_eq_self.2 fun i hi => ?_
    rw [List.mem_range] at hi
    rw [hrep i (by omega)]; rfl
   refine wp_region_any hm ?_
   refine region_any (M := M) (P := P) (call := call) (A := fun i => accs.getD i .any) (p := accs.length) (fin := (tm', σ1)) hcall he g0 ?_ res σe ?_ ?_ Q hn hp ops.size (Array.replicate ops.size false) (tm, σ) ι Z _ a (by simp) ?_ ?_ ?_ ?_ hwd
   · intro k i hki hip
     unfold drawOk at hd
     rw [List.all_eq_true] at hd
     have h1 := hd i (by simpa using hip)
     rw [List.all_eq_true] at h1
     have h2 := h1 k (by simpa using hki)
     unfold freeAt at h2
     rw [Bool.or_eq_true] at h2
     rcases h2 with h2 | h2
     · exact .inl h2
     · refine .inr ?_
       split at h2
       · rename_i x y hx hy
         simp only [Bool.and_eq_true, Bool.not_eq_true'] at h2
         exact ⟨x, y, hx, hy, h2.1.1, h2.2⟩
       · cases h2
   · intro hr; obtain ⟨h1, h2⟩ := g2 hr; exact ⟨h1, h2⟩
   · intro v hv
     obtain ⟨h1, o, h2, h3⟩ := g3 v hv
     have h4 := hpan v hv
     unfold panicOk at h4
     rw [Bool.and_eq_true, List.all_eq_true, List.all_eq_true] at h4
     refine ⟨h1, ⟨o, by simpa using h2, h3⟩, fun k hk => h4.1 k (by simpa using hk), fun j hj1 hj2 => ?_⟩
     have := h4.2 j (by simpa using hj2)
     rw [Bool.or_eq_true, decide_eq_true_eq] at this
     rcases this with h | h
     · omega
     · exact h
   · intro i o ho hi
     have hlt := (Array.getElem?_eq_some_iff.1 ho).1
     rw [hrep i hlt] at hi; cases hi
   · rw [hleft _ (Nat.le_refl _)]; simp
   · rw [hleft _ g0]; exact g1
   · intro i _ hi; exact hrep i hi
  split at h
  · rename_i accs tm1 σe hD
    split at h
    · rename_i hc
      rw [Bool.and_eq_true] at hc
      cases h
      exact start accs none σ' hD hc.1 hc.2 (fun v hv => by cases hv) (fun _ ι2 Z2 w2 a2 ha => hQ _ _ _ ⟨ι2, Z2, ha, rfl⟩) (fun v hv => by cases hv)
    · cases h
  · rename_i accs v tm1 σe hD
    split at h
    · rename_i hc
      rw [Bool.and_eq_true, Bool.and_eq_true] at hc
      cases h
      exact start accs (some v) σ' hD hc.1.1 hc.1.2 (fun _ _ => hc.2) (fun hr => by cases hr) (fun v' hv ι2 Z2 w2 a2 u ha hu => by cases hv; exact hQ _ _ _ ⟨ι2, Z2, ha, u, rfl, hu⟩)
    · cases h
  · cases h
end
end
section
open Go.RowKit
section
variable {P : Program} {M : List TypeId} {call : CallF}
theorem Ends.start {ι ι1 : List Nat} {Z Z1 : Nat → Nat → Prop} {w w1 : World} {a a1 : Act} {tm1 tm' : List AV} {σ1 σ' : Sto} {x : AExit} {e : Exit} {a' : Act} {w' : World} (h : After ι Z w a tm1 σ1 ι1 Z1 w1 a1) (g : Ends ι1 Z1 w1 a1 x tm' σ' e a' w') : Ends ι Z w a x tm' σ' e a' w' := by
 obtain ⟨ι2, Z2, ⟨e2, m2, f2, d2⟩, hx⟩ := g
 exact ⟨ι2, Z2, ⟨h.1.trans e2, m2, f2, d2.trans h.2.2.2⟩, hx⟩
theorem evCode_sound (hm : P.follows .mixedOrders = true) (hcall : CallSound P call) : ∀ (n : Nat) (c : Code) {tm tm' : List AV} {σ σ' : Sto} {x : AExit} {ι : List Nat} {Z : Nat → Nat → Prop} {w : World} {a : Act}, evCode P M call n c tm σ = some (x, tm', σ') → Match σ ι Z w → FR ι Z w tm a.tmps →
    ∀ Q : Exit → Act → World → Prop, (∀ e a' w', Ends ι Z w a x tm' σ' e a' w' → Q e a' w') → c.wp P Q a w := by
 intro n
 induction n using Nat.strongRecOn with
 | _ n ih =>
  intro c tm tm' σ σ' x ι Z w a h hM hF Q hQ
  cases n with
  | zero => simp [evCode] at h
  | succ n =>
   have self : After ι Z w a tm σ ι Z w a := ⟨.refl _ _ _, hM, hF, rfl⟩
   cases c with
   | skip => simp only [evCode, Option.some.injEq, Prod.mk.injEq] at h; obtain ⟨rfl, rfl, rfl⟩ := h; exact wp_skip (hQ _ _ _ ⟨ι, Z, self, rfl⟩)
   | label l => simp only [evCode, Option.some.injEq, Prod.mk.injEq] at h; obtain ⟨rfl, rfl, rfl⟩ := h; exact wp_label (hQ _ _ _ ⟨ι, Z, self, rfl⟩)
   | ret => simp only [evCode, Option.some.injEq, Prod.mk.injEq] at h; obtain ⟨rfl, rfl, rfl⟩ := h; exact wp_ret (hQ _ _ _ ⟨ι, Z, self, rfl⟩)
   | exit id => simp only [evCode, Option.some.injEq, Prod.mk.injEq] at h; obtain ⟨rfl, rfl, rfl⟩ := h; exact wp_exit (hQ _ _ _ ⟨ι, Z, self, rfl⟩)
   | goto l => simp [evCode] at h
   | refuse s => simp [evCode] at h
   | rangeFunc f ps b d => simp [evCode] at h
   | region id ops draw => exact evRegion_sound hm hcall (by simpa [evCode] using h) hM hF Q hQ
   | scope b =>
    rw [evCode] at h
    refine wp_scope_straight (ih n (by omega) b h hM hF _ fun e a' w' hE => ?_)
    have h1 := hQ e a' w' hE
    obtain ⟨ι2, Z2, _, hx⟩ := hE
    cases x with
    | normal => cases hx; exact h1
    | exit id => cases hx; exact h1
    | ret => cases hx; exact h1
    | pan v => obtain ⟨u, rfl, _⟩ := hx; exact h1
   | cond c b d =>
    rw [evCode] at h
    split at h
    · rename_i t ht
      have hv := evx_rel hM hF c _ ht
      have he : a.eval c = .bool t := by generalize a.eval c = u at hv; cases hv; rfl
      exact wp_cond he (ih n (by omega) _ h hM hF Q hQ)
    · cases h
   | seq b d =>
    rw [evCode] at h
    refine wp_seq ?_
    split at h
    · rename_i tm1 σ1 h1
      refine ih n (by omega) b h1 hM hF _ fun e a' w' hE => ?_
      obtain ⟨ι1, Z1, ha, hx⟩ := hE
      cases hx
      exact ih n (by omega) d h ha.2.1 ha.2.2.1 Q fun e a2 w2 hE => hQ e a2 w2 (Ends.start ha hE)
    · rename_i hne
      refine ih n (by omega) b h hM hF _ fun e a' w' hE => ?_
      have h1 := hQ e a' w' hE
      obtain ⟨ι2, Z2, _, hx⟩ := hE
      cases x with
      | normal => exact (hne _ _ h).elim
      | exit id => cases hx; exact h1
      | ret => cases hx; exact h1
      | pan v => obtain ⟨u, rfl, _⟩ := hx; exact h1
   | block id b =>
    rw [evCode] at h
    refine wp_block ?_
    split at h
    · rename_i id' tm1 σ1 h1
      refine ih n (by omega) b h1 hM hF _ fun e a' w' hE => ?_
      obtain ⟨ι1, Z1, ha, hx⟩ := hE
      cases hx
      simp only [Exit.inBlock]
      split at h
      · rename_i hid
        rw [if_pos hid]
        cases h
        exact hQ _ _ _ ⟨ι1, Z1, ha, rfl⟩
      · rename_i hid
        rw [if_neg hid]
        cases h
        exact hQ _ _ _ ⟨ι1, Z1, ha, rfl⟩
    · rename_i hne
      refine ih n (by omega) b h hM hF _ fun e a' w' hE => ?_
      have h1 := hQ e a' w' hE
      obtain ⟨ι2, Z2, _, hx⟩ := hE
      cases x with
      | normal => cases hx; exact h1
      | exit id' => exact (hne _ _ _ h).elim
      | ret => cases hx; exact h1
      | pan v => obtain ⟨u, rfl, _⟩ := hx; exact h1
   | loop b =>
    refine wp_loop_ghost (fun m a1 w1 => m ≤ n + 1 ∧ ∃ tm1 σ1 ι1 Z1, evCode P M call m (.loop b) tm1 σ1 = some (x, tm', σ') ∧ After ι Z w a tm1 σ1 ι1 Z1 w1 a1) (n + 1) ⟨Nat.le_refl _, tm, σ, ι, Z, h, self⟩ ?_
    rintro m a1 w1 ⟨hmn, tm1, σ1, ι1, Z1, h1, ha⟩
    cases m with
    | zero => simp [evCode] at h1
    | succ m =>
     rw [evCode] at h1
     split at h1
     · rename_i tm2 σ2 h2
       refine ih m (by omega) b h2 ha.2.1 ha.2.2.1 _ fun e a' w' hE => ?_
       obtain ⟨ι2, Z2, hb, hx⟩ := hE
       cases hx
       exact ⟨m, by omega, by omega, tm2, σ2, ι2, Z2, h1, ha.1.trans hb.1, hb.2.1, hb.2.2.1, hb.2.2.2.trans ha.2.2.2⟩
     · rename_i hne
       refine ih m (by omega) b h1 ha.2.1 ha.2.2.1 _ fun e a' w' hE => ?_
       have h2 := hQ e a' w' (Ends.start ha hE)
       obtain ⟨ι2, Z2, _, hx⟩ := hE
       cases x with
       | normal => exact (hne _ _ h1).elim
       | exit id => cases hx; exact h2
       | ret => cases hx; exact h2
       | pan v => obtain ⟨u, rfl, _⟩ := hx; exact h2
theorem asAddr_run (a : Addr) (w : World) : (asAddr (.pointer (some a))).run P w = .ok a w := rfl
theorem results_rel {fn : Func} {tm : List AV} {σ : Sto} {ι : List Nat} {Z : Nat → Nat → Prop} {w : World} {tmps : Array Value} {v : AV} (hM : Match σ ι Z w) (hF : FR ι Z w tm tmps) (h : zA P fn tm σ = some v) : ∃ u, (results fn tmps).run P w = .ok u w ∧ VR ι Z w v u := by
 unfold zA at h
 have one : ∀ (q : ResultVar) (d : AV), resA P tm σ q = some d → ∃ u, ((match q with | .tmp t => pure (tmps.getD t undef) | .cell a t => do loadVar t (← asAddr (tmps.getD a undef))) : Sem Value).run P w = .ok u w ∧ VR ι Z w d u := by
  intro q d hq
  cases q with
  | tmp t => simp only [resA, Option.some.injEq] at hq; subst hq; exact ⟨_, rfl, hF.get t⟩
  | cell a t =>
   simp only [resA] at hq
   split at hq
   · rename_i id off hp
     split at hq
     · rename_i cs T hσ
       have hv := hF.get a
       rw [hp] at hv
       obtain ⟨b, hb, hu⟩ := ptr_at hv
       obtain ⟨c, h1, h2, h3, h4⟩ := hM.obj id _ b hσ hb
       obtain ⟨u, hl, hv2, _⟩ := load_rel (P := P) (b := b) (o := 0) (CR.ofArrLe h2 h3) (fun j u hu => by
        rw [Nat.zero_add]; simp [World.cell?, h1]
        rw [List.getElem?_take] at hu
        split at hu
        · simpa using hu
        · cases hu) hq
       rw [Nat.zero_add] at hl
       refine ⟨u, ?_, hv2⟩
       simp only [hu]
       rw [Sem.run_bind, asAddr_run]
       exact hl
     · cases hq
   · cases hq
 have many : ∀ (qs : List ResultVar) (ds : List AV), omap (resA P tm σ) qs = some ds → ∃ us : List Value, (qs.mapM (fun q => (match q with | .tmp t => pure (tmps.getD t undef) | .cell a t => do loadVar t (← asAddr (tmps.getD a undef)) : Sem Value))).run P w = .ok us w ∧ us.length = ds.length ∧ ∀ (i : Nat) (d : AV) (u : Value), ds[i]? = some d → us[i]? = some u → VR ι Z w d u := by
  intro qs
  induction qs with
  | nil => intro ds hd; simp [omap] at hd; subst hd; exact ⟨[], by simp, rfl, fun i d u hd => by simp at hd⟩
  | cons q qs ihq =>
   intro ds hd
   rw [omap] at hd
   split at hd
   · rename_i d ds' h1 h2
     cases hd
     obtain ⟨u, g1, g2⟩ := one q d h1
     obtain ⟨us, g3, g4, g5⟩ := ihq ds' h2
     refine ⟨u :: us, ?_, by simp [g4], fun i d' u' hd' hu' => ?_⟩
     · rw [List.mapM_cons, Sem.run_bind, g1]
       simp only [Result.andThen_ok]
       rw [Sem.run_bind, g3]
       rfl
     · cases i with
       | zero => simp at hd' hu'; subst hd'; subst hu'; exact g2
       | succ i => exact g5 i d' u' (by simpa using hd') (by simpa using hu')
   · cases hd
 unfold results
 split at h
 · rename_i d hd
   cases h
   obtain ⟨us, h1, h2, h3⟩ := many _ _ hd
   obtain ⟨u, rfl⟩ : ∃ u, us = [u] := by
    cases us with
    | nil => simp at h2
    | cons u us => cases us with
     | nil => exact ⟨u, rfl⟩
     | cons _ _ => simp at h2
   refine ⟨u, ?_, h3 0 v u rfl rfl⟩
   rw [Sem.run_bind, Array.mapM_eq_mapM_toList, Sem.run_map]
   erw [h1]
   rfl
 · rename_i ds hne hd
   cases h
   obtain ⟨us, h1, h2, h3⟩ := many _ _ hd
   refine ⟨.tuple us.toArray, ?_, .tup ds _ (by simp [h2]) (fun i d u hd' hu' => h3 i d u hd' (by simpa using hu'))⟩
   rw [Sem.run_bind, Array.mapM_eq_mapM_toList, Sem.run_map]
   erw [h1]
   have hsz : ¬ us.toArray.size = 1 := by
    intro e
    have : ds.length = 1 := by simp at e; omega
    obtain ⟨d, rfl⟩ := List.length_eq_one_iff.1 this
    exact hne d rfl
   simp only [Result.andThen_ok]
   rw [dif_neg hsz]
   rfl
 · cases h
structure EnvOk (P : Program) (E : Env) : Prop where
 code : ∀ (f : FuncId) (fn : Func), E.code f = some fn → P.funcs[f]? = some fn ∧ ∀ args w, (callFunc f args).run P w = .ok (.enter f args) w
 prim : ∀ (f : FuncId) (g : List AV → Sto → Option (ARes × Sto)), E.prim f = some g → CallSound P fun f' args σ => if f' = f then g args σ else none
theorem evCall_sound (hm : P.follows .mixedOrders = true) {E : Env} (hE : EnvOk P E) : ∀ n, CallSound P (evCall P E n)
 | 0 => fun f args σ r σ' h => by simp [evCall] at h
 | n + 1 => fun f args σ r σ' h ι Z w us hM hlen hargs => by
  rw [evCall] at h
  split at h
  · rename_i g hg
    exact hE.prim f g hg f args σ r σ' (by simpa using h) ι Z w us hM hlen hargs
  · split at h
    · cases h
    · rename_i fn hfn
      obtain ⟨hP, hrun⟩ := hE.code f fn hfn
      split at h
      · cases h
      · rename_i c hc
        refine ⟨hrun us w, calls_of_wp hP hc ?_⟩
        have hF : FR ι Z w (args ++ List.replicate (fn.ntmps - args.length) (.tup [])) (us ++ Array.replicate (fn.ntmps - us.size) undef) := by
         refine ⟨by simp [hlen], fun i d u hd hu => ?_⟩
         rcases Nat.lt_or_ge i args.length with hl | hl
         · rw [List.getElem?_append_left hl] at hd
           rw [Array.getElem?_append_left (by omega)] at hu
           exact hargs i d u hd hu
         · rw [List.getElem?_append_right hl] at hd
           rw [Array.getElem?_append_right (by omega)] at hu
           have h1 := (List.mem_replicate.1 (List.mem_of_getElem? hd)).2
           have h2 : u = undef := by
            have := Array.mem_of_getElem? hu
            exact (Array.mem_replicate.1 this).2
           subst h1; subst h2
           exact undef_rel
        have go : ∀ (x : AExit) (tm : List AV) (σ1 : Sto), evCode P (E.ms f) (evCall P E n) (n + 1) c (args ++ List.replicate (fn.ntmps - args.length) (.tup [])) σ = some (x, tm, σ1) →
            (x = .normal ∨ x = .ret → ∃ v, zA P fn tm σ1 = some v ∧ r = .ret v ∧ σ' = σ1) → (∀ v, x = .pan v → r = .pan v ∧ σ' = σ1) → (∀ id, x ≠ .exit id) →
            c.wp P (bodyPost P fn fun e w' => ∃ ι' Z', Evo ι Z w ι' Z' w' ∧ Match σ' ι' Z' w' ∧ ERel ι' Z' w' r e) { tmps := us ++ Array.replicate (fn.ntmps - us.size) undef, defers := [] } w := by
         intro x tm σ1 hx h1 h2 h3
         refine evCode_sound hm (evCall_sound hm hE n) (n + 1) c hx hM hF _ fun e a' w' hEnd => ?_
         obtain ⟨ι', Z', ⟨e1, m1, f1, d1⟩, hxr⟩ := hEnd
         cases x with
         | normal =>
          obtain ⟨v, hv, rfl, rfl⟩ := h1 (.inl rfl)
          cases hxr
          obtain ⟨u, g1, g2⟩ := results_rel m1 f1 hv
          exact ⟨d1, u, g1, ι', Z', e1, m1, u, rfl, g2⟩
         | ret =>
          obtain ⟨v, hv, rfl, rfl⟩ := h1 (.inr rfl)
          cases hxr
          obtain ⟨u, g1, g2⟩ := results_rel m1 f1 hv
          exact ⟨d1, u, g1, ι', Z', e1, m1, u, rfl, g2⟩
         | pan v =>
          obtain ⟨rfl, rfl⟩ := h2 v rfl
          obtain ⟨u, rfl, hv⟩ := hxr
          exact ⟨d1, ι', Z', e1, m1, u, rfl, hv⟩
         | exit id => exact (h3 id rfl).elim
        split at h
        · rename_i tm σ1 hx
          rw [Option.map_eq_some_iff] at h
          obtain ⟨v, hv, h⟩ := h
          cases h
          exact go _ _ _ hx (fun _ => ⟨v, hv, rfl, rfl⟩) (fun v hv => by cases hv) (fun id hid => by cases hid)
        · rename_i tm σ1 hx
          rw [Option.map_eq_some_iff] at h
          obtain ⟨v, hv, h⟩ := h
          cases h
          exact go _ _ _ hx (fun _ => ⟨v, hv, rfl, rfl⟩) (fun v hv => by cases hv) (fun id hid => by cases hid)
        · rename_i v tm σ1 hx
          cases h
          exact go _ _ _ hx (fun hor => by rcases hor with hor | hor <;> cases hor) (fun v' hv => by cases hv; exact ⟨rfl, rfl⟩) (fun id hid => by cases hid)
        · cases h
end
end
end Go.Proofs.YtmmgjaheffbpaaaGreatDoor
