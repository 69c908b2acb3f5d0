/-
  EV: REGIONS THAT DRAW THEIR ORDER, the exchange of two operations; every order.
-/
import Derived.Test.YtcjjmejmpdhikaaGreatDoorEvDraw
namespace Go.Proofs.YtcjjmejmpdhikaaGreatDoor
set_option linter.unusedSimpArgs false
set_option linter.unusedVariables false
open Go.RowKit

section
variable {P : Program} {M : List TypeId} {call : CallF} {ops : Array Oper}

noncomputable def ops1 (P : Program) (M : List TypeId) (call : CallF) (ops : Array Oper) (i : Nat) (s : List AV × Sto) : Option (Acc × List AV × Sto) :=
  match ops[i]? with
  | none => none
  | some o => match evOp P M call ops o s.1 s.2 with | some (.inr (tm', acc), σ') => some (acc, tm', σ') | _ => none

theorem ops1_some {i : Nat} {s : List AV × Sto} {acc : Acc} {s' : List AV × Sto} (h : ops1 P M call ops i s = some (acc, s')) : ∃ o, ops[i]? = some o ∧ evOp P M call ops o s.1 s.2 = some (.inr (s'.1, acc), s'.2) := by
  unfold ops1 at h
  split at h
  · cases h
  · rename_i o ho
    refine ⟨o, ho, ?_⟩
    split at h
    · rename_i h1; cases h; exact h1
    · cases h

theorem ops1_mk {i : Nat} {o : Oper} {s : List AV × Sto} {acc : Acc} {tm : List AV} {σ : Sto} (ho : ops[i]? = some o) (h : evOp P M call ops o s.1 s.2 = some (.inr (tm, acc), σ)) : ops1 P M call ops i s = some (acc, tm, σ) := by
  unfold ops1; simp only [ho, h]

theorem putA_other {tm : List AV} {dst : Option Tmp} {v : AV} {t : Nat} (h : dst ≠ some t) : (putA tm dst v)[t]? = tm[t]? := by
  cases dst with
  | none => rfl
  | some d => simp only [putA]; rw [List.getElem?_set_ne (fun e => h (by rw [e]))]

theorem putA_comm {tm : List AV} {a b : Option Tmp} {u v : AV} (h : ∀ d, a = some d → b ≠ some d) : putA (putA tm a u) b v = putA (putA tm b v) a u := by
  cases a with
  | none => rfl
  | some d =>
    cases b with
    | none => rfl
    | some e =>
      have hne : d ≠ e := fun q => h d rfl (by rw [q])
      simp only [putA]; rw [List.set_comm _ _ hne]

theorem swap {i j : Nat} {oi oj : Oper} {ai aj : Acc} {s s1 s2 : List AV × Sto} (hi : ops[i]? = some oi) (hj : ops[j]? = some oj) (ha : Oper.apart ops oi oj = true) (hc : clash ai aj = false) (h1 : ops1 P M call ops i s = some (ai, s1)) (h2 : ops1 P M call ops j s1 = some (aj, s2)) :
    ∃ s1', ops1 P M call ops j s = some (aj, s1') ∧ ops1 P M call ops i s1' = some (ai, s2) := by
  obtain ⟨tm, σ⟩ := s
  obtain ⟨tm1, σ1⟩ := s1
  obtain ⟨tm2, σ2⟩ := s2
  obtain ⟨d1, d2, d3⟩ := Oper.apart_spec ha
  obtain ⟨o, ho, e1⟩ := ops1_some h1
  obtain rfl : o = oi := by rw [hi] at ho; exact (Option.some.inj ho).symm
  obtain ⟨o', ho', e2⟩ := ops1_some h2
  obtain rfl : o' = oj := by rw [hj] at ho'; exact (Option.some.inj ho').symm
  dsimp only at e1 e2
  obtain ⟨vi, rfl, li⟩ := evOp_local e1
  obtain ⟨vj, rfl, lj⟩ := evOp_local e2
  have gj := lj tm fun t ht => (putA_other fun e => d1 t e ht).symm
  have gi := li (putA tm o'.dst vj) fun t ht => putA_other fun e => d3 t e ht
  have hcomm : putA (putA tm o'.dst vj) o.dst vi = putA (putA tm o.dst vi) o'.dst vj := (putA_comm d2).symm
  rw [hcomm] at gi
  have fin : ∀ σ' : Sto, evOp P M call ops o' tm σ = some (.inr (putA tm o'.dst vj, aj), σ') → evOp P M call ops o (putA tm o'.dst vj) σ' = some (.inr (putA (putA tm o.dst vi) o'.dst vj, ai), σ2) →
      ∃ s1', ops1 P M call ops j (tm, σ) = some (aj, s1') ∧ ops1 P M call ops i s1' = some (ai, putA (putA tm o.dst vi) o'.dst vj, σ2) :=
    fun σ' g1 g2 => ⟨(putA tm o'.dst vj, σ'), ops1_mk hj g1, ops1_mk hi g2⟩
  obtain ⟨gi1, gi2⟩ := gi
  obtain ⟨gj1, gj2⟩ := gj
  cases ai with
  | pure =>
    obtain ⟨rfl, f⟩ := gi2
    exact fin σ2 gj1 (f σ2)
  | reads a =>
    obtain ⟨rfl, la, f⟩ := gi2
    cases aj with
    | pure => obtain ⟨rfl, g⟩ := gj2; exact fin _ gj1 (f _ rfl)
    | reads b => obtain ⟨rfl, lb, g⟩ := gj2; exact fin _ gj1 (f _ rfl)
    | writes b =>
      obtain ⟨x, lb, rfl, g⟩ := gj2
      have hne : a ≠ b := by simpa [clash] using hc
      exact fin _ gj1 (f _ (by rw [List.getElem?_set_ne (Ne.symm hne)]))
    | news b =>
      obtain ⟨x, hb, rfl, g⟩ := gj2
      exact fin _ gj1 (f _ (by rw [List.getElem?_append_left la]))
    | grows k n =>
      obtain ⟨x, hn, rfl⟩ := gj2
      have hka : ¬ k = some a := by intro e; subst e; simp [clash] at hc
      refine fin _ gj1 (f _ ?_)
      cases k with
      | none => exact List.getElem?_append_left la
      | some i => rw [List.getElem?_append_left (by simpa [gone] using la)]; exact List.getElem?_set_ne (fun e => hka (by rw [e]))
    | calls n b =>
      obtain ⟨hn, hb⟩ := gj2
      obtain ⟨g, rfl⟩ := hb (by simpa [clash] using hc)
      exact fin _ gj1 (f _ (by rw [List.getElem?_append_left la]))
    | any => simp [clash] at hc
  | writes a =>
    obtain ⟨x, la, rfl, f⟩ := gi2
    cases aj with
    | pure => obtain ⟨rfl, g⟩ := gj2; exact fin σ (g σ) (f _ rfl)
    | reads b =>
      obtain ⟨rfl, lb, g⟩ := gj2
      have hne : a ≠ b := by simpa [clash] using hc
      exact fin σ (g σ (by rw [List.getElem?_set_ne hne])) (f _ rfl)
    | writes b =>
      obtain ⟨y, lb, rfl, g⟩ := gj2
      have hne : a ≠ b := by simpa [clash] using hc
      refine fin _ (g σ (by rw [List.getElem?_set_ne hne])) ?_
      rw [List.set_comm _ _ hne]
      exact f _ (by rw [List.getElem?_set_ne (Ne.symm hne)])
    | news b =>
      obtain ⟨y, hb, rfl, g⟩ := gj2
      refine fin _ (g σ (by simp)) ?_
      have := f (σ ++ [y]) (by rw [List.getElem?_append_left la])
      rw [List.set_append_left _ _ la] at this
      exact this
    | grows k n => simp [clash] at hc
    | calls n b => simp [clash] at hc
    | any => simp [clash] at hc
  | news a =>
    obtain ⟨x, hla, rfl, f⟩ := gi2
    cases aj with
    | pure => obtain ⟨rfl, g⟩ := gj2; exact fin σ (g σ) (f _ rfl)
    | reads b =>
      obtain ⟨rfl, lb, g⟩ := gj2
      have hne : a ≠ b := by simpa [clash] using hc
      have lb' : b < σ.length := by simp at lb; omega
      exact fin σ (g σ (by rw [List.getElem?_append_left lb'])) (f _ rfl)
    | writes b =>
      obtain ⟨y, lb, rfl, g⟩ := gj2
      have hne : a ≠ b := by simpa [clash] using hc
      have lb' : b < σ.length := by simp at lb; omega
      refine fin _ (g σ (by rw [List.getElem?_append_left lb'])) ?_
      rw [List.set_append_left _ _ lb']
      exact f _ (by simp)
    | news b => simp [clash] at hc
    | grows k n => simp [clash] at hc
    | calls n b => simp [clash] at hc
    | any => simp [clash] at hc
  | grows k n =>
    obtain ⟨x, hn, rfl⟩ := gi2
    cases aj with
    | pure => obtain ⟨rfl, g⟩ := gj2; exact fin σ (g σ) gi1
    | reads b =>
      obtain ⟨rfl, lb, g⟩ := gj2
      have hc' : ¬ k = some b ∧ ¬ b = n := by simpa [clash] using hc
      have hgl : (gone k σ).length = σ.length := by cases k <;> simp [gone]
      have lb' : b < σ.length := by simp [hgl] at lb; omega
      refine fin σ (g σ ?_) gi1
      rw [List.getElem?_append_left (by rw [hgl]; exact lb')]
      cases k with
      | none => rfl
      | some i => exact (List.getElem?_set_ne (fun e => hc'.1 (by rw [e]))).symm
    | _ => simp [clash] at hc
  | calls n b =>
    obtain ⟨hn, hb⟩ := gi2
    cases aj with
    | pure => obtain ⟨rfl, g⟩ := gj2; exact fin σ (g σ) gi1
    | reads a =>
      obtain ⟨rfl, lb, g⟩ := gj2
      have hc' : b = true ∧ a < n := by simpa [clash] using hc
      obtain ⟨q, e⟩ := hb hc'.1
      refine fin σ (g σ ?_) gi1
      rw [e, List.getElem?_append_left (by omega)]
    | _ => simp [clash] at hc
  | any =>
    cases aj with
    | pure => obtain ⟨rfl, g⟩ := gj2; exact fin σ (g σ) gi1
    | _ => simp [clash] at hc

/-- a list of operations, one behind the other, with what each touches -/
def RunA (P : Program) (M : List TypeId) (call : CallF) (ops : Array Oper) (A : Nat → Acc) : List Nat → List AV × Sto → List AV × Sto → Prop
  | [], s, s' => s = s'
  | i :: l, s, s' => ∃ s1, ops1 P M call ops i s = some (A i, s1) ∧ RunA P M call ops A l s1 s'

/-- k may come behind i -/
def Free (ops : Array Oper) (A : Nat → Acc) (k i : Nat) : Prop := ∃ x y, ops[k]? = some x ∧ ops[i]? = some y ∧ Oper.apart ops x y = true ∧ clash (A k) (A i) = false

/-- an operation that is free of all ahead of it may come first -/
theorem RunA.front {A : Nat → Acc} {i : Nat} : ∀ {l r : List Nat} {s s' : List AV × Sto}, RunA P M call ops A (l ++ i :: r) s s' → (∀ k ∈ l, Free ops A k i) → RunA P M call ops A (i :: (l ++ r)) s s'
  | [], r, s, s', h, _ => h
  | k :: l, r, s, s', h, hf => by
    obtain ⟨s1, h1, h2⟩ := h
    obtain ⟨s2, h3, h4⟩ := RunA.front (l := l) h2 fun q hq => hf q (by simp [hq])
    obtain ⟨x, y, hx, hy, ha, hc⟩ := hf k (by simp)
    obtain ⟨s1', g1, g2⟩ := swap hx hy ha hc h1 h3
    exact ⟨s1', g1, s2, g2, h4⟩

/-! the orders -/

theorem masks_spec : ∀ (l : List Oper) (acc : List Nat), (masks l acc).length = acc.length + l.length ∧ (∀ j, j < acc.length → (masks l acc)[j]? = acc[j]?) ∧
    ∀ (i : Nat) (o : Oper), l[i]? = some o → (masks l acc)[acc.length + i]? = some (maskOf o ((masks l acc).take (acc.length + i)))
  | [], acc => ⟨by simp [masks], fun j _ => rfl, fun i o h => by simp at h⟩
  | o :: l, acc => by
    obtain ⟨h1, h2, h3⟩ := masks_spec l (acc ++ [maskOf o acc])
    rw [masks]
    have hacc : ∀ j, j < acc.length → (masks l (acc ++ [maskOf o acc]))[j]? = acc[j]? := fun j hj => by rw [h2 j (by simp; omega), List.getElem?_append_left hj]
    refine ⟨by rw [h1]; simp; omega, hacc, fun i q hq => ?_⟩
    cases i with
    | zero =>
      simp at hq; subst hq
      rw [Nat.add_zero, h2 acc.length (by simp), List.getElem?_append_right (Nat.le_refl _)]
      simp only [Nat.sub_self, List.getElem?_cons_zero]
      have : (masks l (acc ++ [maskOf o acc])).take acc.length = acc := by
        apply List.ext_getElem?
        intro j
        rw [List.getElem?_take]
        split
        · rename_i hj; exact hacc j hj
        · rename_i hj; rw [List.getElem?_eq_none (by omega)]
      rw [this]
    | succ i =>
      have := h3 i q (by simpa using hq)
      simp only [List.length_append, List.length_cons, List.length_nil, Nat.zero_add] at this
      rw [show acc.length + (i + 1) = acc.length + 1 + i by omega]
      exact this

theorem maskOf_bit {o : Oper} {acc : List Nat} {k : Nat} (h : (maskOf o acc).testBit k = true) : ∃ e ∈ o.after.toList, Region.binds .any e = true ∧ (k = e.on ∨ (acc.getD e.on 0).testBit k = true) := by
  unfold maskOf at h
  have key : ∀ (l : List Edge) (s : Nat), (l.foldl (fun s e => if Region.binds .any e then s ||| 2 ^ e.on ||| acc.getD e.on 0 else s) s).testBit k = true → s.testBit k = true ∨ ∃ e ∈ l, Region.binds .any e = true ∧ (k = e.on ∨ (acc.getD e.on 0).testBit k = true) := by
    intro l
    induction l with
    | nil => intro s h; exact .inl h
    | cons e l ih =>
      intro s h
      rw [List.foldl_cons] at h
      rcases ih _ h with h | ⟨e', he', h'⟩
      · split at h
        · rename_i hb
          simp only [Nat.testBit_or, Bool.or_eq_true, Nat.testBit_two_pow, decide_eq_true_eq] at h
          rcases h with (h | h) | h
          · exact .inl h
          · exact .inr ⟨e, by simp, hb, .inl h.symm⟩
          · exact .inr ⟨e, by simp, hb, .inr h⟩
        · exact .inl h
      · exact .inr ⟨e', by simp [he'], h'⟩
  rcases key _ 0 h with h | h
  · simp at h
  · exact h

theorem mask_closed (L : Nat → Prop) (hL : ∀ (i : Nat) (o : Oper), ops[i]? = some o → L i → ∀ e ∈ o.after.toList, Region.binds .any e = true → L e.on) :
    ∀ (i : Nat) (o : Oper), ops[i]? = some o → (∀ e ∈ o.after.toList, Region.binds .any e = true → L e.on) → ∀ k, ((masks ops.toList []).getD i 0).testBit k = true → L k := by
  intro i
  induction i using Nat.strongRecOn with
  | _ i ih =>
    intro o ho hp k hk
    obtain ⟨h1, h2, h3⟩ := masks_spec ops.toList []
    have hm := h3 i o (by simpa using ho)
    simp only [List.length_nil, Nat.zero_add] at hm
    rw [List.getD_eq_getElem?_getD, hm, Option.getD_some] at hk
    obtain ⟨e, he, hb, hk⟩ := maskOf_bit hk
    rcases hk with rfl | hk
    · exact hp e he hb
    · rw [List.getD_eq_getElem?_getD, List.getElem?_take] at hk
      split at hk
      · rename_i hlt
        have hlen : i < ops.size := (Array.getElem?_eq_some_iff.1 ho).1
        obtain ⟨o', ho'⟩ : ∃ o', ops[e.on]? = some o' := ⟨_, Array.getElem?_eq_getElem (by omega)⟩
        exact ih e.on hlt o' ho' (hL e.on o' ho' (hp e he hb)) k (by rw [List.getD_eq_getElem?_getD]; exact hk)
      · simp at hk

theorem edgesOk_spec : ∀ (l : List Oper) (b : Nat), edgesOk l b = true → ∀ (i : Nat) (o : Oper), l[i]? = some o → ∀ e ∈ o.after.toList, Region.binds .any e = true → e.on < b + i
  | [], _, _, i, o, h => by simp at h
  | q :: l, b, h, i, o, ho => by
    simp only [edgesOk, Bool.and_eq_true, List.all_eq_true] at h
    cases i with
    | zero =>
      simp at ho; subst ho
      intro e he hb
      have := h.1 e he
      simp [hb] at this
      omega
    | succ i =>
      intro e he hb
      have := edgesOk_spec l (b + 1) h.2 i o (by simpa using ho) e he hb
      omega

/-- the text's order, as a run -/
theorem evD_run (A : Nat → Acc) : ∀ (m k : Nat) (tm : List AV) (σ : Sto) (accs : List Acc) (res : Option AV) (tm' : List AV) (σ' : Sto), evD P M call ops (List.range' k m) tm σ = some (accs, res, tm', σ') → (∀ (j : Nat) (a : Acc), accs[j]? = some a → A (k + j) = a) →
    accs.length ≤ m ∧ ∃ σ1, RunA P M call ops A (List.range' k accs.length) (tm, σ) (tm', σ1) ∧ (res = none → accs.length = m ∧ σ1 = σ') ∧ (∀ v, res = some v → accs.length < m ∧ ∃ o, ops[k + accs.length]? = some o ∧ evOp P M call ops o tm' σ1 = some (.inl v, σ'))
  | 0, k, tm, σ, accs, res, tm', σ', h, hA => by
    simp [evD] at h
    obtain ⟨rfl, rfl, rfl, rfl⟩ := h
    exact ⟨Nat.le_refl _, σ, rfl, fun _ => ⟨rfl, rfl⟩, fun v hv => by cases hv⟩
  | m + 1, k, tm, σ, accs, res, tm', σ', h, hA => by
    rw [List.range'_succ, evD] at h
    split at h
    · cases h
    · rename_i o ho
      split at h
      · rename_i tm1 acc σ1 h1
        split at h
        · rename_i accs1 r h2
          cases h
          obtain ⟨g0, σ2, g1, g2, g3⟩ := evD_run A m (k + 1) tm1 σ1 accs1 res tm' σ' h2 (fun j a hj => by
            have := hA (j + 1) a (by simpa using hj)
            rw [show k + 1 + j = k + (j + 1) by omega]; exact this)
          refine ⟨by simp; omega, σ2, ?_, fun hr => ⟨by have := (g2 hr).1; simp; omega, (g2 hr).2⟩, fun v hv => ?_⟩
          · rw [List.length_cons, List.range'_succ]
            refine ⟨(tm1, σ1), ?_, g1⟩
            rw [ops1_mk ho h1]
            have := hA 0 acc rfl
            rw [Nat.add_zero] at this
            rw [this]
          · obtain ⟨a1, o', a2, a3⟩ := g3 v hv
            refine ⟨by simp; omega, o', ?_, a3⟩
            rw [List.length_cons, show k + (accs1.length + 1) = k + 1 + accs1.length by omega]
            exact a2
        · cases h
      · rename_i v σ1 h1
        cases h
        exact ⟨by simp, σ, rfl, fun hr => (by cases hr), fun v' hv => (by cases hv; exact ⟨by simp, o, by simpa using ho, h1⟩)⟩
      · cases h

end
end Go.Proofs.YtcjjmejmpdhikaaGreatDoor
