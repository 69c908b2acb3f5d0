/-
  EV: slices.IndexFunc, ContainsFunc at the value seat's types (written by a program).
-/
import Derived.Test.YtcjjmejmpdhikaaGreatDoorEvParse
namespace Go.Proofs.YtcjjmejmpdhikaaGreatDoor
set_option linter.unusedSimpArgs false
set_option linter.unusedVariables false
open Go.RowKit

/-- the first row of which it is so -/
def fidx (p : List AV → Bool) : List (List AV) → Option Nat
  | [] => none
  | r :: l => if p r then some 0 else (fidx p l).map (· + 1)
def idxI (p : List AV → Bool) (l : List (List AV)) : Int := match fidx p l with | some i => i | none => -1
theorem fidx_hit {p : List AV → Bool} : ∀ {l : List (List AV)} {i : Nat} {r : List AV}, (∀ x ∈ l.take i, p x = false) → l[i]? = some r → p r = true → fidx p l = some i
  | [], i, r, _, h, _ => by simp at h
  | a :: l, 0, r, _, h, hp => by simp at h; subst h; simp [fidx, hp]
  | a :: l, i + 1, r, h, h2, hp => by
    have ha : p a = false := h a (by simp)
    rw [fidx, if_neg (by simp [ha]), fidx_hit (fun x hx => h x (by rw [List.take_succ_cons]; exact List.mem_cons_of_mem _ hx)) (by simpa using h2) hp]; rfl
theorem fidx_none {p : List AV → Bool} : ∀ {l : List (List AV)}, (∀ x ∈ l, p x = false) → fidx p l = none
  | [], _ => rfl
  | a :: l, h => by
    rw [fidx, if_neg (by simp [h a (by simp)]), fidx_none (fun x hx => h x (by simp [hx]))]; rfl
theorem fidx_any (p : List AV → Bool) : ∀ (l : List (List AV)), decide (0 ≤ idxI p l) = l.any p
  | [] => by simp [idxI, fidx]
  | a :: l => by
    have ih := fidx_any p l
    unfold idxI at ih ⊢
    rw [fidx]
    by_cases ha : p a = true
    · simp [ha]
    · have ha : p a = false := by simpa using ha
      simp only [ha, List.any_cons, Bool.false_or, if_false, ← ih]
      cases fidx p l with
      | none => simp
      | some i => simp; omega

set_option maxRecDepth 100000 in
set_option maxHeartbeats 1000000 in
theorem idxCon_ev (rows : List (List AV)) (tok : Tok) (g : FuncId) (cap : List AV) (p : List AV → Bool) (σ : Sto) (hl : rows.length ≤ 1000000000) (hrow : ∀ r ∈ rows, r.length = 2)
    (hf : ∀ (σ1 : Sto) (row : List AV), row ∈ rows → Ext σ σ1 → CallW Tryz.prog EV g (.agg row :: cap) σ1 fun r σ2 => r = .ret (.lit (.bool (p row))) ∧ Ext σ1 σ2) :
    CallW Tryz.prog EV 74 [.sl rows tok, .fn (.func g) [] cap] σ fun r σ' => r = .ret (.lit (.int .i64 (idxI p rows))) ∧ Ext σ σ' := by
  refine CallW.start (fn := Tryz.f74) (M := []) rfl rfl rfl rfl (by simp) fun tm hlen hs => ?_
  have h0 := hs 0 _ rfl
  have h1 := hs 1 _ rfl
  clear hs
  simp at hlen
  refine CW.hide fun R0 hR0 => ?_
  refine CW.seqK fun K hK => CW.region ?_
  simp (maxDischargeDepth := 16) [symB, List.length_set, andThen, hlen, h0]
  refine hK _ _ ?_; clear hK K
  refine CW.seqK fun K hK => ?_
  refine CW.seqK fun K2 hK2 => CW.region ?_
  simp (maxDischargeDepth := 16) [symB, List.length_set, andThen, hlen, h0]
  refine hK2 _ _ ?_; clear hK2 K2
  refine CW.block ?_
  refine CW.hide fun R hR => ?_
  refine CW.loopI (fun r tm σ1 => ∃ i, r = rows.length - i ∧ i ≤ rows.length ∧ (∀ x ∈ rows.take i, p x = false) ∧ tm.length = 19 ∧ slot tm 0 = .sl rows tok ∧ slot tm 1 = .fn (.func g) [] cap ∧ slot tm 7 = .lit (.int .i64 rows.length) ∧ slot tm 8 = .lit (.int .i64 i) ∧ Ext σ σ1) ?_ _ _ _
    ⟨0, rfl, by omega, by simp, by simp [hlen], by simp (maxDischargeDepth := 16) [slot_ne, h0], by simp (maxDischargeDepth := 16) [slot_ne, h1], by simp (maxDischargeDepth := 16) [slot_ne, slot_eq, hlen], by simp (maxDischargeDepth := 16) [slot_eq, hlen], .refl _⟩
  clear h0 h1 hlen tm
  rintro r tm σ1 ⟨i, rfl, hi, hno, hlen, h0, h1, h7, h8, hext⟩
  refine CW.hide fun R2 hR2 => ?_
  refine CW.seqK fun K4 hK4 => CW.region ?_
  by_cases hlt : i < rows.length
  · have hlt' : (i : Int) < rows.length := by omega
    simp (maxDischargeDepth := 16) [symB, List.length_set, andThen, hlen, h7, h8, hlt', hlt]
    refine hK4 _ _ ?_
    refine CW.seqK fun K3 hK3 => ?_
    refine CW.cond (t := true) (by simp (maxDischargeDepth := 16) [evx_tmp, slot_eq, slot_ne, hlen]) ?_
    refine CW.skip ?_
    simp only [andThen]
    refine hK3 _ _ ?_
    have hg := List.getElem?_eq_getElem hlt
    have hmem := List.getElem_mem hlt
    have htk := List.take_succ_eq_append_getElem hlt
    generalize rows[i] = row at *
    have hrl := hrow _ hmem
    obtain ⟨a, b, rfl⟩ : ∃ a b, row = [a, b] := by
      match row, hrl with
      | [a, b], _ => exact ⟨a, b, rfl⟩
    have hwk : IntKind.i64.wrap ((i : Int) + 1) = ((i + 1 : Nat) : Int) := wrap_succ (by omega)
    refine CW.seqK fun K5 hK5 => CW.block ?_
    refine CW.seqK fun K hK => CW.region ?_
    simp (maxDischargeDepth := 16) [symB, List.length_set, andThen, hlen, h8]
    refine hK _ _ ?_; clear hK K
    refine CW.seqK fun K6 hK6 => CW.region ?_
    simp (maxDischargeDepth := 16) [symB, List.length_set, andThen, hlen, h0, h1, hg]
    refine (hf σ1 _ hmem hext).mono ?_
    rintro r σ2 ⟨rfl, hext2⟩
    cases hp : p [a, b] with
    | true =>
      simp (maxDischargeDepth := 16) [symB, List.length_set, andThen, hlen, retK]
      refine hK6 _ _ ?_
      refine CW.cond (t := true) (by simp (maxDischargeDepth := 16) [evx_tmp, slot_eq, slot_ne, hlen]) ?_
      refine CW.seqK fun K hK => CW.region ?_
      simp (maxDischargeDepth := 16) [symB, List.length_set, andThen, hlen]
      refine hK _ _ ?_; clear hK K
      refine CW.ret ?_
      simp only [andThen, outOf]
      refine hR2 _ _ _ (hR _ _ _ (hR0 _ _ _ ⟨.lit (.int .i64 (idxI p rows)), ?_, rfl, hext.trans hext2⟩))
      have : idxI p rows = i := by unfold idxI; rw [fidx_hit hno hg hp]
      rw [this]
      simp (maxDischargeDepth := 16) [resultsA, omap, res_tmp, slot_eq, slot_ne, hlen]
    | false =>
      simp (maxDischargeDepth := 16) [symB, List.length_set, andThen, hlen, retK]
      refine hK6 _ _ ?_
      refine CW.cond (t := false) (by simp (maxDischargeDepth := 16) [evx_tmp, slot_eq, slot_ne, hlen]) ?_
      refine CW.skip ?_
      simp only [andThen, outOf]
      refine hK5 _ _ ?_
      refine CW.region ?_
      simp (maxDischargeDepth := 16) [symB, List.length_set, andThen, hlen, h8, hwk]
      refine hR2 _ _ _ ⟨rows.length - (i + 1), by omega, i + 1, rfl, hlt, ?_, by simp [hlen], by simp (maxDischargeDepth := 16) [slot_ne, h0], by simp (maxDischargeDepth := 16) [slot_ne, h1], by simp (maxDischargeDepth := 16) [slot_ne, h7], by simp (maxDischargeDepth := 16) [slot_eq, hlen], hext.trans hext2⟩
      intro x hx
      rw [htk, List.mem_append] at hx
      rcases hx with hx | hx
      · exact hno x hx
      · simp at hx; subst hx; exact hp
  · have hlt' : ¬ (i : Int) < rows.length := by omega
    have hil : i = rows.length := by omega
    subst hil
    simp (maxDischargeDepth := 16) [symB, List.length_set, andThen, hlen, h7, h8]
    refine hK4 _ _ ?_
    refine CW.seqK fun K3 hK3 => ?_
    refine CW.cond (t := false) (by simp (maxDischargeDepth := 16) [evx_tmp, slot_eq, slot_ne, hlen]) ?_
    refine CW.exit ?_
    simp only [andThen]
    refine hR2 _ _ _ (hR _ _ _ ?_)
    simp only [outOf, if_true, andThen]
    refine hK _ _ ?_
    refine CW.seqK fun K hK => CW.region ?_
    simp (maxDischargeDepth := 16) [symB, List.length_set, andThen, hlen]
    refine hK _ _ ?_; clear hK K
    refine CW.ret (hR0 _ _ _ ⟨.lit (.int .i64 (idxI p rows)), ?_, rfl, hext⟩)
    have : idxI p rows = -1 := by unfold idxI; rw [fidx_none (by rwa [List.take_length] at hno)]
    rw [this]
    simp (maxDischargeDepth := 16) [resultsA, omap, res_tmp, slot_eq, slot_ne, hlen]

set_option maxRecDepth 100000 in
theorem hasCon_ev (rows : List (List AV)) (tok : Tok) (g : FuncId) (cap : List AV) (p : List AV → Bool) (σ : Sto) (hl : rows.length ≤ 1000000000) (hrow : ∀ r ∈ rows, r.length = 2)
    (hf : ∀ (σ1 : Sto) (row : List AV), row ∈ rows → Ext σ σ1 → CallW Tryz.prog EV g (.agg row :: cap) σ1 fun r σ2 => r = .ret (.lit (.bool (p row))) ∧ Ext σ1 σ2) :
    CallW Tryz.prog EV 91 [.sl rows tok, .fn (.func g) [] cap] σ fun r σ' => r = .ret (.lit (.bool (rows.any p))) ∧ Ext σ σ' := by
  refine CallW.start (fn := Tryz.f91) (M := []) rfl rfl rfl rfl (by simp) fun tm hlen hs => ?_
  have h0 := hs 0 _ rfl
  have h1 := hs 1 _ rfl
  clear hs
  simp at hlen
  refine CW.hide fun R0 hR0 => ?_
  refine CW.seqK fun K hK => CW.region ?_
  simp (maxDischargeDepth := 16) [symB, List.length_set, andThen, hlen, h0]
  refine hK _ _ ?_; clear hK K
  refine CW.seqK fun K hK => CW.region ?_
  simp (maxDischargeDepth := 16) [symB, List.length_set, andThen, hlen, h0, h1]
  refine (idxCon_ev rows tok g cap p σ hl hrow hf).mono ?_
  rintro r σ2 ⟨rfl, hext⟩
  have ha := fidx_any p rows
  simp (maxDischargeDepth := 16) [symB, List.length_set, andThen, hlen, retK]
  refine hK _ _ ?_
  refine CW.ret (hR0 _ _ _ ⟨.lit (.bool (rows.any p)), ?_, rfl, hext⟩)
  simp (maxDischargeDepth := 16) [resultsA, omap, res_tmp, slot_eq, slot_ne, hlen, ha]

set_option maxRecDepth 100000 in
set_option maxHeartbeats 1000000 in
theorem idxSorts_ev (rows : List (List AV)) (tok : Tok) (g : FuncId) (cap : List AV) (p : List AV → Bool) (σ : Sto) (hl : rows.length ≤ 1000000000) (hrow : ∀ r ∈ rows, r.length = 2)
    (hf : ∀ (σ1 : Sto) (row : List AV), row ∈ rows → Ext σ σ1 → CallW Tryz.prog EV g (.agg row :: cap) σ1 fun r σ2 => r = .ret (.lit (.bool (p row))) ∧ Ext σ1 σ2) :
    CallW Tryz.prog EV 102 [.sl rows tok, .fn (.func g) [] cap] σ fun r σ' => r = .ret (.lit (.int .i64 (idxI p rows))) ∧ Ext σ σ' := by
  refine CallW.start (fn := Tryz.f102) (M := []) rfl rfl rfl rfl (by simp) fun tm hlen hs => ?_
  have h0 := hs 0 _ rfl
  have h1 := hs 1 _ rfl
  clear hs
  simp at hlen
  refine CW.hide fun R0 hR0 => ?_
  refine CW.seqK fun K hK => CW.region ?_
  simp (maxDischargeDepth := 16) [symB, List.length_set, andThen, hlen, h0]
  refine hK _ _ ?_; clear hK K
  refine CW.seqK fun K hK => ?_
  refine CW.seqK fun K2 hK2 => CW.region ?_
  simp (maxDischargeDepth := 16) [symB, List.length_set, andThen, hlen, h0]
  refine hK2 _ _ ?_; clear hK2 K2
  refine CW.block ?_
  refine CW.hide fun R hR => ?_
  refine CW.loopI (fun r tm σ1 => ∃ i, r = rows.length - i ∧ i ≤ rows.length ∧ (∀ x ∈ rows.take i, p x = false) ∧ tm.length = 19 ∧ slot tm 0 = .sl rows tok ∧ slot tm 1 = .fn (.func g) [] cap ∧ slot tm 7 = .lit (.int .i64 rows.length) ∧ slot tm 8 = .lit (.int .i64 i) ∧ Ext σ σ1) ?_ _ _ _
    ⟨0, rfl, by omega, by simp, by simp [hlen], by simp (maxDischargeDepth := 16) [slot_ne, h0], by simp (maxDischargeDepth := 16) [slot_ne, h1], by simp (maxDischargeDepth := 16) [slot_ne, slot_eq, hlen], by simp (maxDischargeDepth := 16) [slot_eq, hlen], .refl _⟩
  clear h0 h1 hlen tm
  rintro r tm σ1 ⟨i, rfl, hi, hno, hlen, h0, h1, h7, h8, hext⟩
  refine CW.hide fun R2 hR2 => ?_
  refine CW.seqK fun K4 hK4 => CW.region ?_
  by_cases hlt : i < rows.length
  · have hlt' : (i : Int) < rows.length := by omega
    simp (maxDischargeDepth := 16) [symB, List.length_set, andThen, hlen, h7, h8, hlt', hlt]
    refine hK4 _ _ ?_
    refine CW.seqK fun K3 hK3 => ?_
    refine CW.cond (t := true) (by simp (maxDischargeDepth := 16) [evx_tmp, slot_eq, slot_ne, hlen]) ?_
    refine CW.skip ?_
    simp only [andThen]
    refine hK3 _ _ ?_
    have hg := List.getElem?_eq_getElem hlt
    have hmem := List.getElem_mem hlt
    have htk := List.take_succ_eq_append_getElem hlt
    generalize rows[i] = row at *
    have hrl := hrow _ hmem
    obtain ⟨a, b, rfl⟩ : ∃ a b, row = [a, b] := by
      match row, hrl with
      | [a, b], _ => exact ⟨a, b, rfl⟩
    have hwk : IntKind.i64.wrap ((i : Int) + 1) = ((i + 1 : Nat) : Int) := wrap_succ (by omega)
    refine CW.seqK fun K5 hK5 => CW.block ?_
    refine CW.seqK fun K hK => CW.region ?_
    simp (maxDischargeDepth := 16) [symB, List.length_set, andThen, hlen, h8]
    refine hK _ _ ?_; clear hK K
    refine CW.seqK fun K6 hK6 => CW.region ?_
    simp (maxDischargeDepth := 16) [symB, List.length_set, andThen, hlen, h0, h1, hg]
    refine (hf σ1 _ hmem hext).mono ?_
    rintro r σ2 ⟨rfl, hext2⟩
    cases hp : p [a, b] with
    | true =>
      simp (maxDischargeDepth := 16) [symB, List.length_set, andThen, hlen, retK]
      refine hK6 _ _ ?_
      refine CW.cond (t := true) (by simp (maxDischargeDepth := 16) [evx_tmp, slot_eq, slot_ne, hlen]) ?_
      refine CW.seqK fun K hK => CW.region ?_
      simp (maxDischargeDepth := 16) [symB, List.length_set, andThen, hlen]
      refine hK _ _ ?_; clear hK K
      refine CW.ret ?_
      simp only [andThen, outOf]
      refine hR2 _ _ _ (hR _ _ _ (hR0 _ _ _ ⟨.lit (.int .i64 (idxI p rows)), ?_, rfl, hext.trans hext2⟩))
      have : idxI p rows = i := by unfold idxI; rw [fidx_hit hno hg hp]
      rw [this]
      simp (maxDischargeDepth := 16) [resultsA, omap, res_tmp, slot_eq, slot_ne, hlen]
    | false =>
      simp (maxDischargeDepth := 16) [symB, List.length_set, andThen, hlen, retK]
      refine hK6 _ _ ?_
      refine CW.cond (t := false) (by simp (maxDischargeDepth := 16) [evx_tmp, slot_eq, slot_ne, hlen]) ?_
      refine CW.skip ?_
      simp only [andThen, outOf]
      refine hK5 _ _ ?_
      refine CW.region ?_
      simp (maxDischargeDepth := 16) [symB, List.length_set, andThen, hlen, h8, hwk]
      refine hR2 _ _ _ ⟨rows.length - (i + 1), by omega, i + 1, rfl, hlt, ?_, by simp [hlen], by simp (maxDischargeDepth := 16) [slot_ne, h0], by simp (maxDischargeDepth := 16) [slot_ne, h1], by simp (maxDischargeDepth := 16) [slot_ne, h7], by simp (maxDischargeDepth := 16) [slot_eq, hlen], hext.trans hext2⟩
      intro x hx
      rw [htk, List.mem_append] at hx
      rcases hx with hx | hx
      · exact hno x hx
      · simp at hx; subst hx; exact hp
  · have hlt' : ¬ (i : Int) < rows.length := by omega
    have hil : i = rows.length := by omega
    subst hil
    simp (maxDischargeDepth := 16) [symB, List.length_set, andThen, hlen, h7, h8]
    refine hK4 _ _ ?_
    refine CW.seqK fun K3 hK3 => ?_
    refine CW.cond (t := false) (by simp (maxDischargeDepth := 16) [evx_tmp, slot_eq, slot_ne, hlen]) ?_
    refine CW.exit ?_
    simp only [andThen]
    refine hR2 _ _ _ (hR _ _ _ ?_)
    simp only [outOf, if_true, andThen]
    refine hK _ _ ?_
    refine CW.seqK fun K hK => CW.region ?_
    simp (maxDischargeDepth := 16) [symB, List.length_set, andThen, hlen]
    refine hK _ _ ?_; clear hK K
    refine CW.ret (hR0 _ _ _ ⟨.lit (.int .i64 (idxI p rows)), ?_, rfl, hext⟩)
    have : idxI p rows = -1 := by unfold idxI; rw [fidx_none (by rwa [List.take_length] at hno)]
    rw [this]
    simp (maxDischargeDepth := 16) [resultsA, omap, res_tmp, slot_eq, slot_ne, hlen]

set_option maxRecDepth 100000 in
theorem hasSorts_ev (rows : List (List AV)) (tok : Tok) (g : FuncId) (cap : List AV) (p : List AV → Bool) (σ : Sto) (hl : rows.length ≤ 1000000000) (hrow : ∀ r ∈ rows, r.length = 2)
    (hf : ∀ (σ1 : Sto) (row : List AV), row ∈ rows → Ext σ σ1 → CallW Tryz.prog EV g (.agg row :: cap) σ1 fun r σ2 => r = .ret (.lit (.bool (p row))) ∧ Ext σ1 σ2) :
    CallW Tryz.prog EV 76 [.sl rows tok, .fn (.func g) [] cap] σ fun r σ' => r = .ret (.lit (.bool (rows.any p))) ∧ Ext σ σ' := by
  refine CallW.start (fn := Tryz.f76) (M := []) rfl rfl rfl rfl (by simp) fun tm hlen hs => ?_
  have h0 := hs 0 _ rfl
  have h1 := hs 1 _ rfl
  clear hs
  simp at hlen
  refine CW.hide fun R0 hR0 => ?_
  refine CW.seqK fun K hK => CW.region ?_
  simp (maxDischargeDepth := 16) [symB, List.length_set, andThen, hlen, h0]
  refine hK _ _ ?_; clear hK K
  refine CW.seqK fun K hK => CW.region ?_
  simp (maxDischargeDepth := 16) [symB, List.length_set, andThen, hlen, h0, h1]
  refine (idxSorts_ev rows tok g cap p σ hl hrow hf).mono ?_
  rintro r σ2 ⟨rfl, hext⟩
  have ha := fidx_any p rows
  simp (maxDischargeDepth := 16) [symB, List.length_set, andThen, hlen, retK]
  refine hK _ _ ?_
  refine CW.ret (hR0 _ _ _ ⟨.lit (.bool (rows.any p)), ?_, rfl, hext⟩)
  simp (maxDischargeDepth := 16) [resultsA, omap, res_tmp, slot_eq, slot_ne, hlen, ha]

set_option maxRecDepth 100000 in
set_option maxHeartbeats 1000000 in
theorem idxData_ev (rows : List (List AV)) (tok : Tok) (g : FuncId) (cap : List AV) (p : List AV → Bool) (σ : Sto) (hl : rows.length ≤ 1000000000) (hrow : ∀ r ∈ rows, r.length = 2)
    (hf : ∀ (σ1 : Sto) (row : List AV), row ∈ rows → Ext σ σ1 → CallW Tryz.prog EV g (.agg row :: cap) σ1 fun r σ2 => r = .ret (.lit (.bool (p row))) ∧ Ext σ1 σ2) :
    CallW Tryz.prog EV 113 [.sl rows tok, .fn (.func g) [] cap] σ fun r σ' => r = .ret (.lit (.int .i64 (idxI p rows))) ∧ Ext σ σ' := by
  refine CallW.start (fn := Tryz.f113) (M := []) rfl rfl rfl rfl (by simp) fun tm hlen hs => ?_
  have h0 := hs 0 _ rfl
  have h1 := hs 1 _ rfl
  clear hs
  simp at hlen
  refine CW.hide fun R0 hR0 => ?_
  refine CW.seqK fun K hK => CW.region ?_
  simp (maxDischargeDepth := 16) [symB, List.length_set, andThen, hlen, h0]
  refine hK _ _ ?_; clear hK K
  refine CW.seqK fun K hK => ?_
  refine CW.seqK fun K2 hK2 => CW.region ?_
  simp (maxDischargeDepth := 16) [symB, List.length_set, andThen, hlen, h0]
  refine hK2 _ _ ?_; clear hK2 K2
  refine CW.block ?_
  refine CW.hide fun R hR => ?_
  refine CW.loopI (fun r tm σ1 => ∃ i, r = rows.length - i ∧ i ≤ rows.length ∧ (∀ x ∈ rows.take i, p x = false) ∧ tm.length = 19 ∧ slot tm 0 = .sl rows tok ∧ slot tm 1 = .fn (.func g) [] cap ∧ slot tm 7 = .lit (.int .i64 rows.length) ∧ slot tm 8 = .lit (.int .i64 i) ∧ Ext σ σ1) ?_ _ _ _
    ⟨0, rfl, by omega, by simp, by simp [hlen], by simp (maxDischargeDepth := 16) [slot_ne, h0], by simp (maxDischargeDepth := 16) [slot_ne, h1], by simp (maxDischargeDepth := 16) [slot_ne, slot_eq, hlen], by simp (maxDischargeDepth := 16) [slot_eq, hlen], .refl _⟩
  clear h0 h1 hlen tm
  rintro r tm σ1 ⟨i, rfl, hi, hno, hlen, h0, h1, h7, h8, hext⟩
  refine CW.hide fun R2 hR2 => ?_
  refine CW.seqK fun K4 hK4 => CW.region ?_
  by_cases hlt : i < rows.length
  · have hlt' : (i : Int) < rows.length := by omega
    simp (maxDischargeDepth := 16) [symB, List.length_set, andThen, hlen, h7, h8, hlt', hlt]
    refine hK4 _ _ ?_
    refine CW.seqK fun K3 hK3 => ?_
    refine CW.cond (t := true) (by simp (maxDischargeDepth := 16) [evx_tmp, slot_eq, slot_ne, hlen]) ?_
    refine CW.skip ?_
    simp only [andThen]
    refine hK3 _ _ ?_
    have hg := List.getElem?_eq_getElem hlt
    have hmem := List.getElem_mem hlt
    have htk := List.take_succ_eq_append_getElem hlt
    generalize rows[i] = row at *
    have hrl := hrow _ hmem
    obtain ⟨a, b, rfl⟩ : ∃ a b, row = [a, b] := by
      match row, hrl with
      | [a, b], _ => exact ⟨a, b, rfl⟩
    have hwk : IntKind.i64.wrap ((i : Int) + 1) = ((i + 1 : Nat) : Int) := wrap_succ (by omega)
    refine CW.seqK fun K5 hK5 => CW.block ?_
    refine CW.seqK fun K hK => CW.region ?_
    simp (maxDischargeDepth := 16) [symB, List.length_set, andThen, hlen, h8]
    refine hK _ _ ?_; clear hK K
    refine CW.seqK fun K6 hK6 => CW.region ?_
    simp (maxDischargeDepth := 16) [symB, List.length_set, andThen, hlen, h0, h1, hg]
    refine (hf σ1 _ hmem hext).mono ?_
    rintro r σ2 ⟨rfl, hext2⟩
    cases hp : p [a, b] with
    | true =>
      simp (maxDischargeDepth := 16) [symB, List.length_set, andThen, hlen, retK]
      refine hK6 _ _ ?_
      refine CW.cond (t := true) (by simp (maxDischargeDepth := 16) [evx_tmp, slot_eq, slot_ne, hlen]) ?_
      refine CW.seqK fun K hK => CW.region ?_
      simp (maxDischargeDepth := 16) [symB, List.length_set, andThen, hlen]
      refine hK _ _ ?_; clear hK K
      refine CW.ret ?_
      simp only [andThen, outOf]
      refine hR2 _ _ _ (hR _ _ _ (hR0 _ _ _ ⟨.lit (.int .i64 (idxI p rows)), ?_, rfl, hext.trans hext2⟩))
      have : idxI p rows = i := by unfold idxI; rw [fidx_hit hno hg hp]
      rw [this]
      simp (maxDischargeDepth := 16) [resultsA, omap, res_tmp, slot_eq, slot_ne, hlen]
    | false =>
      simp (maxDischargeDepth := 16) [symB, List.length_set, andThen, hlen, retK]
      refine hK6 _ _ ?_
      refine CW.cond (t := false) (by simp (maxDischargeDepth := 16) [evx_tmp, slot_eq, slot_ne, hlen]) ?_
      refine CW.skip ?_
      simp only [andThen, outOf]
      refine hK5 _ _ ?_
      refine CW.region ?_
      simp (maxDischargeDepth := 16) [symB, List.length_set, andThen, hlen, h8, hwk]
      refine hR2 _ _ _ ⟨rows.length - (i + 1), by omega, i + 1, rfl, hlt, ?_, by simp [hlen], by simp (maxDischargeDepth := 16) [slot_ne, h0], by simp (maxDischargeDepth := 16) [slot_ne, h1], by simp (maxDischargeDepth := 16) [slot_ne, h7], by simp (maxDischargeDepth := 16) [slot_eq, hlen], hext.trans hext2⟩
      intro x hx
      rw [htk, List.mem_append] at hx
      rcases hx with hx | hx
      · exact hno x hx
      · simp at hx; subst hx; exact hp
  · have hlt' : ¬ (i : Int) < rows.length := by omega
    have hil : i = rows.length := by omega
    subst hil
    simp (maxDischargeDepth := 16) [symB, List.length_set, andThen, hlen, h7, h8]
    refine hK4 _ _ ?_
    refine CW.seqK fun K3 hK3 => ?_
    refine CW.cond (t := false) (by simp (maxDischargeDepth := 16) [evx_tmp, slot_eq, slot_ne, hlen]) ?_
    refine CW.exit ?_
    simp only [andThen]
    refine hR2 _ _ _ (hR _ _ _ ?_)
    simp only [outOf, if_true, andThen]
    refine hK _ _ ?_
    refine CW.seqK fun K hK => CW.region ?_
    simp (maxDischargeDepth := 16) [symB, List.length_set, andThen, hlen]
    refine hK _ _ ?_; clear hK K
    refine CW.ret (hR0 _ _ _ ⟨.lit (.int .i64 (idxI p rows)), ?_, rfl, hext⟩)
    have : idxI p rows = -1 := by unfold idxI; rw [fidx_none (by rwa [List.take_length] at hno)]
    rw [this]
    simp (maxDischargeDepth := 16) [resultsA, omap, res_tmp, slot_eq, slot_ne, hlen]

set_option maxRecDepth 100000 in
theorem hasData_ev (rows : List (List AV)) (tok : Tok) (g : FuncId) (cap : List AV) (p : List AV → Bool) (σ : Sto) (hl : rows.length ≤ 1000000000) (hrow : ∀ r ∈ rows, r.length = 2)
    (hf : ∀ (σ1 : Sto) (row : List AV), row ∈ rows → Ext σ σ1 → CallW Tryz.prog EV g (.agg row :: cap) σ1 fun r σ2 => r = .ret (.lit (.bool (p row))) ∧ Ext σ1 σ2) :
    CallW Tryz.prog EV 89 [.sl rows tok, .fn (.func g) [] cap] σ fun r σ' => r = .ret (.lit (.bool (rows.any p))) ∧ Ext σ σ' := by
  refine CallW.start (fn := Tryz.f89) (M := []) rfl rfl rfl rfl (by simp) fun tm hlen hs => ?_
  have h0 := hs 0 _ rfl
  have h1 := hs 1 _ rfl
  clear hs
  simp at hlen
  refine CW.hide fun R0 hR0 => ?_
  refine CW.seqK fun K hK => CW.region ?_
  simp (maxDischargeDepth := 16) [symB, List.length_set, andThen, hlen, h0]
  refine hK _ _ ?_; clear hK K
  refine CW.seqK fun K hK => CW.region ?_
  simp (maxDischargeDepth := 16) [symB, List.length_set, andThen, hlen, h0, h1]
  refine (idxData_ev rows tok g cap p σ hl hrow hf).mono ?_
  rintro r σ2 ⟨rfl, hext⟩
  have ha := fidx_any p rows
  simp (maxDischargeDepth := 16) [symB, List.length_set, andThen, hlen, retK]
  refine hK _ _ ?_
  refine CW.ret (hR0 _ _ _ ⟨.lit (.bool (rows.any p)), ?_, rfl, hext⟩)
  simp (maxDischargeDepth := 16) [resultsA, omap, res_tmp, slot_eq, slot_ne, hlen, ha]

end Go.Proofs.YtcjjmejmpdhikaaGreatDoor

namespace Go.Proofs.YtcjjmejmpdhikaaGreatDoor
set_option linter.unusedSimpArgs false
set_option linter.unusedVariables false
open Go.RowKit

/-- a long region, cut behind its n-th operation -/
theorem LW.cutAt {P : Program} {E : Env} {M : List TypeId} {ops : Array Oper} {Q : AExit → List AV → Sto → Prop} : ∀ (n : Nat) (rest : List Oper) (tm : List AV) (σ : Sto), LW P E M ops (rest.take n) tm σ (andThen (fun tm σ => LW P E M ops (rest.drop n) tm σ Q) Q) → LW P E M ops rest tm σ Q
  | 0, rest, tm, σ, h => h
  | n + 1, [], tm, σ, h => h
  | n + 1, o :: rest, tm, σ, h => by
    rw [List.take_succ_cons, List.drop_succ_cons, LW] at h
    rw [LW]
    split
    · rename_i hw
      rw [if_pos hw] at h
      split
      · rename_i hs; rw [hs] at h; exact LW.cutAt n rest _ _ h
      · rename_i hs; rw [hs] at h; exact LW.cutAt n rest _ _ h
      · rename_i hs; rw [hs] at h; exact h
      · rename_i hs
        rw [hs] at h
        refine CallW.mono h ?_
        intro r σ' hr
        cases r with
        | ret v => exact LW.cutAt n rest _ _ hr
        | pan v => exact hr
      · rename_i hs; rw [hs] at h; exact h
    · rename_i hw
      rw [if_neg hw] at h
      exact LW.cutAt n rest _ _ h
theorem LW.cut {P : Program} {E : Env} {M : List TypeId} {ops : Array Oper} {rest : List Oper} {Q : AExit → List AV → Sto → Prop} {tm : List AV} {σ : Sto} (n : Nat) (h : ∀ K : List AV → Sto → Prop, (∀ tm σ, LW P E M ops (rest.drop n) tm σ Q → K tm σ) → LW P E M ops (rest.take n) tm σ (andThen K Q)) : LW P E M ops rest tm σ Q :=
  LW.cutAt n rest tm σ (h _ fun _ _ h => h)

/-- a value -/
inductive Vl where
  | mk (kind : Nat) (neg : Bool) (dig : List Nat) (truth : Bool) (name : List UInt8) (fields : List Vl)
mutual
def rowV : Vl → List AV
  | .mk k b d t n f => [.lit (.int .u8 k), .lit (.bool b), .sl (d32 d) .no, .lit (.bool t), .lit (.string (bs n)), .sl (rowsV f) .no]
def rowsV : List Vl → List (List AV)
  | [] => []
  | v :: l => rowV v :: rowsV l
end
theorem rowsV_map (l : List Vl) : rowsV l = l.map rowV := by
  induction l with
  | nil => rfl
  | cons v l ih => simp [rowsV, ih]
theorem rowsV_len (l : List Vl) : (rowsV l).length = l.length := by rw [rowsV_map, List.length_map]
theorem rowV_len (v : Vl) : (rowV v).length = 6 := by cases v; rfl
theorem rowsV_get {l : List Vl} {i : Nat} (h : i < l.length) : (rowsV l)[i]? = some (rowV l[i]) := by rw [rowsV_map, List.getElem?_map, List.getElem?_eq_getElem h]; rfl
theorem rowsV_head (l : List Vl) : (rowsV l).head?.all (·.length == 6) = true := by
  cases l with
  | nil => rfl
  | cons v l => cases v; rfl
theorem rowsV_append (a b : List Vl) : rowsV (a ++ b) = rowsV a ++ rowsV b := by simp [rowsV_map]

theorem ieq (k m : Nat) : ((k : Int) == (m : Int)) = (k == m) := by rw [Bool.eq_iff_iff]; simp; omega

def noneB (k : Nat) (b : Bool) (d : List Nat) (t : Bool) (n : List UInt8) (f : List Vl) : Bool :=
  (k == 1 || (d.length == 0 && !b)) && (k == 2 || !t) && (k == 3 || (n.length == 0 && f.length == 0))

set_option maxRecDepth 100000 in
set_option maxHeartbeats 1000000 in
theorem none_ev (k : Nat) (b : Bool) (d : List Nat) (t : Bool) (n : List UInt8) (f : List Vl) (t1 t2 : Tok) (σ : Sto) : CallW Tryz.prog EV 42 [.agg [.lit (.int .u8 k), .lit (.bool b), .sl (d32 d) t1, .lit (.bool t), .lit (.string (bs n)), .sl (rowsV f) t2]] σ fun r σ' => r = .ret (.lit (.bool (noneB k b d t n f))) ∧ Ext σ σ' := by
  refine CallW.start (fn := Tryz.f42) (M := []) rfl rfl rfl rfl (by simp) fun tm hlen hs => ?_
  have h0 := hs 0 _ rfl
  clear hs
  simp at hlen
  refine CW.hide fun R0 hR0 => ?_
  refine CW.seqK fun K hK => CW.region ?_
  simp (maxDischargeDepth := 16) [symB, List.length_set, andThen, hlen, h0]
  refine hK _ _ ?_; clear hK K
  have hext : Ext σ (σ ++ [AObj.cells [.lit (.int .u8 k), .lit (.bool b), .sl (d32 d) t1, .lit (.bool t), .lit (.string (bs n)), .sl (rowsV f) t2] 37]) := ⟨_, rfl⟩
  have hob : (σ ++ [AObj.cells [.lit (.int .u8 k), .lit (.bool b), .sl (d32 d) t1, .lit (.bool t), .lit (.string (bs n)), .sl (rowsV f) t2] 37])[σ.length]? = some (.cells [.lit (.int .u8 k), .lit (.bool b), .sl (d32 d) t1, .lit (.bool t), .lit (.string (bs n)), .sl (rowsV f) t2] 37) := by simp
  generalize (σ ++ [AObj.cells [.lit (.int .u8 k), .lit (.bool b), .sl (d32 d) t1, .lit (.bool t), .lit (.string (bs n)), .sl (rowsV f) t2] 37]) = σ1 at *
  refine CW.seqK fun K hK => CW.draw (by kernel_rfl) ?_
  simp (maxDischargeDepth := 16) [symB, List.length_set, andThen, hlen, hob]
  refine ⟨by kernel_rfl, hK _ _ ?_⟩; clear hK K
  refine CW.reset (fun tm => tm.length = 49 ∧ slot tm 1 = .ptr σ.length 0 ∧ slot tm 3 = .lit (.bool (k == 1)) ∧ slot tm 4 = .lit (.bool (k == 3))) ⟨by simp [hlen], by simp (maxDischargeDepth := 16) [slot_eq, slot_ne, hlen], ?_, ?_⟩ ?_
  · simp (maxDischargeDepth := 16) [slot_eq, slot_ne, hlen]
    exact ieq k 1
  · simp (maxDischargeDepth := 16) [slot_eq, slot_ne, hlen]
    exact ieq k 3
  clear h0 hlen tm
  rintro tm ⟨hlen, h1, h3, h4⟩
  refine CW.seqK fun K hK => CW.region ?_
  refine LW.cut 15 fun K1 hK1 => ?_
  have s1 : ∀ (b1 : Bool) (tm : List AV), b1 = (k == 1 || (d.length == 0 && !b)) → tm.length = 49 → slot tm 1 = .ptr σ.length 0 → slot tm 4 = .lit (.bool (k == 3)) → slot tm 25 = .lit (.bool b1) → K1 tm σ1 := by
    intro b1 tm hb1 hlen h1 h4 h25
    refine hK1 _ _ ?_
    refine LW.cut 10 fun K2 hK2 => ?_
    have s2 : ∀ (b2 : Bool) (tm : List AV), b2 = (b1 && (k == 2 || !t)) → tm.length = 49 → slot tm 1 = .ptr σ.length 0 → slot tm 4 = .lit (.bool (k == 3)) → slot tm 35 = .lit (.bool b2) → K2 tm σ1 := by
      intro b2 tm hb2 hlen h1 h4 h35
      refine hK2 _ _ ?_
      have fin : ∀ (c : Bool) (tm : List AV), c = noneB k b d t n f → tm.length = 49 → slot tm 2 = .lit (.bool c) → andThen K R0 .normal tm σ1 := by
        intro c tm hc hlen h2
        refine hK _ _ ?_
        subst hc
        refine CW.ret (hR0 _ _ _ ⟨.lit (.bool (noneB k b d t n f)), ?_, rfl, hext⟩)
        simp (maxDischargeDepth := 16) [resultsA, omap, res_tmp, slot_eq, slot_ne, hlen, h2]
      have hnb : noneB k b d t n f = (b2 && (k == 3 || (n.length == 0 && f.length == 0))) := by unfold noneB; rw [hb2, hb1]
      cases b2 with
      | false =>
        simp (maxDischargeDepth := 16) [symB, List.length_set, List.take_succ_cons, List.take_zero, List.drop_succ_cons, List.drop_zero, andThen, hlen, h35]
        exact fin false _ (by rw [hnb]; rfl) (by simp [hlen]) (by simp (maxDischargeDepth := 16) [slot_eq, slot_ne, hlen])
      | true =>
        cases hk3 : (k == 3) with
        | true =>
          rw [hk3] at h4
          simp (maxDischargeDepth := 16) [symB, List.length_set, List.take_succ_cons, List.take_zero, List.drop_succ_cons, List.drop_zero, andThen, hlen, h35, h4]
          exact fin true _ (by rw [hnb, hk3]; rfl) (by simp [hlen]) (by simp (maxDischargeDepth := 16) [slot_eq, slot_ne, hlen])
        | false =>
          rw [hk3] at h4
          cases n with
          | cons x n =>
            simp (maxDischargeDepth := 16) [symB, List.length_set, List.take_succ_cons, List.take_zero, List.drop_succ_cons, List.drop_zero, andThen, hlen, h35, h4, h1, hob, bs_list]
            exact fin false _ (by rw [hnb, hk3]; rfl) (by simp [hlen]) (by simp (maxDischargeDepth := 16) [slot_eq, slot_ne, hlen])
          | nil =>
            by_cases hf : f.length = 0
            · simp (maxDischargeDepth := 16) [symB, List.length_set, List.take_succ_cons, List.take_zero, List.drop_succ_cons, List.drop_zero, andThen, hlen, h35, h4, h1, hob, bs_list, rowsV_len, hf]
              exact fin true _ (by rw [hnb, hk3, hf]; rfl) (by simp [hlen]) (by simp (maxDischargeDepth := 16) [slot_eq, slot_ne, hlen])
            · have hf2 : ¬ (f.length : Int) = 0 := by omega
              simp (maxDischargeDepth := 16) [symB, List.length_set, List.take_succ_cons, List.take_zero, List.drop_succ_cons, List.drop_zero, andThen, hlen, h35, h4, h1, hob, bs_list, rowsV_len, hf, hf2]
              exact fin false _ (by rw [hnb, hk3]; simp [hf]) (by simp [hlen]) (by simp (maxDischargeDepth := 16) [slot_eq, slot_ne, hlen, hf, hf2])
    cases b1 with
    | false =>
      simp (maxDischargeDepth := 16) [symB, List.length_set, List.take_succ_cons, List.take_zero, List.drop_succ_cons, List.drop_zero, andThen, hlen, h25]
      exact s2 false _ rfl (by simp [hlen]) (by simp (maxDischargeDepth := 16) [slot_ne, h1]) (by simp (maxDischargeDepth := 16) [slot_ne, h4]) (by simp (maxDischargeDepth := 16) [slot_eq, slot_ne, hlen])
    | true =>
      have hk2 := ieq k 2
      cases hkk : (k == 2) with
      | true =>
        rw [hkk] at hk2
        have hk2 : ((k : Int) == 2) = true := hk2
        simp (maxDischargeDepth := 16) [symB, List.length_set, List.take_succ_cons, List.take_zero, List.drop_succ_cons, List.drop_zero, andThen, hlen, h25, h1, hob, hk2]
        exact s2 true _ (by simp [hkk]) (by simp [hlen]) (by simp (maxDischargeDepth := 16) [slot_ne, h1]) (by simp (maxDischargeDepth := 16) [slot_ne, h4]) (by simp (maxDischargeDepth := 16) [slot_eq, slot_ne, hlen])
      | false =>
        rw [hkk] at hk2
        have hk2 : ((k : Int) == 2) = false := hk2
        simp (maxDischargeDepth := 16) [symB, List.length_set, List.take_succ_cons, List.take_zero, List.drop_succ_cons, List.drop_zero, andThen, hlen, h25, h1, hob, hk2]
        exact s2 (!t) _ (by simp [hkk]) (by simp [hlen]) (by simp (maxDischargeDepth := 16) [slot_ne, h1]) (by simp (maxDischargeDepth := 16) [slot_ne, h4]) (by simp (maxDischargeDepth := 16) [slot_eq, slot_ne, hlen])
  cases hk1 : (k == 1) with
  | true =>
    rw [hk1] at h3
    simp (maxDischargeDepth := 16) [symB, List.length_set, List.take_succ_cons, List.take_zero, List.drop_succ_cons, List.drop_zero, andThen, hlen, h3]
    exact s1 true _ (by simp [hk1]) (by simp [hlen]) (by simp (maxDischargeDepth := 16) [slot_ne, h1]) (by simp (maxDischargeDepth := 16) [slot_ne, h4]) (by simp (maxDischargeDepth := 16) [slot_eq, slot_ne, hlen])
  | false =>
    rw [hk1] at h3
    by_cases hd : d.length = 0
    · simp (maxDischargeDepth := 16) [symB, List.length_set, List.take_succ_cons, List.take_zero, List.drop_succ_cons, List.drop_zero, andThen, hlen, h3, h1, hob, d32_len, hd]
      exact s1 (!b) _ (by simp [hk1, hd]) (by simp [hlen]) (by simp (maxDischargeDepth := 16) [slot_ne, h1]) (by simp (maxDischargeDepth := 16) [slot_ne, h4]) (by simp (maxDischargeDepth := 16) [slot_eq, slot_ne, hlen])
    · have hd2 : ¬ (d.length : Int) = 0 := by omega
      simp (maxDischargeDepth := 16) [symB, List.length_set, List.take_succ_cons, List.take_zero, List.drop_succ_cons, List.drop_zero, andThen, hlen, h3, h1, hob, d32_len, hd, hd2]
      exact s1 false _ (by simp [hk1, hd]) (by simp [hlen]) (by simp (maxDischargeDepth := 16) [slot_ne, h1]) (by simp (maxDischargeDepth := 16) [slot_ne, h4]) (by simp (maxDischargeDepth := 16) [slot_eq, slot_ne, hlen, hd, hd2])

end Go.Proofs.YtcjjmejmpdhikaaGreatDoor

namespace Go.Proofs.YtcjjmejmpdhikaaGreatDoor
set_option linter.unusedSimpArgs false
set_option linter.unusedVariables false
open Go.RowKit

abbrev Con := List UInt8 × List (List UInt8)
abbrev Data := List UInt8 × List Con
def strR (l : List (List UInt8)) : List (List AV) := l.map fun s => [.lit (.string (bs s))]
def rowC (c : Con) : List AV := [.lit (.string (bs c.1)), .sl (strR c.2) .no]
def rowsC (l : List Con) : List (List AV) := l.map rowC
def rowD (d : Data) : List AV := [.lit (.string (bs d.1)), .sl (rowsC d.2) .no]
def rowsD (l : List Data) : List (List AV) := l.map rowD
theorem rowsC_len (l : List Con) : (rowsC l).length = l.length := by simp [rowsC]
theorem rowsD_len (l : List Data) : (rowsD l).length = l.length := by simp [rowsD]
theorem strR_len (l : List (List UInt8)) : (strR l).length = l.length := by simp [strR]
theorem rowsD_get {l : List Data} {i : Nat} (h : i < l.length) : (rowsD l)[i]? = some [.lit (.string (bs l[i].1)), .sl (rowsC l[i].2) .no] := by unfold rowsD; rw [List.getElem?_map, List.getElem?_eq_getElem h]; rfl
theorem rowsC_get {l : List Con} {i : Nat} (h : i < l.length) : (rowsC l)[i]? = some [.lit (.string (bs l[i].1)), .sl (strR l[i].2) .no] := by unfold rowsC; rw [List.getElem?_map, List.getElem?_eq_getElem h]; rfl
theorem strR_get {l : List (List UInt8)} {i : Nat} (h : i < l.length) : (strR l)[i]? = some [.lit (.string (bs l[i]))] := by unfold strR; rw [List.getElem?_map, List.getElem?_eq_getElem h]; rfl
theorem rowsC_two (l : List Con) : ∀ r ∈ rowsC l, r.length = 2 := by intro r h; obtain ⟨c, _, rfl⟩ := List.mem_map.1 h; rfl
theorem rowsD_two (l : List Data) : ∀ r ∈ rowsD l, r.length = 2 := by intro r h; obtain ⟨c, _, rfl⟩ := List.mem_map.1 h; rfl

/-- a row that bears a name -/
def named (name : List UInt8) (row : List AV) : Bool := match row with | .lit (.string s) :: _ => s.toList == name | _ => false
theorem named_C (name : List UInt8) (c : Con) : named name (rowC c) = (c.1 == name) := by simp [named, rowC, bs_list]
theorem named_D (name : List UInt8) (d : Data) : named name (rowD d) = (d.1 == name) := by simp [named, rowD, bs_list]
theorem fidx_lt {p : List AV → Bool} : ∀ {l : List (List AV)} {i : Nat}, fidx p l = some i → i < l.length
  | [], i, h => by simp [fidx] at h
  | a :: l, i, h => by
    rw [fidx] at h
    split at h
    · cases h; simp
    · obtain ⟨j, hj, rfl⟩ := Option.map_eq_some_iff.1 h
      have := fidx_lt hj
      simp; omega

set_option maxRecDepth 100000 in
theorem con1_ev (a : List UInt8) (v : AV) (hv : v.one = true) (name : List UInt8) (id : Nat) (σ : Sto) (ho : σ[id]? = some (.cells [.lit (.string (bs name))] 9)) : CallW Tryz.prog EV 75 [.agg [.lit (.string (bs a)), v], .ptr id 0] σ fun r σ' => r = .ret (.lit (.bool (a == name))) ∧ Ext σ σ' := by
  refine CallW.start (fn := Tryz.f75) (M := []) rfl rfl rfl rfl (by simp) fun tm hlen hs => ?_
  have h0 := hs 0 _ rfl
  have h1 := hs 1 _ rfl
  clear hs
  simp at hlen
  refine CW.hide fun R0 hR0 => ?_
  refine CW.seqK fun K hK => CW.region ?_
  simp (maxDischargeDepth := 16) [symB, List.length_set, andThen, hlen, h0]
  refine hK _ _ ?_; clear hK K
  have hid := (List.getElem?_eq_some_iff.1 ho).1
  have ho2 : (σ ++ [AObj.cells [.lit (.string (bs a)), v] 25])[id]? = some (.cells [.lit (.string (bs name))] 9) := by rw [List.getElem?_append_left hid]; exact ho
  refine CW.seqK fun K hK => CW.region ?_
  simp (maxDischargeDepth := 16) [symB, List.length_set, andThen, hlen, h1, ho2, bs_list]
  refine hK _ _ ?_
  refine CW.ret (hR0 _ _ _ ⟨.lit (.bool (a == name)), ?_, rfl, ⟨_, rfl⟩⟩)
  simp (maxDischargeDepth := 16) [resultsA, omap, res_tmp, slot_eq, slot_ne, hlen]

set_option maxRecDepth 100000 in
theorem data1_ev (a : List UInt8) (v : AV) (hv : v.one = true) (name : List UInt8) (id : Nat) (σ : Sto) (ho : σ[id]? = some (.cells [.lit (.string (bs name))] 9)) : CallW Tryz.prog EV 77 [.agg [.lit (.string (bs a)), v], .ptr id 0] σ fun r σ' => r = .ret (.lit (.bool (a == name))) ∧ Ext σ σ' := by
  refine CallW.start (fn := Tryz.f77) (M := []) rfl rfl rfl rfl (by simp) fun tm hlen hs => ?_
  have h0 := hs 0 _ rfl
  have h1 := hs 1 _ rfl
  clear hs
  simp at hlen
  refine CW.hide fun R0 hR0 => ?_
  refine CW.seqK fun K hK => CW.region ?_
  simp (maxDischargeDepth := 16) [symB, List.length_set, andThen, hlen, h0]
  refine hK _ _ ?_; clear hK K
  have hid := (List.getElem?_eq_some_iff.1 ho).1
  have ho2 : (σ ++ [AObj.cells [.lit (.string (bs a)), v] 28])[id]? = some (.cells [.lit (.string (bs name))] 9) := by rw [List.getElem?_append_left hid]; exact ho
  refine CW.seqK fun K hK => CW.region ?_
  simp (maxDischargeDepth := 16) [symB, List.length_set, andThen, hlen, h1, ho2, bs_list]
  refine hK _ _ ?_
  refine CW.ret (hR0 _ _ _ ⟨.lit (.bool (a == name)), ?_, rfl, ⟨_, rfl⟩⟩)
  simp (maxDischargeDepth := 16) [resultsA, omap, res_tmp, slot_eq, slot_ne, hlen]

set_option maxRecDepth 100000 in
theorem ncon1_ev (a : List UInt8) (v : AV) (hv : v.one = true) (name : List UInt8) (id : Nat) (σ : Sto) (ho : σ[id]? = some (.cells [.lit (.string (bs name))] 9)) : CallW Tryz.prog EV 92 [.agg [.lit (.string (bs a)), v], .ptr id 0] σ fun r σ' => r = .ret (.lit (.bool (a == name))) ∧ Ext σ σ' := by
  refine CallW.start (fn := Tryz.f92) (M := []) rfl rfl rfl rfl (by simp) fun tm hlen hs => ?_
  have h0 := hs 0 _ rfl
  have h1 := hs 1 _ rfl
  clear hs
  simp at hlen
  refine CW.hide fun R0 hR0 => ?_
  refine CW.seqK fun K hK => CW.region ?_
  simp (maxDischargeDepth := 16) [symB, List.length_set, andThen, hlen, h0]
  refine hK _ _ ?_; clear hK K
  have hid := (List.getElem?_eq_some_iff.1 ho).1
  have ho2 : (σ ++ [AObj.cells [.lit (.string (bs a)), v] 25])[id]? = some (.cells [.lit (.string (bs name))] 9) := by rw [List.getElem?_append_left hid]; exact ho
  refine CW.seqK fun K hK => CW.region ?_
  simp (maxDischargeDepth := 16) [symB, List.length_set, andThen, hlen, h1, ho2, bs_list]
  refine hK _ _ ?_
  refine CW.ret (hR0 _ _ _ ⟨.lit (.bool (a == name)), ?_, rfl, ⟨_, rfl⟩⟩)
  simp (maxDischargeDepth := 16) [resultsA, omap, res_tmp, slot_eq, slot_ne, hlen]

end Go.Proofs.YtcjjmejmpdhikaaGreatDoor

namespace Go.Proofs.YtcjjmejmpdhikaaGreatDoor
set_option linter.unusedSimpArgs false
set_option linter.unusedVariables false
open Go.RowKit

def smallD (ds : List Data) : Prop := ds.length ≤ 1000000 ∧ ∀ d ∈ ds, d.2.length ≤ 1000000 ∧ ∀ c ∈ d.2, c.2.length ≤ 1000000

/-- the place of a constructor -/
def conM (name : List UInt8) : List Data → Option (Nat × Nat)
  | [] => none
  | d :: l => match fidx (named name) (rowsC d.2) with | some j => some (0, j) | none => (conM name l).map fun q => (q.1 + 1, q.2)
def conAV (name : List UInt8) (ds : List Data) : AV := match conM name ds with
  | some (a, b) => .tup [.agg [.lit (.int .i64 a), .lit (.int .i64 b)], .lit (.bool true)]
  | none => .tup [.agg [.lit (.int .i64 0), .lit (.int .i64 0)], .lit (.bool false)]

set_option maxRecDepth 100000 in
set_option maxHeartbeats 1000000 in
theorem con_ev (ds : List Data) (tok : Tok) (name : List UInt8) (σ : Sto) (hs : smallD ds) : CallW Tryz.prog EV 44 [.sl (rowsD ds) tok, .lit (.string (bs name))] σ fun r σ' => r = .ret (conAV name ds) ∧ Ext σ σ' := by
  refine CallW.start (fn := Tryz.f44) (M := []) rfl rfl rfl rfl (by simp) fun tm hlen hss => ?_
  have h0 := hss 0 _ rfl
  have h1 := hss 1 _ rfl
  clear hss
  simp at hlen
  refine CW.hide fun R0 hR0 => ?_
  refine CW.seqK fun K hK => CW.region ?_
  simp (maxDischargeDepth := 16) [symB, List.length_set, andThen, hlen, h0, h1]
  refine hK _ _ ?_; clear hK K
  have hn0 : (σ ++ [AObj.cells [.lit (.string (bs name))] 9, AObj.cells [.lit (.int .i64 0), .lit (.int .i64 0)] 88])[σ.length]? = some (.cells [.lit (.string (bs name))] 9) := by simp
  have hp0 : (σ ++ [AObj.cells [.lit (.string (bs name))] 9, AObj.cells [.lit (.int .i64 0), .lit (.int .i64 0)] 88])[σ.length + 1]? = some (.cells [.lit (.int .i64 0), .lit (.int .i64 0)] 88) := by rw [List.getElem?_append_right (by omega)]; simp
  have he0 : Ext σ (σ ++ [AObj.cells [.lit (.string (bs name))] 9, AObj.cells [.lit (.int .i64 0), .lit (.int .i64 0)] 88]) := ⟨_, rfl⟩
  generalize hσA : (σ ++ [AObj.cells [.lit (.string (bs name))] 9, AObj.cells [.lit (.int .i64 0), .lit (.int .i64 0)] 88]) = σA at *
  refine CW.seqK fun K hK => ?_
  refine CW.seqK fun K2 hK2 => CW.region ?_
  simp (maxDischargeDepth := 16) [symB, List.length_set, andThen, hlen, h0, rowsD_len]
  refine hK2 _ _ ?_; clear hK2 K2
  refine CW.block ?_
  refine CW.hide fun R hR => ?_
  refine CW.loopI (fun r tm σ1 => ∃ i, r = ds.length - i ∧ i ≤ ds.length ∧ (conM name (ds.drop i)).map (fun q => (q.1 + i, q.2)) = conM name ds ∧ tm.length = 27 ∧ slot tm 3 = .ptr σ.length 0 ∧ slot tm 4 = .ptr (σ.length + 1) 0 ∧ slot tm 9 = .sl (rowsD ds) tok ∧ slot tm 10 = .lit (.int .i64 ds.length) ∧ slot tm 11 = .lit (.int .i64 i) ∧ Ext σA σ1) ?_ _ _ _
    ⟨0, rfl, by omega, by simp, by simp [hlen], by simp (maxDischargeDepth := 16) [slot_eq, slot_ne, hlen], by simp (maxDischargeDepth := 16) [slot_eq, slot_ne, hlen], by simp (maxDischargeDepth := 16) [slot_ne, slot_eq, hlen, h0], by simp (maxDischargeDepth := 16) [slot_ne, slot_eq, hlen], by simp (maxDischargeDepth := 16) [slot_eq, hlen], .refl _⟩
  clear h0 h1 hlen tm
  rintro r tm σ1 ⟨i, rfl, hi, hcm, hlen, h3, h4, h9, h10, h11, hext⟩
  have hn1 := hext.get hn0
  have hp1 := hext.get hp0
  refine CW.hide fun R2 hR2 => ?_
  refine CW.seqK fun K4 hK4 => CW.region ?_
  by_cases hlt : i < ds.length
  · have hlt' : (i : Int) < ds.length := by omega
    simp (maxDischargeDepth := 16) [symB, List.length_set, andThen, hlen, h10, h11, hlt', hlt]
    refine hK4 _ _ ?_
    refine CW.seqK fun K3 hK3 => ?_
    refine CW.cond (t := true) (by simp (maxDischargeDepth := 16) [evx_tmp, slot_eq, slot_ne, hlen]) ?_
    refine CW.skip ?_
    simp only [andThen]
    refine hK3 _ _ ?_
    have hg := rowsD_get hlt
    have hmem := List.getElem_mem hlt
    rw [List.drop_eq_getElem_cons hlt, conM] at hcm
    generalize ds[i] = d at *
    have hdl := (hs.2 d hmem).1
    have hwk : IntKind.i64.wrap ((i : Int) + 1) = ((i + 1 : Nat) : Int) := wrap_succ (by have := hs.1; omega)
    refine CW.seqK fun K5 hK5 => CW.block ?_
    refine CW.seqK fun K hK => CW.region ?_
    simp (maxDischargeDepth := 16) [symB, List.length_set, andThen, hlen, h9, h11, hg]
    refine hK _ _ ?_; clear hK K
    have hn2 : (σ1 ++ [AObj.cells [.lit (.string (bs d.1)), .sl (rowsC d.2) .no] 28])[σ.length]? = some (.cells [.lit (.string (bs name))] 9) := by rw [List.getElem?_append_left (List.getElem?_eq_some_iff.1 hn1).1]; exact hn1
    have hp2 : (σ1 ++ [AObj.cells [.lit (.string (bs d.1)), .sl (rowsC d.2) .no] 28])[σ.length + 1]? = some (.cells [.lit (.int .i64 0), .lit (.int .i64 0)] 88) := by rw [List.getElem?_append_left (List.getElem?_eq_some_iff.1 hp1).1]; exact hp1
    have hx2 : Ext σA (σ1 ++ [AObj.cells [.lit (.string (bs d.1)), .sl (rowsC d.2) .no] 28]) := hext.push _
    have hd2 : (σ1 ++ [AObj.cells [.lit (.string (bs d.1)), .sl (rowsC d.2) .no] 28])[σ1.length]? = some (.cells [.lit (.string (bs d.1)), .sl (rowsC d.2) .no] 28) := by simp
    generalize (σ1 ++ [AObj.cells [.lit (.string (bs d.1)), .sl (rowsC d.2) .no] 28]) = σ2 at *
    refine CW.seqK fun K6 hK6 => CW.region ?_
    simp (maxDischargeDepth := 16) [symB, List.length_set, andThen, hlen, h3, hd2]
    refine (idxCon_ev (rowsC d.2) .no 75 [.ptr σ.length 0] (named name) σ2 (by rw [rowsC_len]; omega) (rowsC_two _) ?_).mono ?_
    · intro σ3 row hrow hx3
      obtain ⟨c, hc, rfl⟩ := List.mem_map.1 hrow
      rw [named_C]
      exact con1_ev c.1 _ rfl name σ.length σ3 (hx3.get hn2)
    rintro r σ3 ⟨rfl, hext3⟩
    have hp3 := hext3.get hp2
    have hx3 := hx2.trans hext3
    have hlt3 := (List.getElem?_eq_some_iff.1 hp3).1
    unfold idxI
    cases hfi : fidx (named name) (rowsC d.2) with
    | some j =>
      rw [hfi] at hcm
      dsimp only at hcm
      simp (maxDischargeDepth := 16) [symB, List.length_set, andThen, hlen, retK]
      refine hK6 _ _ ?_; clear hK6 K6
      refine CW.seqK fun K6 hK6 => CW.region ?_
      simp (maxDischargeDepth := 16) [symB, List.length_set, andThen, hlen]
      refine hK6 _ _ ?_; clear hK6 K6
      refine CW.cond (t := true) (by simp (maxDischargeDepth := 16) [evx_tmp, slot_eq, slot_ne, hlen]) ?_
      refine CW.seqK fun K6 hK6 => CW.region ?_
      simp (maxDischargeDepth := 16) [symB, List.length_set, andThen, hlen, h4, hp3]
      refine hK6 _ _ ?_; clear hK6 K6
      refine CW.ret ?_
      simp only [andThen, outOf]
      have hq : conM name ds = some (i, j) := by rw [← hcm]; simp
      refine hR2 _ _ _ (hR _ _ _ (hR0 _ _ _ ⟨conAV name ds, ?_, rfl, (he0.trans hx3).set (by omega)⟩))
      unfold conAV
      rw [hq]
      simp (maxDischargeDepth := 16) [resultsA, omap, res_tmp, res_cell, slot_eq, slot_ne, hlen, h4, hlt3, partA, aggT]
    | none =>
      rw [hfi] at hcm
      dsimp only at hcm
      simp (maxDischargeDepth := 16) [symB, List.length_set, andThen, hlen, retK]
      refine hK6 _ _ ?_; clear hK6 K6
      refine CW.seqK fun K6 hK6 => CW.region ?_
      simp (maxDischargeDepth := 16) [symB, List.length_set, andThen, hlen]
      refine hK6 _ _ ?_; clear hK6 K6
      refine CW.cond (t := false) (by simp (maxDischargeDepth := 16) [evx_tmp, slot_eq, slot_ne, hlen]) ?_
      refine CW.skip ?_
      simp only [andThen, outOf]
      refine hK5 _ _ ?_
      refine CW.region ?_
      simp (maxDischargeDepth := 16) [symB, List.length_set, andThen, hlen, h11, hwk]
      refine hR2 _ _ _ ⟨ds.length - (i + 1), by omega, i + 1, rfl, hlt, ?_, by simp [hlen], by simp (maxDischargeDepth := 16) [slot_ne, h3], by simp (maxDischargeDepth := 16) [slot_ne, h4], by simp (maxDischargeDepth := 16) [slot_ne, h9], by simp (maxDischargeDepth := 16) [slot_ne, h10], by simp (maxDischargeDepth := 16) [slot_eq, hlen], hx3⟩
      rw [← hcm]
      cases conM name (ds.drop (i + 1)) with
      | none => rfl
      | some q => simp; omega
  · have hlt' : ¬ (i : Int) < ds.length := by omega
    have hil : i = ds.length := by omega
    subst hil
    simp (maxDischargeDepth := 16) [symB, List.length_set, andThen, hlen, h10, h11]
    refine hK4 _ _ ?_
    refine CW.seqK fun K3 hK3 => ?_
    refine CW.cond (t := false) (by simp (maxDischargeDepth := 16) [evx_tmp, slot_eq, slot_ne, hlen]) ?_
    refine CW.exit ?_
    simp only [andThen]
    refine hR2 _ _ _ (hR _ _ _ ?_)
    simp only [outOf, if_true, andThen]
    refine hK _ _ ?_
    have hlt1 := (List.getElem?_eq_some_iff.1 hp1).1
    refine CW.seqK fun K hK => CW.region ?_
    simp (maxDischargeDepth := 16) [symB, List.length_set, andThen, hlen, h4, hp1]
    refine hK _ _ ?_; clear hK K
    have hq : conM name ds = none := by rw [← hcm, List.drop_length]; rfl
    refine CW.ret (hR0 _ _ _ ⟨conAV name ds, ?_, rfl, (he0.trans hext).set (by omega)⟩)
    unfold conAV
    rw [hq]
    simp (maxDischargeDepth := 16) [resultsA, omap, res_tmp, res_cell, slot_eq, slot_ne, hlen, h4, hlt1, partA, aggT]

def bInt : List UInt8 := [105, 110, 116]
def bBool : List UInt8 := [98, 111, 111, 108]
/-- is a sort some data's? -/
def dataM (sort : List UInt8) (ds : List Data) : Bool := sort != bInt && (sort != bBool && (rowsD ds).any (named sort))

set_option maxRecDepth 100000 in
theorem data_ev (ds : List Data) (tok : Tok) (sort : List UInt8) (σ : Sto) (hs : smallD ds) : CallW Tryz.prog EV 45 [.sl (rowsD ds) tok, .lit (.string (bs sort))] σ fun r σ' => r = .ret (.lit (.bool (dataM sort ds))) ∧ Ext σ σ' := by
  refine CallW.start (fn := Tryz.f45) (M := []) rfl rfl rfl rfl (by simp) fun tm hlen hss => ?_
  have h0 := hss 0 _ rfl
  have h1 := hss 1 _ rfl
  clear hss
  simp at hlen
  refine CW.hide fun R0 hR0 => ?_
  refine CW.seqK fun K hK => CW.region ?_
  simp (maxDischargeDepth := 16) [symB, List.length_set, andThen, hlen, h0, h1]
  refine hK _ _ ?_; clear hK K
  have hb1 : (⟨#[105, 110, 116]⟩ : ByteArray).toList = bInt := bs_list bInt
  have hb2 : (⟨#[98, 111, 111, 108]⟩ : ByteArray).toList = bBool := bs_list bBool
  refine CW.seqK fun K hK => CW.region ?_
  by_cases hi : sort = bInt
  · have hx : dataM sort ds = false := by simp [dataM, hi]
    simp (maxDischargeDepth := 16) [symB, List.length_set, andThen, hlen, h0, bs_list, hb1, hb2, hi]
    refine hK _ _ ?_
    refine CW.ret (hR0 _ _ _ ⟨.lit (.bool false), ?_, by rw [hx], ⟨_, rfl⟩⟩)
    simp (maxDischargeDepth := 16) [resultsA, omap, res_tmp, slot_eq, slot_ne, hlen]
  · by_cases hb : sort = bBool
    · have hx : dataM sort ds = false := by simp [dataM, hb]
      have hib : ¬ bBool = bInt := by decide
      simp (maxDischargeDepth := 16) [symB, List.length_set, andThen, hlen, h0, bs_list, hb1, hb2, hb, hib]
      refine hK _ _ ?_
      refine CW.ret (hR0 _ _ _ ⟨.lit (.bool false), ?_, by rw [hx], ⟨_, rfl⟩⟩)
      simp (maxDischargeDepth := 16) [resultsA, omap, res_tmp, slot_eq, slot_ne, hlen]
    · have hx : dataM sort ds = (rowsD ds).any (named sort) := by unfold dataM; rw [show (sort != bInt) = true from bne_iff_ne.2 hi, show (sort != bBool) = true from bne_iff_ne.2 hb]; rfl
      simp (maxDischargeDepth := 16) [symB, List.length_set, andThen, hlen, h0, bs_list, hb1, hb2, hi, hb]
      refine (hasSorts_ev (rowsD ds) tok 77 [.ptr σ.length 0] (named sort) _ (by rw [rowsD_len]; have := hs.1; omega) (rowsD_two _) ?_).mono ?_
      · intro σ3 row hrow hx3
        obtain ⟨c, hc, rfl⟩ := List.mem_map.1 hrow
        rw [named_D]
        exact data1_ev c.1 _ rfl sort σ.length σ3 (hx3.get (by simp))
      rintro r σ3 ⟨rfl, hext3⟩
      rw [← hx]
      simp (maxDischargeDepth := 16) [symB, List.length_set, andThen, hlen, retK, hi, hb]
      refine hK _ _ ?_
      refine CW.ret (hR0 _ _ _ ⟨.lit (.bool (dataM sort ds)), ?_, rfl, hext3.of_push⟩)
      simp (maxDischargeDepth := 16) [resultsA, omap, res_tmp, slot_eq, slot_ne, hlen]

set_option maxRecDepth 100000 in
theorem fields_ev (ds : List Data) (tok : Tok) (a b : Nat) (d : Data) (c : Con) (ha : ds[a]? = some d) (hb : d.2[b]? = some c) (σ : Sto) : CallW Tryz.prog EV 46 [.sl (rowsD ds) tok, .agg [.lit (.int .i64 a), .lit (.int .i64 b)]] σ fun r σ' => r = .ret (.sl (strR c.2) .no) ∧ Ext σ σ' := by
  refine CallW.start (fn := Tryz.f46) (M := []) rfl rfl rfl rfl (by simp) fun tm hlen hss => ?_
  have h0 := hss 0 _ rfl
  have h1 := hss 1 _ rfl
  clear hss
  simp at hlen
  refine CW.hide fun R0 hR0 => ?_
  refine CW.seqK fun K hK => CW.region ?_
  simp (maxDischargeDepth := 16) [symB, List.length_set, andThen, hlen, h0, h1]
  refine hK _ _ ?_; clear hK K
  have hg : (rowsD ds)[a]? = some [.lit (.string (bs d.1)), .sl (rowsC d.2) .no] := by unfold rowsD; rw [List.getElem?_map, ha]; rfl
  have hg2 : (rowsC d.2)[b]? = some [.lit (.string (bs c.1)), .sl (strR c.2) .no] := by unfold rowsC; rw [List.getElem?_map, hb]; rfl
  refine CW.seqK fun K hK => CW.draw (by kernel_rfl) ?_
  simp (maxDischargeDepth := 16) [symB, List.length_set, andThen, hlen, h0, hg, hg2]
  refine ⟨by kernel_rfl, hK _ _ ?_⟩
  refine CW.ret (hR0 _ _ _ ⟨.sl (strR c.2) .no, ?_, rfl, ⟨_, rfl⟩⟩)
  simp (maxDischargeDepth := 16) [resultsA, omap, res_tmp, slot_eq, slot_ne, hlen]

end Go.Proofs.YtcjjmejmpdhikaaGreatDoor
