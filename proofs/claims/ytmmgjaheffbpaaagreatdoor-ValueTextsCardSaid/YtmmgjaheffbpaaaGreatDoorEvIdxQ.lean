/-
 EV: slices.IndexFunc, ContainsFunc at the value seat's types (written by a program).
-/
import Derived.Test.YtmmgjaheffbpaaaGreatDoorEvText2Q
namespace Go.Proofs.YtmmgjaheffbpaaaGreatDoor
set_option maxRecDepth 100000
set_option maxHeartbeats 8000000
set_option linter.unusedSimpArgs false
set_option linter.unusedVariables false
set_option linter.unusedSectionVars false
section
open Go.RowKit
def fidx (p : List AV → Bool) : List (List AV) → Option Nat
 | [] => none
 | r :: l => if p r then some 0 else (fidx p l).map (· + 1)
def idxI (p : List AV → Bool) (l : List (List AV)) : Int := match fidx p l with | some i => i | none => -1
theorem fidx_hit {p : List AV → Bool} : ∀ {l : List (List AV)} {i : Nat} {r : List AV}, (∀ x ∈ l.take i, p x = false) → l[i]? = some r → p r = true → fidx p l = some i
 | [], i, r, _, h, _ => by simp at h
 | a :: l, 0, r, _, h, hp => by simp at h; subst h; simp [fidx, hp]
 | a :: l, i + 1, r, h, h2, hp => by
  have ha : p a = false := h a (by simp)
  rw [fidx, if_neg (by simp [ha]), fidx_hit (fun x hx => h x (by rw [List.take_succ_cons]; exact List.mem_cons_of_mem _ hx)) (by simpa using h2) hp]; rfl
theorem fidx_none {p : List AV → Bool} : ∀ {l : List (List AV)}, (∀ x ∈ l, p x = false) → fidx p l = none
 | [], _ => rfl
 | a :: l, h => by
  rw [fidx, if_neg (by simp [h a (by simp)]), fidx_none (fun x hx => h x (by simp [hx]))]; rfl
theorem fidx_any (p : List AV → Bool) : ∀ (l : List (List AV)), decide (0 ≤ idxI p l) = l.any p
 | [] => by simp [idxI, fidx]
 | a :: l => by
  have ih := fidx_any p l
  unfold idxI at ih ⊢
  rw [fidx]
  by_cases ha : p a = true
  · simp [ha]
  · have ha : p a = false := by simpa using ha
    simp only [ha, List.any_cons, Bool.false_or, if_false, ← ih]
    cases fidx p l with
    | none => simp
    | some i => simp; omega
theorem idxCon_ev (rows : List (List AV)) (tok : Tok) (g : FuncId) (cap : List AV) (p : List AV → Bool) (σ : Sto) (hl : rows.length ≤ 1000000000) (hrow : ∀ r ∈ rows, r.length = 2)
    (hf : ∀ (σ1 : Sto) (row : List AV), row ∈ rows → Ext σ σ1 → CallW Tryz.prog EV g (.agg row :: cap) σ1 fun r σ2 => r = .ret (.lit (.bool (p row))) ∧ Ext σ1 σ2) :
    CallW Tryz.prog EV 105 [.sl rows tok, .fn (.func g) [] cap] σ fun r σ' => r = .ret (.lit (.int .i64 (idxI p rows))) ∧ Ext σ σ' := by
 refine CallW.start (fn := Tryz.f105) (M := []) rfl rfl rfl rfl (by simp) fun tm hlen hs => ?_
 have h0 := hs 0 _ rfl
 have h1 := hs 1 _ rfl
 clear hs
 simp at hlen
 refine CW.hide fun R0 hR0 => ?_
 refine CW.seqK fun K hK => CW.region ?_
 simp (maxDischargeDepth := 16) [symB, List.length_set, andThen, hlen, h0]
 refine hK _ _ ?_; clear hK K
 refine CW.seqK fun K hK => ?_
 refine CW.seqK fun K2 hK2 => CW.region ?_
 simp (maxDischargeDepth := 16) [symB, List.length_set, andThen, hlen, h0]
 refine hK2 _ _ ?_; clear hK2 K2
 refine CW.block ?_
 refine CW.hide fun R hR => ?_
 refine CW.loopI (fun r tm σ1 => ∃ i, r = rows.length - i ∧ i ≤ rows.length ∧ (∀ x ∈ rows.take i, p x = false) ∧ tm.length = 19 ∧ slot tm 0 = .sl rows tok ∧ slot tm 1 = .fn (.func g) [] cap ∧ slot tm 7 = .lit (.int .i64 rows.length) ∧ slot tm 8 = .lit (.int .i64 i) ∧ Ext σ σ1) ?_ _ _ _
  ⟨0, rfl, by omega, by simp, by simp [hlen], by simp (maxDischargeDepth := 16) [slot_ne, h0], by simp (maxDischargeDepth := 16) [slot_ne, h1], by simp (maxDischargeDepth := 16) [slot_ne, slot_eq, hlen], by simp (maxDischargeDepth := 16) [slot_eq, hlen], .refl _⟩
 clear h0 h1 hlen tm
 rintro r tm σ1 ⟨i, rfl, hi, hno, hlen, h0, h1, h7, h8, hext⟩
 refine CW.hide fun R2 hR2 => ?_
 refine CW.seqK fun K4 hK4 => CW.region ?_
 by_cases hlt : i < rows.length
 · have hlt' : (i : Int) < rows.length := by omega
   simp (maxDischargeDepth := 16) [symB, List.length_set, andThen, hlen, h7, h8, hlt', hlt]
   refine hK4 _ _ ?_
   refine CW.seqK fun K3 hK3 => ?_
   refine CW.cond (t := true) (by simp (maxDischargeDepth := 16) [zT, slot_eq, slot_ne, hlen]) ?_
   refine CW.skip ?_
   simp only [andThen]
   refine hK3 _ _ ?_
   have hg := List.getElem?_eq_getElem hlt
   have hmem := List.getElem_mem hlt
   have htk := List.take_succ_eq_append_getElem hlt
   generalize rows[i] = row at *
   have hrl := hrow _ hmem
   obtain ⟨a, b, rfl⟩ : ∃ a b, row = [a, b] := by
    match row, hrl with
    | [a, b], _ => exact ⟨a, b, rfl⟩
   have hwk : IntKind.i64.wrap ((i : Int) + 1) = ((i + 1 : Nat) : Int) := wrap_succ (by omega)
   refine CW.seqK fun K5 hK5 => CW.block ?_
   refine CW.seqK fun K hK => CW.region ?_
   simp (maxDischargeDepth := 16) [symB, List.length_set, andThen, hlen, h8]
   refine hK _ _ ?_; clear hK K
   refine CW.seqK fun K6 hK6 => CW.region ?_
   simp (maxDischargeDepth := 16) [symB, List.length_set, andThen, hlen, h0, h1, hg]
   refine (hf σ1 _ hmem hext).mono ?_
   rintro r σ2 ⟨rfl, hext2⟩
   cases hp : p [a, b] with
   | true =>
    simp (maxDischargeDepth := 16) [symB, List.length_set, andThen, hlen, retK]
    refine hK6 _ _ ?_
    refine CW.cond (t := true) (by simp (maxDischargeDepth := 16) [zT, slot_eq, slot_ne, hlen]) ?_
    refine CW.seqK fun K hK => CW.region ?_
    simp (maxDischargeDepth := 16) [symB, List.length_set, andThen, hlen]
    refine hK _ _ ?_; clear hK K
    refine CW.ret ?_
    simp only [andThen, outOf]
    refine hR2 _ _ _ (hR _ _ _ (hR0 _ _ _ ⟨.lit (.int .i64 (idxI p rows)), ?_, rfl, hext.trans hext2⟩))
    have : idxI p rows = i := by unfold idxI; rw [fidx_hit hno hg hp]
    rw [this]
    simp (maxDischargeDepth := 16) [zA, omap, zB, slot_eq, slot_ne, hlen]
   | false =>
    simp (maxDischargeDepth := 16) [symB, List.length_set, andThen, hlen, retK]
    refine hK6 _ _ ?_
    refine CW.cond (t := false) (by simp (maxDischargeDepth := 16) [zT, slot_eq, slot_ne, hlen]) ?_
    refine CW.skip ?_
    simp only [andThen, outOf]
    refine hK5 _ _ ?_
    refine CW.region ?_
    simp (maxDischargeDepth := 16) [symB, List.length_set, andThen, hlen, h8, hwk]
    refine hR2 _ _ _ ⟨rows.length - (i + 1), by omega, i + 1, rfl, hlt, ?_, by simp [hlen], by simp (maxDischargeDepth := 16) [slot_ne, h0], by simp (maxDischargeDepth := 16) [slot_ne, h1], by simp (maxDischargeDepth := 16) [slot_ne, h7], by simp (maxDischargeDepth := 16) [slot_eq, hlen], hext.trans hext2⟩
    intro x hx
    rw [htk, List.mem_append] at hx
    rcases hx with hx | hx
    · exact hno x hx
    · simp at hx; subst hx; exact hp
 · have hlt' : ¬ (i : Int) < rows.length := by omega
   have hil : i = rows.length := by omega
   subst hil
   simp (maxDischargeDepth := 16) [symB, List.length_set, andThen, hlen, h7, h8]
   refine hK4 _ _ ?_
   refine CW.seqK fun K3 hK3 => ?_
   refine CW.cond (t := false) (by simp (maxDischargeDepth := 16) [zT, slot_eq, slot_ne, hlen]) ?_
   refine CW.exit ?_
   simp only [andThen]
   refine hR2 _ _ _ (hR _ _ _ ?_)
   simp only [outOf, if_true, andThen]
   refine hK _ _ ?_
   refine CW.seqK fun K hK => CW.region ?_
   simp (maxDischargeDepth := 16) [symB, List.length_set, andThen, hlen]
   refine hK _ _ ?_; clear hK K
   refine CW.ret (hR0 _ _ _ ⟨.lit (.int .i64 (idxI p rows)), ?_, rfl, hext⟩)
   have : idxI p rows = -1 := by unfold idxI; rw [fidx_none (by rwa [List.take_length] at hno)]
   rw [this]
   simp (maxDischargeDepth := 16) [zA, omap, zB, slot_eq, slot_ne, hlen]
theorem hasCon_ev (rows : List (List AV)) (tok : Tok) (g : FuncId) (cap : List AV) (p : List AV → Bool) (σ : Sto) (hl : rows.length ≤ 1000000000) (hrow : ∀ r ∈ rows, r.length = 2)
    (hf : ∀ (σ1 : Sto) (row : List AV), row ∈ rows → Ext σ σ1 → CallW Tryz.prog EV g (.agg row :: cap) σ1 fun r σ2 => r = .ret (.lit (.bool (p row))) ∧ Ext σ1 σ2) :
    CallW Tryz.prog EV 81 [.sl rows tok, .fn (.func g) [] cap] σ fun r σ' => r = .ret (.lit (.bool (rows.any p))) ∧ Ext σ σ' := by
 refine CallW.start (fn := Tryz.f81) (M := []) rfl rfl rfl rfl (by simp) fun tm hlen hs => ?_
 have h0 := hs 0 _ rfl
 have h1 := hs 1 _ rfl
 clear hs
 simp at hlen
 refine CW.hide fun R0 hR0 => ?_
 refine CW.seqK fun K hK => CW.region ?_
 simp (maxDischargeDepth := 16) [symB, List.length_set, andThen, hlen, h0]
 refine hK _ _ ?_; clear hK K
 refine CW.seqK fun K hK => CW.region ?_
 simp (maxDischargeDepth := 16) [symB, List.length_set, andThen, hlen, h0, h1]
 refine (idxCon_ev rows tok g cap p σ hl hrow hf).mono ?_
 rintro r σ2 ⟨rfl, hext⟩
 have ha := fidx_any p rows
 simp (maxDischargeDepth := 16) [symB, List.length_set, andThen, hlen, retK]
 refine hK _ _ ?_
 refine CW.ret (hR0 _ _ _ ⟨.lit (.bool (rows.any p)), ?_, rfl, hext⟩)
 simp (maxDischargeDepth := 16) [zA, omap, zB, slot_eq, slot_ne, hlen, ha]
theorem idxSorts_ev (rows : List (List AV)) (tok : Tok) (g : FuncId) (cap : List AV) (p : List AV → Bool) (σ : Sto) (hl : rows.length ≤ 1000000000) (hrow : ∀ r ∈ rows, r.length = 2)
    (hf : ∀ (σ1 : Sto) (row : List AV), row ∈ rows → Ext σ σ1 → CallW Tryz.prog EV g (.agg row :: cap) σ1 fun r σ2 => r = .ret (.lit (.bool (p row))) ∧ Ext σ1 σ2) :
    CallW Tryz.prog EV 125 [.sl rows tok, .fn (.func g) [] cap] σ fun r σ' => r = .ret (.lit (.int .i64 (idxI p rows))) ∧ Ext σ σ' := by
 refine CallW.start (fn := Tryz.f125) (M := []) rfl rfl rfl rfl (by simp) fun tm hlen hs => ?_
 have h0 := hs 0 _ rfl
 have h1 := hs 1 _ rfl
 clear hs
 simp at hlen
 refine CW.hide fun R0 hR0 => ?_
 refine CW.seqK fun K hK => CW.region ?_
 simp (maxDischargeDepth := 16) [symB, List.length_set, andThen, hlen, h0]
 refine hK _ _ ?_; clear hK K
 refine CW.seqK fun K hK => ?_
 refine CW.seqK fun K2 hK2 => CW.region ?_
 simp (maxDischargeDepth := 16) [symB, List.length_set, andThen, hlen, h0]
 refine hK2 _ _ ?_; clear hK2 K2
 refine CW.block ?_
 refine CW.hide fun R hR => ?_
 refine CW.loopI (fun r tm σ1 => ∃ i, r = rows.length - i ∧ i ≤ rows.length ∧ (∀ x ∈ rows.take i, p x = false) ∧ tm.length = 19 ∧ slot tm 0 = .sl rows tok ∧ slot tm 1 = .fn (.func g) [] cap ∧ slot tm 7 = .lit (.int .i64 rows.length) ∧ slot tm 8 = .lit (.int .i64 i) ∧ Ext σ σ1) ?_ _ _ _
  ⟨0, rfl, by omega, by simp, by simp [hlen], by simp (maxDischargeDepth := 16) [slot_ne, h0], by simp (maxDischargeDepth := 16) [slot_ne, h1], by simp (maxDischargeDepth := 16) [slot_ne, slot_eq, hlen], by simp (maxDischargeDepth := 16) [slot_eq, hlen], .refl _⟩
 clear h0 h1 hlen tm
 rintro r tm σ1 ⟨i, rfl, hi, hno, hlen, h0, h1, h7, h8, hext⟩
 refine CW.hide fun R2 hR2 => ?_
 refine CW.seqK fun K4 hK4 => CW.region ?_
 by_cases hlt : i < rows.length
 · have hlt' : (i : Int) < rows.length := by omega
   simp (maxDischargeDepth := 16) [symB, List.length_set, andThen, hlen, h7, h8, hlt', hlt]
   refine hK4 _ _ ?_
   refine CW.seqK fun K3 hK3 => ?_
   refine CW.cond (t := true) (by simp (maxDischargeDepth := 16) [zT, slot_eq, slot_ne, hlen]) ?_
   refine CW.skip ?_
   simp only [andThen]
   refine hK3 _ _ ?_
   have hg := List.getElem?_eq_getElem hlt
   have hmem := List.getElem_mem hlt
   have htk := List.take_succ_eq_append_getElem hlt
   generalize rows[i] = row at *
   have hrl := hrow _ hmem
   obtain ⟨a, b, rfl⟩ : ∃ a b, row = [a, b] := by
    match row, hrl with
    | [a, b], _ => exact ⟨a, b, rfl⟩
   have hwk : IntKind.i64.wrap ((i : Int) + 1) = ((i + 1 : Nat) : Int) := wrap_succ (by omega)
   refine CW.seqK fun K5 hK5 => CW.block ?_
   refine CW.seqK fun K hK => CW.region ?_
   simp (maxDischargeDepth := 16) [symB, List.length_set, andThen, hlen, h8]
   refine hK _ _ ?_; clear hK K
   refine CW.seqK fun K6 hK6 => CW.region ?_
   simp (maxDischargeDepth := 16) [symB, List.length_set, andThen, hlen, h0, h1, hg]
   refine (hf σ1 _ hmem hext).mono ?_
   rintro r σ2 ⟨rfl, hext2⟩
   cases hp : p [a, b] with
   | true =>
    simp (maxDischargeDepth := 16) [symB, List.length_set, andThen, hlen, retK]
    refine hK6 _ _ ?_
    refine CW.cond (t := true) (by simp (maxDischargeDepth := 16) [zT, slot_eq, slot_ne, hlen]) ?_
    refine CW.seqK fun K hK => CW.region ?_
    simp (maxDischargeDepth := 16) [symB, List.length_set, andThen, hlen]
    refine hK _ _ ?_; clear hK K
    refine CW.ret ?_
    simp only [andThen, outOf]
    refine hR2 _ _ _ (hR _ _ _ (hR0 _ _ _ ⟨.lit (.int .i64 (idxI p rows)), ?_, rfl, hext.trans hext2⟩))
    have : idxI p rows = i := by unfold idxI; rw [fidx_hit hno hg hp]
    rw [this]
    simp (maxDischargeDepth := 16) [zA, omap, zB, slot_eq, slot_ne, hlen]
   | false =>
    simp (maxDischargeDepth := 16) [symB, List.length_set, andThen, hlen, retK]
    refine hK6 _ _ ?_
    refine CW.cond (t := false) (by simp (maxDischargeDepth := 16) [zT, slot_eq, slot_ne, hlen]) ?_
    refine CW.skip ?_
    simp only [andThen, outOf]
    refine hK5 _ _ ?_
    refine CW.region ?_
    simp (maxDischargeDepth := 16) [symB, List.length_set, andThen, hlen, h8, hwk]
    refine hR2 _ _ _ ⟨rows.length - (i + 1), by omega, i + 1, rfl, hlt, ?_, by simp [hlen], by simp (maxDischargeDepth := 16) [slot_ne, h0], by simp (maxDischargeDepth := 16) [slot_ne, h1], by simp (maxDischargeDepth := 16) [slot_ne, h7], by simp (maxDischargeDepth := 16) [slot_eq, hlen], hext.trans hext2⟩
    intro x hx
    rw [htk, List.mem_append] at hx
    rcases hx with hx | hx
    · exact hno x hx
    · simp at hx; subst hx; exact hp
 · have hlt' : ¬ (i : Int) < rows.length := by omega
   have hil : i = rows.length := by omega
   subst hil
   simp (maxDischargeDepth := 16) [symB, List.length_set, andThen, hlen, h7, h8]
   refine hK4 _ _ ?_
   refine CW.seqK fun K3 hK3 => ?_
   refine CW.cond (t := false) (by simp (maxDischargeDepth := 16) [zT, slot_eq, slot_ne, hlen]) ?_
   refine CW.exit ?_
   simp only [andThen]
   refine hR2 _ _ _ (hR _ _ _ ?_)
   simp only [outOf, if_true, andThen]
   refine hK _ _ ?_
   refine CW.seqK fun K hK => CW.region ?_
   simp (maxDischargeDepth := 16) [symB, List.length_set, andThen, hlen]
   refine hK _ _ ?_; clear hK K
   refine CW.ret (hR0 _ _ _ ⟨.lit (.int .i64 (idxI p rows)), ?_, rfl, hext⟩)
   have : idxI p rows = -1 := by unfold idxI; rw [fidx_none (by rwa [List.take_length] at hno)]
   rw [this]
   simp (maxDischargeDepth := 16) [zA, omap, zB, slot_eq, slot_ne, hlen]
theorem hasSorts_ev (rows : List (List AV)) (tok : Tok) (g : FuncId) (cap : List AV) (p : List AV → Bool) (σ : Sto) (hl : rows.length ≤ 1000000000) (hrow : ∀ r ∈ rows, r.length = 2)
    (hf : ∀ (σ1 : Sto) (row : List AV), row ∈ rows → Ext σ σ1 → CallW Tryz.prog EV g (.agg row :: cap) σ1 fun r σ2 => r = .ret (.lit (.bool (p row))) ∧ Ext σ1 σ2) :
    CallW Tryz.prog EV 108 [.sl rows tok, .fn (.func g) [] cap] σ fun r σ' => r = .ret (.lit (.bool (rows.any p))) ∧ Ext σ σ' := by
 refine CallW.start (fn := Tryz.f108) (M := []) rfl rfl rfl rfl (by simp) fun tm hlen hs => ?_
 have h0 := hs 0 _ rfl
 have h1 := hs 1 _ rfl
 clear hs
 simp at hlen
 refine CW.hide fun R0 hR0 => ?_
 refine CW.seqK fun K hK => CW.region ?_
 simp (maxDischargeDepth := 16) [symB, List.length_set, andThen, hlen, h0]
 refine hK _ _ ?_; clear hK K
 refine CW.seqK fun K hK => CW.region ?_
 simp (maxDischargeDepth := 16) [symB, List.length_set, andThen, hlen, h0, h1]
 refine (idxSorts_ev rows tok g cap p σ hl hrow hf).mono ?_
 rintro r σ2 ⟨rfl, hext⟩
 have ha := fidx_any p rows
 simp (maxDischargeDepth := 16) [symB, List.length_set, andThen, hlen, retK]
 refine hK _ _ ?_
 refine CW.ret (hR0 _ _ _ ⟨.lit (.bool (rows.any p)), ?_, rfl, hext⟩)
 simp (maxDischargeDepth := 16) [zA, omap, zB, slot_eq, slot_ne, hlen, ha]
theorem idxData_ev (rows : List (List AV)) (tok : Tok) (g : FuncId) (cap : List AV) (p : List AV → Bool) (σ : Sto) (hl : rows.length ≤ 1000000000) (hrow : ∀ r ∈ rows, r.length = 2)
    (hf : ∀ (σ1 : Sto) (row : List AV), row ∈ rows → Ext σ σ1 → CallW Tryz.prog EV g (.agg row :: cap) σ1 fun r σ2 => r = .ret (.lit (.bool (p row))) ∧ Ext σ1 σ2) :
    CallW Tryz.prog EV 104 [.sl rows tok, .fn (.func g) [] cap] σ fun r σ' => r = .ret (.lit (.int .i64 (idxI p rows))) ∧ Ext σ σ' := by
 refine CallW.start (fn := Tryz.f104) (M := []) rfl rfl rfl rfl (by simp) fun tm hlen hs => ?_
 have h0 := hs 0 _ rfl
 have h1 := hs 1 _ rfl
 clear hs
 simp at hlen
 refine CW.hide fun R0 hR0 => ?_
 refine CW.seqK fun K hK => CW.region ?_
 simp (maxDischargeDepth := 16) [symB, List.length_set, andThen, hlen, h0]
 refine hK _ _ ?_; clear hK K
 refine CW.seqK fun K hK => ?_
 refine CW.seqK fun K2 hK2 => CW.region ?_
 simp (maxDischargeDepth := 16) [symB, List.length_set, andThen, hlen, h0]
 refine hK2 _ _ ?_; clear hK2 K2
 refine CW.block ?_
 refine CW.hide fun R hR => ?_
 refine CW.loopI (fun r tm σ1 => ∃ i, r = rows.length - i ∧ i ≤ rows.length ∧ (∀ x ∈ rows.take i, p x = false) ∧ tm.length = 19 ∧ slot tm 0 = .sl rows tok ∧ slot tm 1 = .fn (.func g) [] cap ∧ slot tm 7 = .lit (.int .i64 rows.length) ∧ slot tm 8 = .lit (.int .i64 i) ∧ Ext σ σ1) ?_ _ _ _
  ⟨0, rfl, by omega, by simp, by simp [hlen], by simp (maxDischargeDepth := 16) [slot_ne, h0], by simp (maxDischargeDepth := 16) [slot_ne, h1], by simp (maxDischargeDepth := 16) [slot_ne, slot_eq, hlen], by simp (maxDischargeDepth := 16) [slot_eq, hlen], .refl _⟩
 clear h0 h1 hlen tm
 rintro r tm σ1 ⟨i, rfl, hi, hno, hlen, h0, h1, h7, h8, hext⟩
 refine CW.hide fun R2 hR2 => ?_
 refine CW.seqK fun K4 hK4 => CW.region ?_
 by_cases hlt : i < rows.length
 · have hlt' : (i : Int) < rows.length := by omega
   simp (maxDischargeDepth := 16) [symB, List.length_set, andThen, hlen, h7, h8, hlt', hlt]
   refine hK4 _ _ ?_
   refine CW.seqK fun K3 hK3 => ?_
   refine CW.cond (t := true) (by simp (maxDischargeDepth := 16) [zT, slot_eq, slot_ne, hlen]) ?_
   refine CW.skip ?_
   simp only [andThen]
   refine hK3 _ _ ?_
   have hg := List.getElem?_eq_getElem hlt
   have hmem := List.getElem_mem hlt
   have htk := List.take_succ_eq_append_getElem hlt
   generalize rows[i] = row at *
   have hrl := hrow _ hmem
   obtain ⟨a, b, rfl⟩ : ∃ a b, row = [a, b] := by
    match row, hrl with
    | [a, b], _ => exact ⟨a, b, rfl⟩
   have hwk : IntKind.i64.wrap ((i : Int) + 1) = ((i + 1 : Nat) : Int) := wrap_succ (by omega)
   refine CW.seqK fun K5 hK5 => CW.block ?_
   refine CW.seqK fun K hK => CW.region ?_
   simp (maxDischargeDepth := 16) [symB, List.length_set, andThen, hlen, h8]
   refine hK _ _ ?_; clear hK K
   refine CW.seqK fun K6 hK6 => CW.region ?_
   simp (maxDischargeDepth := 16) [symB, List.length_set, andThen, hlen, h0, h1, hg]
   refine (hf σ1 _ hmem hext).mono ?_
   rintro r σ2 ⟨rfl, hext2⟩
   cases hp : p [a, b] with
   | true =>
    simp (maxDischargeDepth := 16) [symB, List.length_set, andThen, hlen, retK]
    refine hK6 _ _ ?_
    refine CW.cond (t := true) (by simp (maxDischargeDepth := 16) [zT, slot_eq, slot_ne, hlen]) ?_
    refine CW.seqK fun K hK => CW.region ?_
    simp (maxDischargeDepth := 16) [symB, List.length_set, andThen, hlen]
    refine hK _ _ ?_; clear hK K
    refine CW.ret ?_
    simp only [andThen, outOf]
    refine hR2 _ _ _ (hR _ _ _ (hR0 _ _ _ ⟨.lit (.int .i64 (idxI p rows)), ?_, rfl, hext.trans hext2⟩))
    have : idxI p rows = i := by unfold idxI; rw [fidx_hit hno hg hp]
    rw [this]
    simp (maxDischargeDepth := 16) [zA, omap, zB, slot_eq, slot_ne, hlen]
   | false =>
    simp (maxDischargeDepth := 16) [symB, List.length_set, andThen, hlen, retK]
    refine hK6 _ _ ?_
    refine CW.cond (t := false) (by simp (maxDischargeDepth := 16) [zT, slot_eq, slot_ne, hlen]) ?_
    refine CW.skip ?_
    simp only [andThen, outOf]
    refine hK5 _ _ ?_
    refine CW.region ?_
    simp (maxDischargeDepth := 16) [symB, List.length_set, andThen, hlen, h8, hwk]
    refine hR2 _ _ _ ⟨rows.length - (i + 1), by omega, i + 1, rfl, hlt, ?_, by simp [hlen], by simp (maxDischargeDepth := 16) [slot_ne, h0], by simp (maxDischargeDepth := 16) [slot_ne, h1], by simp (maxDischargeDepth := 16) [slot_ne, h7], by simp (maxDischargeDepth := 16) [slot_eq, hlen], hext.trans hext2⟩
    intro x hx
    rw [htk, List.mem_append] at hx
    rcases hx with hx | hx
    · exact hno x hx
    · simp at hx; subst hx; exact hp
 · have hlt' : ¬ (i : Int) < rows.length := by omega
   have hil : i = rows.length := by omega
   subst hil
   simp (maxDischargeDepth := 16) [symB, List.length_set, andThen, hlen, h7, h8]
   refine hK4 _ _ ?_
   refine CW.seqK fun K3 hK3 => ?_
   refine CW.cond (t := false) (by simp (maxDischargeDepth := 16) [zT, slot_eq, slot_ne, hlen]) ?_
   refine CW.exit ?_
   simp only [andThen]
   refine hR2 _ _ _ (hR _ _ _ ?_)
   simp only [outOf, if_true, andThen]
   refine hK _ _ ?_
   refine CW.seqK fun K hK => CW.region ?_
   simp (maxDischargeDepth := 16) [symB, List.length_set, andThen, hlen]
   refine hK _ _ ?_; clear hK K
   refine CW.ret (hR0 _ _ _ ⟨.lit (.int .i64 (idxI p rows)), ?_, rfl, hext⟩)
   have : idxI p rows = -1 := by unfold idxI; rw [fidx_none (by rwa [List.take_length] at hno)]
   rw [this]
   simp (maxDischargeDepth := 16) [zA, omap, zB, slot_eq, slot_ne, hlen]
theorem hasData_ev (rows : List (List AV)) (tok : Tok) (g : FuncId) (cap : List AV) (p : List AV → Bool) (σ : Sto) (hl : rows.length ≤ 1000000000) (hrow : ∀ r ∈ rows, r.length = 2)
    (hf : ∀ (σ1 : Sto) (row : List AV), row ∈ rows → Ext σ σ1 → CallW Tryz.prog EV g (.agg row :: cap) σ1 fun r σ2 => r = .ret (.lit (.bool (p row))) ∧ Ext σ1 σ2) :
    CallW Tryz.prog EV 79 [.sl rows tok, .fn (.func g) [] cap] σ fun r σ' => r = .ret (.lit (.bool (rows.any p))) ∧ Ext σ σ' := by
 refine CallW.start (fn := Tryz.f79) (M := []) rfl rfl rfl rfl (by simp) fun tm hlen hs => ?_
 have h0 := hs 0 _ rfl
 have h1 := hs 1 _ rfl
 clear hs
 simp at hlen
 refine CW.hide fun R0 hR0 => ?_
 refine CW.seqK fun K hK => CW.region ?_
 simp (maxDischargeDepth := 16) [symB, List.length_set, andThen, hlen, h0]
 refine hK _ _ ?_; clear hK K
 refine CW.seqK fun K hK => CW.region ?_
 simp (maxDischargeDepth := 16) [symB, List.length_set, andThen, hlen, h0, h1]
 refine (idxData_ev rows tok g cap p σ hl hrow hf).mono ?_
 rintro r σ2 ⟨rfl, hext⟩
 have ha := fidx_any p rows
 simp (maxDischargeDepth := 16) [symB, List.length_set, andThen, hlen, retK]
 refine hK _ _ ?_
 refine CW.ret (hR0 _ _ _ ⟨.lit (.bool (rows.any p)), ?_, rfl, hext⟩)
 simp (maxDischargeDepth := 16) [zA, omap, zB, slot_eq, slot_ne, hlen, ha]
end
section
open Go.RowKit
theorem LW.cutAt {P : Program} {E : Env} {M : List TypeId} {ops : Array Oper} {Q : AExit → List AV → Sto → Prop} : ∀ (n : Nat) (rest : List Oper) (tm : List AV) (σ : Sto), LW P E M ops (rest.take n) tm σ (andThen (fun tm σ => LW P E M ops (rest.drop n) tm σ Q) Q) → LW P E M ops rest tm σ Q
 | 0, rest, tm, σ, h => h
 | n + 1, [], tm, σ, h => h
 | n + 1, o :: rest, tm, σ, h => by
  rw [List.take_succ_cons, List.drop_succ_cons, LW] at h
  rw [LW]
  split
  · rename_i hw
    rw [if_pos hw] at h
    split
    · rename_i hs; rw [hs] at h; exact LW.cutAt n rest _ _ h
    · rename_i hs; rw [hs] at h; exact LW.cutAt n rest _ _ h
    · rename_i hs; rw [hs] at h; exact h
    · rename_i hs
      rw [hs] at h
      refine CallW.mono h ?_
      intro r σ' hr
      cases r with
      | ret v => exact LW.cutAt n rest _ _ hr
      | pan v => exact hr
    · rename_i hs; rw [hs] at h; exact h
  · rename_i hw
    rw [if_neg hw] at h
    exact LW.cutAt n rest _ _ h
theorem LW.cut {P : Program} {E : Env} {M : List TypeId} {ops : Array Oper} {rest : List Oper} {Q : AExit → List AV → Sto → Prop} {tm : List AV} {σ : Sto} (n : Nat) (h : ∀ K : List AV → Sto → Prop, (∀ tm σ, LW P E M ops (rest.drop n) tm σ Q → K tm σ) → LW P E M ops (rest.take n) tm σ (andThen K Q)) : LW P E M ops rest tm σ Q :=
 LW.cutAt n rest tm σ (h _ fun _ _ h => h)
inductive Vl where
 | mk (kind : Nat) (neg : Bool) (dig : List Nat) (truth : Bool) (name : List UInt8) (fields : List Vl)
mutual
def rowV : Vl → List AV
 | .mk k b d t n f => [.lit (.int .u8 k), .lit (.bool b), .sl (d32 d) .no, .lit (.bool t), .lit (.string (bs n)), .sl (rowsV f) .no]
def rowsV : List Vl → List (List AV)
 | [] => []
 | v :: l => rowV v :: rowsV l
end
theorem rowsV_map (l : List Vl) : rowsV l = l.map rowV := by
 induction l with
 | nil => rfl
 | cons v l ih => simp [rowsV, ih]
theorem rowsV_len (l : List Vl) : (rowsV l).length = l.length := by rw [rowsV_map, List.length_map]
theorem rowsV_get {l : List Vl} {i : Nat} (h : i < l.length) : (rowsV l)[i]? = some (rowV l[i]) := by rw [rowsV_map, List.getElem?_map, List.getElem?_eq_getElem h]; rfl
theorem rowsV_head (l : List Vl) : (rowsV l).head?.all (·.length == 6) = true := by
 cases l with
 | nil => rfl
 | cons v l => cases v; rfl
theorem rowsV_append (a b : List Vl) : rowsV (a ++ b) = rowsV a ++ rowsV b := by simp [rowsV_map]
theorem ieq (k m : Nat) : ((k : Int) == (m : Int)) = (k == m) := by rw [Bool.eq_iff_iff]; simp; omega
def noneB (k : Nat) (b : Bool) (d : List Nat) (t : Bool) (n : List UInt8) (f : List Vl) : Bool :=
 (k == 1 || (d.length == 0 && !b)) && (k == 2 || !t) && (k == 3 || (n.length == 0 && f.length == 0))
theorem none_ev (k : Nat) (b : Bool) (d : List Nat) (t : Bool) (n : List UInt8) (f : List Vl) (t1 t2 : Tok) (σ : Sto) : CallW Tryz.prog EV 83 [.agg [.lit (.int .u8 k), .lit (.bool b), .sl (d32 d) t1, .lit (.bool t), .lit (.string (bs n)), .sl (rowsV f) t2]] σ fun r σ' => r = .ret (.lit (.bool (noneB k b d t n f))) ∧ Ext σ σ' := by
 refine CallW.start (fn := Tryz.f83) (M := []) rfl rfl rfl rfl (by simp) fun tm hlen hs => ?_
 have h0 := hs 0 _ rfl
 clear hs
 simp at hlen
 refine CW.hide fun R0 hR0 => ?_
 refine CW.seqK fun K hK => CW.region ?_
 simp (maxDischargeDepth := 16) [symB, List.length_set, andThen, hlen, h0]
 refine hK _ _ ?_; clear hK K
 have hext : Ext σ (σ ++ [AObj.cells [.lit (.int .u8 k), .lit (.bool b), .sl (d32 d) t1, .lit (.bool t), .lit (.string (bs n)), .sl (rowsV f) t2] 37]) := ⟨_, rfl⟩
 have hob : (σ ++ [AObj.cells [.lit (.int .u8 k), .lit (.bool b), .sl (d32 d) t1, .lit (.bool t), .lit (.string (bs n)), .sl (rowsV f) t2] 37])[σ.length]? = some (.cells [.lit (.int .u8 k), .lit (.bool b), .sl (d32 d) t1, .lit (.bool t), .lit (.string (bs n)), .sl (rowsV f) t2] 37) := by simp
 generalize (σ ++ [AObj.cells [.lit (.int .u8 k), .lit (.bool b), .sl (d32 d) t1, .lit (.bool t), .lit (.string (bs n)), .sl (rowsV f) t2] 37]) = σ1 at *
 refine CW.seqK fun K hK => CW.draw (by kernel_rfl) ?_
 simp (maxDischargeDepth := 16) [symB, List.length_set, andThen, hlen, hob]
 refine ⟨by kernel_rfl, hK _ _ ?_⟩; clear hK K
 refine CW.reset (fun tm => tm.length = 49 ∧ slot tm 1 = .ptr σ.length 0 ∧ slot tm 3 = .lit (.bool (k == 1)) ∧ slot tm 4 = .lit (.bool (k == 3))) ⟨by simp [hlen], by simp (maxDischargeDepth := 16) [slot_eq, slot_ne, hlen], ?_, ?_⟩ ?_
 · simp (maxDischargeDepth := 16) [slot_eq, slot_ne, hlen]
   exact ieq k 1
 · simp (maxDischargeDepth := 16) [slot_eq, slot_ne, hlen]
   exact ieq k 3
 clear h0 hlen tm
 rintro tm ⟨hlen, h1, h3, h4⟩
 refine CW.seqK fun K hK => CW.region ?_
 refine LW.cut 15 fun K1 hK1 => ?_
 have s1 : ∀ (b1 : Bool) (tm : List AV), b1 = (k == 1 || (d.length == 0 && !b)) → tm.length = 49 → slot tm 1 = .ptr σ.length 0 → slot tm 4 = .lit (.bool (k == 3)) → slot tm 25 = .lit (.bool b1) → K1 tm σ1 := by
  intro b1 tm hb1 hlen h1 h4 h25
  refine hK1 _ _ ?_
  refine LW.cut 10 fun K2 hK2 => ?_
  have s2 : ∀ (b2 : Bool) (tm : List AV), b2 = (b1 && (k == 2 || !t)) → tm.length = 49 → slot tm 1 = .ptr σ.length 0 → slot tm 4 = .lit (.bool (k == 3)) → slot tm 35 = .lit (.bool b2) → K2 tm σ1 := by
   intro b2 tm hb2 hlen h1 h4 h35
   refine hK2 _ _ ?_
   have fin : ∀ (c : Bool) (tm : List AV), c = noneB k b d t n f → tm.length = 49 → slot tm 2 = .lit (.bool c) → andThen K R0 .normal tm σ1 := by
    intro c tm hc hlen h2
    refine hK _ _ ?_
    subst hc
    refine CW.ret (hR0 _ _ _ ⟨.lit (.bool (noneB k b d t n f)), ?_, rfl, hext⟩)
    simp (maxDischargeDepth := 16) [zA, omap, zB, slot_eq, slot_ne, hlen, h2]
   have hnb : noneB k b d t n f = (b2 && (k == 3 || (n.length == 0 && f.length == 0))) := by unfold noneB; rw [hb2, hb1]
   cases b2 with
   | false =>
    simp (maxDischargeDepth := 16) [symB, List.length_set, List.take_succ_cons, List.take_zero, List.drop_succ_cons, List.drop_zero, andThen, hlen, h35]
    exact fin false _ (by rw [hnb]; rfl) (by simp [hlen]) (by simp (maxDischargeDepth := 16) [slot_eq, slot_ne, hlen])
   | true =>
    cases hk3 : (k == 3) with
    | true =>
     rw [hk3] at h4
     simp (maxDischargeDepth := 16) [symB, List.length_set, List.take_succ_cons, List.take_zero, List.drop_succ_cons, List.drop_zero, andThen, hlen, h35, h4]
     exact fin true _ (by rw [hnb, hk3]; rfl) (by simp [hlen]) (by simp (maxDischargeDepth := 16) [slot_eq, slot_ne, hlen])
    | false =>
     rw [hk3] at h4
     cases n with
     | cons x n =>
      simp (maxDischargeDepth := 16) [symB, List.length_set, List.take_succ_cons, List.take_zero, List.drop_succ_cons, List.drop_zero, andThen, hlen, h35, h4, h1, hob, bs_list]
      exact fin false _ (by rw [hnb, hk3]; rfl) (by simp [hlen]) (by simp (maxDischargeDepth := 16) [slot_eq, slot_ne, hlen])
     | nil =>
      by_cases hf : f.length = 0
      · simp (maxDischargeDepth := 16) [symB, List.length_set, List.take_succ_cons, List.take_zero, List.drop_succ_cons, List.drop_zero, andThen, hlen, h35, h4, h1, hob, bs_list, rowsV_len, hf]
        exact fin true _ (by rw [hnb, hk3, hf]; rfl) (by simp [hlen]) (by simp (maxDischargeDepth := 16) [slot_eq, slot_ne, hlen])
      · have hf2 : ¬ (f.length : Int) = 0 := by omega
        simp (maxDischargeDepth := 16) [symB, List.length_set, List.take_succ_cons, List.take_zero, List.drop_succ_cons, List.drop_zero, andThen, hlen, h35, h4, h1, hob, bs_list, rowsV_len, hf, hf2]
        exact fin false _ (by rw [hnb, hk3]; simp [hf]) (by simp [hlen]) (by simp (maxDischargeDepth := 16) [slot_eq, slot_ne, hlen, hf, hf2])
  cases b1 with
  | false =>
   simp (maxDischargeDepth := 16) [symB, List.length_set, List.take_succ_cons, List.take_zero, List.drop_succ_cons, List.drop_zero, andThen, hlen, h25]
   exact s2 false _ rfl (by simp [hlen]) (by simp (maxDischargeDepth := 16) [slot_ne, h1]) (by simp (maxDischargeDepth := 16) [slot_ne, h4]) (by simp (maxDischargeDepth := 16) [slot_eq, slot_ne, hlen])
  | true =>
   have hk2 := ieq k 2
   cases hkk : (k == 2) with
   | true =>
    rw [hkk] at hk2
    have hk2 : ((k : Int) == 2) = true := hk2
    simp (maxDischargeDepth := 16) [symB, List.length_set, List.take_succ_cons, List.take_zero, List.drop_succ_cons, List.drop_zero, andThen, hlen, h25, h1, hob, hk2]
    exact s2 true _ (by simp [hkk]) (by simp [hlen]) (by simp (maxDischargeDepth := 16) [slot_ne, h1]) (by simp (maxDischargeDepth := 16) [slot_ne, h4]) (by simp (maxDischargeDepth := 16) [slot_eq, slot_ne, hlen])
   | false =>
    rw [hkk] at hk2
    have hk2 : ((k : Int) == 2) = false := hk2
    simp (maxDischargeDepth := 16) [symB, List.length_set, List.take_succ_cons, List.take_zero, List.drop_succ_cons, List.drop_zero, andThen, hlen, h25, h1, hob, hk2]
    exact s2 (!t) _ (by simp [hkk]) (by simp [hlen]) (by simp (maxDischargeDepth := 16) [slot_ne, h1]) (by simp (maxDischargeDepth := 16) [slot_ne, h4]) (by simp (maxDischargeDepth := 16) [slot_eq, slot_ne, hlen])
 cases hk1 : (k == 1) with
 | true =>
  rw [hk1] at h3
  simp (maxDischargeDepth := 16) [symB, List.length_set, List.take_succ_cons, List.take_zero, List.drop_succ_cons, List.drop_zero, andThen, hlen, h3]
  exact s1 true _ (by simp [hk1]) (by simp [hlen]) (by simp (maxDischargeDepth := 16) [slot_ne, h1]) (by simp (maxDischargeDepth := 16) [slot_ne, h4]) (by simp (maxDischargeDepth := 16) [slot_eq, slot_ne, hlen])
 | false =>
  rw [hk1] at h3
  by_cases hd : d.length = 0
  · simp (maxDischargeDepth := 16) [symB, List.length_set, List.take_succ_cons, List.take_zero, List.drop_succ_cons, List.drop_zero, andThen, hlen, h3, h1, hob, d32_len, hd]
    exact s1 (!b) _ (by simp [hk1, hd]) (by simp [hlen]) (by simp (maxDischargeDepth := 16) [slot_ne, h1]) (by simp (maxDischargeDepth := 16) [slot_ne, h4]) (by simp (maxDischargeDepth := 16) [slot_eq, slot_ne, hlen])
  · have hd2 : ¬ (d.length : Int) = 0 := by omega
    simp (maxDischargeDepth := 16) [symB, List.length_set, List.take_succ_cons, List.take_zero, List.drop_succ_cons, List.drop_zero, andThen, hlen, h3, h1, hob, d32_len, hd, hd2]
    exact s1 false _ (by simp [hk1, hd]) (by simp [hlen]) (by simp (maxDischargeDepth := 16) [slot_ne, h1]) (by simp (maxDischargeDepth := 16) [slot_ne, h4]) (by simp (maxDischargeDepth := 16) [slot_eq, slot_ne, hlen, hd, hd2])
end
section
open Go.RowKit
abbrev Con := List UInt8 × List (List UInt8)
abbrev Data := List UInt8 × List Con
def strR (l : List (List UInt8)) : List (List AV) := l.map fun s => [.lit (.string (bs s))]
def rowC (c : Con) : List AV := [.lit (.string (bs c.1)), .sl (strR c.2) .no]
def rowsC (l : List Con) : List (List AV) := l.map rowC
def rowD (d : Data) : List AV := [.lit (.string (bs d.1)), .sl (rowsC d.2) .no]
def rowsD (l : List Data) : List (List AV) := l.map rowD
theorem rowsC_len (l : List Con) : (rowsC l).length = l.length := by simp [rowsC]
theorem rowsD_len (l : List Data) : (rowsD l).length = l.length := by simp [rowsD]
theorem strR_len (l : List (List UInt8)) : (strR l).length = l.length := by simp [strR]
theorem rowsD_get {l : List Data} {i : Nat} (h : i < l.length) : (rowsD l)[i]? = some [.lit (.string (bs l[i].1)), .sl (rowsC l[i].2) .no] := by unfold rowsD; rw [List.getElem?_map, List.getElem?_eq_getElem h]; rfl
theorem strR_get {l : List (List UInt8)} {i : Nat} (h : i < l.length) : (strR l)[i]? = some [.lit (.string (bs l[i]))] := by unfold strR; rw [List.getElem?_map, List.getElem?_eq_getElem h]; rfl
theorem rowsC_two (l : List Con) : ∀ r ∈ rowsC l, r.length = 2 := by intro r h; obtain ⟨c, _, rfl⟩ := List.mem_map.1 h; rfl
theorem rowsD_two (l : List Data) : ∀ r ∈ rowsD l, r.length = 2 := by intro r h; obtain ⟨c, _, rfl⟩ := List.mem_map.1 h; rfl
def named (name : List UInt8) (row : List AV) : Bool := match row with | .lit (.string s) :: _ => s.toList == name | _ => false
theorem named_C (name : List UInt8) (c : Con) : named name (rowC c) = (c.1 == name) := by simp [named, rowC, bs_list]
theorem named_D (name : List UInt8) (d : Data) : named name (rowD d) = (d.1 == name) := by simp [named, rowD, bs_list]
theorem fidx_lt {p : List AV → Bool} : ∀ {l : List (List AV)} {i : Nat}, fidx p l = some i → i < l.length
 | [], i, h => by simp [fidx] at h
 | a :: l, i, h => by
  rw [fidx] at h
  split at h
  · cases h; simp
  · obtain ⟨j, hj, rfl⟩ := Option.map_eq_some_iff.1 h
    have := fidx_lt hj
    simp; omega
theorem con1_ev (a : List UInt8) (v : AV) (hv : v.one = true) (name : List UInt8) (id : Nat) (σ : Sto) (ho : σ[id]? = some (.cells [.lit (.string (bs name))] 9)) : CallW Tryz.prog EV 107 [.agg [.lit (.string (bs a)), v], .ptr id 0] σ fun r σ' => r = .ret (.lit (.bool (a == name))) ∧ Ext σ σ' := by
 refine CallW.start (fn := Tryz.f107) (M := []) rfl rfl rfl rfl (by simp) fun tm hlen hs => ?_
 have h0 := hs 0 _ rfl
 have h1 := hs 1 _ rfl
 clear hs
 simp at hlen
 refine CW.hide fun R0 hR0 => ?_
 refine CW.seqK fun K hK => CW.region ?_
 simp (maxDischargeDepth := 16) [symB, List.length_set, andThen, hlen, h0]
 refine hK _ _ ?_; clear hK K
 have hid := (List.getElem?_eq_some_iff.1 ho).1
 have ho2 : (σ ++ [AObj.cells [.lit (.string (bs a)), v] 25])[id]? = some (.cells [.lit (.string (bs name))] 9) := by rw [List.getElem?_append_left hid]; exact ho
 refine CW.seqK fun K hK => CW.region ?_
 simp (maxDischargeDepth := 16) [symB, List.length_set, andThen, hlen, h1, ho2, bs_list]
 refine hK _ _ ?_
 refine CW.ret (hR0 _ _ _ ⟨.lit (.bool (a == name)), ?_, rfl, ⟨_, rfl⟩⟩)
 simp (maxDischargeDepth := 16) [zA, omap, zB, slot_eq, slot_ne, hlen]
theorem data1_ev (a : List UInt8) (v : AV) (hv : v.one = true) (name : List UInt8) (id : Nat) (σ : Sto) (ho : σ[id]? = some (.cells [.lit (.string (bs name))] 9)) : CallW Tryz.prog EV 109 [.agg [.lit (.string (bs a)), v], .ptr id 0] σ fun r σ' => r = .ret (.lit (.bool (a == name))) ∧ Ext σ σ' := by
 refine CallW.start (fn := Tryz.f109) (M := []) rfl rfl rfl rfl (by simp) fun tm hlen hs => ?_
 have h0 := hs 0 _ rfl
 have h1 := hs 1 _ rfl
 clear hs
 simp at hlen
 refine CW.hide fun R0 hR0 => ?_
 refine CW.seqK fun K hK => CW.region ?_
 simp (maxDischargeDepth := 16) [symB, List.length_set, andThen, hlen, h0]
 refine hK _ _ ?_; clear hK K
 have hid := (List.getElem?_eq_some_iff.1 ho).1
 have ho2 : (σ ++ [AObj.cells [.lit (.string (bs a)), v] 28])[id]? = some (.cells [.lit (.string (bs name))] 9) := by rw [List.getElem?_append_left hid]; exact ho
 refine CW.seqK fun K hK => CW.region ?_
 simp (maxDischargeDepth := 16) [symB, List.length_set, andThen, hlen, h1, ho2, bs_list]
 refine hK _ _ ?_
 refine CW.ret (hR0 _ _ _ ⟨.lit (.bool (a == name)), ?_, rfl, ⟨_, rfl⟩⟩)
 simp (maxDischargeDepth := 16) [zA, omap, zB, slot_eq, slot_ne, hlen]
theorem ncon1_ev (a : List UInt8) (v : AV) (hv : v.one = true) (name : List UInt8) (id : Nat) (σ : Sto) (ho : σ[id]? = some (.cells [.lit (.string (bs name))] 9)) : CallW Tryz.prog EV 82 [.agg [.lit (.string (bs a)), v], .ptr id 0] σ fun r σ' => r = .ret (.lit (.bool (a == name))) ∧ Ext σ σ' := by
 refine CallW.start (fn := Tryz.f82) (M := []) rfl rfl rfl rfl (by simp) fun tm hlen hs => ?_
 have h0 := hs 0 _ rfl
 have h1 := hs 1 _ rfl
 clear hs
 simp at hlen
 refine CW.hide fun R0 hR0 => ?_
 refine CW.seqK fun K hK => CW.region ?_
 simp (maxDischargeDepth := 16) [symB, List.length_set, andThen, hlen, h0]
 refine hK _ _ ?_; clear hK K
 have hid := (List.getElem?_eq_some_iff.1 ho).1
 have ho2 : (σ ++ [AObj.cells [.lit (.string (bs a)), v] 25])[id]? = some (.cells [.lit (.string (bs name))] 9) := by rw [List.getElem?_append_left hid]; exact ho
 refine CW.seqK fun K hK => CW.region ?_
 simp (maxDischargeDepth := 16) [symB, List.length_set, andThen, hlen, h1, ho2, bs_list]
 refine hK _ _ ?_
 refine CW.ret (hR0 _ _ _ ⟨.lit (.bool (a == name)), ?_, rfl, ⟨_, rfl⟩⟩)
 simp (maxDischargeDepth := 16) [zA, omap, zB, slot_eq, slot_ne, hlen]
end
end Go.Proofs.YtmmgjaheffbpaaaGreatDoor
