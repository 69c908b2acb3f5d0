/-
  EV: strings.Builder's methods, on a builder of the call's own.
-/
import Derived.Test.YtcjjmejmpdhikaaGreatDoorEvStrs
namespace Go.Proofs.YtcjjmejmpdhikaaGreatDoor
set_option linter.unusedSimpArgs false
set_option linter.unusedVariables false
open Go.RowKit

theorem grow_ev {σ0 σ : Sto} {id n : Nat} (h0 : σ0.length ≤ id) (hσ : σ[id]? = some (.cells [.lit (.pointer none), .sl [] .full] 97)) (hext : Ext σ0 σ) (hn : n ≤ 140737488355328) :
    CallW Tryz.prog EV 50 [.ptr id 0, .lit (.int .i64 n)] σ fun r σ' => r = .ret (.tup []) ∧ BldAt σ0 σ' id [] ∧ Ext σ0 σ' := by
  have hil := (List.getElem?_eq_some_iff.1 hσ).1
  have hc : 97 = 97 ∧ (0 : Int) ≤ (n : Int) ∧ (n : Int) ≤ 140737488355328 := ⟨rfl, by omega, by omega⟩
  by_cases hn0 : n = 0
  · subst hn0
    refine CallW.prim (g := primGrow) rfl (σ' := σ.set id (.cells [.ptr id 0, .sl [] .full] 97)) (r := .ret (.tup [])) ?_ ⟨rfl, ⟨h0, _, List.getElem?_set_self hil, .inl ⟨rfl, rfl⟩⟩, hext.set h0⟩
    simp [primGrow, hσ]
  · refine CallW.prim (g := primGrow) rfl (σ' := σ.set id (.cells [.ptr id 0, .asl σ.length 0 0 1] 97) ++ [.cells [] 5]) (r := .ret (.tup [])) ?_ ⟨rfl, ⟨h0, _, ?_, .inr ⟨σ.length, rfl, by omega, hext.len, .inl ?_⟩⟩, (hext.set h0).push _⟩
    · have hc2 : (n : Int) ≤ 140737488355328 := by omega
      simp [primGrow, hσ, hn0, hc2]
    · rw [List.getElem?_append_left (by simpa using hil)]; exact List.getElem?_set_self hil
    · rw [List.getElem?_append_right (by simp)]; simp [lb]

theorem check_ev {σ0 σ : Sto} {id : Nat} {l : List UInt8} (h : BldAt σ0 σ id l) : CallW Tryz.prog EV 83 [.ptr id 0] σ fun r σ' => r = .ret (.tup []) ∧ σ' = σ := by
  obtain ⟨h0, v, hσ, hb⟩ := h
  refine CallW.prim (g := primCheck) rfl (σ' := σ) (r := .ret (.tup [])) ?_ ⟨rfl, rfl⟩
  simp [primCheck, hσ]

theorem string_ev {σ0 σ : Sto} {id : Nat} {l : List UInt8} (h : BldAt σ0 σ id l) (hext : Ext σ0 σ) (hl : l ≠ []) (hmax : l.length ≤ 140737488355328) :
    CallW Tryz.prog EV 52 [.ptr id 0] σ fun r σ' => r = .ret (.lit (.string ⟨l.toArray⟩)) ∧ BldAt σ0 σ' id l ∧ Ext σ0 σ' := by
  obtain ⟨h0, v, hσ, hb⟩ := h
  rcases hb with ⟨rfl, _⟩ | ⟨g, rfl, hg1, hg2, hg3⟩
  · exact absurd rfl hl
  have hlen : 0 < l.length := List.length_pos_iff.2 hl
  have hll := lb_length l
  have htk : (lb l).take l.length = lb l := List.take_of_length_le (by rw [hll]; exact Nat.le_refl _)
  have lg : g < σ.length := by rcases hg3 with h | h <;> exact (List.getElem?_eq_some_iff.1 h).1
  refine CallW.prim (g := primString) rfl (σ' := σ.set g (.buf (lb l) 5)) (r := .ret (.lit (.string ⟨l.toArray⟩))) ?_ ⟨rfl, ⟨h0, _, by rw [List.getElem?_set_ne hg1]; exact hσ, .inr ⟨g, rfl, hg1, hg2, .inr (List.getElem?_set_self lg)⟩⟩, hext.set hg2⟩
  rcases hg3 with hg3 | hg3
  · simp [primString, hσ, hlen, hmax, hg3, hll, htk, bytesAV_lb]
  · simp [primString, hσ, hlen, hmax, hg3, hll, htk, bytesAV_lb]

set_option maxRecDepth 100000 in
set_option maxHeartbeats 1000000 in
theorem len_ev {σ0 σ : Sto} {id : Nat} {l : List UInt8} (h : BldAt σ0 σ id l) : CallW Tryz.prog EV 107 [.ptr id 0] σ fun r σ' => r = .ret (.lit (.int .i64 l.length)) ∧ σ' = σ := by
  obtain ⟨h0, v, hσ, hb⟩ := h
  refine CallW.start (fn := Tryz.f107) (M := []) rfl rfl rfl rfl (by simp) fun tm hlen hs => ?_
  have h0 := hs 0 _ rfl
  clear hs
  simp at hlen
  refine CW.hide fun R0 hR0 => ?_
  refine CW.seqK fun K hK => CW.region ?_
  simp [symB, List.length_set, andThen, hlen, h0]
  refine hK _ _ ?_; clear hK K
  refine CW.seqK fun K hK => CW.region ?_
  rcases hb with ⟨rfl, rfl⟩ | ⟨g, rfl, _⟩
  · simp (maxDischargeDepth := 8) [symB, List.length_set, andThen, hlen, h0, hσ]
    refine hK _ _ ?_; clear hK K
    refine CW.ret (hR0 _ _ _ ?_)
    exact ⟨.lit (.int .i64 0), by simp [resultsA, omap, res_tmp, slot_eq, hlen], rfl, rfl⟩
  · simp (maxDischargeDepth := 8) [symB, List.length_set, andThen, hlen, h0, hσ]
    refine hK _ _ ?_; clear hK K
    refine CW.ret (hR0 _ _ _ ?_)
    exact ⟨.lit (.int .i64 l.length), by simp [resultsA, omap, res_tmp, slot_eq, hlen], rfl, rfl⟩

set_option maxRecDepth 100000 in
set_option maxHeartbeats 1000000 in
theorem writeString_core {σ0 σ00 σ : Sto} {id : Nat} {l : List UInt8} (hchk : CallW Tryz.prog EV 83 [.ptr id 0] σ00 fun r σ' => r = .ret (.tup []) ∧ σ' = σ) (h : BldAt σ0 σ id l) (hext : Ext σ0 σ) (s : ByteArray) (hlen2 : l.length + s.size ≤ 140737488355328) :
    CallW Tryz.prog EV 51 [.ptr id 0, .lit (.string s)] σ00 fun r σ' => (∃ v, r = .ret v) ∧ BldAt σ0 σ' id (l ++ s.data.toList) ∧ Ext σ0 σ' := by
  obtain ⟨h0, v, hσ, hb⟩ := h
  have hil := (List.getElem?_eq_some_iff.1 hσ).1
  obtain ⟨v', σ', acc, e1, b1, hid', hone, hap⟩ := app_str σ0 σ id v l s _ hσ h0 hb hext hlen2
  have hil' := (List.getElem?_eq_some_iff.1 hid').1
  refine CallW.start (fn := Tryz.f51) (M := [95]) rfl rfl rfl rfl (by simp) fun tm hlen hs => ?_
  have g0 := hs 0 _ rfl
  have g1 := hs 1 _ rfl
  clear hs
  simp at hlen
  refine CW.hide fun R0 hR0 => ?_
  refine CW.seqK fun K hK => CW.region ?_
  simp [symB, List.length_set, andThen, hlen, g0, g1]
  refine hK _ _ ?_; clear hK K
  refine CW.seqK fun K hK => CW.region ?_
  simp (maxDischargeDepth := 8) [symB, List.length_set, andThen, hlen, g0, g1]
  refine hchk.mono ?_
  rintro r σ2 ⟨rfl, rfl⟩
  simp (maxDischargeDepth := 8) [symB, List.length_set, retK, andThen, hlen]
  refine hK _ _ ?_; clear hK K
  refine CW.seqK fun K hK => CW.region ?_
  have hc1 : AV.cells v' = [v'] := by cases v' <;> first | rfl | simp [AV.one] at hone
  have ht1 : AV.notTup v' = true := by cases v' <;> first | rfl | simp [AV.one] at hone
  have hst : ∀ (tm : List AV) (ty : TypeId) (po : String) (af : Array Edge) (gu : Option (Nat × Bool)) (x y : Operand), evx tm x = some (.ptr id 1) → evx tm y = some v' → evStep Tryz.prog [95] (evx tm) σ' ⟨none, .store 95 x y, ty, po, af, gu⟩ = some (.skip (σ'.set id (.cells [.ptr id 0, v'] 97)) (.writes id)) := by
    intro tm ty po af gu x y hx hy
    rw [es_store]
    unfold evStepU
    have hl : evLit Tryz.prog (evx tm) σ' ⟨none, .store 95 x y, ty, po, af, gu⟩ = none := by
      unfold evLit
      simp [Op.operands, hx, conc, conc2]
    rw [hl]
    simp [evPure, evMem, hx, hy, hid', hc1, ht1, putCells]
  simp (maxDischargeDepth := 8) [symB, List.length_set, andThen, hlen, g0, g1, hσ, hap, hst]
  refine hK _ _ ?_; clear hK K
  refine CW.seqK fun K hK => CW.region ?_
  simp (maxDischargeDepth := 8) [symB, List.length_set, andThen, hlen, g1]
  refine hK _ _ ?_; clear hK K
  refine CW.ret (hR0 _ _ _ ?_)
  refine ⟨_, by simp [resultsA, omap, res_tmp, slot_eq, slot_ne, hlen]; rfl, ⟨_, rfl⟩, ⟨h0, v', List.getElem?_set_self hil', ?_⟩, e1.set h0⟩
  rcases b1 with b1 | ⟨g, q1, q2, q3, q4⟩
  · exact .inl b1
  · refine .inr ⟨g, q1, q2, q3, ?_⟩
    rw [List.getElem?_set_ne (Ne.symm q2)]
    exact q4

theorem writeString_ev {σ0 σ : Sto} {id : Nat} {l : List UInt8} (h : BldAt σ0 σ id l) (hext : Ext σ0 σ) (s : ByteArray) (hlen2 : l.length + s.size ≤ 140737488355328) :
    CallW Tryz.prog EV 51 [.ptr id 0, .lit (.string s)] σ fun r σ' => (∃ v, r = .ret v) ∧ BldAt σ0 σ' id (l ++ s.data.toList) ∧ Ext σ0 σ' := writeString_core (check_ev h) h hext s hlen2

/-- .. the first time -/
theorem writeString0_ev {σ0 σ : Sto} {id : Nat} (h0 : σ0.length ≤ id) (hσ : σ[id]? = some (.cells [.lit (.pointer none), .sl [] .full] 97)) (hext : Ext σ0 σ) (s : ByteArray) (hlen2 : s.size ≤ 140737488355328) :
    CallW Tryz.prog EV 51 [.ptr id 0, .lit (.string s)] σ fun r σ' => (∃ v, r = .ret v) ∧ BldAt σ0 σ' id s.data.toList ∧ Ext σ0 σ' := by
  have hil := (List.getElem?_eq_some_iff.1 hσ).1
  refine (writeString_core (σ := σ.set id (.cells [.ptr id 0, .sl [] .full] 97)) (l := []) (CallW.prim (g := primCheck) rfl (σ' := σ.set id (.cells [.ptr id 0, .sl [] .full] 97)) (r := .ret (.tup [])) (by simp [primCheck, hσ]) ⟨rfl, rfl⟩) ⟨h0, _, List.getElem?_set_self hil, .inl ⟨rfl, rfl⟩⟩ (hext.set h0) s (by simpa using hlen2)).mono ?_
  rintro r σ' ⟨h1, h2, h3⟩
  exact ⟨h1, by simpa using h2, h3⟩

end Go.Proofs.YtcjjmejmpdhikaaGreatDoor
