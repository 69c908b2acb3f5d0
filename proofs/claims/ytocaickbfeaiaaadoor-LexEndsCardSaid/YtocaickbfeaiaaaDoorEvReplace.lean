/-
  EV: strings.Builder's methods, on a builder of the call's own.
-/
import Derived.Test.YtocaickbfeaiaaaDoorEvStrs
namespace Go.Proofs.YtocaickbfeaiaaaDoor
set_option linter.unusedSimpArgs false
set_option linter.unusedVariables false
open Go.RowKit

theorem grow_ev {σ0 σ : Sto} {id n : Nat} (h0 : σ0.length ≤ id) (hσ : σ[id]? = some (.cells [.lit (.pointer none), .sl [] .full] 44)) (hext : Ext σ0 σ) (hn : n ≤ 140737488355328) :
    CallW Tryd.prog ES 15 [.ptr id 0, .lit (.int .i64 n)] σ fun r σ' => r = .ret (.tup []) ∧ BldAt σ0 σ' id [] ∧ Ext σ0 σ' := by
  have hil := (List.getElem?_eq_some_iff.1 hσ).1
  have hc : 44 = 44 ∧ (0 : Int) ≤ (n : Int) ∧ (n : Int) ≤ 140737488355328 := ⟨rfl, by omega, by omega⟩
  by_cases hn0 : n = 0
  · subst hn0
    refine CallW.prim (g := primGrow) rfl (σ' := σ.set id (.cells [.ptr id 0, .sl [] .full] 44)) (r := .ret (.tup [])) ?_ ⟨rfl, ⟨h0, _, List.getElem?_set_self hil, .inl ⟨rfl, rfl⟩⟩, hext.set h0⟩
    simp [primGrow, hσ]
  · refine CallW.prim (g := primGrow) rfl (σ' := σ.set id (.cells [.ptr id 0, .asl σ.length 0 0 1] 44) ++ [.cells [] 5]) (r := .ret (.tup [])) ?_ ⟨rfl, ⟨h0, _, ?_, .inr ⟨σ.length, rfl, by omega, hext.len, .inl ?_⟩⟩, (hext.set h0).push _⟩
    · have hc2 : (n : Int) ≤ 140737488355328 := by omega
      simp [primGrow, hσ, hn0, hc2]
    · rw [List.getElem?_append_left (by simpa using hil)]; exact List.getElem?_set_self hil
    · rw [List.getElem?_append_right (by simp)]; simp [lb]

theorem check_ev {σ0 σ : Sto} {id : Nat} {l : List UInt8} (h : BldAt σ0 σ id l) : CallW Tryd.prog ES 37 [.ptr id 0] σ fun r σ' => r = .ret (.tup []) ∧ σ' = σ := by
  obtain ⟨h0, v, hσ, hb⟩ := h
  refine CallW.prim (g := primCheck) rfl (σ' := σ) (r := .ret (.tup [])) ?_ ⟨rfl, rfl⟩
  simp [primCheck, hσ]

theorem string_ev {σ0 σ : Sto} {id : Nat} {l : List UInt8} (h : BldAt σ0 σ id l) (hext : Ext σ0 σ) (hl : l ≠ []) (hmax : l.length ≤ 140737488355328) :
    CallW Tryd.prog ES 19 [.ptr id 0] σ fun r σ' => r = .ret (.lit (.string ⟨l.toArray⟩)) ∧ BldAt σ0 σ' id l ∧ Ext σ0 σ' := by
  obtain ⟨h0, v, hσ, hb⟩ := h
  rcases hb with ⟨rfl, _⟩ | ⟨g, rfl, hg1, hg2, hg3⟩
  · exact absurd rfl hl
  have hlen : 0 < l.length := List.length_pos_iff.2 hl
  have hll := lb_length l
  have htk : (lb l).take l.length = lb l := List.take_of_length_le (by rw [hll]; exact Nat.le_refl _)
  have lg : g < σ.length := by rcases hg3 with h | h <;> exact (List.getElem?_eq_some_iff.1 h).1
  refine CallW.prim (g := primString) rfl (σ' := σ.set g (.buf (lb l) 5)) (r := .ret (.lit (.string ⟨l.toArray⟩))) ?_ ⟨rfl, ⟨h0, _, by rw [List.getElem?_set_ne hg1]; exact hσ, .inr ⟨g, rfl, hg1, hg2, .inr (List.getElem?_set_self lg)⟩⟩, hext.set hg2⟩
  rcases hg3 with hg3 | hg3
  · simp [primString, hσ, hlen, hmax, hg3, hll, htk, bytesAV_lb]
  · simp [primString, hσ, hlen, hmax, hg3, hll, htk, bytesAV_lb]

set_option maxRecDepth 100000 in
set_option maxHeartbeats 1000000 in
theorem len_ev {σ0 σ : Sto} {id : Nat} {l : List UInt8} (h : BldAt σ0 σ id l) : CallW Tryd.prog ES 22 [.ptr id 0] σ fun r σ' => r = .ret (.lit (.int .i64 l.length)) ∧ σ' = σ := by
  obtain ⟨h0, v, hσ, hb⟩ := h
  refine CallW.start (fn := Tryd.f22) (M := []) rfl rfl rfl rfl (by simp) fun tm hlen hs => ?_
  have h0 := hs 0 _ rfl
  clear hs
  simp at hlen
  refine CW.hide fun R0 hR0 => ?_
  refine CW.seqK fun K hK => CW.region ?_
  simp [LW_nil, LW_guardS, DW_guardS, LW_guardN, DW_guardN, yielded_eq, yv, LW_val, LW_skip, LW_enter, DW_nil, DW_val, DW_skip, DW_enter, es_move, es_assign, es_pick, es_allocV, es_boxV, es_build, es_buildSlice, es_buildSliceM, es_appendM, evMut, evAppendM, rowsA, es_load, es_store, es_nilCheck, es_binOp, es_unOp, es_convert, es_makeInterface, es_makeFunc, es_slice, es_fieldAddr, es_field, es_indexAddr, es_index, es_extract, es_panic, es_callV, es_len, es_max, evStepU, evPure, evLit, evMem, evx_tmp, evx_const, evx_func, putA_some, putA_none, slot_ne, slot_eq, List.length_set, isVal, valOf, stOf, accOf, isSkip, isEnter, fnOf, argsOf, absV, abs2, abs1, scal, binL, litInt, conc, conc2, lit?, omap, parts?, partA, fillA, putCells, chunks, AV.cells, AV.notTup, Op.operands, Call.operands, stripRows, AV.strip, aggT, andThen, hlen, h0]
  refine hK _ _ ?_; clear hK K
  refine CW.seqK fun K hK => CW.region ?_
  rcases hb with ⟨rfl, rfl⟩ | ⟨g, rfl, _⟩
  · simp (maxDischargeDepth := 8) [LW_nil, LW_guardS, DW_guardS, LW_guardN, DW_guardN, yielded_eq, yv, LW_val, LW_skip, LW_enter, DW_nil, DW_val, DW_skip, DW_enter, es_move, es_assign, es_pick, es_allocV, es_boxV, es_build, es_buildSlice, es_buildSliceM, es_appendM, evMut, evAppendM, rowsA, es_load, es_store, es_nilCheck, es_binOp, es_unOp, es_convert, es_makeInterface, es_makeFunc, es_slice, es_fieldAddr, es_field, es_indexAddr, es_index, es_extract, es_panic, es_callV, es_len, es_max, evStepU, evPure, evLit, evMem, evx_tmp, evx_const, evx_func, putA_some, putA_none, slot_ne, slot_eq, List.length_set, isVal, valOf, stOf, accOf, isSkip, isEnter, fnOf, argsOf, absV, abs2, abs1, scal, binL, litInt, conc, conc2, lit?, omap, parts?, partA, fillA, putCells, chunks, AV.cells, AV.notTup, Op.operands, Call.operands, stripRows, AV.strip, aggT, andThen, hlen, h0, hσ]
    refine hK _ _ ?_; clear hK K
    refine CW.ret (hR0 _ _ _ ?_)
    exact ⟨.lit (.int .i64 0), by simp [resultsA, omap, res_tmp, slot_eq, hlen], rfl, rfl⟩
  · simp (maxDischargeDepth := 8) [LW_nil, LW_guardS, DW_guardS, LW_guardN, DW_guardN, yielded_eq, yv, LW_val, LW_skip, LW_enter, DW_nil, DW_val, DW_skip, DW_enter, es_move, es_assign, es_pick, es_allocV, es_boxV, es_build, es_buildSlice, es_buildSliceM, es_appendM, evMut, evAppendM, rowsA, es_load, es_store, es_nilCheck, es_binOp, es_unOp, es_convert, es_makeInterface, es_makeFunc, es_slice, es_fieldAddr, es_field, es_indexAddr, es_index, es_extract, es_panic, es_callV, es_len, es_max, evStepU, evPure, evLit, evMem, evx_tmp, evx_const, evx_func, putA_some, putA_none, slot_ne, slot_eq, List.length_set, isVal, valOf, stOf, accOf, isSkip, isEnter, fnOf, argsOf, absV, abs2, abs1, scal, binL, litInt, conc, conc2, lit?, omap, parts?, partA, fillA, putCells, chunks, AV.cells, AV.notTup, Op.operands, Call.operands, stripRows, AV.strip, aggT, andThen, hlen, h0, hσ]
    refine hK _ _ ?_; clear hK K
    refine CW.ret (hR0 _ _ _ ?_)
    exact ⟨.lit (.int .i64 l.length), by simp [resultsA, omap, res_tmp, slot_eq, hlen], rfl, rfl⟩

set_option maxRecDepth 100000 in
set_option maxHeartbeats 1000000 in
theorem writeString_ev {σ0 σ : Sto} {id : Nat} {l : List UInt8} (h : BldAt σ0 σ id l) (hext : Ext σ0 σ) (s : ByteArray) (hlen2 : l.length + s.size ≤ 140737488355328) :
    CallW Tryd.prog ES 17 [.ptr id 0, .lit (.string s)] σ fun r σ' => (∃ v, r = .ret v) ∧ BldAt σ0 σ' id (l ++ s.data.toList) ∧ Ext σ0 σ' := by
  have hchk := check_ev h
  obtain ⟨h0, v, hσ, hb⟩ := h
  have hil := (List.getElem?_eq_some_iff.1 hσ).1
  obtain ⟨v', σ', acc, e1, b1, hid', hone, hap⟩ := app_str σ0 σ id v l s _ hσ h0 hb hext hlen2
  have hil' := (List.getElem?_eq_some_iff.1 hid').1
  refine CallW.start (fn := Tryd.f17) (M := [25]) rfl rfl rfl rfl (by simp) fun tm hlen hs => ?_
  have g0 := hs 0 _ rfl
  have g1 := hs 1 _ rfl
  clear hs
  simp at hlen
  refine CW.hide fun R0 hR0 => ?_
  refine CW.seqK fun K hK => CW.region ?_
  simp [LW_nil, LW_guardS, DW_guardS, LW_guardN, DW_guardN, yielded_eq, yv, LW_val, LW_skip, LW_enter, DW_nil, DW_val, DW_skip, DW_enter, es_move, es_assign, es_pick, es_allocV, es_boxV, es_build, es_buildSlice, es_buildSliceM, es_appendM, evMut, evAppendM, rowsA, es_load, es_store, es_nilCheck, es_binOp, es_unOp, es_convert, es_makeInterface, es_makeFunc, es_slice, es_fieldAddr, es_field, es_indexAddr, es_index, es_extract, es_panic, es_callV, es_len, es_max, evStepU, evPure, evLit, evMem, evx_tmp, evx_const, evx_func, putA_some, putA_none, slot_ne, slot_eq, List.length_set, isVal, valOf, stOf, accOf, isSkip, isEnter, fnOf, argsOf, absV, abs2, abs1, scal, binL, litInt, conc, conc2, lit?, omap, parts?, partA, fillA, putCells, chunks, AV.cells, AV.notTup, Op.operands, Call.operands, stripRows, AV.strip, aggT, andThen, hlen, g0, g1]
  refine hK _ _ ?_; clear hK K
  refine CW.seqK fun K hK => CW.region ?_
  simp (maxDischargeDepth := 8) [LW_nil, LW_guardS, DW_guardS, LW_guardN, DW_guardN, yielded_eq, yv, LW_val, LW_skip, LW_enter, DW_nil, DW_val, DW_skip, DW_enter, es_move, es_assign, es_pick, es_allocV, es_boxV, es_build, es_buildSlice, es_buildSliceM, es_appendM, evMut, evAppendM, rowsA, es_load, es_store, es_nilCheck, es_binOp, es_unOp, es_convert, es_makeInterface, es_makeFunc, es_slice, es_fieldAddr, es_field, es_indexAddr, es_index, es_extract, es_panic, es_callV, es_len, es_max, evStepU, evPure, evLit, evMem, evx_tmp, evx_const, evx_func, putA_some, putA_none, slot_ne, slot_eq, List.length_set, isVal, valOf, stOf, accOf, isSkip, isEnter, fnOf, argsOf, absV, abs2, abs1, scal, binL, litInt, conc, conc2, lit?, omap, parts?, partA, fillA, putCells, chunks, AV.cells, AV.notTup, Op.operands, Call.operands, stripRows, AV.strip, aggT, andThen, hlen, g0, g1]
  refine hchk.mono ?_
  rintro r σ2 ⟨rfl, rfl⟩
  simp (maxDischargeDepth := 8) [LW_nil, LW_guardS, DW_guardS, LW_guardN, DW_guardN, yielded_eq, yv, LW_val, LW_skip, LW_enter, DW_nil, DW_val, DW_skip, DW_enter, es_move, es_assign, es_pick, es_allocV, es_boxV, es_build, es_buildSlice, es_buildSliceM, es_appendM, evMut, evAppendM, rowsA, es_load, es_store, es_nilCheck, es_binOp, es_unOp, es_convert, es_makeInterface, es_makeFunc, es_slice, es_fieldAddr, es_field, es_indexAddr, es_index, es_extract, es_panic, es_callV, es_len, es_max, evStepU, evPure, evLit, evMem, evx_tmp, evx_const, evx_func, putA_some, putA_none, slot_ne, slot_eq, List.length_set, isVal, valOf, stOf, accOf, isSkip, isEnter, fnOf, argsOf, absV, abs2, abs1, scal, binL, litInt, conc, conc2, lit?, omap, parts?, partA, fillA, putCells, chunks, AV.cells, AV.notTup, Op.operands, Call.operands, stripRows, AV.strip, aggT, retK, andThen, hlen]
  refine hK _ _ ?_; clear hK K
  refine CW.seqK fun K hK => CW.region ?_
  have hc1 : AV.cells v' = [v'] := by cases v' <;> first | rfl | simp [AV.one] at hone
  have ht1 : AV.notTup v' = true := by cases v' <;> first | rfl | simp [AV.one] at hone
  have hst : ∀ (tm : List AV) (ty : TypeId) (po : String) (af : Array Edge) (gu : Option (Nat × Bool)) (x y : Operand), evx tm x = some (.ptr id 1) → evx tm y = some v' → evStep Tryd.prog [25] (evx tm) σ' ⟨none, .store 25 x y, ty, po, af, gu⟩ = some (.skip (σ'.set id (.cells [.ptr id 0, v'] 44)) (.writes id)) := by
    intro tm ty po af gu x y hx hy
    rw [es_store]
    unfold evStepU
    have hl : evLit Tryd.prog (evx tm) σ' ⟨none, .store 25 x y, ty, po, af, gu⟩ = none := by
      unfold evLit
      simp [Op.operands, hx, conc, conc2]
    rw [hl]
    simp [evPure, evMem, hx, hy, hid', hc1, ht1, putCells]
  simp (maxDischargeDepth := 8) [LW_nil, LW_guardS, DW_guardS, LW_guardN, DW_guardN, yielded_eq, yv, LW_val, LW_skip, LW_enter, DW_nil, DW_val, DW_skip, DW_enter, es_move, es_assign, es_pick, es_allocV, es_boxV, es_build, es_buildSlice, es_buildSliceM, es_appendM, evMut, evAppendM, rowsA, es_load, es_store, es_nilCheck, es_binOp, es_unOp, es_convert, es_makeInterface, es_makeFunc, es_slice, es_fieldAddr, es_field, es_indexAddr, es_index, es_extract, es_panic, es_callV, es_len, es_max, evStepU, evPure, evLit, evMem, evx_tmp, evx_const, evx_func, putA_some, putA_none, slot_ne, slot_eq, List.length_set, isVal, valOf, stOf, accOf, isSkip, isEnter, fnOf, argsOf, absV, abs2, abs1, scal, binL, litInt, conc, conc2, lit?, omap, parts?, partA, fillA, putCells, chunks, AV.cells, AV.notTup, Op.operands, Call.operands, stripRows, AV.strip, aggT, -es_store, andThen, hlen, g0, g1, hσ, hap, hst]
  refine hK _ _ ?_; clear hK K
  refine CW.seqK fun K hK => CW.region ?_
  simp (maxDischargeDepth := 8) [LW_nil, LW_guardS, DW_guardS, LW_guardN, DW_guardN, yielded_eq, yv, LW_val, LW_skip, LW_enter, DW_nil, DW_val, DW_skip, DW_enter, es_move, es_assign, es_pick, es_allocV, es_boxV, es_build, es_buildSlice, es_buildSliceM, es_appendM, evMut, evAppendM, rowsA, es_load, es_store, es_nilCheck, es_binOp, es_unOp, es_convert, es_makeInterface, es_makeFunc, es_slice, es_fieldAddr, es_field, es_indexAddr, es_index, es_extract, es_panic, es_callV, es_len, es_max, evStepU, evPure, evLit, evMem, evx_tmp, evx_const, evx_func, putA_some, putA_none, slot_ne, slot_eq, List.length_set, isVal, valOf, stOf, accOf, isSkip, isEnter, fnOf, argsOf, absV, abs2, abs1, scal, binL, litInt, conc, conc2, lit?, omap, parts?, partA, fillA, putCells, chunks, AV.cells, AV.notTup, Op.operands, Call.operands, stripRows, AV.strip, aggT, andThen, hlen, g1]
  refine hK _ _ ?_; clear hK K
  refine CW.ret (hR0 _ _ _ ?_)
  refine ⟨_, by simp [resultsA, omap, res_tmp, slot_eq, slot_ne, hlen]; rfl, ⟨_, rfl⟩, ⟨h0, v', List.getElem?_set_self hil', ?_⟩, e1.set h0⟩
  rcases b1 with b1 | ⟨g, q1, q2, q3, q4⟩
  · exact .inl b1
  · refine .inr ⟨g, q1, q2, q3, ?_⟩
    rw [List.getElem?_set_ne (Ne.symm q2)]
    exact q4

end Go.Proofs.YtocaickbfeaiaaaDoor

namespace Go.Proofs.YtocaickbfeaiaaaDoor
set_option linter.unusedSimpArgs false
set_option linter.unusedVariables false
open Go.RowKit

theorem es_min3 {P : Program} {M : List TypeId} {σ : Sto} {ρ : Operand → Option AV} {ds : Option Tmp} {ty : TypeId} {po : String} {af : Array Edge} {gu : Option (Nat × Bool)} {x y z : Operand} {ts : Array TypeId} {a b c : Int} (hx : ρ x = some (.lit (.int .i64 a))) (hy : ρ y = some (.lit (.int .i64 b))) (hz : ρ z = some (.lit (.int .i64 c))) :
    evStep P M ρ σ ⟨ds, .call ⟨.builtin .min, #[x, y, z], ts⟩, ty, po, af, gu⟩ = some (.val (.lit (.int .i64 (if c < (if b < a then b else a) then c else (if b < a then b else a)))) σ .pure) := by
  have e : execOp (fun x => ((ρ x).bind conc).getD undef) ⟨ds, .call ⟨.builtin .min, #[x, y, z], ts⟩, ty, po, af, gu⟩ = Sem.pure (.value (.int .i64 (if c < (if b < a then b else a) then c else (if b < a then b else a)))) := by
    unfold execOp
    simp only [resolve, List.map_toArray, List.map_cons, List.map_nil, hx, hy, hz, Option.bind_some, conc, conc2, Option.getD_some]
    rfl
  have hl : evLit P ρ σ ⟨ds, .call ⟨.builtin .min, #[x, y, z], ts⟩, ty, po, af, gu⟩ = some (.val (.lit (.int .i64 (if c < (if b < a then b else a) then c else (if b < a then b else a)))) σ .pure) := by
    unfold evLit
    dsimp only
    rw [e]
    have hall : ((Op.call ⟨.builtin .min, #[x, y, z], ts⟩).operands.all fun x => ((ρ x).bind conc).isSome) = true := by simp [Op.operands, Call.operands, hx, hy, hz, conc, conc2]
    rw [if_pos hall]
    rfl
  unfold evStep
  rw [if_neg (by simp [mutOp]), hl]
  simp [evPure]

/-- so many times a text -/
def rep (k : Nat) (s : List UInt8) : List UInt8 := (List.replicate k s).flatten
theorem rep_len (k : Nat) (s : List UInt8) : (rep k s).length = k * s.length := by simp [rep]
theorem rep_add (a b : Nat) (s : List UInt8) : rep (a + b) s = rep a s ++ rep b s := by unfold rep; rw [← List.replicate_append_replicate, List.flatten_append]
theorem rep_take {a b : Nat} (h : a ≤ b) (s : List UInt8) : (rep b s).take (a * s.length) = rep a s := by
  obtain ⟨c, rfl⟩ := Nat.exists_eq_add_of_le h
  rw [rep_add, ← rep_len, List.take_left]
theorem rep_one (s : List UInt8) : rep 1 s = s := by simp [rep]

theorem mul_ev (a b : Nat) (h : a * b ≤ 1000000000) (ha : a ≤ 1000000000) (hb : b ≤ 1000000000) (σ : Sto) : CallW Tryd.prog ES 20 [.lit (.int .u64 a), .lit (.int .u64 b)] σ fun r σ' => r = .ret (.tup [.lit (.int .u64 0), .lit (.int .u64 ((a * b : Nat) : Int))]) ∧ σ' = σ := by
  refine CallW.prim (g := primMul) rfl (σ' := σ) (r := .ret (.tup [.lit (.int .u64 0), .lit (.int .u64 ((a * b : Nat) : Int))])) ?_ ⟨rfl, rfl⟩
  unfold primMul
  dsimp only
  rw [if_pos ⟨by omega, by omega, by omega, by omega⟩, Int.toNat_natCast, Int.toNat_natCast, Nat.div_eq_of_lt (by omega), Nat.mod_eq_of_lt (by omega)]
  rfl

theorem CW.reset {P : Program} {E : Env} {M : List TypeId} {c : Code} {tm : List AV} {σ : Sto} {R : AExit → List AV → Sto → Prop} (Q : List AV → Prop) (h : Q tm) (k : ∀ tm, Q tm → CW P E M c tm σ R) : CW P E M c tm σ R := k _ h

set_option maxRecDepth 100000 in
set_option maxHeartbeats 4000000 in
theorem repeat_ev (s : List UInt8) (c : Nat) (b0 : UInt8) (rest : List UInt8) (hs : s = b0 :: rest) (hb : b0 ≠ 32 ∧ b0 ≠ 45 ∧ b0 ≠ 48 ∧ b0 ≠ 61 ∧ b0 ≠ 9) (hc2 : 2 ≤ c) (hlen : c * s.length ≤ 1000000000) (σ : Sto) :
    CallW Tryd.prog ES 6 [.lit (.string ⟨s.toArray⟩), .lit (.int .i64 c)] σ fun r σ' => r = .ret (.lit (.string ⟨(rep c s).toArray⟩)) ∧ Ext σ σ' := by
  have hsz : (⟨s.toArray⟩ : ByteArray).size = s.length := by simp [ByteArray.size]
  have hl0 : 0 < s.length := by rw [hs]; simp
  have hcl : c ≤ c * s.length := Nat.le_mul_of_pos_right _ hl0
  have hll : s.length ≤ c * s.length := Nat.le_mul_of_pos_left _ (by omega)
  refine CallW.start (fn := Tryd.f6) (M := []) rfl rfl rfl rfl (by simp) fun tm hlen2 hs0 => ?_
  have h0 := hs0 0 _ rfl
  have h1 := hs0 1 _ rfl
  clear hs0
  have hlen' : tm.length = 125 := by simpa using hlen2
  clear hlen2
  have hlen0 := hlen
  clear hlen
  have hlen := hlen'
  clear hlen'
  have n0 : ¬ (c : Int) = 0 := by omega
  have n1 : ¬ (c : Int) = 1 := by omega
  have n0' : ¬ c = 0 := by omega
  have n1' : ¬ c = 1 := by omega
  have nneg : ¬ (c : Int) < 0 := by omega
  refine CW.hide fun R0 hR0 => ?_
  refine CW.seqK fun K hK => CW.region ?_
  simp [LW_nil, LW_guardS, DW_guardS, LW_guardN, DW_guardN, yielded_eq, yv, LW_val, LW_skip, LW_enter, DW_nil, DW_val, DW_skip, DW_enter, es_move, es_assign, es_pick, es_allocV, es_boxV, es_build, es_buildSlice, es_buildSliceM, es_appendM, evMut, evAppendM, rowsA, es_load, es_store, es_nilCheck, es_binOp, es_unOp, es_convert, es_makeInterface, es_makeFunc, es_slice, es_fieldAddr, es_field, es_indexAddr, es_index, es_extract, es_panic, es_callV, es_len, es_max, evStepU, evPure, evLit, evMem, evx_tmp, evx_const, evx_func, putA_some, putA_none, slot_ne, slot_eq, List.length_set, isVal, valOf, stOf, accOf, isSkip, isEnter, fnOf, argsOf, absV, abs2, abs1, scal, binL, litInt, conc, conc2, lit?, omap, parts?, partA, fillA, putCells, chunks, AV.cells, AV.notTup, Op.operands, Call.operands, stripRows, AV.strip, aggT, andThen, hlen, h0]
  refine hK _ _ ?_; clear hK K
  refine CW.seqK fun K hK => ?_
  refine CW.seqK fun K2 hK2 => CW.region ?_
  simp (maxDischargeDepth := 8) [LW_nil, LW_guardS, DW_guardS, LW_guardN, DW_guardN, yielded_eq, yv, LW_val, LW_skip, LW_enter, DW_nil, DW_val, DW_skip, DW_enter, es_move, es_assign, es_pick, es_allocV, es_boxV, es_build, es_buildSlice, es_buildSliceM, es_appendM, evMut, evAppendM, rowsA, es_load, es_store, es_nilCheck, es_binOp, es_unOp, es_convert, es_makeInterface, es_makeFunc, es_slice, es_fieldAddr, es_field, es_indexAddr, es_index, es_extract, es_panic, es_callV, es_len, es_max, evStepU, evPure, evLit, evMem, evx_tmp, evx_const, evx_func, putA_some, putA_none, slot_ne, slot_eq, List.length_set, isVal, valOf, stOf, accOf, isSkip, isEnter, fnOf, argsOf, absV, abs2, abs1, scal, binL, litInt, conc, conc2, lit?, omap, parts?, partA, fillA, putCells, chunks, AV.cells, AV.notTup, Op.operands, Call.operands, stripRows, AV.strip, aggT, andThen, hlen, h1]
  refine hK2 _ _ ?_; clear hK2 K2
  refine CW.block ?_
  refine CW.hide fun R1 hR1 => ?_
  refine CW.seqK fun K2 hK2 => CW.region ?_
  simp (maxDischargeDepth := 8) [LW_nil, LW_guardS, DW_guardS, LW_guardN, DW_guardN, yielded_eq, yv, LW_val, LW_skip, LW_enter, DW_nil, DW_val, DW_skip, DW_enter, es_move, es_assign, es_pick, es_allocV, es_boxV, es_build, es_buildSlice, es_buildSliceM, es_appendM, evMut, evAppendM, rowsA, es_load, es_store, es_nilCheck, es_binOp, es_unOp, es_convert, es_makeInterface, es_makeFunc, es_slice, es_fieldAddr, es_field, es_indexAddr, es_index, es_extract, es_panic, es_callV, es_len, es_max, evStepU, evPure, evLit, evMem, evx_tmp, evx_const, evx_func, putA_some, putA_none, slot_ne, slot_eq, List.length_set, isVal, valOf, stOf, accOf, isSkip, isEnter, fnOf, argsOf, absV, abs2, abs1, scal, binL, litInt, conc, conc2, lit?, omap, parts?, partA, fillA, putCells, chunks, AV.cells, AV.notTup, Op.operands, Call.operands, stripRows, AV.strip, aggT, andThen, hlen, n0, n0']
  refine hK2 _ _ ?_; clear hK2 K2
  refine CW.cond (t := false) (by simp [evx_tmp, slot_eq, hlen, n0, n0']) ?_
  refine CW.seqK fun K2 hK2 => CW.region ?_
  simp (maxDischargeDepth := 8) [LW_nil, LW_guardS, DW_guardS, LW_guardN, DW_guardN, yielded_eq, yv, LW_val, LW_skip, LW_enter, DW_nil, DW_val, DW_skip, DW_enter, es_move, es_assign, es_pick, es_allocV, es_boxV, es_build, es_buildSlice, es_buildSliceM, es_appendM, evMut, evAppendM, rowsA, es_load, es_store, es_nilCheck, es_binOp, es_unOp, es_convert, es_makeInterface, es_makeFunc, es_slice, es_fieldAddr, es_field, es_indexAddr, es_index, es_extract, es_panic, es_callV, es_len, es_max, evStepU, evPure, evLit, evMem, evx_tmp, evx_const, evx_func, putA_some, putA_none, slot_ne, slot_eq, List.length_set, isVal, valOf, stOf, accOf, isSkip, isEnter, fnOf, argsOf, absV, abs2, abs1, scal, binL, litInt, conc, conc2, lit?, omap, parts?, partA, fillA, putCells, chunks, AV.cells, AV.notTup, Op.operands, Call.operands, stripRows, AV.strip, aggT, andThen, hlen, n1, n1']
  refine hK2 _ _ ?_; clear hK2 K2
  refine CW.cond (t := false) (by simp [evx_tmp, slot_eq, hlen, n1, n1']) (CW.skip ?_)
  refine hR1 _ _ _ ?_
  simp only [outOf, andThen]
  refine hK _ _ ?_; clear hK K hR1 R1
  refine CW.seqK fun K hK => ?_
  refine CW.seqK fun K2 hK2 => CW.region ?_
  simp (maxDischargeDepth := 8) [LW_nil, LW_guardS, DW_guardS, LW_guardN, DW_guardN, yielded_eq, yv, LW_val, LW_skip, LW_enter, DW_nil, DW_val, DW_skip, DW_enter, es_move, es_assign, es_pick, es_allocV, es_boxV, es_build, es_buildSlice, es_buildSliceM, es_appendM, evMut, evAppendM, rowsA, es_load, es_store, es_nilCheck, es_binOp, es_unOp, es_convert, es_makeInterface, es_makeFunc, es_slice, es_fieldAddr, es_field, es_indexAddr, es_index, es_extract, es_panic, es_callV, es_len, es_max, evStepU, evPure, evLit, evMem, evx_tmp, evx_const, evx_func, putA_some, putA_none, slot_ne, slot_eq, List.length_set, isVal, valOf, stOf, accOf, isSkip, isEnter, fnOf, argsOf, absV, abs2, abs1, scal, binL, litInt, conc, conc2, lit?, omap, parts?, partA, fillA, putCells, chunks, AV.cells, AV.notTup, Op.operands, Call.operands, stripRows, AV.strip, aggT, andThen, hlen, h1, nneg]
  refine hK2 _ _ ?_; clear hK2 K2
  refine CW.cond (t := false) (by simp [evx_tmp, slot_eq, hlen, nneg]) (CW.skip ?_)
  simp only [andThen]
  refine hK _ _ ?_; clear hK K
  have hN : s.length * c = c * s.length := Nat.mul_comm _ _
  have hNb : s.length * c ≤ 1000000000 := by omega
  have wu1 : IntKind.u64.wrap ((s.length : Nat) : Int) = (s.length : Int) := by rw [IntKind.wrap_u64]; omega
  have wu2 : IntKind.u64.wrap ((c : Nat) : Int) = (c : Int) := by rw [IntKind.wrap_u64]; omega
  refine CW.seqK fun K hK => CW.region ?_
  simp (maxDischargeDepth := 8) [LW_nil, LW_guardS, DW_guardS, LW_guardN, DW_guardN, yielded_eq, yv, LW_val, LW_skip, LW_enter, DW_nil, DW_val, DW_skip, DW_enter, es_move, es_assign, es_pick, es_allocV, es_boxV, es_build, es_buildSlice, es_buildSliceM, es_appendM, evMut, evAppendM, rowsA, es_load, es_store, es_nilCheck, es_binOp, es_unOp, es_convert, es_makeInterface, es_makeFunc, es_slice, es_fieldAddr, es_field, es_indexAddr, es_index, es_extract, es_panic, es_callV, es_len, es_max, evStepU, evPure, evLit, evMem, evx_tmp, evx_const, evx_func, putA_some, putA_none, slot_ne, slot_eq, List.length_set, isVal, valOf, stOf, accOf, isSkip, isEnter, fnOf, argsOf, absV, abs2, abs1, scal, binL, litInt, conc, conc2, lit?, omap, parts?, partA, fillA, putCells, chunks, AV.cells, AV.notTup, Op.operands, Call.operands, stripRows, AV.strip, aggT, andThen, hlen, h0, h1, hsz, wu1, wu2]
  refine (mul_ev s.length c hNb (by omega) (by omega) σ).mono ?_
  rintro r σ2 ⟨rfl, rfl⟩
  generalize hNN : s.length * c = N at *
  simp (maxDischargeDepth := 8) [LW_nil, LW_guardS, DW_guardS, LW_guardN, DW_guardN, yielded_eq, yv, LW_val, LW_skip, LW_enter, DW_nil, DW_val, DW_skip, DW_enter, es_move, es_assign, es_pick, es_allocV, es_boxV, es_build, es_buildSlice, es_buildSliceM, es_appendM, evMut, evAppendM, rowsA, es_load, es_store, es_nilCheck, es_binOp, es_unOp, es_convert, es_makeInterface, es_makeFunc, es_slice, es_fieldAddr, es_field, es_indexAddr, es_index, es_extract, es_panic, es_callV, es_len, es_max, evStepU, evPure, evLit, evMem, evx_tmp, evx_const, evx_func, putA_some, putA_none, slot_ne, slot_eq, List.length_set, isVal, valOf, stOf, accOf, isSkip, isEnter, fnOf, argsOf, absV, abs2, abs1, scal, binL, litInt, conc, conc2, lit?, omap, parts?, partA, fillA, putCells, chunks, AV.cells, AV.notTup, Op.operands, Call.operands, stripRows, AV.strip, aggT, retK, andThen, hlen]
  refine hK _ _ ?_; clear hK K
  have nbig : ¬ (9223372036854775807 : Int) < (N : Int) := by omega
  refine CW.seqK fun K hK => ?_
  refine CW.seqK fun K2 hK2 => CW.region ?_
  simp (maxDischargeDepth := 8) [LW_nil, LW_guardS, DW_guardS, LW_guardN, DW_guardN, yielded_eq, yv, LW_val, LW_skip, LW_enter, DW_nil, DW_val, DW_skip, DW_enter, es_move, es_assign, es_pick, es_allocV, es_boxV, es_build, es_buildSlice, es_buildSliceM, es_appendM, evMut, evAppendM, rowsA, es_load, es_store, es_nilCheck, es_binOp, es_unOp, es_convert, es_makeInterface, es_makeFunc, es_slice, es_fieldAddr, es_field, es_indexAddr, es_index, es_extract, es_panic, es_callV, es_len, es_max, evStepU, evPure, evLit, evMem, evx_tmp, evx_const, evx_func, putA_some, putA_none, slot_ne, slot_eq, List.length_set, isVal, valOf, stOf, accOf, isSkip, isEnter, fnOf, argsOf, absV, abs2, abs1, scal, binL, litInt, conc, conc2, lit?, omap, parts?, partA, fillA, putCells, chunks, AV.cells, AV.notTup, Op.operands, Call.operands, stripRows, AV.strip, aggT, andThen, hlen, nbig]
  refine hK2 _ _ ?_; clear hK2 K2
  refine CW.cond (t := false) (by simp [evx_tmp, slot_eq, hlen, nbig]) (CW.skip ?_)
  simp only [andThen]
  refine hK _ _ ?_; clear hK K
  have wi : IntKind.i64.wrap ((N : Nat) : Int) = (N : Int) := IntWalk.i64_in _ ⟨by omega, by omega⟩
  refine CW.seqK fun K hK => CW.region ?_
  simp (maxDischargeDepth := 8) [LW_nil, LW_guardS, DW_guardS, LW_guardN, DW_guardN, yielded_eq, yv, LW_val, LW_skip, LW_enter, DW_nil, DW_val, DW_skip, DW_enter, es_move, es_assign, es_pick, es_allocV, es_boxV, es_build, es_buildSlice, es_buildSliceM, es_appendM, evMut, evAppendM, rowsA, es_load, es_store, es_nilCheck, es_binOp, es_unOp, es_convert, es_makeInterface, es_makeFunc, es_slice, es_fieldAddr, es_field, es_indexAddr, es_index, es_extract, es_panic, es_callV, es_len, es_max, evStepU, evPure, evLit, evMem, evx_tmp, evx_const, evx_func, putA_some, putA_none, slot_ne, slot_eq, List.length_set, isVal, valOf, stOf, accOf, isSkip, isEnter, fnOf, argsOf, absV, abs2, abs1, scal, binL, litInt, conc, conc2, lit?, omap, parts?, partA, fillA, putCells, chunks, AV.cells, AV.notTup, Op.operands, Call.operands, stripRows, AV.strip, aggT, andThen, hlen, wi]
  refine hK _ _ ?_; clear hK K
  have hL0 : ¬ (s.length : Int) = 0 := by omega
  have hL0' : ¬ s.length = 0 := by omega
  have hsne : ¬ s = [] := by rw [hs]; simp
  refine CW.seqK fun K hK => ?_
  refine CW.seqK fun K2 hK2 => CW.region ?_
  simp (maxDischargeDepth := 8) [LW_nil, LW_guardS, DW_guardS, LW_guardN, DW_guardN, yielded_eq, yv, LW_val, LW_skip, LW_enter, DW_nil, DW_val, DW_skip, DW_enter, es_move, es_assign, es_pick, es_allocV, es_boxV, es_build, es_buildSlice, es_buildSliceM, es_appendM, evMut, evAppendM, rowsA, es_load, es_store, es_nilCheck, es_binOp, es_unOp, es_convert, es_makeInterface, es_makeFunc, es_slice, es_fieldAddr, es_field, es_indexAddr, es_index, es_extract, es_panic, es_callV, es_len, es_max, evStepU, evPure, evLit, evMem, evx_tmp, evx_const, evx_func, putA_some, putA_none, slot_ne, slot_eq, List.length_set, isVal, valOf, stOf, accOf, isSkip, isEnter, fnOf, argsOf, absV, abs2, abs1, scal, binL, litInt, conc, conc2, lit?, omap, parts?, partA, fillA, putCells, chunks, AV.cells, AV.notTup, Op.operands, Call.operands, stripRows, AV.strip, aggT, andThen, hlen, h0, hsz, hL0, hL0', hsne]
  refine hK2 _ _ ?_; clear hK2 K2
  refine CW.cond (t := false) (by simp [evx_tmp, slot_eq, hlen, hL0, hL0', hsne]) (CW.skip ?_)
  simp only [andThen]
  refine hK _ _ ?_; clear hK K
  have hg0 : (⟨s.toArray⟩ : ByteArray)[0]? = some b0 := by
    rw [getElem?_pos (⟨s.toArray⟩ : ByteArray) 0 (by simpa [ByteArray.size] using hl0)]
    subst hs; rfl
  refine CW.seqK fun K hK => ?_
  refine CW.seqK fun K2 hK2 => CW.region ?_
  simp (maxDischargeDepth := 8) [LW_nil, LW_guardS, DW_guardS, LW_guardN, DW_guardN, yielded_eq, yv, LW_val, LW_skip, LW_enter, DW_nil, DW_val, DW_skip, DW_enter, es_move, es_assign, es_pick, es_allocV, es_boxV, es_build, es_buildSlice, es_buildSliceM, es_appendM, evMut, evAppendM, rowsA, es_load, es_store, es_nilCheck, es_binOp, es_unOp, es_convert, es_makeInterface, es_makeFunc, es_slice, es_fieldAddr, es_field, es_indexAddr, es_index, es_extract, es_panic, es_callV, es_len, es_max, evStepU, evPure, evLit, evMem, evx_tmp, evx_const, evx_func, putA_some, putA_none, slot_ne, slot_eq, List.length_set, isVal, valOf, stOf, accOf, isSkip, isEnter, fnOf, argsOf, absV, abs2, abs1, scal, binL, litInt, conc, conc2, lit?, omap, parts?, partA, fillA, putCells, chunks, AV.cells, AV.notTup, Op.operands, Call.operands, stripRows, AV.strip, aggT, andThen, hlen, h0, hg0]
  refine hK2 _ _ ?_; clear hK2 K2
  refine CW.block ?_
  refine CW.hide fun R1 hR1 => ?_
  have e1 : ¬ ((b0.toNat : Nat) : Int) = 32 := fun e => hb.1 (UInt8.toNat_inj.1 (by rw [show (32 : UInt8).toNat = 32 from rfl]; omega))
  have e2 : ¬ ((b0.toNat : Nat) : Int) = 45 := fun e => hb.2.1 (UInt8.toNat_inj.1 (by rw [show (45 : UInt8).toNat = 45 from rfl]; omega))
  have e3 : ¬ ((b0.toNat : Nat) : Int) = 48 := fun e => hb.2.2.1 (UInt8.toNat_inj.1 (by rw [show (48 : UInt8).toNat = 48 from rfl]; omega))
  have e4 : ¬ ((b0.toNat : Nat) : Int) = 61 := fun e => hb.2.2.2.1 (UInt8.toNat_inj.1 (by rw [show (61 : UInt8).toNat = 61 from rfl]; omega))
  have e5 : ¬ ((b0.toNat : Nat) : Int) = 9 := fun e => hb.2.2.2.2 (UInt8.toNat_inj.1 (by rw [show (9 : UInt8).toNat = 9 from rfl]; omega))
  refine CW.seqK fun K2 hK2 => ?_
  refine CW.seqK fun K3 hK3 => CW.region ?_
  simp (maxDischargeDepth := 8) [LW_nil, LW_guardS, DW_guardS, LW_guardN, DW_guardN, yielded_eq, yv, LW_val, LW_skip, LW_enter, DW_nil, DW_val, DW_skip, DW_enter, es_move, es_assign, es_pick, es_allocV, es_boxV, es_build, es_buildSlice, es_buildSliceM, es_appendM, evMut, evAppendM, rowsA, es_load, es_store, es_nilCheck, es_binOp, es_unOp, es_convert, es_makeInterface, es_makeFunc, es_slice, es_fieldAddr, es_field, es_indexAddr, es_index, es_extract, es_panic, es_callV, es_len, es_max, evStepU, evPure, evLit, evMem, evx_tmp, evx_const, evx_func, putA_some, putA_none, slot_ne, slot_eq, List.length_set, isVal, valOf, stOf, accOf, isSkip, isEnter, fnOf, argsOf, absV, abs2, abs1, scal, binL, litInt, conc, conc2, lit?, omap, parts?, partA, fillA, putCells, chunks, AV.cells, AV.notTup, Op.operands, Call.operands, stripRows, AV.strip, aggT, andThen, hlen, e1]
  refine hK3 _ _ ?_; clear hK3 K3
  refine CW.cond (t := false) (by simp [evx_tmp, slot_eq, hlen, e1]) ?_
  refine CW.seqK fun K3 hK3 => CW.region ?_
  simp (maxDischargeDepth := 8) [LW_nil, LW_guardS, DW_guardS, LW_guardN, DW_guardN, yielded_eq, yv, LW_val, LW_skip, LW_enter, DW_nil, DW_val, DW_skip, DW_enter, es_move, es_assign, es_pick, es_allocV, es_boxV, es_build, es_buildSlice, es_buildSliceM, es_appendM, evMut, evAppendM, rowsA, es_load, es_store, es_nilCheck, es_binOp, es_unOp, es_convert, es_makeInterface, es_makeFunc, es_slice, es_fieldAddr, es_field, es_indexAddr, es_index, es_extract, es_panic, es_callV, es_len, es_max, evStepU, evPure, evLit, evMem, evx_tmp, evx_const, evx_func, putA_some, putA_none, slot_ne, slot_eq, List.length_set, isVal, valOf, stOf, accOf, isSkip, isEnter, fnOf, argsOf, absV, abs2, abs1, scal, binL, litInt, conc, conc2, lit?, omap, parts?, partA, fillA, putCells, chunks, AV.cells, AV.notTup, Op.operands, Call.operands, stripRows, AV.strip, aggT, andThen, hlen, e2]
  refine hK3 _ _ ?_; clear hK3 K3
  refine CW.cond (t := false) (by simp [evx_tmp, slot_eq, hlen, e2]) ?_
  refine CW.seqK fun K3 hK3 => CW.region ?_
  simp (maxDischargeDepth := 8) [LW_nil, LW_guardS, DW_guardS, LW_guardN, DW_guardN, yielded_eq, yv, LW_val, LW_skip, LW_enter, DW_nil, DW_val, DW_skip, DW_enter, es_move, es_assign, es_pick, es_allocV, es_boxV, es_build, es_buildSlice, es_buildSliceM, es_appendM, evMut, evAppendM, rowsA, es_load, es_store, es_nilCheck, es_binOp, es_unOp, es_convert, es_makeInterface, es_makeFunc, es_slice, es_fieldAddr, es_field, es_indexAddr, es_index, es_extract, es_panic, es_callV, es_len, es_max, evStepU, evPure, evLit, evMem, evx_tmp, evx_const, evx_func, putA_some, putA_none, slot_ne, slot_eq, List.length_set, isVal, valOf, stOf, accOf, isSkip, isEnter, fnOf, argsOf, absV, abs2, abs1, scal, binL, litInt, conc, conc2, lit?, omap, parts?, partA, fillA, putCells, chunks, AV.cells, AV.notTup, Op.operands, Call.operands, stripRows, AV.strip, aggT, andThen, hlen, e3]
  refine hK3 _ _ ?_; clear hK3 K3
  refine CW.cond (t := false) (by simp [evx_tmp, slot_eq, hlen, e3]) ?_
  refine CW.seqK fun K3 hK3 => CW.region ?_
  simp (maxDischargeDepth := 8) [LW_nil, LW_guardS, DW_guardS, LW_guardN, DW_guardN, yielded_eq, yv, LW_val, LW_skip, LW_enter, DW_nil, DW_val, DW_skip, DW_enter, es_move, es_assign, es_pick, es_allocV, es_boxV, es_build, es_buildSlice, es_buildSliceM, es_appendM, evMut, evAppendM, rowsA, es_load, es_store, es_nilCheck, es_binOp, es_unOp, es_convert, es_makeInterface, es_makeFunc, es_slice, es_fieldAddr, es_field, es_indexAddr, es_index, es_extract, es_panic, es_callV, es_len, es_max, evStepU, evPure, evLit, evMem, evx_tmp, evx_const, evx_func, putA_some, putA_none, slot_ne, slot_eq, List.length_set, isVal, valOf, stOf, accOf, isSkip, isEnter, fnOf, argsOf, absV, abs2, abs1, scal, binL, litInt, conc, conc2, lit?, omap, parts?, partA, fillA, putCells, chunks, AV.cells, AV.notTup, Op.operands, Call.operands, stripRows, AV.strip, aggT, andThen, hlen, e4]
  refine hK3 _ _ ?_; clear hK3 K3
  refine CW.cond (t := false) (by simp [evx_tmp, slot_eq, hlen, e4]) (CW.region ?_)
  simp (maxDischargeDepth := 8) [LW_nil, LW_guardS, DW_guardS, LW_guardN, DW_guardN, yielded_eq, yv, LW_val, LW_skip, LW_enter, DW_nil, DW_val, DW_skip, DW_enter, es_move, es_assign, es_pick, es_allocV, es_boxV, es_build, es_buildSlice, es_buildSliceM, es_appendM, evMut, evAppendM, rowsA, es_load, es_store, es_nilCheck, es_binOp, es_unOp, es_convert, es_makeInterface, es_makeFunc, es_slice, es_fieldAddr, es_field, es_indexAddr, es_index, es_extract, es_panic, es_callV, es_len, es_max, evStepU, evPure, evLit, evMem, evx_tmp, evx_const, evx_func, putA_some, putA_none, slot_ne, slot_eq, List.length_set, isVal, valOf, stOf, accOf, isSkip, isEnter, fnOf, argsOf, absV, abs2, abs1, scal, binL, litInt, conc, conc2, lit?, omap, parts?, partA, fillA, putCells, chunks, AV.cells, AV.notTup, Op.operands, Call.operands, stripRows, AV.strip, aggT, andThen, hlen, e5]
  refine hK2 _ _ ?_; clear hK2 K2
  refine CW.cond (t := false) (by simp [evx_tmp, slot_eq, hlen, e5]) (CW.skip ?_)
  refine hR1 _ _ _ ?_
  simp only [outOf, andThen]
  refine hK _ _ ?_; clear hK K hR1 R1
  refine CW.seqK fun K hK => CW.region ?_
  simp (maxDischargeDepth := 32) [LW_nil, LW_guardS, DW_guardS, LW_guardN, DW_guardN, yielded_eq, yv, LW_val, LW_skip, LW_enter, DW_nil, DW_val, DW_skip, DW_enter, es_move, es_assign, es_pick, es_allocV, es_boxV, es_build, es_buildSlice, es_buildSliceM, es_appendM, evMut, evAppendM, rowsA, es_load, es_store, es_nilCheck, es_binOp, es_unOp, es_convert, es_makeInterface, es_makeFunc, es_slice, es_fieldAddr, es_field, es_indexAddr, es_index, es_extract, es_panic, es_callV, es_len, es_max, evStepU, evPure, evLit, evMem, evx_tmp, evx_const, evx_func, putA_some, putA_none, slot_ne, slot_eq, List.length_set, isVal, valOf, stOf, accOf, isSkip, isEnter, fnOf, argsOf, absV, abs2, abs1, scal, binL, litInt, conc, conc2, lit?, omap, parts?, partA, fillA, putCells, chunks, AV.cells, AV.notTup, Op.operands, Call.operands, stripRows, AV.strip, aggT, andThen, hlen]
  refine hK _ _ ?_; clear hK K
  refine CW.reset (fun tm => tm.length = 125 ∧ slot tm 0 = .lit (.string ⟨s.toArray⟩) ∧ slot tm 7 = .lit (.int .i64 N) ∧ slot tm 8 = .lit (.int .i64 N)) ⟨by simp [hlen], by simp (maxDischargeDepth := 64) [slot_eq, slot_ne, hlen, h0], by simp (maxDischargeDepth := 64) [slot_eq, slot_ne, hlen], by simp (maxDischargeDepth := 64) [slot_eq, slot_ne, hlen]⟩ ?_
  clear h0 h1 hlen
  rintro tm ⟨hlen, h0, h7, h8⟩
  -- the greatest step: a multiple of the text's length
  refine CW.seqK fun K hK => ?_
  have main : ∀ (q m : Nat) (tm : List AV), 1 ≤ q → m = q * s.length → tm.length = 125 → slot tm 0 = .lit (.string ⟨s.toArray⟩) → slot tm 7 = .lit (.int .i64 N) → slot tm 8 = .lit (.int .i64 m) → K tm σ2 := by
    clear h0 h7 h8 hlen tm
    intro q m tm hq hm hlen h0 h7 h8
    refine hK _ _ ?_; clear hK K
    refine CW.seqK fun K hK => CW.region ?_
    simp (maxDischargeDepth := 8) [LW_nil, LW_guardS, DW_guardS, LW_guardN, DW_guardN, yielded_eq, yv, LW_val, LW_skip, LW_enter, DW_nil, DW_val, DW_skip, DW_enter, es_move, es_assign, es_pick, es_allocV, es_boxV, es_build, es_buildSlice, es_buildSliceM, es_appendM, evMut, evAppendM, rowsA, es_load, es_store, es_nilCheck, es_binOp, es_unOp, es_convert, es_makeInterface, es_makeFunc, es_slice, es_fieldAddr, es_field, es_indexAddr, es_index, es_extract, es_panic, es_callV, es_len, es_max, evStepU, evPure, evLit, evMem, evx_tmp, evx_const, evx_func, putA_some, putA_none, slot_ne, slot_eq, List.length_set, isVal, valOf, stOf, accOf, isSkip, isEnter, fnOf, argsOf, absV, abs2, abs1, scal, binL, litInt, conc, conc2, lit?, omap, parts?, partA, fillA, putCells, chunks, AV.cells, AV.notTup, Op.operands, Call.operands, stripRows, AV.strip, aggT, andThen, hlen]
    refine hK _ _ ?_; clear hK K
    have hz : (σ2 ++ [AObj.cells [AV.lit (Value.pointer none), AV.sl [] Tok.full] 44])[σ2.length]? = some (.cells [.lit (.pointer none), .sl [] .full] 44) := by simp
    have hN1 : N = c * s.length := by omega
    refine CW.seqK fun K hK => CW.region ?_
    simp (maxDischargeDepth := 8) [LW_nil, LW_guardS, DW_guardS, LW_guardN, DW_guardN, yielded_eq, yv, LW_val, LW_skip, LW_enter, DW_nil, DW_val, DW_skip, DW_enter, es_move, es_assign, es_pick, es_allocV, es_boxV, es_build, es_buildSlice, es_buildSliceM, es_appendM, evMut, evAppendM, rowsA, es_load, es_store, es_nilCheck, es_binOp, es_unOp, es_convert, es_makeInterface, es_makeFunc, es_slice, es_fieldAddr, es_field, es_indexAddr, es_index, es_extract, es_panic, es_callV, es_len, es_max, evStepU, evPure, evLit, evMem, evx_tmp, evx_const, evx_func, putA_some, putA_none, slot_ne, slot_eq, List.length_set, isVal, valOf, stOf, accOf, isSkip, isEnter, fnOf, argsOf, absV, abs2, abs1, scal, binL, litInt, conc, conc2, lit?, omap, parts?, partA, fillA, putCells, chunks, AV.cells, AV.notTup, Op.operands, Call.operands, stripRows, AV.strip, aggT, andThen, hlen, h7]
    refine (grow_ev (σ0 := σ2) (Nat.le_refl _) hz ((Ext.refl _).push _) (by omega)).mono ?_
    rintro r σ3 ⟨rfl, hB3, hE3⟩
    simp (maxDischargeDepth := 8) [LW_nil, LW_guardS, DW_guardS, LW_guardN, DW_guardN, yielded_eq, yv, LW_val, LW_skip, LW_enter, DW_nil, DW_val, DW_skip, DW_enter, es_move, es_assign, es_pick, es_allocV, es_boxV, es_build, es_buildSlice, es_buildSliceM, es_appendM, evMut, evAppendM, rowsA, es_load, es_store, es_nilCheck, es_binOp, es_unOp, es_convert, es_makeInterface, es_makeFunc, es_slice, es_fieldAddr, es_field, es_indexAddr, es_index, es_extract, es_panic, es_callV, es_len, es_max, evStepU, evPure, evLit, evMem, evx_tmp, evx_const, evx_func, putA_some, putA_none, slot_ne, slot_eq, List.length_set, isVal, valOf, stOf, accOf, isSkip, isEnter, fnOf, argsOf, absV, abs2, abs1, scal, binL, litInt, conc, conc2, lit?, omap, parts?, partA, fillA, putCells, chunks, AV.cells, AV.notTup, Op.operands, Call.operands, stripRows, AV.strip, aggT, retK, andThen, hlen]
    refine hK _ _ ?_; clear hK K
    refine CW.seqK fun K hK => CW.region ?_
    simp (maxDischargeDepth := 8) [LW_nil, LW_guardS, DW_guardS, LW_guardN, DW_guardN, yielded_eq, yv, LW_val, LW_skip, LW_enter, DW_nil, DW_val, DW_skip, DW_enter, es_move, es_assign, es_pick, es_allocV, es_boxV, es_build, es_buildSlice, es_buildSliceM, es_appendM, evMut, evAppendM, rowsA, es_load, es_store, es_nilCheck, es_binOp, es_unOp, es_convert, es_makeInterface, es_makeFunc, es_slice, es_fieldAddr, es_field, es_indexAddr, es_index, es_extract, es_panic, es_callV, es_len, es_max, evStepU, evPure, evLit, evMem, evx_tmp, evx_const, evx_func, putA_some, putA_none, slot_ne, slot_eq, List.length_set, isVal, valOf, stOf, accOf, isSkip, isEnter, fnOf, argsOf, absV, abs2, abs1, scal, binL, litInt, conc, conc2, lit?, omap, parts?, partA, fillA, putCells, chunks, AV.cells, AV.notTup, Op.operands, Call.operands, stripRows, AV.strip, aggT, andThen, hlen, h0]
    refine (writeString_ev hB3 hE3 ⟨s.toArray⟩ (by rw [hsz]; simp; omega)).mono ?_
    rintro r σ4 ⟨⟨v, rfl⟩, hB4, hE4⟩
    simp (maxDischargeDepth := 8) [LW_nil, LW_guardS, DW_guardS, LW_guardN, DW_guardN, yielded_eq, yv, LW_val, LW_skip, LW_enter, DW_nil, DW_val, DW_skip, DW_enter, es_move, es_assign, es_pick, es_allocV, es_boxV, es_build, es_buildSlice, es_buildSliceM, es_appendM, evMut, evAppendM, rowsA, es_load, es_store, es_nilCheck, es_binOp, es_unOp, es_convert, es_makeInterface, es_makeFunc, es_slice, es_fieldAddr, es_field, es_indexAddr, es_index, es_extract, es_panic, es_callV, es_len, es_max, evStepU, evPure, evLit, evMem, evx_tmp, evx_const, evx_func, putA_some, putA_none, slot_ne, slot_eq, List.length_set, isVal, valOf, stOf, accOf, isSkip, isEnter, fnOf, argsOf, absV, abs2, abs1, scal, binL, litInt, conc, conc2, lit?, omap, parts?, partA, fillA, putCells, chunks, AV.cells, AV.notTup, Op.operands, Call.operands, stripRows, AV.strip, aggT, retK, andThen, hlen]
    refine hK _ _ ?_; clear hK K
    refine CW.reset (fun tm => tm.length = 125 ∧ slot tm 0 = .lit (.string ⟨s.toArray⟩) ∧ slot tm 7 = .lit (.int .i64 N) ∧ slot tm 8 = .lit (.int .i64 m) ∧ slot tm 9 = .ptr σ2.length 0) ⟨by simp [hlen], by simp (maxDischargeDepth := 64) [slot_eq, slot_ne, hlen, h0], by simp (maxDischargeDepth := 64) [slot_eq, slot_ne, hlen, h7], by simp (maxDischargeDepth := 64) [slot_eq, slot_ne, hlen, h8], by simp (maxDischargeDepth := 64) [slot_eq, slot_ne, hlen]⟩ ?_
    clear h0 h7 h8 hlen tm
    rintro tm ⟨hlen, h0, h7, h8, h9⟩
    have hB5 : BldAt σ2 σ4 σ2.length (rep 1 s) := by rw [rep_one]; simpa using hB4
    refine CW.seqK fun K hK => CW.block ?_
    refine CW.hide fun R1 hR1 => ?_
    let I : Nat → List AV → Sto → Prop := fun r tm σ => ∃ k, 1 ≤ k ∧ k ≤ c ∧ r = c - k ∧ tm.length = 125 ∧ slot tm 7 = .lit (.int .i64 N) ∧ slot tm 8 = .lit (.int .i64 m) ∧ slot tm 9 = .ptr σ2.length 0 ∧ BldAt σ2 σ σ2.length (rep k s) ∧ Ext σ2 σ
    refine CW.loopI I ?_ (c - 1) tm σ4 ⟨1, by omega, by omega, rfl, hlen, h7, h8, h9, hB5, hE4⟩
    clear h0 h7 h8 h9 hlen tm hB5 hB4 hE4 hB3 hE3 σ4 σ3 hz v
    rintro r tm σ ⟨k, hk1, hkc, rfl, hlen, h7, h8, h9, hB, hE⟩
    have hkl : k * s.length ≤ c * s.length := Nat.mul_le_mul_right _ hkc
    have hlk := rep_len k s
    refine CW.seqK fun K2 hK2 => CW.seqK fun K3 hK3 => CW.region ?_
    simp (maxDischargeDepth := 8) [LW_nil, LW_guardS, DW_guardS, LW_guardN, DW_guardN, yielded_eq, yv, LW_val, LW_skip, LW_enter, DW_nil, DW_val, DW_skip, DW_enter, es_move, es_assign, es_pick, es_allocV, es_boxV, es_build, es_buildSlice, es_buildSliceM, es_appendM, evMut, evAppendM, rowsA, es_load, es_store, es_nilCheck, es_binOp, es_unOp, es_convert, es_makeInterface, es_makeFunc, es_slice, es_fieldAddr, es_field, es_indexAddr, es_index, es_extract, es_panic, es_callV, es_len, es_max, evStepU, evPure, evLit, evMem, evx_tmp, evx_const, evx_func, putA_some, putA_none, slot_ne, slot_eq, List.length_set, isVal, valOf, stOf, accOf, isSkip, isEnter, fnOf, argsOf, absV, abs2, abs1, scal, binL, litInt, conc, conc2, lit?, omap, parts?, partA, fillA, putCells, chunks, AV.cells, AV.notTup, Op.operands, Call.operands, stripRows, AV.strip, aggT, andThen, hlen, h9]
    refine (len_ev hB).mono ?_
    rintro r σ' ⟨rfl, rfl⟩
    simp (maxDischargeDepth := 8) [LW_nil, LW_guardS, DW_guardS, LW_guardN, DW_guardN, yielded_eq, yv, LW_val, LW_skip, LW_enter, DW_nil, DW_val, DW_skip, DW_enter, es_move, es_assign, es_pick, es_allocV, es_boxV, es_build, es_buildSlice, es_buildSliceM, es_appendM, evMut, evAppendM, rowsA, es_load, es_store, es_nilCheck, es_binOp, es_unOp, es_convert, es_makeInterface, es_makeFunc, es_slice, es_fieldAddr, es_field, es_indexAddr, es_index, es_extract, es_panic, es_callV, es_len, es_max, evStepU, evPure, evLit, evMem, evx_tmp, evx_const, evx_func, putA_some, putA_none, slot_ne, slot_eq, List.length_set, isVal, valOf, stOf, accOf, isSkip, isEnter, fnOf, argsOf, absV, abs2, abs1, scal, binL, litInt, conc, conc2, lit?, omap, parts?, partA, fillA, putCells, chunks, AV.cells, AV.notTup, Op.operands, Call.operands, stripRows, AV.strip, aggT, retK, andThen, hlen, h7]
    refine hK3 _ _ ?_; clear hK3 K3
    rcases Nat.lt_or_ge k c with hkc2 | hkc2
    · have hlt : (rep k s).length < N := by rw [hlk, hN1]; exact (Nat.mul_lt_mul_right hl0).2 hkc2
      refine CW.cond (t := true) (by simp [evx_tmp, slot_eq, hlen, hlt]) (CW.skip ?_)
      simp only [andThen]
      refine hK2 _ _ ?_; clear hK2 K2
      refine CW.block ?_
      refine CW.hide fun R2 hR2 => ?_
      obtain ⟨j, hj1, hj2, hj3, hj⟩ : ∃ j, 1 ≤ j ∧ j ≤ k ∧ k + j ≤ c ∧ j * s.length = min (min (N - (rep k s).length) (rep k s).length) m := by
        refine ⟨min (min (c - k) k) q, by omega, by omega, by omega, ?_⟩
        rw [hlk, hN1, hm, ← Nat.sub_mul, ← Nat.mul_min_mul_right, ← Nat.mul_min_mul_right]
      obtain ⟨ch, hch⟩ : ∃ ch, ch = j * s.length := ⟨_, rfl⟩
      have hjj : (if (m : Int) < (if ((rep k s).length : Int) < (N : Int) - ((rep k s).length : Int) then ((rep k s).length : Int) else (N : Int) - ((rep k s).length : Int)) then (m : Int) else (if ((rep k s).length : Int) < (N : Int) - ((rep k s).length : Int) then ((rep k s).length : Int) else (N : Int) - ((rep k s).length : Int))) = ((ch : Nat) : Int) := by
        rw [hch, hj]; split <;> split at * <;> omega
      have hw : IntKind.i64.wrap ((N : Int) - ((rep k s).length : Int)) = (N : Int) - ((rep k s).length : Int) := IntWalk.i64_in _ ⟨by omega, by omega⟩
      refine CW.seqK fun K2 hK2 => CW.region ?_
      simp (maxDischargeDepth := 8) [LW_nil, LW_guardS, DW_guardS, LW_guardN, DW_guardN, yielded_eq, yv, LW_val, LW_skip, LW_enter, DW_nil, DW_val, DW_skip, DW_enter, es_move, es_assign, es_pick, es_allocV, es_boxV, es_build, es_buildSlice, es_buildSliceM, es_appendM, evMut, evAppendM, rowsA, es_load, es_store, es_nilCheck, es_binOp, es_unOp, es_convert, es_makeInterface, es_makeFunc, es_slice, es_fieldAddr, es_field, es_indexAddr, es_index, es_extract, es_panic, es_callV, es_len, es_max, evStepU, evPure, evLit, evMem, evx_tmp, evx_const, evx_func, putA_some, putA_none, slot_ne, slot_eq, List.length_set, isVal, valOf, stOf, accOf, isSkip, isEnter, fnOf, argsOf, absV, abs2, abs1, scal, binL, litInt, conc, conc2, lit?, omap, parts?, partA, fillA, putCells, chunks, AV.cells, AV.notTup, Op.operands, Call.operands, stripRows, AV.strip, aggT, andThen, hlen, h9, h7]
      refine (len_ev hB).mono ?_
      rintro r σ5 ⟨rfl, rfl⟩
      simp (maxDischargeDepth := 8) [LW_nil, LW_guardS, DW_guardS, LW_guardN, DW_guardN, yielded_eq, yv, LW_val, LW_skip, LW_enter, DW_nil, DW_val, DW_skip, DW_enter, es_move, es_assign, es_pick, es_allocV, es_boxV, es_build, es_buildSlice, es_buildSliceM, es_appendM, evMut, evAppendM, rowsA, es_load, es_store, es_nilCheck, es_binOp, es_unOp, es_convert, es_makeInterface, es_makeFunc, es_slice, es_fieldAddr, es_field, es_indexAddr, es_index, es_extract, es_panic, es_callV, es_len, es_max, evStepU, evPure, evLit, evMem, evx_tmp, evx_const, evx_func, putA_some, putA_none, slot_ne, slot_eq, List.length_set, isVal, valOf, stOf, accOf, isSkip, isEnter, fnOf, argsOf, absV, abs2, abs1, scal, binL, litInt, conc, conc2, lit?, omap, parts?, partA, fillA, putCells, chunks, AV.cells, AV.notTup, Op.operands, Call.operands, stripRows, AV.strip, aggT, retK, andThen, hlen, h9, h7, hw]
      refine (len_ev hB).mono ?_
      rintro r σ6 ⟨rfl, rfl⟩
      simp (maxDischargeDepth := 8) [LW_nil, LW_guardS, DW_guardS, LW_guardN, DW_guardN, yielded_eq, yv, LW_val, LW_skip, LW_enter, DW_nil, DW_val, DW_skip, DW_enter, es_move, es_assign, es_pick, es_allocV, es_boxV, es_build, es_buildSlice, es_buildSliceM, es_appendM, evMut, evAppendM, rowsA, es_load, es_store, es_nilCheck, es_binOp, es_unOp, es_convert, es_makeInterface, es_makeFunc, es_slice, es_fieldAddr, es_field, es_indexAddr, es_index, es_extract, es_panic, es_callV, es_len, es_max, evStepU, evPure, evLit, evMem, evx_tmp, evx_const, evx_func, putA_some, putA_none, slot_ne, slot_eq, List.length_set, isVal, valOf, stOf, accOf, isSkip, isEnter, fnOf, argsOf, absV, abs2, abs1, scal, binL, litInt, conc, conc2, lit?, omap, parts?, partA, fillA, putCells, chunks, AV.cells, AV.notTup, Op.operands, Call.operands, stripRows, AV.strip, aggT, retK, andThen, hlen, h8]
      have hmin : ∀ (tm : List AV) (ds : Option Tmp) (ty : TypeId) (po : String) (af : Array Edge) (gu : Option (Nat × Bool)) (x y z : Operand) (ts : Array TypeId), evx tm x = some (.lit (.int .i64 ((N : Int) - ((rep k s).length : Int)))) → evx tm y = some (.lit (.int .i64 ((rep k s).length : Int))) → evx tm z = some (.lit (.int .i64 m)) → evStep Tryd.prog [] (evx tm) σ6 ⟨ds, .call ⟨.builtin .min, #[x, y, z], ts⟩, ty, po, af, gu⟩ = some (.val (.lit (.int .i64 ch)) σ6 .pure) := by
        intro tm ds ty po af gu x y z ts hx hy hz
        rw [es_min3 hx hy hz, hjj]
      simp (maxDischargeDepth := 16) [LW_nil, LW_guardS, DW_guardS, LW_guardN, DW_guardN, yielded_eq, yv, LW_val, LW_skip, LW_enter, DW_nil, DW_val, DW_skip, DW_enter, es_move, es_assign, es_pick, es_allocV, es_boxV, es_build, es_buildSlice, es_buildSliceM, es_appendM, evMut, evAppendM, rowsA, es_load, es_store, es_nilCheck, es_binOp, es_unOp, es_convert, es_makeInterface, es_makeFunc, es_slice, es_fieldAddr, es_field, es_indexAddr, es_index, es_extract, es_panic, es_callV, es_len, es_max, evStepU, evPure, evLit, evMem, evx_tmp, evx_const, evx_func, putA_some, putA_none, slot_ne, slot_eq, List.length_set, isVal, valOf, stOf, accOf, isSkip, isEnter, fnOf, argsOf, absV, abs2, abs1, scal, binL, litInt, conc, conc2, lit?, omap, parts?, partA, fillA, putCells, chunks, AV.cells, AV.notTup, Op.operands, Call.operands, stripRows, AV.strip, aggT, andThen, hlen, hmin]
      refine hK2 _ _ ?_; clear hK2 K2
      refine CW.reset (fun tm => tm.length = 125 ∧ slot tm 7 = .lit (.int .i64 N) ∧ slot tm 8 = .lit (.int .i64 m) ∧ slot tm 9 = .ptr σ2.length 0 ∧ slot tm 10 = .lit (.int .i64 ch)) ⟨by simp [hlen], by simp (maxDischargeDepth := 64) [slot_eq, slot_ne, hlen, h7], by simp (maxDischargeDepth := 64) [slot_eq, slot_ne, hlen, h8], by simp (maxDischargeDepth := 64) [slot_eq, slot_ne, hlen, h9], by simp (maxDischargeDepth := 64) [slot_eq, slot_ne, hlen]⟩ ?_
      clear h7 h8 h9 hlen tm
      rintro tm ⟨hlen, h7, h8, h9, h10⟩
      have hrne : rep k s ≠ [] := by
        intro e
        rw [e] at hlk
        have := Nat.mul_pos (show 0 < k by omega) hl0
        simp at hlk
        omega
      have hchk : ch ≤ (rep k s).length := by rw [hch, hlk]; exact Nat.mul_le_mul_right _ hj2
      refine CW.region ?_
      simp (maxDischargeDepth := 8) [LW_nil, LW_guardS, DW_guardS, LW_guardN, DW_guardN, yielded_eq, yv, LW_val, LW_skip, LW_enter, DW_nil, DW_val, DW_skip, DW_enter, es_move, es_assign, es_pick, es_allocV, es_boxV, es_build, es_buildSlice, es_buildSliceM, es_appendM, evMut, evAppendM, rowsA, es_load, es_store, es_nilCheck, es_binOp, es_unOp, es_convert, es_makeInterface, es_makeFunc, es_slice, es_fieldAddr, es_field, es_indexAddr, es_index, es_extract, es_panic, es_callV, es_len, es_max, evStepU, evPure, evLit, evMem, evx_tmp, evx_const, evx_func, putA_some, putA_none, slot_ne, slot_eq, List.length_set, isVal, valOf, stOf, accOf, isSkip, isEnter, fnOf, argsOf, absV, abs2, abs1, scal, binL, litInt, conc, conc2, lit?, omap, parts?, partA, fillA, putCells, chunks, AV.cells, AV.notTup, Op.operands, Call.operands, stripRows, AV.strip, aggT, andThen, hlen, h9]
      refine (string_ev hB hE hrne (by omega)).mono ?_
      rintro r σ7 ⟨rfl, hB7, hE7⟩
      have hsz2 : (⟨(rep k s).toArray⟩ : ByteArray).size = (rep k s).length := by simp [ByteArray.size]
      have hext2 : (⟨(rep k s).toArray⟩ : ByteArray).extract 0 ch = ⟨(rep j s).toArray⟩ := by
        apply ByteArray.ext
        simp only [ByteArray.data_extract, List.extract_toArray, List.extract_eq_take_drop, List.drop_zero, Nat.sub_zero]
        rw [hch, rep_take hj2]
      simp (maxDischargeDepth := 8) [LW_nil, LW_guardS, DW_guardS, LW_guardN, DW_guardN, yielded_eq, yv, LW_val, LW_skip, LW_enter, DW_nil, DW_val, DW_skip, DW_enter, es_move, es_assign, es_pick, es_allocV, es_boxV, es_build, es_buildSlice, es_buildSliceM, es_appendM, evMut, evAppendM, rowsA, es_load, es_store, es_nilCheck, es_binOp, es_unOp, es_convert, es_makeInterface, es_makeFunc, es_slice, es_fieldAddr, es_field, es_indexAddr, es_index, es_extract, es_panic, es_callV, es_len, es_max, evStepU, evPure, evLit, evMem, evx_tmp, evx_const, evx_func, putA_some, putA_none, slot_ne, slot_eq, List.length_set, isVal, valOf, stOf, accOf, isSkip, isEnter, fnOf, argsOf, absV, abs2, abs1, scal, binL, litInt, conc, conc2, lit?, omap, parts?, partA, fillA, putCells, chunks, AV.cells, AV.notTup, Op.operands, Call.operands, stripRows, AV.strip, aggT, retK, andThen, hlen, h9, h10, hsz2, hchk, hext2]
      have hrj : rep k s ++ (⟨(rep j s).toArray⟩ : ByteArray).data.toList = rep (k + j) s := by rw [rep_add]
      have hlj := rep_len (k + j) s
      have hkj : (k + j) * s.length ≤ c * s.length := Nat.mul_le_mul_right _ hj3
      refine (writeString_ev hB7 hE7 ⟨(rep j s).toArray⟩ ?_).mono ?_
      · have : (⟨(rep j s).toArray⟩ : ByteArray).size = (rep j s).length := by simp [ByteArray.size]
        rw [rep_add, List.length_append] at hlj
        rw [this]; omega
      rintro r σ8 ⟨⟨v, rfl⟩, hB8, hE8⟩
      rw [hrj] at hB8
      simp (maxDischargeDepth := 8) [LW_nil, LW_guardS, DW_guardS, LW_guardN, DW_guardN, yielded_eq, yv, LW_val, LW_skip, LW_enter, DW_nil, DW_val, DW_skip, DW_enter, es_move, es_assign, es_pick, es_allocV, es_boxV, es_build, es_buildSlice, es_buildSliceM, es_appendM, evMut, evAppendM, rowsA, es_load, es_store, es_nilCheck, es_binOp, es_unOp, es_convert, es_makeInterface, es_makeFunc, es_slice, es_fieldAddr, es_field, es_indexAddr, es_index, es_extract, es_panic, es_callV, es_len, es_max, evStepU, evPure, evLit, evMem, evx_tmp, evx_const, evx_func, putA_some, putA_none, slot_ne, slot_eq, List.length_set, isVal, valOf, stOf, accOf, isSkip, isEnter, fnOf, argsOf, absV, abs2, abs1, scal, binL, litInt, conc, conc2, lit?, omap, parts?, partA, fillA, putCells, chunks, AV.cells, AV.notTup, Op.operands, Call.operands, stripRows, AV.strip, aggT, retK, andThen, hlen]
      refine hR2 _ _ _ ?_
      simp only [outOf, andThen]
      exact ⟨c - (k + j), by omega, k + j, by omega, hj3, rfl, by simp [hlen], by simp (maxDischargeDepth := 16) [slot_eq, slot_ne, hlen, h7], by simp (maxDischargeDepth := 16) [slot_eq, slot_ne, hlen, h8], by simp (maxDischargeDepth := 16) [slot_eq, slot_ne, hlen, h9], hB8, hE8⟩
    · have hkc3 : k = c := by omega
      have hlt : ¬ (rep k s).length < N := by rw [hlk, hN1, hkc3]; omega
      refine CW.cond (t := false) (by simp [evx_tmp, slot_eq, hlen, hlt]) (CW.exit ?_)
      simp only [andThen]
      refine hR1 _ _ _ ?_
      simp only [outOf, andThen]
      refine hK _ _ ?_; clear hK K hR1 R1 hK2 K2
      subst hkc3
      refine CW.seqK fun K hK => CW.region ?_
      have hrne : rep k s ≠ [] := by
        intro e
        rw [e] at hlk
        have := Nat.mul_pos (show 0 < k by omega) hl0
        simp at hlk
        omega
      simp (maxDischargeDepth := 8) [LW_nil, LW_guardS, DW_guardS, LW_guardN, DW_guardN, yielded_eq, yv, LW_val, LW_skip, LW_enter, DW_nil, DW_val, DW_skip, DW_enter, es_move, es_assign, es_pick, es_allocV, es_boxV, es_build, es_buildSlice, es_buildSliceM, es_appendM, evMut, evAppendM, rowsA, es_load, es_store, es_nilCheck, es_binOp, es_unOp, es_convert, es_makeInterface, es_makeFunc, es_slice, es_fieldAddr, es_field, es_indexAddr, es_index, es_extract, es_panic, es_callV, es_len, es_max, evStepU, evPure, evLit, evMem, evx_tmp, evx_const, evx_func, putA_some, putA_none, slot_ne, slot_eq, List.length_set, isVal, valOf, stOf, accOf, isSkip, isEnter, fnOf, argsOf, absV, abs2, abs1, scal, binL, litInt, conc, conc2, lit?, omap, parts?, partA, fillA, putCells, chunks, AV.cells, AV.notTup, Op.operands, Call.operands, stripRows, AV.strip, aggT, andThen, hlen, h9]
      refine (string_ev hB hE hrne (by omega)).mono ?_
      rintro r σ7 ⟨rfl, hB7, hE7⟩
      simp (maxDischargeDepth := 8) [LW_nil, LW_guardS, DW_guardS, LW_guardN, DW_guardN, yielded_eq, yv, LW_val, LW_skip, LW_enter, DW_nil, DW_val, DW_skip, DW_enter, es_move, es_assign, es_pick, es_allocV, es_boxV, es_build, es_buildSlice, es_buildSliceM, es_appendM, evMut, evAppendM, rowsA, es_load, es_store, es_nilCheck, es_binOp, es_unOp, es_convert, es_makeInterface, es_makeFunc, es_slice, es_fieldAddr, es_field, es_indexAddr, es_index, es_extract, es_panic, es_callV, es_len, es_max, evStepU, evPure, evLit, evMem, evx_tmp, evx_const, evx_func, putA_some, putA_none, slot_ne, slot_eq, List.length_set, isVal, valOf, stOf, accOf, isSkip, isEnter, fnOf, argsOf, absV, abs2, abs1, scal, binL, litInt, conc, conc2, lit?, omap, parts?, partA, fillA, putCells, chunks, AV.cells, AV.notTup, Op.operands, Call.operands, stripRows, AV.strip, aggT, retK, andThen, hlen]
      refine hK _ _ ?_; clear hK K
      refine CW.ret (hR0 _ _ _ ?_)
      exact ⟨_, by simp [resultsA, omap, res_tmp, slot_eq, hlen]
        , rfl, hE7⟩
  have hN1 : N = c * s.length := by omega
  refine CW.seqK fun K2 hK2 => CW.region ?_
  simp (maxDischargeDepth := 8) [LW_nil, LW_guardS, DW_guardS, LW_guardN, DW_guardN, yielded_eq, yv, LW_val, LW_skip, LW_enter, DW_nil, DW_val, DW_skip, DW_enter, es_move, es_assign, es_pick, es_allocV, es_boxV, es_build, es_buildSlice, es_buildSliceM, es_appendM, evMut, evAppendM, rowsA, es_load, es_store, es_nilCheck, es_binOp, es_unOp, es_convert, es_makeInterface, es_makeFunc, es_slice, es_fieldAddr, es_field, es_indexAddr, es_index, es_extract, es_panic, es_callV, es_len, es_max, evStepU, evPure, evLit, evMem, evx_tmp, evx_const, evx_func, putA_some, putA_none, slot_ne, slot_eq, List.length_set, isVal, valOf, stOf, accOf, isSkip, isEnter, fnOf, argsOf, absV, abs2, abs1, scal, binL, litInt, conc, conc2, lit?, omap, parts?, partA, fillA, putCells, chunks, AV.cells, AV.notTup, Op.operands, Call.operands, stripRows, AV.strip, aggT, andThen, hlen, h7]
  refine hK2 _ _ ?_; clear hK2 K2
  rcases Nat.lt_or_ge 8192 N with hgt | hgt
  · have hgti : (8192 : Int) < (N : Int) := by omega
    refine CW.cond (t := true) (by simp [evx_tmp, slot_eq, hlen, hgti]) ?_
    obtain ⟨d, hd⟩ : ∃ d, d = 8192 / s.length := ⟨_, rfl⟩
    have hdm : d * s.length ≤ 8192 := by rw [hd]; exact Nat.div_mul_le_self _ _
    have hdl : d ≤ 8192 := by rw [hd]; exact Nat.div_le_self _ _
    obtain ⟨m, hm⟩ : ∃ m, m = d * s.length := ⟨_, rfl⟩
    have hdiv : Int.tdiv 8192 ((s.length : Nat) : Int) = (d : Int) := by rw [hd, Int.tdiv_eq_ediv_of_nonneg (by omega)]; rfl
    have w1 : IntKind.i64.wrap (d : Int) = (d : Int) := IntWalk.i64_in _ ⟨by omega, by omega⟩
    have w2 : IntKind.i64.wrap ((d : Int) * ((s.length : Nat) : Int)) = (m : Int) := by rw [← Int.natCast_mul, ← hm]; exact IntWalk.i64_in _ ⟨by omega, by omega⟩
    refine CW.seqK fun K2 hK2 => CW.region ?_
    simp (maxDischargeDepth := 8) [LW_nil, LW_guardS, DW_guardS, LW_guardN, DW_guardN, yielded_eq, yv, LW_val, LW_skip, LW_enter, DW_nil, DW_val, DW_skip, DW_enter, es_move, es_assign, es_pick, es_allocV, es_boxV, es_build, es_buildSlice, es_buildSliceM, es_appendM, evMut, evAppendM, rowsA, es_load, es_store, es_nilCheck, es_binOp, es_unOp, es_convert, es_makeInterface, es_makeFunc, es_slice, es_fieldAddr, es_field, es_indexAddr, es_index, es_extract, es_panic, es_callV, es_len, es_max, evStepU, evPure, evLit, evMem, evx_tmp, evx_const, evx_func, putA_some, putA_none, slot_ne, slot_eq, List.length_set, isVal, valOf, stOf, accOf, isSkip, isEnter, fnOf, argsOf, absV, abs2, abs1, scal, binL, litInt, conc, conc2, lit?, omap, parts?, partA, fillA, putCells, chunks, AV.cells, AV.notTup, Op.operands, Call.operands, stripRows, AV.strip, aggT, andThen, hlen, h0, hsz, hL0, hL0', hsne, hdiv, w1, w2]
    refine hK2 _ _ ?_; clear hK2 K2
    refine CW.seqK fun K2 hK2 => CW.region ?_
    simp (maxDischargeDepth := 8) [LW_nil, LW_guardS, DW_guardS, LW_guardN, DW_guardN, yielded_eq, yv, LW_val, LW_skip, LW_enter, DW_nil, DW_val, DW_skip, DW_enter, es_move, es_assign, es_pick, es_allocV, es_boxV, es_build, es_buildSlice, es_buildSliceM, es_appendM, evMut, evAppendM, rowsA, es_load, es_store, es_nilCheck, es_binOp, es_unOp, es_convert, es_makeInterface, es_makeFunc, es_slice, es_fieldAddr, es_field, es_indexAddr, es_index, es_extract, es_panic, es_callV, es_len, es_max, evStepU, evPure, evLit, evMem, evx_tmp, evx_const, evx_func, putA_some, putA_none, slot_ne, slot_eq, List.length_set, isVal, valOf, stOf, accOf, isSkip, isEnter, fnOf, argsOf, absV, abs2, abs1, scal, binL, litInt, conc, conc2, lit?, omap, parts?, partA, fillA, putCells, chunks, AV.cells, AV.notTup, Op.operands, Call.operands, stripRows, AV.strip, aggT, andThen, hlen, h0]
    refine hK2 _ _ ?_; clear hK2 K2
    rcases Nat.eq_zero_or_pos d with hd0 | hd0
    · have hm0 : m = 0 := by rw [hm, hd0, Nat.zero_mul]
      refine CW.cond (t := true) (by simp (maxDischargeDepth := 8) [evx_tmp, slot_eq, slot_ne, hlen, hm0]) ?_
      refine CW.region ?_
      simp (maxDischargeDepth := 8) [LW_nil, LW_guardS, DW_guardS, LW_guardN, DW_guardN, yielded_eq, yv, LW_val, LW_skip, LW_enter, DW_nil, DW_val, DW_skip, DW_enter, es_move, es_assign, es_pick, es_allocV, es_boxV, es_build, es_buildSlice, es_buildSliceM, es_appendM, evMut, evAppendM, rowsA, es_load, es_store, es_nilCheck, es_binOp, es_unOp, es_convert, es_makeInterface, es_makeFunc, es_slice, es_fieldAddr, es_field, es_indexAddr, es_index, es_extract, es_panic, es_callV, es_len, es_max, evStepU, evPure, evLit, evMem, evx_tmp, evx_const, evx_func, putA_some, putA_none, slot_ne, slot_eq, List.length_set, isVal, valOf, stOf, accOf, isSkip, isEnter, fnOf, argsOf, absV, abs2, abs1, scal, binL, litInt, conc, conc2, lit?, omap, parts?, partA, fillA, putCells, chunks, AV.cells, AV.notTup, Op.operands, Call.operands, stripRows, AV.strip, aggT, andThen, hlen, h0, hsz]
      refine main 1 s.length _ (by omega) (by omega) (by simp [hlen]) (by simp (maxDischargeDepth := 32) [slot_eq, slot_ne, hlen, h0]) (by simp (maxDischargeDepth := 32) [slot_eq, slot_ne, hlen, h7]) (by simp (maxDischargeDepth := 32) [slot_eq, slot_ne, hlen, h8])
    · have hm0 : ¬ m = 0 := by rw [hm]; exact Nat.ne_of_gt (Nat.mul_pos hd0 hl0)
      refine CW.cond (t := false) (by simp (maxDischargeDepth := 8) [evx_tmp, slot_eq, slot_ne, hlen, hm0]) (CW.skip ?_)
      simp only [andThen]
      refine main d m _ hd0 hm (by simp [hlen]) (by simp (maxDischargeDepth := 32) [slot_eq, slot_ne, hlen, h0]) (by simp (maxDischargeDepth := 32) [slot_eq, slot_ne, hlen, h7]) (by simp (maxDischargeDepth := 32) [slot_eq, slot_ne, hlen, h8])
  · have hgti : ¬ (8192 : Int) < (N : Int) := by omega
    refine CW.cond (t := false) (by simp [evx_tmp, slot_eq, hlen, hgti]) (CW.skip ?_)
    simp only [andThen]
    refine main c N _ (by omega) hN1 ?_ ?_ ?_ ?_
    · simp [hlen]
    · simp (maxDischargeDepth := 8) [slot_eq, slot_ne, hlen, h0]
    · simp (maxDischargeDepth := 8) [slot_eq, slot_ne, hlen, h7]
    · simp (maxDischargeDepth := 8) [slot_eq, slot_ne, hlen, h8]

end Go.Proofs.YtocaickbfeaiaaaDoor

namespace Go.Proofs.YtocaickbfeaiaaaDoor
set_option linter.unusedSimpArgs false
set_option linter.unusedVariables false
open Go.RowKit

/-- the first 'a' replaced -/
def replA : List UInt8 → UInt8 → List UInt8
  | [], _ => []
  | x :: l, b => if x = 97 then b :: l else x :: replA l b

theorem replA_split {s : List UInt8} (h : 97 ∈ s) (b : UInt8) : ∃ p q, s = p ++ 97 :: q ∧ replA s b = p ++ b :: q ∧ Lib.indexByte s 97 = (p.length : Int) ∧ 1 ≤ Lib.countByte s 97 := by
  induction s with
  | nil => cases h
  | cons x l ih =>
    by_cases hx : x = 97
    · subst hx
      exact ⟨[], l, rfl, by simp [replA], by simp [Lib.indexByte], by simp [Lib.countByte]⟩
    · have hm : 97 ∈ l := by
        rcases List.mem_cons.1 h with e | e
        · exact absurd e.symm hx
        · exact e
      obtain ⟨p, q, e1, e2, e3, e4⟩ := ih hm
      refine ⟨x :: p, q, by rw [e1]; rfl, by simp [replA, hx, e2], ?_, ?_⟩
      · unfold Lib.indexByte
        rw [if_neg (by simpa using hx), e3, if_neg (by simp)]
        simp
      · unfold Lib.countByte at e4 ⊢
        exact Nat.le_trans e4 (List.count_le_count_cons ..)

theorem bszR (l : List UInt8) : (⟨l.toArray⟩ : ByteArray).size = l.length := by simp [ByteArray.size]
theorem bext (l : List UInt8) (a b : Nat) : (⟨l.toArray⟩ : ByteArray).extract a b = ⟨((l.take b).drop a).toArray⟩ := by
  apply ByteArray.ext
  simp only [ByteArray.data_extract, List.extract_toArray, List.extract_eq_take_drop, List.drop_take]

set_option maxRecDepth 100000 in
set_option maxHeartbeats 4000000 in
theorem replace_ev (s : List UInt8) (b : UInt8) (hs : 97 ∈ s) (hlen : s.length ≤ 1000) (σ : Sto) :
    CallW Tryd.prog ES 5 [.lit (.string ⟨s.toArray⟩), .lit (.string ⟨#[97]⟩), .lit (.string ⟨#[b]⟩), .lit (.int .i64 1)] σ fun r σ' => r = .ret (.lit (.string ⟨(replA s b).toArray⟩)) ∧ Ext σ σ' := by
  obtain ⟨p, q, hs1, hs2, hidx, hcnt⟩ := replA_split hs b
  have hsz := bszR s
  have hpl : s.length = p.length + (q.length + 1) := by rw [hs1]; simp
  refine CallW.start (fn := Tryd.f5) (M := []) rfl rfl rfl rfl (by simp) fun tm hlen2 hs0 => ?_
  have h0 := hs0 0 _ rfl
  have h1 := hs0 1 _ rfl
  have h2 := hs0 2 _ rfl
  have h3 := hs0 3 _ rfl
  clear hs0
  have hlen' : tm.length = 104 := by simpa using hlen2
  clear hlen2
  have hlen0 := hlen
  clear hlen
  have hlen := hlen'
  clear hlen'
  refine CW.hide fun R0 hR0 => ?_
  refine CW.seqK fun K hK => CW.region ?_
  simp (maxDischargeDepth := 8) [LW_nil, LW_guardS, DW_guardS, LW_guardN, DW_guardN, yielded_eq, yv, LW_val, LW_skip, LW_enter, DW_nil, DW_val, DW_skip, DW_enter, es_move, es_assign, es_pick, es_allocV, es_boxV, es_build, es_buildSlice, es_buildSliceM, es_appendM, evMut, evAppendM, rowsA, es_load, es_store, es_nilCheck, es_binOp, es_unOp, es_convert, es_makeInterface, es_makeFunc, es_slice, es_fieldAddr, es_field, es_indexAddr, es_index, es_extract, es_panic, es_callV, es_len, es_max, evStepU, evPure, evLit, evMem, evx_tmp, evx_const, evx_func, putA_some, putA_none, slot_ne, slot_eq, List.length_set, isVal, valOf, stOf, accOf, isSkip, isEnter, fnOf, argsOf, absV, abs2, abs1, scal, binL, litInt, conc, conc2, lit?, omap, parts?, partA, fillA, putCells, chunks, AV.cells, AV.notTup, Op.operands, Call.operands, stripRows, AV.strip, aggT, andThen, hlen]
  refine hK _ _ ?_; clear hK K
  refine CW.seqK fun K hK => CW.seqK fun K2 hK2 => CW.region ?_
  by_cases hb : b = 97
  · subst hb
    simp (maxDischargeDepth := 8) [LW_nil, LW_guardS, DW_guardS, LW_guardN, DW_guardN, yielded_eq, yv, LW_val, LW_skip, LW_enter, DW_nil, DW_val, DW_skip, DW_enter, es_move, es_assign, es_pick, es_allocV, es_boxV, es_build, es_buildSlice, es_buildSliceM, es_appendM, evMut, evAppendM, rowsA, es_load, es_store, es_nilCheck, es_binOp, es_unOp, es_convert, es_makeInterface, es_makeFunc, es_slice, es_fieldAddr, es_field, es_indexAddr, es_index, es_extract, es_panic, es_callV, es_len, es_max, evStepU, evPure, evLit, evMem, evx_tmp, evx_const, evx_func, putA_some, putA_none, slot_ne, slot_eq, List.length_set, isVal, valOf, stOf, accOf, isSkip, isEnter, fnOf, argsOf, absV, abs2, abs1, scal, binL, litInt, conc, conc2, lit?, omap, parts?, partA, fillA, putCells, chunks, AV.cells, AV.notTup, Op.operands, Call.operands, stripRows, AV.strip, aggT, andThen, hlen, h0, h1, h2, h3]
    refine hK2 _ _ ?_; clear hK2 K2
    refine CW.cond (t := true) (by simp [evx_tmp, slot_eq, hlen]) ?_
    refine CW.seqK fun K2 hK2 => CW.region ?_
    simp (maxDischargeDepth := 8) [LW_nil, LW_guardS, DW_guardS, LW_guardN, DW_guardN, yielded_eq, yv, LW_val, LW_skip, LW_enter, DW_nil, DW_val, DW_skip, DW_enter, es_move, es_assign, es_pick, es_allocV, es_boxV, es_build, es_buildSlice, es_buildSliceM, es_appendM, evMut, evAppendM, rowsA, es_load, es_store, es_nilCheck, es_binOp, es_unOp, es_convert, es_makeInterface, es_makeFunc, es_slice, es_fieldAddr, es_field, es_indexAddr, es_index, es_extract, es_panic, es_callV, es_len, es_max, evStepU, evPure, evLit, evMem, evx_tmp, evx_const, evx_func, putA_some, putA_none, slot_ne, slot_eq, List.length_set, isVal, valOf, stOf, accOf, isSkip, isEnter, fnOf, argsOf, absV, abs2, abs1, scal, binL, litInt, conc, conc2, lit?, omap, parts?, partA, fillA, putCells, chunks, AV.cells, AV.notTup, Op.operands, Call.operands, stripRows, AV.strip, aggT, andThen, hlen, h0]
    refine hK2 _ _ ?_; clear hK2 K2
    refine CW.ret (hR0 _ _ _ ?_)
    exact ⟨.lit (.string ⟨s.toArray⟩), by simp [resultsA, omap, res_tmp, slot_eq, hlen], by rw [hs2, ← hs1], Ext.refl _⟩
  have hb' : ¬ 97 = b := fun e => hb e.symm
  simp (maxDischargeDepth := 8) [LW_nil, LW_guardS, DW_guardS, LW_guardN, DW_guardN, yielded_eq, yv, LW_val, LW_skip, LW_enter, DW_nil, DW_val, DW_skip, DW_enter, es_move, es_assign, es_pick, es_allocV, es_boxV, es_build, es_buildSlice, es_buildSliceM, es_appendM, evMut, evAppendM, rowsA, es_load, es_store, es_nilCheck, es_binOp, es_unOp, es_convert, es_makeInterface, es_makeFunc, es_slice, es_fieldAddr, es_field, es_indexAddr, es_index, es_extract, es_panic, es_callV, es_len, es_max, evStepU, evPure, evLit, evMem, evx_tmp, evx_const, evx_func, putA_some, putA_none, slot_ne, slot_eq, List.length_set, isVal, valOf, stOf, accOf, isSkip, isEnter, fnOf, argsOf, absV, abs2, abs1, scal, binL, litInt, conc, conc2, lit?, omap, parts?, partA, fillA, putCells, chunks, AV.cells, AV.notTup, Op.operands, Call.operands, stripRows, AV.strip, aggT, andThen, hlen, h0, h1, h2, h3, hb']
  refine hK2 _ _ ?_; clear hK2 K2
  refine CW.cond (t := false) (by simp [evx_tmp, slot_eq, hlen]) (CW.skip ?_)
  simp only [andThen]
  refine hK _ _ ?_; clear hK K
  refine CW.seqK fun K hK => CW.seqK fun K2 hK2 => CW.region ?_
  simp (maxDischargeDepth := 8) [LW_nil, LW_guardS, DW_guardS, LW_guardN, DW_guardN, yielded_eq, yv, LW_val, LW_skip, LW_enter, DW_nil, DW_val, DW_skip, DW_enter, es_move, es_assign, es_pick, es_allocV, es_boxV, es_build, es_buildSlice, es_buildSliceM, es_appendM, evMut, evAppendM, rowsA, es_load, es_store, es_nilCheck, es_binOp, es_unOp, es_convert, es_makeInterface, es_makeFunc, es_slice, es_fieldAddr, es_field, es_indexAddr, es_index, es_extract, es_panic, es_callV, es_len, es_max, evStepU, evPure, evLit, evMem, evx_tmp, evx_const, evx_func, putA_some, putA_none, slot_ne, slot_eq, List.length_set, isVal, valOf, stOf, accOf, isSkip, isEnter, fnOf, argsOf, absV, abs2, abs1, scal, binL, litInt, conc, conc2, lit?, omap, parts?, partA, fillA, putCells, chunks, AV.cells, AV.notTup, Op.operands, Call.operands, stripRows, AV.strip, aggT, andThen, hlen, h0, h1]
  refine (CallW.prim (g := primCount) rfl (σ' := σ) (r := .ret (.lit (.int .i64 (Lib.countByte s 97)))) (by simp [primCount]) (Q := fun r σ' => r = .ret (.lit (.int .i64 (Lib.countByte s 97))) ∧ σ' = σ) ⟨rfl, rfl⟩).mono ?_
  rintro r σ2 ⟨rfl, rfl⟩
  simp (maxDischargeDepth := 8) [LW_nil, LW_guardS, DW_guardS, LW_guardN, DW_guardN, yielded_eq, yv, LW_val, LW_skip, LW_enter, DW_nil, DW_val, DW_skip, DW_enter, es_move, es_assign, es_pick, es_allocV, es_boxV, es_build, es_buildSlice, es_buildSliceM, es_appendM, evMut, evAppendM, rowsA, es_load, es_store, es_nilCheck, es_binOp, es_unOp, es_convert, es_makeInterface, es_makeFunc, es_slice, es_fieldAddr, es_field, es_indexAddr, es_index, es_extract, es_panic, es_callV, es_len, es_max, evStepU, evPure, evLit, evMem, evx_tmp, evx_const, evx_func, putA_some, putA_none, slot_ne, slot_eq, List.length_set, isVal, valOf, stOf, accOf, isSkip, isEnter, fnOf, argsOf, absV, abs2, abs1, scal, binL, litInt, conc, conc2, lit?, omap, parts?, partA, fillA, putCells, chunks, AV.cells, AV.notTup, Op.operands, Call.operands, stripRows, AV.strip, aggT, retK, andThen, hlen]
  refine hK2 _ _ ?_; clear hK2 K2
  generalize Lib.countByte s 97 = n at *
  have n0 : ¬ n = 0 := by omega
  have n1 : ¬ (n : Int) < 1 := by omega
  refine CW.seqK fun K2 hK2 => CW.region ?_
  simp (maxDischargeDepth := 8) [LW_nil, LW_guardS, DW_guardS, LW_guardN, DW_guardN, yielded_eq, yv, LW_val, LW_skip, LW_enter, DW_nil, DW_val, DW_skip, DW_enter, es_move, es_assign, es_pick, es_allocV, es_boxV, es_build, es_buildSlice, es_buildSliceM, es_appendM, evMut, evAppendM, rowsA, es_load, es_store, es_nilCheck, es_binOp, es_unOp, es_convert, es_makeInterface, es_makeFunc, es_slice, es_fieldAddr, es_field, es_indexAddr, es_index, es_extract, es_panic, es_callV, es_len, es_max, evStepU, evPure, evLit, evMem, evx_tmp, evx_const, evx_func, putA_some, putA_none, slot_ne, slot_eq, List.length_set, isVal, valOf, stOf, accOf, isSkip, isEnter, fnOf, argsOf, absV, abs2, abs1, scal, binL, litInt, conc, conc2, lit?, omap, parts?, partA, fillA, putCells, chunks, AV.cells, AV.notTup, Op.operands, Call.operands, stripRows, AV.strip, aggT, andThen, hlen, n0]
  refine hK2 _ _ ?_; clear hK2 K2
  refine CW.cond (t := false) (by simp [evx_tmp, slot_eq, hlen, n0]) ?_
  refine CW.seqK fun K2 hK2 => CW.region ?_
  simp (maxDischargeDepth := 8) [LW_nil, LW_guardS, DW_guardS, LW_guardN, DW_guardN, yielded_eq, yv, LW_val, LW_skip, LW_enter, DW_nil, DW_val, DW_skip, DW_enter, es_move, es_assign, es_pick, es_allocV, es_boxV, es_build, es_buildSlice, es_buildSliceM, es_appendM, evMut, evAppendM, rowsA, es_load, es_store, es_nilCheck, es_binOp, es_unOp, es_convert, es_makeInterface, es_makeFunc, es_slice, es_fieldAddr, es_field, es_indexAddr, es_index, es_extract, es_panic, es_callV, es_len, es_max, evStepU, evPure, evLit, evMem, evx_tmp, evx_const, evx_func, putA_some, putA_none, slot_ne, slot_eq, List.length_set, isVal, valOf, stOf, accOf, isSkip, isEnter, fnOf, argsOf, absV, abs2, abs1, scal, binL, litInt, conc, conc2, lit?, omap, parts?, partA, fillA, putCells, chunks, AV.cells, AV.notTup, Op.operands, Call.operands, stripRows, AV.strip, aggT, andThen, hlen, h3, n0, n1]
  refine hK2 _ _ ?_; clear hK2 K2
  refine CW.cond (t := false) (by simp [evx_tmp, slot_eq, hlen, n0, n1]) (CW.skip ?_)
  simp only [andThen]
  refine hK _ _ ?_; clear hK K
  refine CW.reset (fun tm => tm.length = 104 ∧ slot tm 0 = .lit (.string ⟨s.toArray⟩) ∧ slot tm 1 = .lit (.string ⟨#[97]⟩) ∧ slot tm 2 = .lit (.string ⟨#[b]⟩) ∧ slot tm 3 = .lit (.int .i64 1)) ⟨by simp [hlen], by simp (maxDischargeDepth := 64) [slot_eq, slot_ne, hlen, h0], by simp (maxDischargeDepth := 64) [slot_eq, slot_ne, hlen, h1], by simp (maxDischargeDepth := 64) [slot_eq, slot_ne, hlen, h2], by simp (maxDischargeDepth := 64) [slot_eq, slot_ne, hlen, h3]⟩ ?_
  clear h0 h1 h2 h3 hlen tm
  rintro tm ⟨hlen, h0, h1, h2, h3⟩
  refine CW.seqK fun K hK => CW.region ?_
  simp (maxDischargeDepth := 8) [LW_nil, LW_guardS, DW_guardS, LW_guardN, DW_guardN, yielded_eq, yv, LW_val, LW_skip, LW_enter, DW_nil, DW_val, DW_skip, DW_enter, es_move, es_assign, es_pick, es_allocV, es_boxV, es_build, es_buildSlice, es_buildSliceM, es_appendM, evMut, evAppendM, rowsA, es_load, es_store, es_nilCheck, es_binOp, es_unOp, es_convert, es_makeInterface, es_makeFunc, es_slice, es_fieldAddr, es_field, es_indexAddr, es_index, es_extract, es_panic, es_callV, es_len, es_max, evStepU, evPure, evLit, evMem, evx_tmp, evx_const, evx_func, putA_some, putA_none, slot_ne, slot_eq, List.length_set, isVal, valOf, stOf, accOf, isSkip, isEnter, fnOf, argsOf, absV, abs2, abs1, scal, binL, litInt, conc, conc2, lit?, omap, parts?, partA, fillA, putCells, chunks, AV.cells, AV.notTup, Op.operands, Call.operands, stripRows, AV.strip, aggT, andThen, hlen]
  refine hK _ _ ?_; clear hK K
  have hz : (σ2 ++ [AObj.cells [AV.lit (Value.pointer none), AV.sl [] Tok.full] 44])[σ2.length]? = some (.cells [.lit (.pointer none), .sl [] .full] 44) := by simp
  have wl : IntKind.i64.wrap (s.length : Int) = (s.length : Int) := IntWalk.i64_in _ ⟨by omega, by omega⟩
  have w0 : IntKind.i64.wrap 0 = 0 := rfl
  have sz1 : (⟨#[97]⟩ : ByteArray).size = 1 := rfl
  have szb : (⟨#[b]⟩ : ByteArray).size = 1 := rfl
  refine CW.seqK fun K hK => CW.region ?_
  simp (maxDischargeDepth := 8) [LW_nil, LW_guardS, DW_guardS, LW_guardN, DW_guardN, yielded_eq, yv, LW_val, LW_skip, LW_enter, DW_nil, DW_val, DW_skip, DW_enter, es_move, es_assign, es_pick, es_allocV, es_boxV, es_build, es_buildSlice, es_buildSliceM, es_appendM, evMut, evAppendM, rowsA, es_load, es_store, es_nilCheck, es_binOp, es_unOp, es_convert, es_makeInterface, es_makeFunc, es_slice, es_fieldAddr, es_field, es_indexAddr, es_index, es_extract, es_panic, es_callV, es_len, es_max, evStepU, evPure, evLit, evMem, evx_tmp, evx_const, evx_func, putA_some, putA_none, slot_ne, slot_eq, List.length_set, isVal, valOf, stOf, accOf, isSkip, isEnter, fnOf, argsOf, absV, abs2, abs1, scal, binL, litInt, conc, conc2, lit?, omap, parts?, partA, fillA, putCells, chunks, AV.cells, AV.notTup, Op.operands, Call.operands, stripRows, AV.strip, aggT, andThen, hlen, h0, h1, h2, h3, hsz, wl, w0, sz1, szb]
  refine (grow_ev (σ0 := σ2) (Nat.le_refl _) hz ((Ext.refl _).push _) (by omega)).mono ?_
  rintro r σ3 ⟨rfl, hB3, hE3⟩
  simp (maxDischargeDepth := 8) [LW_nil, LW_guardS, DW_guardS, LW_guardN, DW_guardN, yielded_eq, yv, LW_val, LW_skip, LW_enter, DW_nil, DW_val, DW_skip, DW_enter, es_move, es_assign, es_pick, es_allocV, es_boxV, es_build, es_buildSlice, es_buildSliceM, es_appendM, evMut, evAppendM, rowsA, es_load, es_store, es_nilCheck, es_binOp, es_unOp, es_convert, es_makeInterface, es_makeFunc, es_slice, es_fieldAddr, es_field, es_indexAddr, es_index, es_extract, es_panic, es_callV, es_len, es_max, evStepU, evPure, evLit, evMem, evx_tmp, evx_const, evx_func, putA_some, putA_none, slot_ne, slot_eq, List.length_set, isVal, valOf, stOf, accOf, isSkip, isEnter, fnOf, argsOf, absV, abs2, abs1, scal, binL, litInt, conc, conc2, lit?, omap, parts?, partA, fillA, putCells, chunks, AV.cells, AV.notTup, Op.operands, Call.operands, stripRows, AV.strip, aggT, retK, andThen, hlen]
  refine hK _ _ ?_; clear hK K
  refine CW.seqK fun K hK => CW.region ?_
  simp (maxDischargeDepth := 8) [LW_nil, LW_guardS, DW_guardS, LW_guardN, DW_guardN, yielded_eq, yv, LW_val, LW_skip, LW_enter, DW_nil, DW_val, DW_skip, DW_enter, es_move, es_assign, es_pick, es_allocV, es_boxV, es_build, es_buildSlice, es_buildSliceM, es_appendM, evMut, evAppendM, rowsA, es_load, es_store, es_nilCheck, es_binOp, es_unOp, es_convert, es_makeInterface, es_makeFunc, es_slice, es_fieldAddr, es_field, es_indexAddr, es_index, es_extract, es_panic, es_callV, es_len, es_max, evStepU, evPure, evLit, evMem, evx_tmp, evx_const, evx_func, putA_some, putA_none, slot_ne, slot_eq, List.length_set, isVal, valOf, stOf, accOf, isSkip, isEnter, fnOf, argsOf, absV, abs2, abs1, scal, binL, litInt, conc, conc2, lit?, omap, parts?, partA, fillA, putCells, chunks, AV.cells, AV.notTup, Op.operands, Call.operands, stripRows, AV.strip, aggT, andThen, hlen]
  refine hK _ _ ?_; clear hK K
  refine CW.reset (fun tm => tm.length = 104 ∧ slot tm 0 = .lit (.string ⟨s.toArray⟩) ∧ slot tm 1 = .lit (.string ⟨#[97]⟩) ∧ slot tm 2 = .lit (.string ⟨#[b]⟩) ∧ slot tm 3 = .lit (.int .i64 1) ∧ slot tm 10 = .ptr σ2.length 0 ∧ slot tm 11 = .lit (.int .i64 0)) ⟨by simp [hlen], by simp (maxDischargeDepth := 64) [slot_eq, slot_ne, hlen, h0], by simp (maxDischargeDepth := 64) [slot_eq, slot_ne, hlen, h1], by simp (maxDischargeDepth := 64) [slot_eq, slot_ne, hlen, h2], by simp (maxDischargeDepth := 64) [slot_eq, slot_ne, hlen, h3], by simp (maxDischargeDepth := 64) [slot_eq, slot_ne, hlen], by simp (maxDischargeDepth := 64) [slot_eq, slot_ne, hlen]⟩ ?_
  clear h0 h1 h2 h3 hlen tm
  rintro tm ⟨hlen, h0, h1, h2, h3, h10, h11⟩
  refine CW.seqK fun K hK => CW.seqK fun K2 hK2 => CW.region ?_
  simp (maxDischargeDepth := 8) [LW_nil, LW_guardS, DW_guardS, LW_guardN, DW_guardN, yielded_eq, yv, LW_val, LW_skip, LW_enter, DW_nil, DW_val, DW_skip, DW_enter, es_move, es_assign, es_pick, es_allocV, es_boxV, es_build, es_buildSlice, es_buildSliceM, es_appendM, evMut, evAppendM, rowsA, es_load, es_store, es_nilCheck, es_binOp, es_unOp, es_convert, es_makeInterface, es_makeFunc, es_slice, es_fieldAddr, es_field, es_indexAddr, es_index, es_extract, es_panic, es_callV, es_len, es_max, evStepU, evPure, evLit, evMem, evx_tmp, evx_const, evx_func, putA_some, putA_none, slot_ne, slot_eq, List.length_set, isVal, valOf, stOf, accOf, isSkip, isEnter, fnOf, argsOf, absV, abs2, abs1, scal, binL, litInt, conc, conc2, lit?, omap, parts?, partA, fillA, putCells, chunks, AV.cells, AV.notTup, Op.operands, Call.operands, stripRows, AV.strip, aggT, andThen, hlen, h1, sz1]
  refine hK2 _ _ ?_; clear hK2 K2
  refine CW.cond (t := true) (by simp [evx_tmp, slot_eq, hlen]) ?_
  refine CW.seqK fun K2 hK2 => CW.region ?_
  simp (maxDischargeDepth := 8) [LW_nil, LW_guardS, DW_guardS, LW_guardN, DW_guardN, yielded_eq, yv, LW_val, LW_skip, LW_enter, DW_nil, DW_val, DW_skip, DW_enter, es_move, es_assign, es_pick, es_allocV, es_boxV, es_build, es_buildSlice, es_buildSliceM, es_appendM, evMut, evAppendM, rowsA, es_load, es_store, es_nilCheck, es_binOp, es_unOp, es_convert, es_makeInterface, es_makeFunc, es_slice, es_fieldAddr, es_field, es_indexAddr, es_index, es_extract, es_panic, es_callV, es_len, es_max, evStepU, evPure, evLit, evMem, evx_tmp, evx_const, evx_func, putA_some, putA_none, slot_ne, slot_eq, List.length_set, isVal, valOf, stOf, accOf, isSkip, isEnter, fnOf, argsOf, absV, abs2, abs1, scal, binL, litInt, conc, conc2, lit?, omap, parts?, partA, fillA, putCells, chunks, AV.cells, AV.notTup, Op.operands, Call.operands, stripRows, AV.strip, aggT, andThen, hlen, h3]
  refine hK2 _ _ ?_; clear hK2 K2
  refine CW.block ?_
  refine CW.hide fun R1 hR1 => ?_
  refine CW.reset (fun tm => tm.length = 104 ∧ slot tm 0 = .lit (.string ⟨s.toArray⟩) ∧ slot tm 1 = .lit (.string ⟨#[97]⟩) ∧ slot tm 2 = .lit (.string ⟨#[b]⟩) ∧ slot tm 10 = .ptr σ2.length 0 ∧ slot tm 11 = .lit (.int .i64 0) ∧ slot tm 52 = .lit (.int .i64 1) ∧ slot tm 53 = .lit (.int .i64 0)) ⟨by simp [hlen], by simp (maxDischargeDepth := 64) [slot_eq, slot_ne, hlen, h0], by simp (maxDischargeDepth := 64) [slot_eq, slot_ne, hlen, h1], by simp (maxDischargeDepth := 64) [slot_eq, slot_ne, hlen, h2], by simp (maxDischargeDepth := 64) [slot_eq, slot_ne, hlen, h10], by simp (maxDischargeDepth := 64) [slot_eq, slot_ne, hlen, h11], by simp (maxDischargeDepth := 64) [slot_eq, slot_ne, hlen], by simp (maxDischargeDepth := 64) [slot_eq, slot_ne, hlen]⟩ ?_
  clear h0 h1 h2 h3 h10 h11 hlen tm
  rintro tm ⟨hlen, h0, h1, h2, h10, h11, h52, h53⟩
  -- one round
  refine CW.loop ?_
  refine CW.seqK fun K2 hK2 => CW.region ?_
  simp (maxDischargeDepth := 8) [LW_nil, LW_guardS, DW_guardS, LW_guardN, DW_guardN, yielded_eq, yv, LW_val, LW_skip, LW_enter, DW_nil, DW_val, DW_skip, DW_enter, es_move, es_assign, es_pick, es_allocV, es_boxV, es_build, es_buildSlice, es_buildSliceM, es_appendM, evMut, evAppendM, rowsA, es_load, es_store, es_nilCheck, es_binOp, es_unOp, es_convert, es_makeInterface, es_makeFunc, es_slice, es_fieldAddr, es_field, es_indexAddr, es_index, es_extract, es_panic, es_callV, es_len, es_max, evStepU, evPure, evLit, evMem, evx_tmp, evx_const, evx_func, putA_some, putA_none, slot_ne, slot_eq, List.length_set, isVal, valOf, stOf, accOf, isSkip, isEnter, fnOf, argsOf, absV, abs2, abs1, scal, binL, litInt, conc, conc2, lit?, omap, parts?, partA, fillA, putCells, chunks, AV.cells, AV.notTup, Op.operands, Call.operands, stripRows, AV.strip, aggT, andThen, hlen, h52, h53]
  refine hK2 _ _ ?_; clear hK2 K2
  refine CW.seqK fun K2 hK2 => ?_
  refine CW.cond (t := true) (by simp [evx_tmp, slot_eq, hlen]) (CW.skip ?_)
  simp only [andThen]
  refine hK2 _ _ ?_; clear hK2 K2
  refine CW.seqK fun K2 hK2 => CW.block ?_
  refine CW.hide fun R2 hR2 => ?_
  refine CW.seqK fun K3 hK3 => CW.region ?_
  have hx0 : (⟨s.toArray⟩ : ByteArray).extract 0 s.length = ⟨s.toArray⟩ := by rw [bext]; simp
  have wp : IntKind.i64.wrap (p.length : Int) = (p.length : Int) := IntWalk.i64_in _ ⟨by omega, by omega⟩
  simp (maxDischargeDepth := 8) [LW_nil, LW_guardS, DW_guardS, LW_guardN, DW_guardN, yielded_eq, yv, LW_val, LW_skip, LW_enter, DW_nil, DW_val, DW_skip, DW_enter, es_move, es_assign, es_pick, es_allocV, es_boxV, es_build, es_buildSlice, es_buildSliceM, es_appendM, evMut, evAppendM, rowsA, es_load, es_store, es_nilCheck, es_binOp, es_unOp, es_convert, es_makeInterface, es_makeFunc, es_slice, es_fieldAddr, es_field, es_indexAddr, es_index, es_extract, es_panic, es_callV, es_len, es_max, evStepU, evPure, evLit, evMem, evx_tmp, evx_const, evx_func, putA_some, putA_none, slot_ne, slot_eq, List.length_set, isVal, valOf, stOf, accOf, isSkip, isEnter, fnOf, argsOf, absV, abs2, abs1, scal, binL, litInt, conc, conc2, lit?, omap, parts?, partA, fillA, putCells, chunks, AV.cells, AV.notTup, Op.operands, Call.operands, stripRows, AV.strip, aggT, andThen, hlen, h0, h1, h11, hsz, hx0]
  refine (CallW.prim (g := primIndex) rfl (σ' := σ3) (r := .ret (.lit (.int .i64 (p.length : Int)))) (by simp [primIndex, hidx]) (Q := fun r σ' => r = .ret (.lit (.int .i64 (p.length : Int))) ∧ σ' = σ3) ⟨rfl, rfl⟩).mono ?_
  rintro r σ4 ⟨rfl, rfl⟩
  simp (maxDischargeDepth := 8) [LW_nil, LW_guardS, DW_guardS, LW_guardN, DW_guardN, yielded_eq, yv, LW_val, LW_skip, LW_enter, DW_nil, DW_val, DW_skip, DW_enter, es_move, es_assign, es_pick, es_allocV, es_boxV, es_build, es_buildSlice, es_buildSliceM, es_appendM, evMut, evAppendM, rowsA, es_load, es_store, es_nilCheck, es_binOp, es_unOp, es_convert, es_makeInterface, es_makeFunc, es_slice, es_fieldAddr, es_field, es_indexAddr, es_index, es_extract, es_panic, es_callV, es_len, es_max, evStepU, evPure, evLit, evMem, evx_tmp, evx_const, evx_func, putA_some, putA_none, slot_ne, slot_eq, List.length_set, isVal, valOf, stOf, accOf, isSkip, isEnter, fnOf, argsOf, absV, abs2, abs1, scal, binL, litInt, conc, conc2, lit?, omap, parts?, partA, fillA, putCells, chunks, AV.cells, AV.notTup, Op.operands, Call.operands, stripRows, AV.strip, aggT, retK, andThen, hlen, wp]
  refine hK3 _ _ ?_; clear hK3 K3
  have hxp : (⟨s.toArray⟩ : ByteArray).extract 0 p.length = ⟨p.toArray⟩ := by rw [bext, hs1]; simp
  have hxq : (⟨s.toArray⟩ : ByteArray).extract (p.length + 1) s.length = ⟨q.toArray⟩ := by
    rw [bext, List.take_of_length_le (Nat.le_refl _), hs1, show p ++ 97 :: q = (p ++ [97]) ++ q by simp, show p.length + 1 = (p ++ [97]).length by simp, List.drop_left]
  have hps : p.length ≤ s.length := by omega
  refine CW.seqK fun K3 hK3 => CW.region ?_
  simp (maxDischargeDepth := 16) [LW_nil, LW_guardS, DW_guardS, LW_guardN, DW_guardN, yielded_eq, yv, LW_val, LW_skip, LW_enter, DW_nil, DW_val, DW_skip, DW_enter, es_move, es_assign, es_pick, es_allocV, es_boxV, es_build, es_buildSlice, es_buildSliceM, es_appendM, evMut, evAppendM, rowsA, es_load, es_store, es_nilCheck, es_binOp, es_unOp, es_convert, es_makeInterface, es_makeFunc, es_slice, es_fieldAddr, es_field, es_indexAddr, es_index, es_extract, es_panic, es_callV, es_len, es_max, evStepU, evPure, evLit, evMem, evx_tmp, evx_const, evx_func, putA_some, putA_none, slot_ne, slot_eq, List.length_set, isVal, valOf, stOf, accOf, isSkip, isEnter, fnOf, argsOf, absV, abs2, abs1, scal, binL, litInt, conc, conc2, lit?, omap, parts?, partA, fillA, putCells, chunks, AV.cells, AV.notTup, Op.operands, Call.operands, stripRows, AV.strip, aggT, andThen, hlen, h0, h10, h11, hsz, hxp, hps]
  refine (writeString_ev hB3 hE3 ⟨p.toArray⟩ (by rw [bszR]; simp; omega)).mono ?_
  rintro r σ5 ⟨⟨v, rfl⟩, hB5, hE5⟩
  simp (maxDischargeDepth := 8) [LW_nil, LW_guardS, DW_guardS, LW_guardN, DW_guardN, yielded_eq, yv, LW_val, LW_skip, LW_enter, DW_nil, DW_val, DW_skip, DW_enter, es_move, es_assign, es_pick, es_allocV, es_boxV, es_build, es_buildSlice, es_buildSliceM, es_appendM, evMut, evAppendM, rowsA, es_load, es_store, es_nilCheck, es_binOp, es_unOp, es_convert, es_makeInterface, es_makeFunc, es_slice, es_fieldAddr, es_field, es_indexAddr, es_index, es_extract, es_panic, es_callV, es_len, es_max, evStepU, evPure, evLit, evMem, evx_tmp, evx_const, evx_func, putA_some, putA_none, slot_ne, slot_eq, List.length_set, isVal, valOf, stOf, accOf, isSkip, isEnter, fnOf, argsOf, absV, abs2, abs1, scal, binL, litInt, conc, conc2, lit?, omap, parts?, partA, fillA, putCells, chunks, AV.cells, AV.notTup, Op.operands, Call.operands, stripRows, AV.strip, aggT, retK, andThen, hlen]
  refine hK3 _ _ ?_; clear hK3 K3
  refine CW.seqK fun K3 hK3 => CW.region ?_
  simp (maxDischargeDepth := 16) [LW_nil, LW_guardS, DW_guardS, LW_guardN, DW_guardN, yielded_eq, yv, LW_val, LW_skip, LW_enter, DW_nil, DW_val, DW_skip, DW_enter, es_move, es_assign, es_pick, es_allocV, es_boxV, es_build, es_buildSlice, es_buildSliceM, es_appendM, evMut, evAppendM, rowsA, es_load, es_store, es_nilCheck, es_binOp, es_unOp, es_convert, es_makeInterface, es_makeFunc, es_slice, es_fieldAddr, es_field, es_indexAddr, es_index, es_extract, es_panic, es_callV, es_len, es_max, evStepU, evPure, evLit, evMem, evx_tmp, evx_const, evx_func, putA_some, putA_none, slot_ne, slot_eq, List.length_set, isVal, valOf, stOf, accOf, isSkip, isEnter, fnOf, argsOf, absV, abs2, abs1, scal, binL, litInt, conc, conc2, lit?, omap, parts?, partA, fillA, putCells, chunks, AV.cells, AV.notTup, Op.operands, Call.operands, stripRows, AV.strip, aggT, andThen, hlen, h2, h10]
  refine (writeString_ev hB5 hE5 ⟨#[b]⟩ (by simp [szb]; omega)).mono ?_
  rintro r σ6 ⟨⟨v2, rfl⟩, hB6, hE6⟩
  simp (maxDischargeDepth := 8) [LW_nil, LW_guardS, DW_guardS, LW_guardN, DW_guardN, yielded_eq, yv, LW_val, LW_skip, LW_enter, DW_nil, DW_val, DW_skip, DW_enter, es_move, es_assign, es_pick, es_allocV, es_boxV, es_build, es_buildSlice, es_buildSliceM, es_appendM, evMut, evAppendM, rowsA, es_load, es_store, es_nilCheck, es_binOp, es_unOp, es_convert, es_makeInterface, es_makeFunc, es_slice, es_fieldAddr, es_field, es_indexAddr, es_index, es_extract, es_panic, es_callV, es_len, es_max, evStepU, evPure, evLit, evMem, evx_tmp, evx_const, evx_func, putA_some, putA_none, slot_ne, slot_eq, List.length_set, isVal, valOf, stOf, accOf, isSkip, isEnter, fnOf, argsOf, absV, abs2, abs1, scal, binL, litInt, conc, conc2, lit?, omap, parts?, partA, fillA, putCells, chunks, AV.cells, AV.notTup, Op.operands, Call.operands, stripRows, AV.strip, aggT, retK, andThen, hlen]
  refine hK3 _ _ ?_; clear hK3 K3
  have wp1 : IntKind.i64.wrap ((p.length : Int) + 1) = ((p.length + 1 : Nat) : Int) := by rw [← Int.natCast_succ]; exact IntWalk.i64_in _ ⟨by omega, by omega⟩
  refine CW.region ?_
  simp (maxDischargeDepth := 16) [LW_nil, LW_guardS, DW_guardS, LW_guardN, DW_guardN, yielded_eq, yv, LW_val, LW_skip, LW_enter, DW_nil, DW_val, DW_skip, DW_enter, es_move, es_assign, es_pick, es_allocV, es_boxV, es_build, es_buildSlice, es_buildSliceM, es_appendM, evMut, evAppendM, rowsA, es_load, es_store, es_nilCheck, es_binOp, es_unOp, es_convert, es_makeInterface, es_makeFunc, es_slice, es_fieldAddr, es_field, es_indexAddr, es_index, es_extract, es_panic, es_callV, es_len, es_max, evStepU, evPure, evLit, evMem, evx_tmp, evx_const, evx_func, putA_some, putA_none, slot_ne, slot_eq, List.length_set, isVal, valOf, stOf, accOf, isSkip, isEnter, fnOf, argsOf, absV, abs2, abs1, scal, binL, litInt, conc, conc2, lit?, omap, parts?, partA, fillA, putCells, chunks, AV.cells, AV.notTup, Op.operands, Call.operands, stripRows, AV.strip, aggT, andThen, hlen, h1, sz1, wp1]
  refine hR2 _ _ _ ?_
  simp only [outOf, andThen]
  refine hK2 _ _ ?_; clear hK2 K2 hR2 R2
  have w01 : IntKind.i64.wrap (0 + 1) = 1 := rfl
  have w1' : IntKind.i64.wrap 1 = 1 := rfl
  refine CW.region ?_
  simp (maxDischargeDepth := 16) [LW_nil, LW_guardS, DW_guardS, LW_guardN, DW_guardN, yielded_eq, yv, LW_val, LW_skip, LW_enter, DW_nil, DW_val, DW_skip, DW_enter, es_move, es_assign, es_pick, es_allocV, es_boxV, es_build, es_buildSlice, es_buildSliceM, es_appendM, evMut, evAppendM, rowsA, es_load, es_store, es_nilCheck, es_binOp, es_unOp, es_convert, es_makeInterface, es_makeFunc, es_slice, es_fieldAddr, es_field, es_indexAddr, es_index, es_extract, es_panic, es_callV, es_len, es_max, evStepU, evPure, evLit, evMem, evx_tmp, evx_const, evx_func, putA_some, putA_none, slot_ne, slot_eq, List.length_set, isVal, valOf, stOf, accOf, isSkip, isEnter, fnOf, argsOf, absV, abs2, abs1, scal, binL, litInt, conc, conc2, lit?, omap, parts?, partA, fillA, putCells, chunks, AV.cells, AV.notTup, Op.operands, Call.operands, stripRows, AV.strip, aggT, andThen, hlen, h53, w01, w1']
  -- the end of the loop
  refine CW.loop ?_
  refine CW.seqK fun K2 hK2 => CW.region ?_
  simp (maxDischargeDepth := 32) [LW_nil, LW_guardS, DW_guardS, LW_guardN, DW_guardN, yielded_eq, yv, LW_val, LW_skip, LW_enter, DW_nil, DW_val, DW_skip, DW_enter, es_move, es_assign, es_pick, es_allocV, es_boxV, es_build, es_buildSlice, es_buildSliceM, es_appendM, evMut, evAppendM, rowsA, es_load, es_store, es_nilCheck, es_binOp, es_unOp, es_convert, es_makeInterface, es_makeFunc, es_slice, es_fieldAddr, es_field, es_indexAddr, es_index, es_extract, es_panic, es_callV, es_len, es_max, evStepU, evPure, evLit, evMem, evx_tmp, evx_const, evx_func, putA_some, putA_none, slot_ne, slot_eq, List.length_set, isVal, valOf, stOf, accOf, isSkip, isEnter, fnOf, argsOf, absV, abs2, abs1, scal, binL, litInt, conc, conc2, lit?, omap, parts?, partA, fillA, putCells, chunks, AV.cells, AV.notTup, Op.operands, Call.operands, stripRows, AV.strip, aggT, andThen, hlen, h52]
  refine hK2 _ _ ?_; clear hK2 K2
  refine CW.seqK fun K2 hK2 => ?_
  refine CW.cond (t := false) (by simp [evx_tmp, slot_eq, hlen]) (CW.exit ?_)
  simp only [andThen]
  refine hR1 _ _ _ ?_
  simp only [outOf, andThen]
  refine hK _ _ ?_; clear hK K hR1 R1 hK2 K2
  refine CW.reset (fun tm => tm.length = 104 ∧ slot tm 0 = .lit (.string ⟨s.toArray⟩) ∧ slot tm 10 = .ptr σ2.length 0 ∧ slot tm 11 = .lit (.int .i64 ((p.length + 1 : Nat) : Int))) ⟨by simp [hlen], by simp (maxDischargeDepth := 64) [slot_eq, slot_ne, hlen, h0], by simp (maxDischargeDepth := 64) [slot_eq, slot_ne, hlen, h10], by simp (maxDischargeDepth := 64) [slot_eq, slot_ne, hlen]⟩ ?_
  clear h0 h1 h2 h10 h11 h52 h53 hlen tm
  rintro tm ⟨hlen, h0, h10, h11⟩
  have hps1 : p.length + 1 ≤ s.length := by omega
  have hnn : (0 : Int) ≤ (p.length : Int) + 1 := by omega
  have hps2 : (p.length : Int) + 1 ≤ (s.length : Int) := by omega
  have htn : ((p.length : Int) + 1).toNat = p.length + 1 := by omega
  refine CW.seqK fun K hK => CW.region ?_
  simp (maxDischargeDepth := 16) [LW_nil, LW_guardS, DW_guardS, LW_guardN, DW_guardN, yielded_eq, yv, LW_val, LW_skip, LW_enter, DW_nil, DW_val, DW_skip, DW_enter, es_move, es_assign, es_pick, es_allocV, es_boxV, es_build, es_buildSlice, es_buildSliceM, es_appendM, evMut, evAppendM, rowsA, es_load, es_store, es_nilCheck, es_binOp, es_unOp, es_convert, es_makeInterface, es_makeFunc, es_slice, es_fieldAddr, es_field, es_indexAddr, es_index, es_extract, es_panic, es_callV, es_len, es_max, evStepU, evPure, evLit, evMem, evx_tmp, evx_const, evx_func, putA_some, putA_none, slot_ne, slot_eq, List.length_set, isVal, valOf, stOf, accOf, isSkip, isEnter, fnOf, argsOf, absV, abs2, abs1, scal, binL, litInt, conc, conc2, lit?, omap, parts?, partA, fillA, putCells, chunks, AV.cells, AV.notTup, Op.operands, Call.operands, stripRows, AV.strip, aggT, andThen, hlen, h0, h10, h11, hsz, hps1, hnn, hps2, htn, hxq]
  refine (writeString_ev hB6 hE6 ⟨q.toArray⟩ (by rw [bszR]; simp; omega)).mono ?_
  rintro r σ7 ⟨⟨v3, rfl⟩, hB7, hE7⟩
  simp (maxDischargeDepth := 8) [LW_nil, LW_guardS, DW_guardS, LW_guardN, DW_guardN, yielded_eq, yv, LW_val, LW_skip, LW_enter, DW_nil, DW_val, DW_skip, DW_enter, es_move, es_assign, es_pick, es_allocV, es_boxV, es_build, es_buildSlice, es_buildSliceM, es_appendM, evMut, evAppendM, rowsA, es_load, es_store, es_nilCheck, es_binOp, es_unOp, es_convert, es_makeInterface, es_makeFunc, es_slice, es_fieldAddr, es_field, es_indexAddr, es_index, es_extract, es_panic, es_callV, es_len, es_max, evStepU, evPure, evLit, evMem, evx_tmp, evx_const, evx_func, putA_some, putA_none, slot_ne, slot_eq, List.length_set, isVal, valOf, stOf, accOf, isSkip, isEnter, fnOf, argsOf, absV, abs2, abs1, scal, binL, litInt, conc, conc2, lit?, omap, parts?, partA, fillA, putCells, chunks, AV.cells, AV.notTup, Op.operands, Call.operands, stripRows, AV.strip, aggT, retK, andThen, hlen]
  refine hK _ _ ?_; clear hK K
  have hB8 : BldAt σ2 σ7 σ2.length (replA s b) := by rw [hs2]; simpa using hB7
  have hne : replA s b ≠ [] := by rw [hs2]; simp
  refine CW.seqK fun K hK => CW.region ?_
  simp (maxDischargeDepth := 16) [LW_nil, LW_guardS, DW_guardS, LW_guardN, DW_guardN, yielded_eq, yv, LW_val, LW_skip, LW_enter, DW_nil, DW_val, DW_skip, DW_enter, es_move, es_assign, es_pick, es_allocV, es_boxV, es_build, es_buildSlice, es_buildSliceM, es_appendM, evMut, evAppendM, rowsA, es_load, es_store, es_nilCheck, es_binOp, es_unOp, es_convert, es_makeInterface, es_makeFunc, es_slice, es_fieldAddr, es_field, es_indexAddr, es_index, es_extract, es_panic, es_callV, es_len, es_max, evStepU, evPure, evLit, evMem, evx_tmp, evx_const, evx_func, putA_some, putA_none, slot_ne, slot_eq, List.length_set, isVal, valOf, stOf, accOf, isSkip, isEnter, fnOf, argsOf, absV, abs2, abs1, scal, binL, litInt, conc, conc2, lit?, omap, parts?, partA, fillA, putCells, chunks, AV.cells, AV.notTup, Op.operands, Call.operands, stripRows, AV.strip, aggT, andThen, hlen, h10]
  refine (string_ev hB8 hE7 hne (by rw [hs2]; simp; omega)).mono ?_
  rintro r σ8 ⟨rfl, hB9, hE9⟩
  simp (maxDischargeDepth := 8) [LW_nil, LW_guardS, DW_guardS, LW_guardN, DW_guardN, yielded_eq, yv, LW_val, LW_skip, LW_enter, DW_nil, DW_val, DW_skip, DW_enter, es_move, es_assign, es_pick, es_allocV, es_boxV, es_build, es_buildSlice, es_buildSliceM, es_appendM, evMut, evAppendM, rowsA, es_load, es_store, es_nilCheck, es_binOp, es_unOp, es_convert, es_makeInterface, es_makeFunc, es_slice, es_fieldAddr, es_field, es_indexAddr, es_index, es_extract, es_panic, es_callV, es_len, es_max, evStepU, evPure, evLit, evMem, evx_tmp, evx_const, evx_func, putA_some, putA_none, slot_ne, slot_eq, List.length_set, isVal, valOf, stOf, accOf, isSkip, isEnter, fnOf, argsOf, absV, abs2, abs1, scal, binL, litInt, conc, conc2, lit?, omap, parts?, partA, fillA, putCells, chunks, AV.cells, AV.notTup, Op.operands, Call.operands, stripRows, AV.strip, aggT, retK, andThen, hlen]
  refine hK _ _ ?_; clear hK K
  refine CW.ret (hR0 _ _ _ ?_)
  exact ⟨.lit (.string ⟨(replA s b).toArray⟩), by simp [resultsA, omap, res_tmp, slot_eq, hlen], rfl, hE9⟩

end Go.Proofs.YtocaickbfeaiaaaDoor
