/-
  EV: the document's Parse: a row is closed; is a byte one of words?
-/
import Derived.Test.YtocaickbfeaiaaaDoorEvPut
namespace Go.Proofs.YtocaickbfeaiaaaDoor
set_option linter.unusedSimpArgs false
set_option linter.unusedVariables false
open Go.RowKit

theorem close_build (σ : Sto) (M : List TypeId) (v1 : AV) (a : Int) (hone : v1.one = true) (tm : List AV) (ds : Option Tmp) (ty : TypeId) (po : String) (af : Array Edge) (gu : Option (Nat × Bool)) (x y : Operand) (hx : evx tm x = some v1) (hy : evx tm y = some (.lit (.int .i64 a))) :
    evStep Tryd.prog M (evx tm) σ ⟨ds, .build 83 #[(2, .const (.bool true)), (1, x), (3, y)], ty, po, af, gu⟩ = some (.val (.agg [.lit (.string ⟨#[]⟩), v1, .lit (.bool true), .lit (.int .i64 a)]) σ .pure) := by
  cases v1 <;> first
    | (simp [AV.one] at hone; done)
    | simp [es_build, evStepU, evPure, hx, hy, evx_const, parts?, omap, absV, abs2, abs1, scal, fillA, putCells, AV.notTup, AV.cells]

set_option maxRecDepth 100000 in
set_option maxHeartbeats 1000000 in
theorem close_ev (σ : Sto) (R L n m B : Nat) (a : Int) (TR TL TB : TypeId) (v v1 : AV) (ls bs cs : List AV) (hR : σ[R]? = some (.cells [.asl L 0 (n + 2) 1, .asl B 0 (n + 2) 1] TR)) (hL : σ[L]? = some (.cells ls TL)) (hB : σ[B]? = some (.cells bs TB)) (hn : n + 2 ≤ ls.length) (hv : ls[n]? = some v) (hv1 : ls[n + 1]? = some v1) (hb : bs[n + 1]? = some (.lit (.int .i64 a)))
    (hold : OldAt σ v m cs) (hone : v1.one = true) (hnmax : n ≤ 1000000) (hm : m ≤ 1000000) (hRL : R ≠ L) (hRB : R ≠ B) (hLB : L ≠ B) (hvL : ¬ isId v L) (hvR : ¬ isId v R) :
    JC Tryd.prog EL 32 [.ptr R 0] σ (PutPost ((σ ++ [AObj.cells [.lit (.string ⟨#[]⟩), v1, .lit (.bool true), .lit (.int .i64 a)] 83]).set R (.cells [.asl L 0 (n + 1) 1, .asl B 0 (n + 1) 1] TR)) R L n m TL v ls cs [.lit (.string ⟨#[]⟩), v1, .lit (.bool true), .lit (.int .i64 a)]) := by
  refine JC.start (fn := Tryd.f32) (M := [76, 77, 37]) rfl rfl rfl (by simp) fun tm hlen hs => ?_
  have h0 := hs 0 _ rfl
  clear hs
  simp at hlen
  have lR := (List.getElem?_eq_some_iff.1 hR).1
  have lL := (List.getElem?_eq_some_iff.1 hL).1
  have lB := (List.getElem?_eq_some_iff.1 hB).1
  have lbs := (List.getElem?_eq_some_iff.1 hb).1
  have w1 : IntKind.i64.wrap ((n : Int) + 2 - 1) = (n : Int) + 1 := by rw [show (n : Int) + 2 - 1 = n + 1 by omega]; exact IntWalk.i64_in _ ⟨by omega, by omega⟩
  have w2 : (n : Int) + 1 < (n : Int) + 2 := by omega
  have w3 : (0 : Int) ≤ (n : Int) + 1 := by omega
  have w4 : ((n : Int) + 1).toNat = n + 1 := by omega
  have w5 : (n : Int) + 1 ≤ (n : Int) + 2 := by omega
  have hc1 : AV.cells v1 = [v1] := by cases v1 <;> first | rfl | simp [AV.one] at hone
  have ht1 : AV.notTup v1 = true := by cases v1 <;> first | rfl | simp [AV.one] at hone
  have gS : ∀ X, (σ ++ [X])[σ.length]? = some X := fun X => by rw [List.getElem?_append_right (Nat.le_refl _)]; simp
  have hbu := close_build σ [76, 77, 37] v1 a hone
  refine JD.hide fun R0 hR0 => ?_
  refine JD.seqK fun K hK => JD.region ?_
  simp (maxDischargeDepth := 8) [LW_nil, LW_guardS, DW_guardS, LW_guardN, DW_guardN, yielded_eq, yv, LW_val, LW_skip, LW_enter, DW_nil, DW_val, DW_skip, DW_enter, es_move, es_assign, es_pick, es_allocV, es_boxV, es_build, es_buildSlice, es_buildSliceM, es_appendM, evMut, evAppendM, rowsA, es_load, es_store, es_nilCheck, es_binOp, es_unOp, es_convert, es_makeInterface, es_makeFunc, es_slice, es_fieldAddr, es_field, es_indexAddr, es_index, es_extract, es_panic, es_callV, es_len, es_max, evStepU, evPure, evLit, evMem, evx_tmp, evx_const, evx_func, putA_some, putA_none, slot_ne, slot_eq, List.length_set, isVal, valOf, stOf, accOf, isSkip, isEnter, fnOf, argsOf, absV, abs2, abs1, scal, binL, litInt, conc, conc2, lit?, omap, parts?, partA, fillA, putCells, chunks, AV.cells, AV.notTup, Op.operands, Call.operands, stripRows, AV.strip, aggT, LJ_nil, LJ_guardS, LJ_guardN, LJ_val, LJ_skip, LJ_enter, andThen, hlen, h0, hR, w1]
  refine hK _ _ ?_; clear hK K
  refine JD.seqK fun K hK => J.cw (CW.draw (by kernel_rfl) ?_)
  simp (maxDischargeDepth := 8) [LW_nil, LW_guardS, DW_guardS, LW_guardN, DW_guardN, yielded_eq, yv, LW_val, LW_skip, LW_enter, DW_nil, DW_val, DW_skip, DW_enter, es_move, es_assign, es_pick, es_allocV, es_boxV, es_build, es_buildSlice, es_buildSliceM, es_appendM, evMut, evAppendM, rowsA, es_load, es_store, es_nilCheck, es_binOp, es_unOp, es_convert, es_makeInterface, es_makeFunc, es_slice, es_fieldAddr, es_field, es_indexAddr, es_index, es_extract, es_panic, es_callV, es_len, es_max, evStepU, evPure, evLit, evMem, evx_tmp, evx_const, evx_func, putA_some, putA_none, slot_ne, slot_eq, List.length_set, isVal, valOf, stOf, accOf, isSkip, isEnter, fnOf, argsOf, absV, abs2, abs1, scal, binL, litInt, conc, conc2, lit?, omap, parts?, partA, fillA, putCells, chunks, AV.cells, AV.notTup, Op.operands, Call.operands, stripRows, AV.strip, aggT, -es_build, hbu, andThen, hlen, h0, hR, hL, hB, hv1, hb, gS, List.getElem?_append_left lR, List.getElem?_append_left lL, List.getElem?_append_left lB, w1, w2, w3, w4]
  refine ⟨drawOk_ren [R, L, B, σ.length] (by simp; omega) [.pure, .pure, .pure, .reads 0, .pure, .pure, .reads 1, .pure, .pure, .pure, .reads 0, .pure, .pure, .reads 2, .pure, .news 3, .writes 3] (by kernel_rfl) (by kernel_rfl), hK _ _ ?_⟩; clear hK K
  have lR1 : R < σ.length + 1 := by omega
  refine JD.seqK fun K hK => JD.region ?_
  simp (maxDischargeDepth := 8) [LW_nil, LW_guardS, DW_guardS, LW_guardN, DW_guardN, yielded_eq, yv, LW_val, LW_skip, LW_enter, DW_nil, DW_val, DW_skip, DW_enter, es_move, es_assign, es_pick, es_allocV, es_boxV, es_build, es_buildSlice, es_buildSliceM, es_appendM, evMut, evAppendM, rowsA, es_load, es_store, es_nilCheck, es_binOp, es_unOp, es_convert, es_makeInterface, es_makeFunc, es_slice, es_fieldAddr, es_field, es_indexAddr, es_index, es_extract, es_panic, es_callV, es_len, es_max, evStepU, evPure, evLit, evMem, evx_tmp, evx_const, evx_func, putA_some, putA_none, slot_ne, slot_eq, List.length_set, isVal, valOf, stOf, accOf, isSkip, isEnter, fnOf, argsOf, absV, abs2, abs1, scal, binL, litInt, conc, conc2, lit?, omap, parts?, partA, fillA, putCells, chunks, AV.cells, AV.notTup, Op.operands, Call.operands, stripRows, AV.strip, aggT, LJ_nil, LJ_guardS, LJ_guardN, LJ_val, LJ_skip, LJ_enter, andThen, hlen, h0, hR, List.getElem?_append_left lR, w1, w2, w3, w4, w5]
  refine hK _ _ ?_; clear hK K
  refine JD.seqK fun K hK => JD.region ?_
  simp (maxDischargeDepth := 8) [LW_nil, LW_guardS, DW_guardS, LW_guardN, DW_guardN, yielded_eq, yv, LW_val, LW_skip, LW_enter, DW_nil, DW_val, DW_skip, DW_enter, es_move, es_assign, es_pick, es_allocV, es_boxV, es_build, es_buildSlice, es_buildSliceM, es_appendM, evMut, evAppendM, rowsA, es_load, es_store, es_nilCheck, es_binOp, es_unOp, es_convert, es_makeInterface, es_makeFunc, es_slice, es_fieldAddr, es_field, es_indexAddr, es_index, es_extract, es_panic, es_callV, es_len, es_max, evStepU, evPure, evLit, evMem, evx_tmp, evx_const, evx_func, putA_some, putA_none, slot_ne, slot_eq, List.length_set, isVal, valOf, stOf, accOf, isSkip, isEnter, fnOf, argsOf, absV, abs2, abs1, scal, binL, litInt, conc, conc2, lit?, omap, parts?, partA, fillA, putCells, chunks, AV.cells, AV.notTup, Op.operands, Call.operands, stripRows, AV.strip, aggT, LJ_nil, LJ_guardS, LJ_guardN, LJ_val, LJ_skip, LJ_enter, andThen, hlen, h0, hR, List.getElem?_append_left lR, w1, w2, w3, w4, w5, lR1]
  refine hK _ _ ?_; clear hK K
  refine JD.region ?_
  have hne : R ≠ σ.length := by omega
  simp (maxDischargeDepth := 8) [LW_nil, LW_guardS, DW_guardS, LW_guardN, DW_guardN, yielded_eq, yv, LW_val, LW_skip, LW_enter, DW_nil, DW_val, DW_skip, DW_enter, es_move, es_assign, es_pick, es_allocV, es_boxV, es_build, es_buildSlice, es_buildSliceM, es_appendM, evMut, evAppendM, rowsA, es_load, es_store, es_nilCheck, es_binOp, es_unOp, es_convert, es_makeInterface, es_makeFunc, es_slice, es_fieldAddr, es_field, es_indexAddr, es_index, es_extract, es_panic, es_callV, es_len, es_max, evStepU, evPure, evLit, evMem, evx_tmp, evx_const, evx_func, putA_some, putA_none, slot_ne, slot_eq, List.length_set, isVal, valOf, stOf, accOf, isSkip, isEnter, fnOf, argsOf, absV, abs2, abs1, scal, binL, litInt, conc, conc2, lit?, omap, parts?, partA, fillA, putCells, chunks, AV.cells, AV.notTup, Op.operands, Call.operands, stripRows, AV.strip, aggT, LJ_nil, LJ_guardS, LJ_guardN, LJ_val, LJ_skip, LJ_enter, andThen, hlen, h0, hne, gS]
  refine (put_ev _ R L n m 0 0 TR TL v (.asl B 0 (n + 1) 1) ls cs _ (List.getElem?_set_self (by simp; omega)) (by rw [List.getElem?_set_ne hRL, List.getElem?_append_left lL]; exact hL) (by omega) hv ?_ rfl hnmax hm hRL hvL hvR).mono ?_
  · rcases hold with h | ⟨id, rfl, ho, hc⟩
    · exact .inl h
    · exact .inr ⟨id, rfl, by rw [List.getElem?_set_ne (fun e => hvR ⟨m, by rw [e]⟩), List.getElem?_append_left (List.getElem?_eq_some_iff.1 ho).1]; exact ho, hc⟩
  rintro r σ' h
  have hr := h.1
  subst hr
  simp only [retK]
  refine hR0 _ _ _ ?_
  exact ⟨.tup [], by simp [resultsA, omap], h⟩

theorem sgn_list (b : UInt8) : ([95, 45, 46, 43, 42, 47, 61, 60, 62] : List UInt8).contains b = true ↔ ∃ i : Nat, ∃ h : i < 9, ([95, 45, 46, 43, 42, 47, 61, 60, 62] : List UInt8)[i] = b := by
  simp only [List.contains_iff_mem, List.mem_iff_getElem]
  constructor
  · rintro ⟨i, h, e⟩; exact ⟨i, h, e⟩
  · rintro ⟨i, h, e⟩; exact ⟨i, h, e⟩

set_option maxRecDepth 100000 in
set_option maxHeartbeats 1000000 in
theorem sign_ev (b : UInt8) (σ : Sto) : CallW Tryd.prog EL 33 [.lit (.int .u8 b.toNat)] σ fun r σ' => r = .ret (.lit (.bool (sgn b))) ∧ σ' = σ := by
  refine CallW.start (fn := Tryd.f33) (M := []) rfl rfl rfl rfl (by simp) fun tm hlen hs => ?_
  have h0 := hs 0 _ rfl
  clear hs
  simp at hlen
  have e1 : (97 ≤ b) = ((97 : Int) ≤ (b.toNat : Int)) := by rw [UInt8.le_iff_toNat_le]; simp only [UInt8.reduceToNat]; exact propext ⟨fun h => by omega, fun h => by omega⟩
  have e2 : (b ≤ 122) = ((b.toNat : Int) ≤ 122) := by rw [UInt8.le_iff_toNat_le]; simp only [UInt8.reduceToNat]; exact propext ⟨fun h => by omega, fun h => by omega⟩
  have e3 : (48 ≤ b) = ((48 : Int) ≤ (b.toNat : Int)) := by rw [UInt8.le_iff_toNat_le]; simp only [UInt8.reduceToNat]; exact propext ⟨fun h => by omega, fun h => by omega⟩
  have e4 : (b ≤ 57) = ((b.toNat : Int) ≤ 57) := by rw [UInt8.le_iff_toNat_le]; simp only [UInt8.reduceToNat]; exact propext ⟨fun h => by omega, fun h => by omega⟩
  refine CW.hide fun R0 hR0 => ?_
  refine CW.seqK fun K hK => CW.region ?_
  simp [LW_nil, LW_guardS, DW_guardS, LW_guardN, DW_guardN, yielded_eq, yv, LW_val, LW_skip, LW_enter, DW_nil, DW_val, DW_skip, DW_enter, es_move, es_assign, es_pick, es_allocV, es_boxV, es_build, es_buildSlice, es_buildSliceM, es_appendM, evMut, evAppendM, rowsA, es_load, es_store, es_nilCheck, es_binOp, es_unOp, es_convert, es_makeInterface, es_makeFunc, es_slice, es_fieldAddr, es_field, es_indexAddr, es_index, es_extract, es_panic, es_callV, es_len, es_max, evStepU, evPure, evLit, evMem, evx_tmp, evx_const, evx_func, putA_some, putA_none, slot_ne, slot_eq, List.length_set, isVal, valOf, stOf, accOf, isSkip, isEnter, fnOf, argsOf, absV, abs2, abs1, scal, binL, litInt, conc, conc2, lit?, omap, parts?, partA, fillA, putCells, chunks, AV.cells, AV.notTup, Op.operands, Call.operands, stripRows, AV.strip, aggT, andThen, hlen, h0]
  refine hK _ _ ?_; clear hK K
  refine CW.seqK fun K hK => ?_
  refine CW.seqK fun K2 hK2 => CW.region ?_
  have fin : ∀ (tm2 : List AV) (c : Bool), tm2.length = 30 → slot tm2 0 = .lit (.int .u8 b.toNat) → slot tm2 18 = .lit (.bool c) → c = (decide (97 ≤ b) && decide (b ≤ 122) || decide (48 ≤ b) && decide (b ≤ 57)) → K2 tm2 σ := by
    intro tm2 c hlen h0 h18 hc
    refine hK2 _ _ ?_; clear hK2 K2
    refine CW.cond (t := c) (by rw [evx_tmp, h18]) ?_
    cases c with
    | true =>
      refine CW.seqK fun K2 hK2 => CW.region ?_
      simp [LW_nil, LW_guardS, DW_guardS, LW_guardN, DW_guardN, yielded_eq, yv, LW_val, LW_skip, LW_enter, DW_nil, DW_val, DW_skip, DW_enter, es_move, es_assign, es_pick, es_allocV, es_boxV, es_build, es_buildSlice, es_buildSliceM, es_appendM, evMut, evAppendM, rowsA, es_load, es_store, es_nilCheck, es_binOp, es_unOp, es_convert, es_makeInterface, es_makeFunc, es_slice, es_fieldAddr, es_field, es_indexAddr, es_index, es_extract, es_panic, es_callV, es_len, es_max, evStepU, evPure, evLit, evMem, evx_tmp, evx_const, evx_func, putA_some, putA_none, slot_ne, slot_eq, List.length_set, isVal, valOf, stOf, accOf, isSkip, isEnter, fnOf, argsOf, absV, abs2, abs1, scal, binL, litInt, conc, conc2, lit?, omap, parts?, partA, fillA, putCells, chunks, AV.cells, AV.notTup, Op.operands, Call.operands, stripRows, AV.strip, aggT, andThen, hlen, h0]
      refine hK2 _ _ ?_; clear hK2 K2
      refine CW.ret ?_
      simp only [andThen]
      refine hR0 _ _ _ ?_
      refine ⟨.lit (.bool true), by simp [resultsA, omap, res_tmp, slot_eq, hlen], ?_, rfl⟩
      unfold sgn
      rw [← hc]; rfl
    | false =>
      refine CW.skip ?_
      simp only [andThen]
      refine hK _ _ ?_; clear hK K
      refine CW.seqK fun K2 hK2 => CW.region ?_
      simp [LW_nil, LW_guardS, DW_guardS, LW_guardN, DW_guardN, yielded_eq, yv, LW_val, LW_skip, LW_enter, DW_nil, DW_val, DW_skip, DW_enter, es_move, es_assign, es_pick, es_allocV, es_boxV, es_build, es_buildSlice, es_buildSliceM, es_appendM, evMut, evAppendM, rowsA, es_load, es_store, es_nilCheck, es_binOp, es_unOp, es_convert, es_makeInterface, es_makeFunc, es_slice, es_fieldAddr, es_field, es_indexAddr, es_index, es_extract, es_panic, es_callV, es_len, es_max, evStepU, evPure, evLit, evMem, evx_tmp, evx_const, evx_func, putA_some, putA_none, slot_ne, slot_eq, List.length_set, isVal, valOf, stOf, accOf, isSkip, isEnter, fnOf, argsOf, absV, abs2, abs1, scal, binL, litInt, conc, conc2, lit?, omap, parts?, partA, fillA, putCells, chunks, AV.cells, AV.notTup, Op.operands, Call.operands, stripRows, AV.strip, aggT, andThen, hlen, h0]
      refine hK2 _ _ ?_; clear hK2 K2
      refine CW.seqK fun K hK => ?_
      refine CW.seqK fun K2 hK2 => CW.region ?_
      simp [LW_nil, LW_guardS, DW_guardS, LW_guardN, DW_guardN, yielded_eq, yv, LW_val, LW_skip, LW_enter, DW_nil, DW_val, DW_skip, DW_enter, es_move, es_assign, es_pick, es_allocV, es_boxV, es_build, es_buildSlice, es_buildSliceM, es_appendM, evMut, evAppendM, rowsA, es_load, es_store, es_nilCheck, es_binOp, es_unOp, es_convert, es_makeInterface, es_makeFunc, es_slice, es_fieldAddr, es_field, es_indexAddr, es_index, es_extract, es_panic, es_callV, es_len, es_max, evStepU, evPure, evLit, evMem, evx_tmp, evx_const, evx_func, putA_some, putA_none, slot_ne, slot_eq, List.length_set, isVal, valOf, stOf, accOf, isSkip, isEnter, fnOf, argsOf, absV, abs2, abs1, scal, binL, litInt, conc, conc2, lit?, omap, parts?, partA, fillA, putCells, chunks, AV.cells, AV.notTup, Op.operands, Call.operands, stripRows, AV.strip, aggT, andThen, hlen, h0]
      refine hK2 _ _ ?_; clear hK2 K2
      refine CW.block ?_
      refine CW.hide fun R hR => ?_
      refine CW.loopI (fun k tm σ1 => ∃ (i : Nat), k = 9 - i ∧ i ≤ 9 ∧ tm.length = 30 ∧ slot tm 0 = .lit (.int .u8 b.toNat) ∧ slot tm 3 = .lit (.string ⟨#[95, 45, 46, 43, 42, 47, 61, 60, 62]⟩) ∧ slot tm 4 = .lit (.int .i64 i) ∧ σ1 = σ ∧ ∀ j : Nat, (h : j < 9) → j < i → ([95, 45, 46, 43, 42, 47, 61, 60, 62] : List UInt8)[j] ≠ b) ?_ 9 _ _ ?_
      rotate_left
      · exact ⟨0, rfl, by omega, by simp [hlen], by simp [slot_ne, h0], by simp [slot_ne, slot_eq, hlen], by simp [slot_eq, hlen], rfl, fun j h hj => by omega⟩
      clear h0 hlen h18 tm2
      rintro k tm σ1 ⟨i, rfl, hi, hlen, h0, h3, h4, rfl, hno⟩
      refine CW.hide fun R2 hR2 => ?_
      refine CW.seqK fun K3 hK3 => ?_
      have hsz : (⟨#[95, 45, 46, 43, 42, 47, 61, 60, 62]⟩ : ByteArray).size = 9 := rfl
      by_cases hlt : i < 9
      · have hlt' : (i : Int) < 9 := by omega
        refine CW.seqK fun K4 hK4 => CW.region ?_
        simp (maxDischargeDepth := 8) [LW_nil, LW_guardS, DW_guardS, LW_guardN, DW_guardN, yielded_eq, yv, LW_val, LW_skip, LW_enter, DW_nil, DW_val, DW_skip, DW_enter, es_move, es_assign, es_pick, es_allocV, es_boxV, es_build, es_buildSlice, es_buildSliceM, es_appendM, evMut, evAppendM, rowsA, es_load, es_store, es_nilCheck, es_binOp, es_unOp, es_convert, es_makeInterface, es_makeFunc, es_slice, es_fieldAddr, es_field, es_indexAddr, es_index, es_extract, es_panic, es_callV, es_len, es_max, evStepU, evPure, evLit, evMem, evx_tmp, evx_const, evx_func, putA_some, putA_none, slot_ne, slot_eq, List.length_set, isVal, valOf, stOf, accOf, isSkip, isEnter, fnOf, argsOf, absV, abs2, abs1, scal, binL, litInt, conc, conc2, lit?, omap, parts?, partA, fillA, putCells, chunks, AV.cells, AV.notTup, Op.operands, Call.operands, stripRows, AV.strip, aggT, andThen, hlen, h0, h3, h4, hsz, hlt, hlt']
        refine hK4 _ _ ?_; clear hK4 K4
        refine CW.cond (t := true) (by simp [evx_tmp, slot_eq, hlen, hlt, hlt']) (CW.skip ?_)
        simp only [andThen]
        refine hK3 _ _ ?_; clear hK3 K3
        have hw : IntKind.i64.wrap ((i : Int) + 1) = ((i + 1 : Nat) : Int) := wrap_succ (by omega)
        have hg : ∀ (l : List UInt8) (h : i < l.length), (⟨l.toArray⟩ : ByteArray)[i]? = some (l[i]) := fun l h => by
          rw [getElem?_pos (⟨l.toArray⟩ : ByteArray) i (by simpa [ByteArray.size] using h)]
          rfl
        have hg' := hg [95, 45, 46, 43, 42, 47, 61, 60, 62] hlt
        generalize hx : ([95, 45, 46, 43, 42, 47, 61, 60, 62] : List UInt8)[i] = x at hg'
        refine CW.seqK fun K3 hK3 => CW.block ?_
        refine CW.seqK fun K4 hK4 => CW.region ?_
        by_cases hxb : x = b
        · subst hxb
          simp (maxDischargeDepth := 8) [LW_nil, LW_guardS, DW_guardS, LW_guardN, DW_guardN, yielded_eq, yv, LW_val, LW_skip, LW_enter, DW_nil, DW_val, DW_skip, DW_enter, es_move, es_assign, es_pick, es_allocV, es_boxV, es_build, es_buildSlice, es_buildSliceM, es_appendM, evMut, evAppendM, rowsA, es_load, es_store, es_nilCheck, es_binOp, es_unOp, es_convert, es_makeInterface, es_makeFunc, es_slice, es_fieldAddr, es_field, es_indexAddr, es_index, es_extract, es_panic, es_callV, es_len, es_max, evStepU, evPure, evLit, evMem, evx_tmp, evx_const, evx_func, putA_some, putA_none, slot_ne, slot_eq, List.length_set, isVal, valOf, stOf, accOf, isSkip, isEnter, fnOf, argsOf, absV, abs2, abs1, scal, binL, litInt, conc, conc2, lit?, omap, parts?, partA, fillA, putCells, chunks, AV.cells, AV.notTup, Op.operands, Call.operands, stripRows, AV.strip, aggT, andThen, hlen, h0, h3, h4, hg', hsz]
          refine hK4 _ _ ?_; clear hK4 K4
          refine CW.cond (t := true) (by simp [evx_tmp, slot_eq, hlen]) ?_
          refine CW.seqK fun K4 hK4 => CW.region ?_
          simp (maxDischargeDepth := 8) [LW_nil, LW_guardS, DW_guardS, LW_guardN, DW_guardN, yielded_eq, yv, LW_val, LW_skip, LW_enter, DW_nil, DW_val, DW_skip, DW_enter, es_move, es_assign, es_pick, es_allocV, es_boxV, es_build, es_buildSlice, es_buildSliceM, es_appendM, evMut, evAppendM, rowsA, es_load, es_store, es_nilCheck, es_binOp, es_unOp, es_convert, es_makeInterface, es_makeFunc, es_slice, es_fieldAddr, es_field, es_indexAddr, es_index, es_extract, es_panic, es_callV, es_len, es_max, evStepU, evPure, evLit, evMem, evx_tmp, evx_const, evx_func, putA_some, putA_none, slot_ne, slot_eq, List.length_set, isVal, valOf, stOf, accOf, isSkip, isEnter, fnOf, argsOf, absV, abs2, abs1, scal, binL, litInt, conc, conc2, lit?, omap, parts?, partA, fillA, putCells, chunks, AV.cells, AV.notTup, Op.operands, Call.operands, stripRows, AV.strip, aggT, andThen, hlen]
          refine hK4 _ _ ?_; clear hK4 K4
          refine CW.ret ?_
          simp only [outOf, andThen]
          refine hR2 _ _ _ (hR _ _ _ ?_)
          simp only [outOf, andThen]
          refine hR0 _ _ _ ?_
          refine ⟨.lit (.bool true), by simp [resultsA, omap, res_tmp, slot_eq, hlen], ?_, rfl⟩
          have : sgn x = true := by
            unfold sgn
            rw [Bool.or_eq_true]
            exact .inr ((sgn_list x).2 ⟨i, hlt, hx⟩)
          rw [this]
        · have hne : ¬ (x.toNat : Int) = (b.toNat : Int) := fun e => hxb (UInt8.toNat_inj.1 (by omega))
          simp (maxDischargeDepth := 8) [LW_nil, LW_guardS, DW_guardS, LW_guardN, DW_guardN, yielded_eq, yv, LW_val, LW_skip, LW_enter, DW_nil, DW_val, DW_skip, DW_enter, es_move, es_assign, es_pick, es_allocV, es_boxV, es_build, es_buildSlice, es_buildSliceM, es_appendM, evMut, evAppendM, rowsA, es_load, es_store, es_nilCheck, es_binOp, es_unOp, es_convert, es_makeInterface, es_makeFunc, es_slice, es_fieldAddr, es_field, es_indexAddr, es_index, es_extract, es_panic, es_callV, es_len, es_max, evStepU, evPure, evLit, evMem, evx_tmp, evx_const, evx_func, putA_some, putA_none, slot_ne, slot_eq, List.length_set, isVal, valOf, stOf, accOf, isSkip, isEnter, fnOf, argsOf, absV, abs2, abs1, scal, binL, litInt, conc, conc2, lit?, omap, parts?, partA, fillA, putCells, chunks, AV.cells, AV.notTup, Op.operands, Call.operands, stripRows, AV.strip, aggT, andThen, hlen, h0, h3, h4, hg', hsz, hne]
          refine hK4 _ _ ?_; clear hK4 K4
          refine CW.cond (t := false) (by simp [evx_tmp, slot_eq, hlen, hne]) (CW.skip ?_)
          simp only [outOf, andThen]
          refine hK3 _ _ ?_; clear hK3 K3
          refine CW.region ?_
          simp (maxDischargeDepth := 8) [LW_nil, LW_guardS, DW_guardS, LW_guardN, DW_guardN, yielded_eq, yv, LW_val, LW_skip, LW_enter, DW_nil, DW_val, DW_skip, DW_enter, es_move, es_assign, es_pick, es_allocV, es_boxV, es_build, es_buildSlice, es_buildSliceM, es_appendM, evMut, evAppendM, rowsA, es_load, es_store, es_nilCheck, es_binOp, es_unOp, es_convert, es_makeInterface, es_makeFunc, es_slice, es_fieldAddr, es_field, es_indexAddr, es_index, es_extract, es_panic, es_callV, es_len, es_max, evStepU, evPure, evLit, evMem, evx_tmp, evx_const, evx_func, putA_some, putA_none, slot_ne, slot_eq, List.length_set, isVal, valOf, stOf, accOf, isSkip, isEnter, fnOf, argsOf, absV, abs2, abs1, scal, binL, litInt, conc, conc2, lit?, omap, parts?, partA, fillA, putCells, chunks, AV.cells, AV.notTup, Op.operands, Call.operands, stripRows, AV.strip, aggT, hlen, h4, hw]
          refine hR2 _ _ _ ⟨9 - (i + 1), by omega, i + 1, rfl, by omega, by simp [hlen], by simp [slot_ne, h0], by simp [slot_ne, h3], by simp [slot_eq, hlen], rfl, fun j h hj => ?_⟩
          rcases Nat.lt_or_ge j i with hji | hji
          · exact hno j h hji
          · obtain rfl : j = i := by omega
            rw [hx]; exact hxb
      · have hlt' : ¬ (i : Int) < 9 := by omega
        refine CW.seqK fun K4 hK4 => CW.region ?_
        simp (maxDischargeDepth := 8) [LW_nil, LW_guardS, DW_guardS, LW_guardN, DW_guardN, yielded_eq, yv, LW_val, LW_skip, LW_enter, DW_nil, DW_val, DW_skip, DW_enter, es_move, es_assign, es_pick, es_allocV, es_boxV, es_build, es_buildSlice, es_buildSliceM, es_appendM, evMut, evAppendM, rowsA, es_load, es_store, es_nilCheck, es_binOp, es_unOp, es_convert, es_makeInterface, es_makeFunc, es_slice, es_fieldAddr, es_field, es_indexAddr, es_index, es_extract, es_panic, es_callV, es_len, es_max, evStepU, evPure, evLit, evMem, evx_tmp, evx_const, evx_func, putA_some, putA_none, slot_ne, slot_eq, List.length_set, isVal, valOf, stOf, accOf, isSkip, isEnter, fnOf, argsOf, absV, abs2, abs1, scal, binL, litInt, conc, conc2, lit?, omap, parts?, partA, fillA, putCells, chunks, AV.cells, AV.notTup, Op.operands, Call.operands, stripRows, AV.strip, aggT, andThen, hlen, h0, h3, h4, hsz, hlt, hlt']
        refine hK4 _ _ ?_; clear hK4 K4
        refine CW.cond (t := false) (by simp [evx_tmp, slot_eq, hlen, hlt, hlt']) (CW.exit ?_)
        simp only [andThen]
        refine hR2 _ _ _ (hR _ _ _ ?_)
        simp only [outOf, if_true, andThen]
        refine hK _ _ ?_
        refine CW.seqK fun K5 hK5 => CW.region ?_
        simp (maxDischargeDepth := 8) [LW_nil, LW_guardS, DW_guardS, LW_guardN, DW_guardN, yielded_eq, yv, LW_val, LW_skip, LW_enter, DW_nil, DW_val, DW_skip, DW_enter, es_move, es_assign, es_pick, es_allocV, es_boxV, es_build, es_buildSlice, es_buildSliceM, es_appendM, evMut, evAppendM, rowsA, es_load, es_store, es_nilCheck, es_binOp, es_unOp, es_convert, es_makeInterface, es_makeFunc, es_slice, es_fieldAddr, es_field, es_indexAddr, es_index, es_extract, es_panic, es_callV, es_len, es_max, evStepU, evPure, evLit, evMem, evx_tmp, evx_const, evx_func, putA_some, putA_none, slot_ne, slot_eq, List.length_set, isVal, valOf, stOf, accOf, isSkip, isEnter, fnOf, argsOf, absV, abs2, abs1, scal, binL, litInt, conc, conc2, lit?, omap, parts?, partA, fillA, putCells, chunks, AV.cells, AV.notTup, Op.operands, Call.operands, stripRows, AV.strip, aggT, andThen, hlen]
        refine hK5 _ _ ?_
        refine CW.ret (hR0 _ _ _ ?_)
        refine ⟨.lit (.bool false), by simp [resultsA, omap, res_tmp, slot_eq, hlen], ?_, rfl⟩
        have : sgn b = false := by
          unfold sgn
          rw [← hc, Bool.false_or]
          rw [← Bool.not_eq_true, sgn_list]
          rintro ⟨j, h, e⟩
          exact hno j h (by omega) e
        rw [this]
  by_cases p1 : (97 : Int) ≤ (b.toNat : Int)
  · by_cases p2 : (b.toNat : Int) ≤ 122
    · simp (maxDischargeDepth := 8) [LW_nil, LW_guardS, DW_guardS, LW_guardN, DW_guardN, yielded_eq, yv, LW_val, LW_skip, LW_enter, DW_nil, DW_val, DW_skip, DW_enter, es_move, es_assign, es_pick, es_allocV, es_boxV, es_build, es_buildSlice, es_buildSliceM, es_appendM, evMut, evAppendM, rowsA, es_load, es_store, es_nilCheck, es_binOp, es_unOp, es_convert, es_makeInterface, es_makeFunc, es_slice, es_fieldAddr, es_field, es_indexAddr, es_index, es_extract, es_panic, es_callV, es_len, es_max, evStepU, evPure, evLit, evMem, evx_tmp, evx_const, evx_func, putA_some, putA_none, slot_ne, slot_eq, List.length_set, isVal, valOf, stOf, accOf, isSkip, isEnter, fnOf, argsOf, absV, abs2, abs1, scal, binL, litInt, conc, conc2, lit?, omap, parts?, partA, fillA, putCells, chunks, AV.cells, AV.notTup, Op.operands, Call.operands, stripRows, AV.strip, aggT, andThen, hlen, h0, p1, p2]
      exact fin _ true (by simp [hlen]) (by simp [slot_ne, h0]) (by simp [slot_eq, hlen]) (by simp [e1, e2, p1, p2])
    · have p3 : (48 : Int) ≤ (b.toNat : Int) := by omega
      have p4 : ¬ (b.toNat : Int) ≤ 57 := by omega
      simp (maxDischargeDepth := 8) [LW_nil, LW_guardS, DW_guardS, LW_guardN, DW_guardN, yielded_eq, yv, LW_val, LW_skip, LW_enter, DW_nil, DW_val, DW_skip, DW_enter, es_move, es_assign, es_pick, es_allocV, es_boxV, es_build, es_buildSlice, es_buildSliceM, es_appendM, evMut, evAppendM, rowsA, es_load, es_store, es_nilCheck, es_binOp, es_unOp, es_convert, es_makeInterface, es_makeFunc, es_slice, es_fieldAddr, es_field, es_indexAddr, es_index, es_extract, es_panic, es_callV, es_len, es_max, evStepU, evPure, evLit, evMem, evx_tmp, evx_const, evx_func, putA_some, putA_none, slot_ne, slot_eq, List.length_set, isVal, valOf, stOf, accOf, isSkip, isEnter, fnOf, argsOf, absV, abs2, abs1, scal, binL, litInt, conc, conc2, lit?, omap, parts?, partA, fillA, putCells, chunks, AV.cells, AV.notTup, Op.operands, Call.operands, stripRows, AV.strip, aggT, andThen, hlen, h0, p1, p2, p3, p4]
      exact fin _ false (by simp [hlen]) (by simp [slot_ne, h0]) (by simp [slot_eq, hlen]) (by simp [e1, e2, e3, e4, p1, p2, p3, p4])
  · by_cases p3 : (48 : Int) ≤ (b.toNat : Int)
    · by_cases p4 : (b.toNat : Int) ≤ 57
      · simp (maxDischargeDepth := 8) [LW_nil, LW_guardS, DW_guardS, LW_guardN, DW_guardN, yielded_eq, yv, LW_val, LW_skip, LW_enter, DW_nil, DW_val, DW_skip, DW_enter, es_move, es_assign, es_pick, es_allocV, es_boxV, es_build, es_buildSlice, es_buildSliceM, es_appendM, evMut, evAppendM, rowsA, es_load, es_store, es_nilCheck, es_binOp, es_unOp, es_convert, es_makeInterface, es_makeFunc, es_slice, es_fieldAddr, es_field, es_indexAddr, es_index, es_extract, es_panic, es_callV, es_len, es_max, evStepU, evPure, evLit, evMem, evx_tmp, evx_const, evx_func, putA_some, putA_none, slot_ne, slot_eq, List.length_set, isVal, valOf, stOf, accOf, isSkip, isEnter, fnOf, argsOf, absV, abs2, abs1, scal, binL, litInt, conc, conc2, lit?, omap, parts?, partA, fillA, putCells, chunks, AV.cells, AV.notTup, Op.operands, Call.operands, stripRows, AV.strip, aggT, andThen, hlen, h0, p1, p3, p4]
        exact fin _ true (by simp [hlen]) (by simp [slot_ne, h0]) (by simp [slot_eq, hlen]) (by simp [e1, e2, e3, e4, p1, p3, p4])
      · simp (maxDischargeDepth := 8) [LW_nil, LW_guardS, DW_guardS, LW_guardN, DW_guardN, yielded_eq, yv, LW_val, LW_skip, LW_enter, DW_nil, DW_val, DW_skip, DW_enter, es_move, es_assign, es_pick, es_allocV, es_boxV, es_build, es_buildSlice, es_buildSliceM, es_appendM, evMut, evAppendM, rowsA, es_load, es_store, es_nilCheck, es_binOp, es_unOp, es_convert, es_makeInterface, es_makeFunc, es_slice, es_fieldAddr, es_field, es_indexAddr, es_index, es_extract, es_panic, es_callV, es_len, es_max, evStepU, evPure, evLit, evMem, evx_tmp, evx_const, evx_func, putA_some, putA_none, slot_ne, slot_eq, List.length_set, isVal, valOf, stOf, accOf, isSkip, isEnter, fnOf, argsOf, absV, abs2, abs1, scal, binL, litInt, conc, conc2, lit?, omap, parts?, partA, fillA, putCells, chunks, AV.cells, AV.notTup, Op.operands, Call.operands, stripRows, AV.strip, aggT, andThen, hlen, h0, p1, p3, p4]
        exact fin _ false (by simp [hlen]) (by simp [slot_ne, h0]) (by simp [slot_eq, hlen]) (by simp [e1, e2, e3, e4, p1, p3, p4])
    · simp (maxDischargeDepth := 8) [LW_nil, LW_guardS, DW_guardS, LW_guardN, DW_guardN, yielded_eq, yv, LW_val, LW_skip, LW_enter, DW_nil, DW_val, DW_skip, DW_enter, es_move, es_assign, es_pick, es_allocV, es_boxV, es_build, es_buildSlice, es_buildSliceM, es_appendM, evMut, evAppendM, rowsA, es_load, es_store, es_nilCheck, es_binOp, es_unOp, es_convert, es_makeInterface, es_makeFunc, es_slice, es_fieldAddr, es_field, es_indexAddr, es_index, es_extract, es_panic, es_callV, es_len, es_max, evStepU, evPure, evLit, evMem, evx_tmp, evx_const, evx_func, putA_some, putA_none, slot_ne, slot_eq, List.length_set, isVal, valOf, stOf, accOf, isSkip, isEnter, fnOf, argsOf, absV, abs2, abs1, scal, binL, litInt, conc, conc2, lit?, omap, parts?, partA, fillA, putCells, chunks, AV.cells, AV.notTup, Op.operands, Call.operands, stripRows, AV.strip, aggT, andThen, hlen, h0, p1, p3]
      exact fin _ false (by simp [hlen]) (by simp [slot_ne, h0]) (by simp [slot_eq, hlen]) (by simp [e1, e2, e3, e4, p1, p3])

end Go.Proofs.YtocaickbfeaiaaaDoor
