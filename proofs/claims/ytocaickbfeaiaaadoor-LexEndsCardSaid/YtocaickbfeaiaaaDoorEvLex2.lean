/-
  EV: lex: the document's Deep, and Text.
-/
import Derived.Test.YtocaickbfeaiaaaDoorEvLex
import Derived.Test.YtocaickbfeaiaaaDoorLexText
namespace Go.Proofs.YtocaickbfeaiaaaDoor
set_option linter.unusedSimpArgs false
set_option linter.unusedVariables false
open Go.RowKit

set_option maxRecDepth 100000 in
set_option maxHeartbeats 400000 in
theorem refDeep_ev (n : Nat) : ∀ (xs : List Tr) (tok : Tok) (σ : Sto), SizeOf.sizeOf xs < n → xs.length ≤ 2000000 → smallT xs → deepT xs ≤ 2000000 → CallW Tryd.prog EL 31 [.sl (rowsOf xs) tok] σ fun r σ' => r = .ret (.lit (.int .i64 (deepT xs))) ∧ Ext σ σ' := by
  induction n with
  | zero => intro xs tok σ h; omega
  | succ n ih =>
    intro xs tok σ h hmax hsm hdp
    refine CallW.start (fn := Tryd.f31) (M := []) rfl rfl rfl rfl (by simp) fun tm hlen hs => ?_
    have h0 := hs 0 _ rfl
    clear hs
    simp at hlen
    refine CW.hide fun R0 hR0 => ?_
    refine CW.seqK fun K hK => CW.region ?_
    simp [LW_nil, LW_guardS, DW_guardS, LW_guardN, DW_guardN, yielded_eq, yv, LW_val, LW_skip, LW_enter, DW_nil, DW_val, DW_skip, DW_enter, es_move, es_assign, es_pick, es_allocV, es_boxV, es_build, es_buildSlice, es_buildSliceM, es_appendM, evMut, evAppendM, rowsA, es_load, es_store, es_nilCheck, es_binOp, es_unOp, es_convert, es_makeInterface, es_makeFunc, es_slice, es_fieldAddr, es_field, es_indexAddr, es_index, es_extract, es_panic, es_callV, es_len, es_max, evStepU, evPure, evLit, evMem, evx_tmp, evx_const, evx_func, putA_some, putA_none, slot_ne, slot_eq, List.length_set, isVal, valOf, stOf, accOf, isSkip, isEnter, fnOf, argsOf, absV, abs2, abs1, scal, binL, litInt, conc, conc2, lit?, omap, parts?, partA, fillA, putCells, chunks, AV.cells, AV.notTup, Op.operands, Call.operands, stripRows, AV.strip, aggT, andThen, hlen, h0]
    refine hK _ _ ?_; clear hK K
    refine CW.seqK fun K hK => CW.region ?_
    simp [LW_nil, LW_guardS, DW_guardS, LW_guardN, DW_guardN, yielded_eq, yv, LW_val, LW_skip, LW_enter, DW_nil, DW_val, DW_skip, DW_enter, es_move, es_assign, es_pick, es_allocV, es_boxV, es_build, es_buildSlice, es_buildSliceM, es_appendM, evMut, evAppendM, rowsA, es_load, es_store, es_nilCheck, es_binOp, es_unOp, es_convert, es_makeInterface, es_makeFunc, es_slice, es_fieldAddr, es_field, es_indexAddr, es_index, es_extract, es_panic, es_callV, es_len, es_max, evStepU, evPure, evLit, evMem, evx_tmp, evx_const, evx_func, putA_some, putA_none, slot_ne, slot_eq, List.length_set, isVal, valOf, stOf, accOf, isSkip, isEnter, fnOf, argsOf, absV, abs2, abs1, scal, binL, litInt, conc, conc2, lit?, omap, parts?, partA, fillA, putCells, chunks, AV.cells, AV.notTup, Op.operands, Call.operands, stripRows, AV.strip, aggT, andThen, hlen, h0]
    refine hK _ _ ?_; clear hK K
    refine CW.seqK fun K hK => ?_
    refine CW.seqK fun K2 hK2 => CW.region ?_
    simp [LW_nil, LW_guardS, DW_guardS, LW_guardN, DW_guardN, yielded_eq, yv, LW_val, LW_skip, LW_enter, DW_nil, DW_val, DW_skip, DW_enter, es_move, es_assign, es_pick, es_allocV, es_boxV, es_build, es_buildSlice, es_buildSliceM, es_appendM, evMut, evAppendM, rowsA, es_load, es_store, es_nilCheck, es_binOp, es_unOp, es_convert, es_makeInterface, es_makeFunc, es_slice, es_fieldAddr, es_field, es_indexAddr, es_index, es_extract, es_panic, es_callV, es_len, es_max, evStepU, evPure, evLit, evMem, evx_tmp, evx_const, evx_func, putA_some, putA_none, slot_ne, slot_eq, List.length_set, isVal, valOf, stOf, accOf, isSkip, isEnter, fnOf, argsOf, absV, abs2, abs1, scal, binL, litInt, conc, conc2, lit?, omap, parts?, partA, fillA, putCells, chunks, AV.cells, AV.notTup, Op.operands, Call.operands, stripRows, AV.strip, aggT, andThen, hlen, h0]
    refine hK2 _ _ ?_; clear hK2 K2
    refine CW.block ?_
    refine CW.hide fun R hR => ?_
    refine CW.loopI (fun k tm σ1 => ∃ (i m : Nat), k = xs.length - i ∧ i ≤ xs.length ∧ tm.length = 26 ∧ slot tm 0 = .sl (rowsOf xs) tok ∧ slot tm 3 = .lit (.int .i64 m) ∧ slot tm 4 = .lit (.int .i64 i) ∧ Ext σ σ1 ∧ deepT xs = max m (deepT (xs.drop i))) ?_ xs.length _ _
      ⟨0, 0, rfl, by omega, by simp [hlen], by simp [slot_ne, h0], by simp [slot_ne, slot_eq, hlen], by simp [slot_eq, hlen], .refl _, by simp⟩
    clear h0 hlen tm
    rintro k tm σ1 ⟨i, m, rfl, hi, hlen, h0, h3, h4, hext, hd⟩
    refine CW.hide fun R2 hR2 => ?_
    refine CW.seqK fun K3 hK3 => ?_
    refine CW.seqK fun K4 hK4 => CW.region ?_
    simp [LW_nil, LW_guardS, DW_guardS, LW_guardN, DW_guardN, yielded_eq, yv, LW_val, LW_skip, LW_enter, DW_nil, DW_val, DW_skip, DW_enter, es_move, es_assign, es_pick, es_allocV, es_boxV, es_build, es_buildSlice, es_buildSliceM, es_appendM, evMut, evAppendM, rowsA, es_load, es_store, es_nilCheck, es_binOp, es_unOp, es_convert, es_makeInterface, es_makeFunc, es_slice, es_fieldAddr, es_field, es_indexAddr, es_index, es_extract, es_panic, es_callV, es_len, es_max, evStepU, evPure, evLit, evMem, evx_tmp, evx_const, evx_func, putA_some, putA_none, slot_ne, slot_eq, List.length_set, isVal, valOf, stOf, accOf, isSkip, isEnter, fnOf, argsOf, absV, abs2, abs1, scal, binL, litInt, conc, conc2, lit?, omap, parts?, partA, fillA, putCells, chunks, AV.cells, AV.notTup, Op.operands, Call.operands, stripRows, AV.strip, aggT, andThen, hlen, h0, h3, h4, rowsOf_length]
    refine hK4 _ _ ?_; clear hK4 K4
    by_cases hlt : i < xs.length
    · have hx := List.getElem?_eq_getElem hlt
      have hg := rowsOf_get hx
      have hsk := size_kids hx
      have hsm2 := smallT_get hsm hx
      have hdrop := List.drop_eq_getElem_cons hlt
      refine CW.cond (t := true) (by simp [evx_tmp, slot_eq, hlen, hlt]) (CW.skip ?_)
      simp only [andThen]
      refine hK3 _ _ ?_; clear hK3 K3
      have hw : IntKind.i64.wrap ((i : Int) + 1) = ((i + 1 : Nat) : Int) := wrap_succ (by omega)
      refine CW.seqK fun K3 hK3 => CW.block ?_
      refine CW.seqK fun K4 hK4 => CW.region ?_
      generalize xs[i] = tx at *
      obtain ⟨x, kx, rx, ax⟩ := tx
      simp only [Tr.word, Tr.kids, Tr.row, Tr.at_] at *
      rw [hdrop, deepT] at hd
      simp [LW_nil, LW_guardS, DW_guardS, LW_guardN, DW_guardN, yielded_eq, yv, LW_val, LW_skip, LW_enter, DW_nil, DW_val, DW_skip, DW_enter, es_move, es_assign, es_pick, es_allocV, es_boxV, es_build, es_buildSlice, es_buildSliceM, es_appendM, evMut, evAppendM, rowsA, es_load, es_store, es_nilCheck, es_binOp, es_unOp, es_convert, es_makeInterface, es_makeFunc, es_slice, es_fieldAddr, es_field, es_indexAddr, es_index, es_extract, es_panic, es_callV, es_len, es_max, evStepU, evPure, evLit, evMem, evx_tmp, evx_const, evx_func, putA_some, putA_none, slot_ne, slot_eq, List.length_set, isVal, valOf, stOf, accOf, isSkip, isEnter, fnOf, argsOf, absV, abs2, abs1, scal, binL, litInt, conc, conc2, lit?, omap, parts?, partA, fillA, putCells, chunks, AV.cells, AV.notTup, Op.operands, Call.operands, stripRows, AV.strip, aggT, andThen, hlen, h0, h3, h4, hg]
      refine hK4 _ _ ?_; clear hK4 K4
      cases rx with
      | true =>
        simp only [if_true] at hd
        refine CW.cond (t := true) (by simp [evx_tmp, slot_eq, hlen]) (CW.region ?_)
        simp (maxDischargeDepth := 8) [LW_nil, LW_guardS, DW_guardS, LW_guardN, DW_guardN, yielded_eq, yv, LW_val, LW_skip, LW_enter, DW_nil, DW_val, DW_skip, DW_enter, es_move, es_assign, es_pick, es_allocV, es_boxV, es_build, es_buildSlice, es_buildSliceM, es_appendM, evMut, evAppendM, rowsA, es_load, es_store, es_nilCheck, es_binOp, es_unOp, es_convert, es_makeInterface, es_makeFunc, es_slice, es_fieldAddr, es_field, es_indexAddr, es_index, es_extract, es_panic, es_callV, es_len, es_max, evStepU, evPure, evLit, evMem, evx_tmp, evx_const, evx_func, putA_some, putA_none, slot_ne, slot_eq, List.length_set, isVal, valOf, stOf, accOf, isSkip, isEnter, fnOf, argsOf, absV, abs2, abs1, scal, binL, litInt, conc, conc2, lit?, omap, parts?, partA, fillA, putCells, chunks, AV.cells, AV.notTup, Op.operands, Call.operands, stripRows, AV.strip, aggT, hlen, h0, h3, h4, hg]
        refine (ih kx _ _ (by omega) hsm2.1 hsm2.2 (by omega)).mono ?_
        rintro r σ2 ⟨rfl, hext2⟩
        have hw2 : IntKind.i64.wrap (1 + ((deepT kx : Nat) : Int)) = ((1 + deepT kx : Nat) : Int) := by rw [Int.add_comm, wrap_succ (by omega)]; omega
        simp (maxDischargeDepth := 8) [LW_nil, LW_guardS, DW_guardS, LW_guardN, DW_guardN, yielded_eq, yv, LW_val, LW_skip, LW_enter, DW_nil, DW_val, DW_skip, DW_enter, es_move, es_assign, es_pick, es_allocV, es_boxV, es_build, es_buildSlice, es_buildSliceM, es_appendM, evMut, evAppendM, rowsA, es_load, es_store, es_nilCheck, es_binOp, es_unOp, es_convert, es_makeInterface, es_makeFunc, es_slice, es_fieldAddr, es_field, es_indexAddr, es_index, es_extract, es_panic, es_callV, es_len, es_max, evStepU, evPure, evLit, evMem, evx_tmp, evx_const, evx_func, putA_some, putA_none, slot_ne, slot_eq, List.length_set, isVal, valOf, stOf, accOf, isSkip, isEnter, fnOf, argsOf, absV, abs2, abs1, scal, binL, litInt, conc, conc2, lit?, omap, parts?, partA, fillA, putCells, chunks, AV.cells, AV.notTup, Op.operands, Call.operands, stripRows, AV.strip, aggT, retK, outOf, andThen, hlen, h0, h3, h4, hg, hw2]
        refine hK3 _ _ ?_; clear hK3 K3
        refine CW.region ?_
        simp (maxDischargeDepth := 8) [LW_nil, LW_guardS, DW_guardS, LW_guardN, DW_guardN, yielded_eq, yv, LW_val, LW_skip, LW_enter, DW_nil, DW_val, DW_skip, DW_enter, es_move, es_assign, es_pick, es_allocV, es_boxV, es_build, es_buildSlice, es_buildSliceM, es_appendM, evMut, evAppendM, rowsA, es_load, es_store, es_nilCheck, es_binOp, es_unOp, es_convert, es_makeInterface, es_makeFunc, es_slice, es_fieldAddr, es_field, es_indexAddr, es_index, es_extract, es_panic, es_callV, es_len, es_max, evStepU, evPure, evLit, evMem, evx_tmp, evx_const, evx_func, putA_some, putA_none, slot_ne, slot_eq, List.length_set, isVal, valOf, stOf, accOf, isSkip, isEnter, fnOf, argsOf, absV, abs2, abs1, scal, binL, litInt, conc, conc2, lit?, omap, parts?, partA, fillA, putCells, chunks, AV.cells, AV.notTup, Op.operands, Call.operands, stripRows, AV.strip, aggT, hlen, h4, hw]
        refine hR2 _ _ _ ⟨xs.length - (i + 1), by omega, i + 1, max m (1 + deepT kx), rfl, by omega, by simp [hlen], by simp [slot_ne, h0], ?_, by simp [slot_eq, hlen], hext.trans hext2, by rw [hd]; omega⟩
        simp (maxDischargeDepth := 8) [slot_ne, slot_eq, hlen]
        split <;> omega
      | false =>
        simp only [Bool.false_eq_true, if_false] at hd
        refine CW.cond (t := false) (by simp [evx_tmp, slot_eq, hlen]) (CW.skip ?_)
        simp only [outOf, andThen]
        refine hK3 _ _ ?_; clear hK3 K3
        refine CW.region ?_
        simp (maxDischargeDepth := 8) [LW_nil, LW_guardS, DW_guardS, LW_guardN, DW_guardN, yielded_eq, yv, LW_val, LW_skip, LW_enter, DW_nil, DW_val, DW_skip, DW_enter, es_move, es_assign, es_pick, es_allocV, es_boxV, es_build, es_buildSlice, es_buildSliceM, es_appendM, evMut, evAppendM, rowsA, es_load, es_store, es_nilCheck, es_binOp, es_unOp, es_convert, es_makeInterface, es_makeFunc, es_slice, es_fieldAddr, es_field, es_indexAddr, es_index, es_extract, es_panic, es_callV, es_len, es_max, evStepU, evPure, evLit, evMem, evx_tmp, evx_const, evx_func, putA_some, putA_none, slot_ne, slot_eq, List.length_set, isVal, valOf, stOf, accOf, isSkip, isEnter, fnOf, argsOf, absV, abs2, abs1, scal, binL, litInt, conc, conc2, lit?, omap, parts?, partA, fillA, putCells, chunks, AV.cells, AV.notTup, Op.operands, Call.operands, stripRows, AV.strip, aggT, hlen, h4, hw]
        exact hR2 _ _ _ ⟨xs.length - (i + 1), by omega, i + 1, m, rfl, by omega, by simp [hlen], by simp [slot_ne, h0], by simp [slot_ne, h3], by simp [slot_eq, hlen], hext, hd⟩
    · refine CW.cond (t := false) (by simp [evx_tmp, slot_eq, hlen, hlt]) (CW.exit ?_)
      simp only [andThen]
      refine hR2 _ _ _ (hR _ _ _ ?_)
      simp only [outOf, if_true, andThen]
      refine hK _ _ ?_
      refine CW.seqK fun K5 hK5 => CW.region ?_
      simp (maxDischargeDepth := 8) [LW_nil, LW_guardS, DW_guardS, LW_guardN, DW_guardN, yielded_eq, yv, LW_val, LW_skip, LW_enter, DW_nil, DW_val, DW_skip, DW_enter, es_move, es_assign, es_pick, es_allocV, es_boxV, es_build, es_buildSlice, es_buildSliceM, es_appendM, evMut, evAppendM, rowsA, es_load, es_store, es_nilCheck, es_binOp, es_unOp, es_convert, es_makeInterface, es_makeFunc, es_slice, es_fieldAddr, es_field, es_indexAddr, es_index, es_extract, es_panic, es_callV, es_len, es_max, evStepU, evPure, evLit, evMem, evx_tmp, evx_const, evx_func, putA_some, putA_none, slot_ne, slot_eq, List.length_set, isVal, valOf, stOf, accOf, isSkip, isEnter, fnOf, argsOf, absV, abs2, abs1, scal, binL, litInt, conc, conc2, lit?, omap, parts?, partA, fillA, putCells, chunks, AV.cells, AV.notTup, Op.operands, Call.operands, stripRows, AV.strip, aggT, andThen, hlen, h3]
      refine hK5 _ _ ?_
      refine CW.ret (hR0 _ _ _ ?_)
      have hm : deepT xs = m := by rw [hd, List.drop_eq_nil_of_le (by omega), deepT]; omega
      refine ⟨.lit (.int .i64 (deepT xs)), ?_, rfl, hext⟩
      simp (maxDischargeDepth := 8) [resultsA, omap, res_tmp, slot_eq, slot_ne, hlen, hm]

end Go.Proofs.YtocaickbfeaiaaaDoor
