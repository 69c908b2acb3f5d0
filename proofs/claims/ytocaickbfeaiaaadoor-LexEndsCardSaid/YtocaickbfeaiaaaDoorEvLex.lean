/-
  EV: lex: trees, as abstract data; turned.
-/
import Derived.Test.YtocaickbfeaiaaaDoorEvPrim
namespace Go.Proofs.YtocaickbfeaiaaaDoor
set_option linter.unusedSimpArgs false
set_option linter.unusedVariables false
open Go.RowKit

set_option maxRecDepth 100000 in
set_option maxHeartbeats 400000 in
theorem turned_ev (n : Nat) : ∀ (xs : List Tr) (tok : Tok) (σ : Sto), SizeOf.sizeOf xs < n → xs.length ≤ 2000000 → smallT xs → CallW Tryd.prog EL 30 [.sl (rowsOf xs) tok] σ fun r σ' => ∃ t, r = .ret (.sl (rowsOf xs) t) ∧ Ext σ σ' := by
  induction n with
  | zero => intro xs tok σ h hmax hsm; omega
  | succ n ih =>
    intro xs tok σ h hmax hsm
    refine CallW.start (fn := Tryd.f30) (M := []) rfl rfl rfl rfl (by simp) fun tm hlen hs => ?_
    have h0 := hs 0 _ rfl
    clear hs
    simp at hlen
    refine CW.hide fun R0 hR0 => ?_
    refine CW.seqK fun K hK => CW.region ?_
    simp [LW_nil, LW_guardS, DW_guardS, LW_guardN, DW_guardN, yielded_eq, yv, LW_val, LW_skip, LW_enter, DW_nil, DW_val, DW_skip, DW_enter, es_move, es_assign, es_pick, es_allocV, es_boxV, es_build, es_buildSlice, es_buildSliceM, es_appendM, evMut, evAppendM, rowsA, es_load, es_store, es_nilCheck, es_binOp, es_unOp, es_convert, es_makeInterface, es_makeFunc, es_slice, es_fieldAddr, es_field, es_indexAddr, es_index, es_extract, es_panic, es_callV, es_len, es_max, evStepU, evPure, evLit, evMem, evx_tmp, evx_const, evx_func, putA_some, putA_none, slot_ne, slot_eq, List.length_set, isVal, valOf, stOf, accOf, isSkip, isEnter, fnOf, argsOf, absV, abs2, abs1, scal, binL, litInt, conc, conc2, lit?, omap, parts?, partA, fillA, putCells, chunks, AV.cells, AV.notTup, Op.operands, Call.operands, stripRows, AV.strip, aggT, andThen, hlen, h0]
    refine hK _ _ ?_; clear hK K
    refine CW.seqK fun K hK => CW.region ?_
    simp [LW_nil, LW_guardS, DW_guardS, LW_guardN, DW_guardN, yielded_eq, yv, LW_val, LW_skip, LW_enter, DW_nil, DW_val, DW_skip, DW_enter, es_move, es_assign, es_pick, es_allocV, es_boxV, es_build, es_buildSlice, es_buildSliceM, es_appendM, evMut, evAppendM, rowsA, es_load, es_store, es_nilCheck, es_binOp, es_unOp, es_convert, es_makeInterface, es_makeFunc, es_slice, es_fieldAddr, es_field, es_indexAddr, es_index, es_extract, es_panic, es_callV, es_len, es_max, evStepU, evPure, evLit, evMem, evx_tmp, evx_const, evx_func, putA_some, putA_none, slot_ne, slot_eq, List.length_set, isVal, valOf, stOf, accOf, isSkip, isEnter, fnOf, argsOf, absV, abs2, abs1, scal, binL, litInt, conc, conc2, lit?, omap, parts?, partA, fillA, putCells, chunks, AV.cells, AV.notTup, Op.operands, Call.operands, stripRows, AV.strip, aggT, andThen, hlen, h0]
    refine hK _ _ ?_; clear hK K
    refine CW.seqK fun K hK => ?_
    refine CW.seqK fun K2 hK2 => CW.region ?_
    simp [LW_nil, LW_guardS, DW_guardS, LW_guardN, DW_guardN, yielded_eq, yv, LW_val, LW_skip, LW_enter, DW_nil, DW_val, DW_skip, DW_enter, es_move, es_assign, es_pick, es_allocV, es_boxV, es_build, es_buildSlice, es_buildSliceM, es_appendM, evMut, evAppendM, rowsA, es_load, es_store, es_nilCheck, es_binOp, es_unOp, es_convert, es_makeInterface, es_makeFunc, es_slice, es_fieldAddr, es_field, es_indexAddr, es_index, es_extract, es_panic, es_callV, es_len, es_max, evStepU, evPure, evLit, evMem, evx_tmp, evx_const, evx_func, putA_some, putA_none, slot_ne, slot_eq, List.length_set, isVal, valOf, stOf, accOf, isSkip, isEnter, fnOf, argsOf, absV, abs2, abs1, scal, binL, litInt, conc, conc2, lit?, omap, parts?, partA, fillA, putCells, chunks, AV.cells, AV.notTup, Op.operands, Call.operands, stripRows, AV.strip, aggT, andThen, hlen, h0]
    refine hK2 _ _ ?_; clear hK2 K2
    refine CW.block ?_
    refine CW.hide fun R hR => ?_
    refine CW.loopI (fun k tm σ1 => ∃ (i : Nat) (t : Tok), k = xs.length - i ∧ i ≤ xs.length ∧ tm.length = 39 ∧ slot tm 0 = .sl (rowsOf xs) tok ∧ slot tm 3 = .sl (rowsOf (xs.take i)) t ∧ slot tm 4 = .lit (.int .i64 i) ∧ Ext σ σ1 ∧ TokAt σ σ1 (i * 4) 83 t) ?_ xs.length _ _
      ⟨0, .full, rfl, by omega, by simp [hlen], by simp [slot_ne, h0], by simp [slot_ne, slot_eq, hlen, rowsOf], by simp [slot_eq, hlen], .refl _, .inl ⟨rfl, rfl⟩⟩
    clear h0 hlen tm
    rintro k tm σ1 ⟨i, t, rfl, hi, hlen, h0, h3, h4, hext, htok⟩
    refine CW.hide fun R2 hR2 => ?_
    refine CW.seqK fun K3 hK3 => ?_
    refine CW.seqK fun K4 hK4 => CW.region ?_
    simp [LW_nil, LW_guardS, DW_guardS, LW_guardN, DW_guardN, yielded_eq, yv, LW_val, LW_skip, LW_enter, DW_nil, DW_val, DW_skip, DW_enter, es_move, es_assign, es_pick, es_allocV, es_boxV, es_build, es_buildSlice, es_buildSliceM, es_appendM, evMut, evAppendM, rowsA, es_load, es_store, es_nilCheck, es_binOp, es_unOp, es_convert, es_makeInterface, es_makeFunc, es_slice, es_fieldAddr, es_field, es_indexAddr, es_index, es_extract, es_panic, es_callV, es_len, es_max, evStepU, evPure, evLit, evMem, evx_tmp, evx_const, evx_func, putA_some, putA_none, slot_ne, slot_eq, List.length_set, isVal, valOf, stOf, accOf, isSkip, isEnter, fnOf, argsOf, absV, abs2, abs1, scal, binL, litInt, conc, conc2, lit?, omap, parts?, partA, fillA, putCells, chunks, AV.cells, AV.notTup, Op.operands, Call.operands, stripRows, AV.strip, aggT, andThen, hlen, h0, h3, h4, rowsOf_length]
    refine hK4 _ _ ?_; clear hK4 K4
    by_cases hlt : i < xs.length
    · have hx := List.getElem?_eq_getElem hlt
      have hg := rowsOf_get hx
      have hsk := size_kids hx
      have hsm2 := smallT_get hsm hx
      have hdrop := List.take_succ_eq_append_getElem hlt
      refine CW.cond (t := true) (by simp [evx_tmp, slot_eq, hlen, hlt]) (CW.skip ?_)
      simp only [andThen]
      refine hK3 _ _ ?_; clear hK3 K3
      refine CW.seqK fun K3 hK3 => CW.block ?_
      refine CW.seqK fun K4 hK4 => CW.region ?_
      generalize xs[i] = tx at *
      obtain ⟨x, kx, rx, ax⟩ := tx
      simp only [Tr.word, Tr.kids, Tr.row, Tr.at_] at *
      simp [LW_nil, LW_guardS, DW_guardS, LW_guardN, DW_guardN, yielded_eq, yv, LW_val, LW_skip, LW_enter, DW_nil, DW_val, DW_skip, DW_enter, es_move, es_assign, es_pick, es_allocV, es_boxV, es_build, es_buildSlice, es_buildSliceM, es_appendM, evMut, evAppendM, rowsA, es_load, es_store, es_nilCheck, es_binOp, es_unOp, es_convert, es_makeInterface, es_makeFunc, es_slice, es_fieldAddr, es_field, es_indexAddr, es_index, es_extract, es_panic, es_callV, es_len, es_max, evStepU, evPure, evLit, evMem, evx_tmp, evx_const, evx_func, putA_some, putA_none, slot_ne, slot_eq, List.length_set, isVal, valOf, stOf, accOf, isSkip, isEnter, fnOf, argsOf, absV, abs2, abs1, scal, binL, litInt, conc, conc2, lit?, omap, parts?, partA, fillA, putCells, chunks, AV.cells, AV.notTup, Op.operands, Call.operands, stripRows, AV.strip, aggT, andThen, hlen, h0, h3, h4, hg]
      refine (ih kx _ _ (by omega) hsm2.1 hsm2.2).mono ?_
      rintro r σ2 ⟨t2, rfl, hext2⟩
      simp only [retK]
      refine hK4 _ _ ?_; clear hK4 K4
      refine CW.draw (by kernel_rfl) ?_
      have hw : IntKind.i64.wrap ((i : Int) + 1) = ((i + 1 : Nat) : Int) := wrap_succ (by omega)
      obtain ⟨t', σ3, acc, hext3, htok3, hap⟩ := append_at (P := Tryd.prog) (M := []) (σ := σ2) (es := rowsOf (xs.take i)) (tok := t) (tk := .full) (fs := [[.lit (.string ⟨x.toArray⟩), .sl (rowsOf kx) t2, .lit (.bool rx), .lit (.int .i64 ax)]]) (t := 37) Tryd.underlying37 szOf_83 bytesOf_83 zeroOf_83 rfl
        (by rw [rowsOf_length, List.length_take, Nat.min_eq_left hi]; exact htok.ext hext2) (hext.trans hext2) (rowsOf_head _) rfl (by simp) (by rw [rowsOf_length]; simp; omega) (by rw [rowsOf_length]; simp; omega)
      simp (maxDischargeDepth := 8) [LW_nil, LW_guardS, DW_guardS, LW_guardN, DW_guardN, yielded_eq, yv, LW_val, LW_skip, LW_enter, DW_nil, DW_val, DW_skip, DW_enter, es_move, es_assign, es_pick, es_allocV, es_boxV, es_build, es_buildSlice, es_buildSliceM, es_appendM, evMut, evAppendM, rowsA, es_load, es_store, es_nilCheck, es_binOp, es_unOp, es_convert, es_makeInterface, es_makeFunc, es_slice, es_fieldAddr, es_field, es_indexAddr, es_index, es_extract, es_panic, es_callV, es_len, es_max, evStepU, evPure, evLit, evMem, evx_tmp, evx_const, evx_func, putA_some, putA_none, slot_ne, slot_eq, List.length_set, isVal, valOf, stOf, accOf, isSkip, isEnter, fnOf, argsOf, absV, abs2, abs1, scal, binL, litInt, conc, conc2, lit?, omap, parts?, partA, fillA, putCells, chunks, AV.cells, AV.notTup, Op.operands, Call.operands, stripRows, AV.strip, aggT, andThen, outOf, hlen, h0, h3, h4, hg, hap]
      refine ⟨by kernel_rfl, hK3 _ _ ?_⟩; clear hK3 K3
      refine CW.region ?_
      simp (maxDischargeDepth := 8) [LW_nil, LW_guardS, DW_guardS, LW_guardN, DW_guardN, yielded_eq, yv, LW_val, LW_skip, LW_enter, DW_nil, DW_val, DW_skip, DW_enter, es_move, es_assign, es_pick, es_allocV, es_boxV, es_build, es_buildSlice, es_buildSliceM, es_appendM, evMut, evAppendM, rowsA, es_load, es_store, es_nilCheck, es_binOp, es_unOp, es_convert, es_makeInterface, es_makeFunc, es_slice, es_fieldAddr, es_field, es_indexAddr, es_index, es_extract, es_panic, es_callV, es_len, es_max, evStepU, evPure, evLit, evMem, evx_tmp, evx_const, evx_func, putA_some, putA_none, slot_ne, slot_eq, List.length_set, isVal, valOf, stOf, accOf, isSkip, isEnter, fnOf, argsOf, absV, abs2, abs1, scal, binL, litInt, conc, conc2, lit?, omap, parts?, partA, fillA, putCells, chunks, AV.cells, AV.notTup, Op.operands, Call.operands, stripRows, AV.strip, aggT, hlen, h4, hw]
      refine hR2 _ _ _ ⟨xs.length - (i + 1), by omega, i + 1, t', rfl, by omega, by simp [hlen], by simp [slot_ne, h0], ?_, by simp [slot_eq, hlen], hext3, ?_⟩
      · simp (maxDischargeDepth := 8) [slot_ne, slot_eq, hlen, stripRows, AV.strip, hdrop, rowsOf_append, rowsOf, rowOf]
      · rw [rowsOf_length, List.length_take, Nat.min_eq_left hi] at htok3
        exact htok3
    · refine CW.cond (t := false) (by simp [evx_tmp, slot_eq, hlen, hlt]) (CW.exit ?_)
      simp only [andThen]
      refine hR2 _ _ _ (hR _ _ _ ?_)
      simp only [outOf, if_true, andThen]
      refine hK _ _ ?_
      refine CW.seqK fun K5 hK5 => CW.region ?_
      simp (maxDischargeDepth := 8) [LW_nil, LW_guardS, DW_guardS, LW_guardN, DW_guardN, yielded_eq, yv, LW_val, LW_skip, LW_enter, DW_nil, DW_val, DW_skip, DW_enter, es_move, es_assign, es_pick, es_allocV, es_boxV, es_build, es_buildSlice, es_buildSliceM, es_appendM, evMut, evAppendM, rowsA, es_load, es_store, es_nilCheck, es_binOp, es_unOp, es_convert, es_makeInterface, es_makeFunc, es_slice, es_fieldAddr, es_field, es_indexAddr, es_index, es_extract, es_panic, es_callV, es_len, es_max, evStepU, evPure, evLit, evMem, evx_tmp, evx_const, evx_func, putA_some, putA_none, slot_ne, slot_eq, List.length_set, isVal, valOf, stOf, accOf, isSkip, isEnter, fnOf, argsOf, absV, abs2, abs1, scal, binL, litInt, conc, conc2, lit?, omap, parts?, partA, fillA, putCells, chunks, AV.cells, AV.notTup, Op.operands, Call.operands, stripRows, AV.strip, aggT, andThen, hlen, h3]
      refine hK5 _ _ ?_
      refine CW.ret (hR0 _ _ _ ?_)
      refine ⟨.sl (rowsOf xs) t, ?_, t, rfl, hext⟩
      simp (maxDischargeDepth := 8) [resultsA, omap, res_tmp, slot_eq, slot_ne, hlen, List.take_of_length_le (Nat.le_of_not_lt hlt)]

end Go.Proofs.YtocaickbfeaiaaaDoor
