/-
  EV: lex: the document's Text.
-/
import Derived.Test.YtocaickbfeaiaaaDoorEvLex
import Derived.Test.YtocaickbfeaiaaaDoorLexText
namespace Go.Proofs.YtocaickbfeaiaaaDoor
set_option linter.unusedSimpArgs false
set_option linter.unusedVariables false
open Go.RowKit

theorem bsize (l : List UInt8) : (⟨l.toArray⟩ : ByteArray).size = l.length := by simp [ByteArray.size]
theorem bapp (a b : List UInt8) : (⟨a.toArray⟩ : ByteArray) ++ ⟨b.toArray⟩ = ⟨(a ++ b).toArray⟩ := by
  apply bytes_ext
  simp [ByteArray.data_append]
theorem bapp32 (a : List UInt8) : (⟨a.toArray⟩ : ByteArray) ++ ⟨#[32]⟩ = ⟨(a ++ [32]).toArray⟩ := bapp a [32]
theorem bapp40 (a : List UInt8) : (⟨a.toArray⟩ : ByteArray) ++ ⟨#[40]⟩ = ⟨(a ++ [40]).toArray⟩ := bapp a [40]
theorem bapp41 (a : List UInt8) : (⟨a.toArray⟩ : ByteArray) ++ ⟨#[41]⟩ = ⟨(a ++ [41]).toArray⟩ := bapp a [41]

set_option maxRecDepth 100000 in
set_option maxHeartbeats 400000 in
theorem refText_ev (n : Nat) : ∀ (xs : List Tr) (tok : Tok) (σ : Sto), SizeOf.sizeOf xs < n → xs.length ≤ 2000000 → smallT xs → (textR true xs).length ≤ 100000000000000 → CallW Tryd.prog EL 29 [.sl (rowsOf xs) tok] σ fun r σ' => r = .ret (.lit (.string ⟨(textR true xs).toArray⟩)) ∧ Ext σ σ' := by
  induction n with
  | zero => intro xs tok σ h; omega
  | succ n ih =>
    intro xs tok σ h hmax hsm htl
    refine CallW.start (fn := Tryd.f29) (M := []) rfl rfl rfl rfl (by simp) fun tm hlen hs => ?_
    have h0 := hs 0 _ rfl
    clear hs
    simp at hlen
    refine CW.hide fun R0 hR0 => ?_
    refine CW.seqK fun K hK => CW.region ?_
    simp [LW_nil, LW_guardS, DW_guardS, LW_guardN, DW_guardN, yielded_eq, yv, LW_val, LW_skip, LW_enter, DW_nil, DW_val, DW_skip, DW_enter, es_move, es_assign, es_pick, es_allocV, es_boxV, es_build, es_buildSlice, es_buildSliceM, es_appendM, evMut, evAppendM, rowsA, es_load, es_store, es_nilCheck, es_binOp, es_unOp, es_convert, es_makeInterface, es_makeFunc, es_slice, es_fieldAddr, es_field, es_indexAddr, es_index, es_extract, es_panic, es_callV, es_len, es_max, evStepU, evPure, evLit, evMem, evx_tmp, evx_const, evx_func, putA_some, putA_none, slot_ne, slot_eq, List.length_set, isVal, valOf, stOf, accOf, isSkip, isEnter, fnOf, argsOf, absV, abs2, abs1, scal, binL, litInt, conc, conc2, lit?, omap, parts?, partA, fillA, putCells, chunks, AV.cells, AV.notTup, Op.operands, Call.operands, stripRows, AV.strip, aggT, andThen, hlen, h0]
    refine hK _ _ ?_; clear hK K
    refine CW.seqK fun K hK => CW.region ?_
    simp [LW_nil, LW_guardS, DW_guardS, LW_guardN, DW_guardN, yielded_eq, yv, LW_val, LW_skip, LW_enter, DW_nil, DW_val, DW_skip, DW_enter, es_move, es_assign, es_pick, es_allocV, es_boxV, es_build, es_buildSlice, es_buildSliceM, es_appendM, evMut, evAppendM, rowsA, es_load, es_store, es_nilCheck, es_binOp, es_unOp, es_convert, es_makeInterface, es_makeFunc, es_slice, es_fieldAddr, es_field, es_indexAddr, es_index, es_extract, es_panic, es_callV, es_len, es_max, evStepU, evPure, evLit, evMem, evx_tmp, evx_const, evx_func, putA_some, putA_none, slot_ne, slot_eq, List.length_set, isVal, valOf, stOf, accOf, isSkip, isEnter, fnOf, argsOf, absV, abs2, abs1, scal, binL, litInt, conc, conc2, lit?, omap, parts?, partA, fillA, putCells, chunks, AV.cells, AV.notTup, Op.operands, Call.operands, stripRows, AV.strip, aggT, andThen, hlen, h0]
    refine hK _ _ ?_; clear hK K
    refine CW.seqK fun K hK => ?_
    refine CW.seqK fun K2 hK2 => CW.region ?_
    simp [LW_nil, LW_guardS, DW_guardS, LW_guardN, DW_guardN, yielded_eq, yv, LW_val, LW_skip, LW_enter, DW_nil, DW_val, DW_skip, DW_enter, es_move, es_assign, es_pick, es_allocV, es_boxV, es_build, es_buildSlice, es_buildSliceM, es_appendM, evMut, evAppendM, rowsA, es_load, es_store, es_nilCheck, es_binOp, es_unOp, es_convert, es_makeInterface, es_makeFunc, es_slice, es_fieldAddr, es_field, es_indexAddr, es_index, es_extract, es_panic, es_callV, es_len, es_max, evStepU, evPure, evLit, evMem, evx_tmp, evx_const, evx_func, putA_some, putA_none, slot_ne, slot_eq, List.length_set, isVal, valOf, stOf, accOf, isSkip, isEnter, fnOf, argsOf, absV, abs2, abs1, scal, binL, litInt, conc, conc2, lit?, omap, parts?, partA, fillA, putCells, chunks, AV.cells, AV.notTup, Op.operands, Call.operands, stripRows, AV.strip, aggT, andThen, hlen, h0]
    refine hK2 _ _ ?_; clear hK2 K2
    refine CW.block ?_
    refine CW.hide fun R hR => ?_
    refine CW.loopI (fun k tm σ1 => ∃ (i : Nat) (t : List UInt8), k = xs.length - i ∧ i ≤ xs.length ∧ tm.length = 38 ∧ slot tm 0 = .sl (rowsOf xs) tok ∧ slot tm 3 = .lit (.string ⟨t.toArray⟩) ∧ slot tm 4 = .lit (.int .i64 i) ∧ Ext σ σ1 ∧ textR true xs = t ++ textR (decide (i = 0)) (xs.drop i)) ?_ xs.length _ _
      ⟨0, [], rfl, by omega, by simp [hlen], by simp [slot_ne, h0], by simp [slot_ne, slot_eq, hlen], by simp [slot_eq, hlen], .refl _, by simp⟩
    clear h0 hlen tm
    rintro k tm σ1 ⟨i, t, rfl, hi, hlen, h0, h3, h4, hext, hd⟩
    refine CW.hide fun R2 hR2 => ?_
    refine CW.seqK fun K3 hK3 => ?_
    refine CW.seqK fun K4 hK4 => CW.region ?_
    simp [LW_nil, LW_guardS, DW_guardS, LW_guardN, DW_guardN, yielded_eq, yv, LW_val, LW_skip, LW_enter, DW_nil, DW_val, DW_skip, DW_enter, es_move, es_assign, es_pick, es_allocV, es_boxV, es_build, es_buildSlice, es_buildSliceM, es_appendM, evMut, evAppendM, rowsA, es_load, es_store, es_nilCheck, es_binOp, es_unOp, es_convert, es_makeInterface, es_makeFunc, es_slice, es_fieldAddr, es_field, es_indexAddr, es_index, es_extract, es_panic, es_callV, es_len, es_max, evStepU, evPure, evLit, evMem, evx_tmp, evx_const, evx_func, putA_some, putA_none, slot_ne, slot_eq, List.length_set, isVal, valOf, stOf, accOf, isSkip, isEnter, fnOf, argsOf, absV, abs2, abs1, scal, binL, litInt, conc, conc2, lit?, omap, parts?, partA, fillA, putCells, chunks, AV.cells, AV.notTup, Op.operands, Call.operands, stripRows, AV.strip, aggT, andThen, hlen, h0, h3, h4, rowsOf_length]
    refine hK4 _ _ ?_; clear hK4 K4
    by_cases hlt : i < xs.length
    · have hx := List.getElem?_eq_getElem hlt
      have hg := rowsOf_get hx
      have hsk := size_kids hx
      have hsm2 := smallT_get hsm hx
      have hdrop := List.drop_eq_getElem_cons hlt
      refine CW.cond (t := true) (by simp [evx_tmp, slot_eq, hlen, hlt]) (CW.skip ?_)
      simp only [andThen]
      refine hK3 _ _ ?_; clear hK3 K3
      have hw : IntKind.i64.wrap ((i : Int) + 1) = ((i + 1 : Nat) : Int) := wrap_succ (by omega)
      refine CW.seqK fun K3 hK3 => CW.block ?_
      refine CW.seqK fun K4 hK4 => ?_
      generalize xs[i] = tx at *
      obtain ⟨x, kx, rx, ax⟩ := tx
      simp only [Tr.word, Tr.kids, Tr.row, Tr.at_] at *
      rw [hdrop, textR] at hd
      have cont : ∀ (tm2 : List AV) (t2 : List UInt8), tm2.length = 38 → slot tm2 0 = .sl (rowsOf xs) tok → slot tm2 3 = .lit (.string ⟨t2.toArray⟩) → slot tm2 4 = .lit (.int .i64 i) → textR true xs = t2 ++ (textI (.mk x kx rx ax) ++ textR false (xs.drop (i + 1))) → K4 tm2 σ1 := by
        intro tm2 t2 hl2 g0 g3 g4 hd2
        refine hK4 _ _ ?_; clear hK4 K4
        refine CW.seqK fun K5 hK5 => CW.region ?_
        simp (maxDischargeDepth := 8) [LW_nil, LW_guardS, DW_guardS, LW_guardN, DW_guardN, yielded_eq, yv, LW_val, LW_skip, LW_enter, DW_nil, DW_val, DW_skip, DW_enter, es_move, es_assign, es_pick, es_allocV, es_boxV, es_build, es_buildSlice, es_buildSliceM, es_appendM, evMut, evAppendM, rowsA, es_load, es_store, es_nilCheck, es_binOp, es_unOp, es_convert, es_makeInterface, es_makeFunc, es_slice, es_fieldAddr, es_field, es_indexAddr, es_index, es_extract, es_panic, es_callV, es_len, es_max, evStepU, evPure, evLit, evMem, evx_tmp, evx_const, evx_func, putA_some, putA_none, slot_ne, slot_eq, List.length_set, isVal, valOf, stOf, accOf, isSkip, isEnter, fnOf, argsOf, absV, abs2, abs1, scal, binL, litInt, conc, conc2, lit?, omap, parts?, partA, fillA, putCells, chunks, AV.cells, AV.notTup, Op.operands, Call.operands, stripRows, AV.strip, aggT, andThen, hl2, g0, g4, hg]
        refine hK5 _ _ ?_; clear hK5 K5
        have hlenT := congrArg List.length hd2
        simp only [List.length_append] at hlenT
        cases rx with
        | true =>
          simp only [textI, if_true, List.length_cons, List.length_append, List.length_nil] at hd2 hlenT
          refine CW.cond (t := true) (by simp (maxDischargeDepth := 8) [evx_tmp, slot_eq, hl2]) (CW.region ?_)
          have c1 : t2.length + 1 ≤ 140737488355328 := by omega
          have c2 : t2.length + 1 + (textR true kx).length ≤ 140737488355328 := by omega
          have c3 : t2.length + ((textR true kx).length + 1) + 1 ≤ 140737488355328 := by omega
          simp (maxDischargeDepth := 8) [LW_nil, LW_guardS, DW_guardS, LW_guardN, DW_guardN, yielded_eq, yv, LW_val, LW_skip, LW_enter, DW_nil, DW_val, DW_skip, DW_enter, es_move, es_assign, es_pick, es_allocV, es_boxV, es_build, es_buildSlice, es_buildSliceM, es_appendM, evMut, evAppendM, rowsA, es_load, es_store, es_nilCheck, es_binOp, es_unOp, es_convert, es_makeInterface, es_makeFunc, es_slice, es_fieldAddr, es_field, es_indexAddr, es_index, es_extract, es_panic, es_callV, es_len, es_max, evStepU, evPure, evLit, evMem, evx_tmp, evx_const, evx_func, putA_some, putA_none, slot_ne, slot_eq, List.length_set, isVal, valOf, stOf, accOf, isSkip, isEnter, fnOf, argsOf, absV, abs2, abs1, scal, binL, litInt, conc, conc2, lit?, omap, parts?, partA, fillA, putCells, chunks, AV.cells, AV.notTup, Op.operands, Call.operands, stripRows, AV.strip, aggT, hl2, g0, g3, g4, hg, bsize, bapp40, c1]
          refine (ih kx _ _ (by omega) hsm2.1 hsm2.2 (by omega)).mono ?_
          rintro r σ2 ⟨rfl, hext2⟩
          simp (maxDischargeDepth := 8) [LW_nil, LW_guardS, DW_guardS, LW_guardN, DW_guardN, yielded_eq, yv, LW_val, LW_skip, LW_enter, DW_nil, DW_val, DW_skip, DW_enter, es_move, es_assign, es_pick, es_allocV, es_boxV, es_build, es_buildSlice, es_buildSliceM, es_appendM, evMut, evAppendM, rowsA, es_load, es_store, es_nilCheck, es_binOp, es_unOp, es_convert, es_makeInterface, es_makeFunc, es_slice, es_fieldAddr, es_field, es_indexAddr, es_index, es_extract, es_panic, es_callV, es_len, es_max, evStepU, evPure, evLit, evMem, evx_tmp, evx_const, evx_func, putA_some, putA_none, slot_ne, slot_eq, List.length_set, isVal, valOf, stOf, accOf, isSkip, isEnter, fnOf, argsOf, absV, abs2, abs1, scal, binL, litInt, conc, conc2, lit?, omap, parts?, partA, fillA, putCells, chunks, AV.cells, AV.notTup, Op.operands, Call.operands, stripRows, AV.strip, aggT, retK, outOf, andThen, hl2, g0, g3, g4, hg, bsize, bapp, bapp41, c2, c3]
          refine hK3 _ _ ?_; clear hK3 K3
          refine CW.region ?_
          simp (maxDischargeDepth := 8) [LW_nil, LW_guardS, DW_guardS, LW_guardN, DW_guardN, yielded_eq, yv, LW_val, LW_skip, LW_enter, DW_nil, DW_val, DW_skip, DW_enter, es_move, es_assign, es_pick, es_allocV, es_boxV, es_build, es_buildSlice, es_buildSliceM, es_appendM, evMut, evAppendM, rowsA, es_load, es_store, es_nilCheck, es_binOp, es_unOp, es_convert, es_makeInterface, es_makeFunc, es_slice, es_fieldAddr, es_field, es_indexAddr, es_index, es_extract, es_panic, es_callV, es_len, es_max, evStepU, evPure, evLit, evMem, evx_tmp, evx_const, evx_func, putA_some, putA_none, slot_ne, slot_eq, List.length_set, isVal, valOf, stOf, accOf, isSkip, isEnter, fnOf, argsOf, absV, abs2, abs1, scal, binL, litInt, conc, conc2, lit?, omap, parts?, partA, fillA, putCells, chunks, AV.cells, AV.notTup, Op.operands, Call.operands, stripRows, AV.strip, aggT, hl2, g4, hw]
          exact hR2 _ _ _ ⟨xs.length - (i + 1), by omega, i + 1, t2 ++ (40 :: (textR true kx ++ [41])), rfl, by omega, by simp [hl2], by simp [slot_ne, g0], by simp (maxDischargeDepth := 8) [slot_ne, slot_eq, hl2], by simp [slot_eq, hl2], hext.trans hext2, by rw [hd2]; simp⟩
        | false =>
          simp only [textI, Bool.false_eq_true, if_false] at hd2 hlenT
          refine CW.cond (t := false) (by simp (maxDischargeDepth := 8) [evx_tmp, slot_eq, hl2]) (CW.region ?_)
          have c1 : t2.length + x.length ≤ 140737488355328 := by omega
          simp (maxDischargeDepth := 8) [LW_nil, LW_guardS, DW_guardS, LW_guardN, DW_guardN, yielded_eq, yv, LW_val, LW_skip, LW_enter, DW_nil, DW_val, DW_skip, DW_enter, es_move, es_assign, es_pick, es_allocV, es_boxV, es_build, es_buildSlice, es_buildSliceM, es_appendM, evMut, evAppendM, rowsA, es_load, es_store, es_nilCheck, es_binOp, es_unOp, es_convert, es_makeInterface, es_makeFunc, es_slice, es_fieldAddr, es_field, es_indexAddr, es_index, es_extract, es_panic, es_callV, es_len, es_max, evStepU, evPure, evLit, evMem, evx_tmp, evx_const, evx_func, putA_some, putA_none, slot_ne, slot_eq, List.length_set, isVal, valOf, stOf, accOf, isSkip, isEnter, fnOf, argsOf, absV, abs2, abs1, scal, binL, litInt, conc, conc2, lit?, omap, parts?, partA, fillA, putCells, chunks, AV.cells, AV.notTup, Op.operands, Call.operands, stripRows, AV.strip, aggT, outOf, andThen, hl2, g0, g3, g4, hg, bsize, bapp, c1]
          refine hK3 _ _ ?_; clear hK3 K3
          refine CW.region ?_
          simp (maxDischargeDepth := 8) [LW_nil, LW_guardS, DW_guardS, LW_guardN, DW_guardN, yielded_eq, yv, LW_val, LW_skip, LW_enter, DW_nil, DW_val, DW_skip, DW_enter, es_move, es_assign, es_pick, es_allocV, es_boxV, es_build, es_buildSlice, es_buildSliceM, es_appendM, evMut, evAppendM, rowsA, es_load, es_store, es_nilCheck, es_binOp, es_unOp, es_convert, es_makeInterface, es_makeFunc, es_slice, es_fieldAddr, es_field, es_indexAddr, es_index, es_extract, es_panic, es_callV, es_len, es_max, evStepU, evPure, evLit, evMem, evx_tmp, evx_const, evx_func, putA_some, putA_none, slot_ne, slot_eq, List.length_set, isVal, valOf, stOf, accOf, isSkip, isEnter, fnOf, argsOf, absV, abs2, abs1, scal, binL, litInt, conc, conc2, lit?, omap, parts?, partA, fillA, putCells, chunks, AV.cells, AV.notTup, Op.operands, Call.operands, stripRows, AV.strip, aggT, hl2, g4, hw]
          exact hR2 _ _ _ ⟨xs.length - (i + 1), by omega, i + 1, t2 ++ x, rfl, by omega, by simp [hl2], by simp [slot_ne, g0], by simp (maxDischargeDepth := 8) [slot_ne, slot_eq, hl2], by simp [slot_eq, hl2], hext, by rw [hd2]; simp⟩
      refine CW.seqK fun K5 hK5 => CW.region ?_
      simp (maxDischargeDepth := 8) [LW_nil, LW_guardS, DW_guardS, LW_guardN, DW_guardN, yielded_eq, yv, LW_val, LW_skip, LW_enter, DW_nil, DW_val, DW_skip, DW_enter, es_move, es_assign, es_pick, es_allocV, es_boxV, es_build, es_buildSlice, es_buildSliceM, es_appendM, evMut, evAppendM, rowsA, es_load, es_store, es_nilCheck, es_binOp, es_unOp, es_convert, es_makeInterface, es_makeFunc, es_slice, es_fieldAddr, es_field, es_indexAddr, es_index, es_extract, es_panic, es_callV, es_len, es_max, evStepU, evPure, evLit, evMem, evx_tmp, evx_const, evx_func, putA_some, putA_none, slot_ne, slot_eq, List.length_set, isVal, valOf, stOf, accOf, isSkip, isEnter, fnOf, argsOf, absV, abs2, abs1, scal, binL, litInt, conc, conc2, lit?, omap, parts?, partA, fillA, putCells, chunks, AV.cells, AV.notTup, Op.operands, Call.operands, stripRows, AV.strip, aggT, andThen, hlen, h0, h3, h4]
      refine hK5 _ _ ?_; clear hK5 K5
      by_cases hi0 : i = 0
      · subst hi0
        refine CW.cond (t := false) (by simp (maxDischargeDepth := 8) [evx_tmp, slot_eq, hlen]) (CW.skip ?_)
        simp only [andThen]
        exact cont _ t (by simp [hlen]) (by simp [slot_ne, h0]) (by simp [slot_ne, h3]) (by simp [slot_ne, h4]) (by rw [hd]; simp)
      · have hi1 : 0 < i := by omega
        refine CW.cond (t := true) (by simp (maxDischargeDepth := 8) [evx_tmp, slot_eq, hlen, hi1]) (CW.region ?_)
        have hlenT := congrArg List.length hd
        simp only [List.length_append] at hlenT
        simp [hi0] at hlenT
        have c1 : t.length + 1 ≤ 140737488355328 := by omega
        simp (maxDischargeDepth := 8) [LW_nil, LW_guardS, DW_guardS, LW_guardN, DW_guardN, yielded_eq, yv, LW_val, LW_skip, LW_enter, DW_nil, DW_val, DW_skip, DW_enter, es_move, es_assign, es_pick, es_allocV, es_boxV, es_build, es_buildSlice, es_buildSliceM, es_appendM, evMut, evAppendM, rowsA, es_load, es_store, es_nilCheck, es_binOp, es_unOp, es_convert, es_makeInterface, es_makeFunc, es_slice, es_fieldAddr, es_field, es_indexAddr, es_index, es_extract, es_panic, es_callV, es_len, es_max, evStepU, evPure, evLit, evMem, evx_tmp, evx_const, evx_func, putA_some, putA_none, slot_ne, slot_eq, List.length_set, isVal, valOf, stOf, accOf, isSkip, isEnter, fnOf, argsOf, absV, abs2, abs1, scal, binL, litInt, conc, conc2, lit?, omap, parts?, partA, fillA, putCells, chunks, AV.cells, AV.notTup, Op.operands, Call.operands, stripRows, AV.strip, aggT, andThen, hlen, h0, h3, h4, bsize, bapp32, c1]
        exact cont _ (t ++ [32]) (by simp [hlen]) (by simp [slot_ne, h0]) (by simp (maxDischargeDepth := 8) [slot_eq, slot_ne, hlen]) (by simp [slot_ne, h4]) (by rw [hd]; simp [hi0])
    · refine CW.cond (t := false) (by simp [evx_tmp, slot_eq, hlen, hlt]) (CW.exit ?_)
      simp only [andThen]
      refine hR2 _ _ _ (hR _ _ _ ?_)
      simp only [outOf, if_true, andThen]
      refine hK _ _ ?_
      refine CW.seqK fun K5 hK5 => CW.region ?_
      simp (maxDischargeDepth := 8) [LW_nil, LW_guardS, DW_guardS, LW_guardN, DW_guardN, yielded_eq, yv, LW_val, LW_skip, LW_enter, DW_nil, DW_val, DW_skip, DW_enter, es_move, es_assign, es_pick, es_allocV, es_boxV, es_build, es_buildSlice, es_buildSliceM, es_appendM, evMut, evAppendM, rowsA, es_load, es_store, es_nilCheck, es_binOp, es_unOp, es_convert, es_makeInterface, es_makeFunc, es_slice, es_fieldAddr, es_field, es_indexAddr, es_index, es_extract, es_panic, es_callV, es_len, es_max, evStepU, evPure, evLit, evMem, evx_tmp, evx_const, evx_func, putA_some, putA_none, slot_ne, slot_eq, List.length_set, isVal, valOf, stOf, accOf, isSkip, isEnter, fnOf, argsOf, absV, abs2, abs1, scal, binL, litInt, conc, conc2, lit?, omap, parts?, partA, fillA, putCells, chunks, AV.cells, AV.notTup, Op.operands, Call.operands, stripRows, AV.strip, aggT, andThen, hlen, h3]
      refine hK5 _ _ ?_
      refine CW.ret (hR0 _ _ _ ?_)
      have hm : textR true xs = t := by rw [hd, List.drop_eq_nil_of_le (by omega), textR]; simp
      refine ⟨.lit (.string ⟨(textR true xs).toArray⟩), ?_, rfl, hext⟩
      simp (maxDischargeDepth := 8) [resultsA, omap, res_tmp, slot_eq, slot_ne, hlen, hm]

end Go.Proofs.YtocaickbfeaiaaaDoor
