/-
  EV: lex: how many trees there are, as far as it is asked.
-/
import Derived.Test.YtocaickbfeaiaaaDoorEvLex
namespace Go.Proofs.YtocaickbfeaiaaaDoor
set_option linter.unusedSimpArgs false
set_option linter.unusedVariables false
open Go.RowKit

mutual
def wtTr : Tr → Nat
  | .mk x k _ _ => 1 + x.length + wtT k
def wtT : List Tr → Nat
  | [] => 0
  | t :: l => wtTr t + wtT l
end
mutual
def manyTr : Tr → Int → Int
  | .mk x k _ _, most => 1 + (x.length / 8 : Nat) + manyT k most 0
def manyT : List Tr → Int → Int → Int
  | [], _, n => n
  | t :: l, most, n => if n ≤ most then manyT l most (n + manyTr t (most - n)) else n
end

mutual
theorem manyTr_le : ∀ (t : Tr) (most : Int), 0 ≤ manyTr t most ∧ manyTr t most ≤ wtTr t
  | .mk x k r a, most => by
    have h := manyT_le k most 0 (Int.le_refl _)
    simp only [manyTr, wtTr]
    omega
theorem manyT_le : ∀ (l : List Tr) (most n : Int), 0 ≤ n → 0 ≤ manyT l most n ∧ manyT l most n ≤ n + wtT l
  | [], most, n, h => by simp only [manyT, wtT]; omega
  | t :: l, most, n, h => by
    have h1 := manyTr_le t (most - n)
    have h2 := manyT_le l most (n + manyTr t (most - n)) (by omega)
    simp only [manyT, wtT]
    split <;> omega
end

theorem wtT_len : ∀ l : List Tr, l.length ≤ wtT l
  | [] => Nat.le_refl _
  | .mk x k r a :: l => by have := wtT_len l; simp only [wtT, wtTr, List.length_cons]; omega
mutual
theorem wt_smallTr : ∀ t : Tr, wtTr t ≤ 2000000 → smallTr t
  | .mk x k r a, h => by simp only [wtTr] at h; exact ⟨by have := wtT_len k; omega, wt_smallT k (by omega)⟩
theorem wt_smallT : ∀ l : List Tr, wtT l ≤ 2000000 → smallT l
  | [], _ => trivial
  | t :: l, h => by simp only [wtT] at h; exact ⟨wt_smallTr t (by omega), wt_smallT l (by omega)⟩
end

theorem wtT_get : ∀ {l : List Tr} {i : Nat} (h : i < l.length), wtTr l[i] + wtT (l.drop (i + 1)) = wtT (l.drop i)
  | t :: l, 0, h => by simp [wtT]
  | t :: l, i + 1, h => by simpa using wtT_get (l := l) (i := i) (by simpa using h)

set_option maxRecDepth 100000 in
set_option maxHeartbeats 400000 in
theorem many_ev (n : Nat) : ∀ (xs : List Tr) (tok : Tok) (most : Int) (σ : Sto), SizeOf.sizeOf xs < n → wtT xs ≤ 2000000 → 0 ≤ most → most ≤ 2000000 → CallW Tryd.prog EL 28 [.sl (rowsOf xs) tok, .lit (.int .i64 most)] σ fun r σ' => r = .ret (.lit (.int .i64 (manyT xs most 0))) ∧ Ext σ σ' := by
  induction n with
  | zero => intro xs tok most σ h; omega
  | succ n ih =>
    intro xs tok most σ h hwt hm0 hm1
    have hmax := wtT_len xs
    refine CallW.start (fn := Tryd.f28) (M := []) rfl rfl rfl rfl (by simp) fun tm hlen hs => ?_
    have h0 := hs 0 _ rfl
    have h1 := hs 1 _ rfl
    clear hs
    simp at hlen
    refine CW.hide fun R0 hR0 => ?_
    refine CW.seqK fun K hK => CW.region ?_
    simp [LW_nil, LW_guardS, DW_guardS, LW_guardN, DW_guardN, yielded_eq, yv, LW_val, LW_skip, LW_enter, DW_nil, DW_val, DW_skip, DW_enter, es_move, es_assign, es_pick, es_allocV, es_boxV, es_build, es_buildSlice, es_buildSliceM, es_appendM, evMut, evAppendM, rowsA, es_load, es_store, es_nilCheck, es_binOp, es_unOp, es_convert, es_makeInterface, es_makeFunc, es_slice, es_fieldAddr, es_field, es_indexAddr, es_index, es_extract, es_panic, es_callV, es_len, es_max, evStepU, evPure, evLit, evMem, evx_tmp, evx_const, evx_func, putA_some, putA_none, slot_ne, slot_eq, List.length_set, isVal, valOf, stOf, accOf, isSkip, isEnter, fnOf, argsOf, absV, abs2, abs1, scal, binL, litInt, conc, conc2, lit?, omap, parts?, partA, fillA, putCells, chunks, AV.cells, AV.notTup, Op.operands, Call.operands, stripRows, AV.strip, aggT, andThen, hlen]
    refine hK _ _ ?_; clear hK K
    refine CW.seqK fun K hK => CW.region ?_
    simp [LW_nil, LW_guardS, DW_guardS, LW_guardN, DW_guardN, yielded_eq, yv, LW_val, LW_skip, LW_enter, DW_nil, DW_val, DW_skip, DW_enter, es_move, es_assign, es_pick, es_allocV, es_boxV, es_build, es_buildSlice, es_buildSliceM, es_appendM, evMut, evAppendM, rowsA, es_load, es_store, es_nilCheck, es_binOp, es_unOp, es_convert, es_makeInterface, es_makeFunc, es_slice, es_fieldAddr, es_field, es_indexAddr, es_index, es_extract, es_panic, es_callV, es_len, es_max, evStepU, evPure, evLit, evMem, evx_tmp, evx_const, evx_func, putA_some, putA_none, slot_ne, slot_eq, List.length_set, isVal, valOf, stOf, accOf, isSkip, isEnter, fnOf, argsOf, absV, abs2, abs1, scal, binL, litInt, conc, conc2, lit?, omap, parts?, partA, fillA, putCells, chunks, AV.cells, AV.notTup, Op.operands, Call.operands, stripRows, AV.strip, aggT, andThen, hlen]
    refine hK _ _ ?_; clear hK K
    refine CW.seqK fun K hK => ?_
    refine CW.seqK fun K2 hK2 => CW.region ?_
    simp [LW_nil, LW_guardS, DW_guardS, LW_guardN, DW_guardN, yielded_eq, yv, LW_val, LW_skip, LW_enter, DW_nil, DW_val, DW_skip, DW_enter, es_move, es_assign, es_pick, es_allocV, es_boxV, es_build, es_buildSlice, es_buildSliceM, es_appendM, evMut, evAppendM, rowsA, es_load, es_store, es_nilCheck, es_binOp, es_unOp, es_convert, es_makeInterface, es_makeFunc, es_slice, es_fieldAddr, es_field, es_indexAddr, es_index, es_extract, es_panic, es_callV, es_len, es_max, evStepU, evPure, evLit, evMem, evx_tmp, evx_const, evx_func, putA_some, putA_none, slot_ne, slot_eq, List.length_set, isVal, valOf, stOf, accOf, isSkip, isEnter, fnOf, argsOf, absV, abs2, abs1, scal, binL, litInt, conc, conc2, lit?, omap, parts?, partA, fillA, putCells, chunks, AV.cells, AV.notTup, Op.operands, Call.operands, stripRows, AV.strip, aggT, andThen, hlen]
    refine hK2 _ _ ?_; clear hK2 K2
    refine CW.block ?_
    refine CW.hide fun R hR => ?_
    refine CW.loopI (fun k tm σ1 => ∃ (i : Nat) (m : Int), k = xs.length - i ∧ i ≤ xs.length ∧ tm.length = 39 ∧ slot tm 0 = .sl (rowsOf xs) tok ∧ slot tm 1 = .lit (.int .i64 most) ∧ slot tm 5 = .lit (.int .i64 m) ∧ slot tm 6 = .lit (.int .i64 i) ∧ Ext σ σ1 ∧ 0 ≤ m ∧ m + wtT (xs.drop i) ≤ wtT xs ∧ manyT xs most 0 = manyT (xs.drop i) most m) ?_ xs.length _ _
      ⟨0, 0, rfl, by omega, by simp [hlen], by simp [slot_ne, h0], by simp [slot_ne, h1], by simp [slot_ne, slot_eq, hlen], by simp [slot_eq, hlen], .refl _, by omega, by simp, by simp⟩
    clear h0 h1 hlen tm
    rintro k tm σ1 ⟨i, m, rfl, hi, hlen, h0, h1, h5, h6, hext, hm, hmw, hd⟩
    refine CW.hide fun R2 hR2 => ?_
    refine CW.seqK fun K3 hK3 => ?_
    have stop : ∀ tm2 : List AV, tm2.length = 39 → slot tm2 5 = .lit (.int .i64 m) → manyT xs most 0 = m → K (tm2) σ1 := by
      intro tm2 hl2 hs5 hmm
      refine hK _ _ ?_
      refine CW.seqK fun K5 hK5 => CW.region ?_
      simp (maxDischargeDepth := 8) [LW_nil, LW_guardS, DW_guardS, LW_guardN, DW_guardN, yielded_eq, yv, LW_val, LW_skip, LW_enter, DW_nil, DW_val, DW_skip, DW_enter, es_move, es_assign, es_pick, es_allocV, es_boxV, es_build, es_buildSlice, es_buildSliceM, es_appendM, evMut, evAppendM, rowsA, es_load, es_store, es_nilCheck, es_binOp, es_unOp, es_convert, es_makeInterface, es_makeFunc, es_slice, es_fieldAddr, es_field, es_indexAddr, es_index, es_extract, es_panic, es_callV, es_len, es_max, evStepU, evPure, evLit, evMem, evx_tmp, evx_const, evx_func, putA_some, putA_none, slot_ne, slot_eq, List.length_set, isVal, valOf, stOf, accOf, isSkip, isEnter, fnOf, argsOf, absV, abs2, abs1, scal, binL, litInt, conc, conc2, lit?, omap, parts?, partA, fillA, putCells, chunks, AV.cells, AV.notTup, Op.operands, Call.operands, stripRows, AV.strip, aggT, andThen, hl2, hs5]
      refine hK5 _ _ ?_
      refine CW.ret (hR0 _ _ _ ?_)
      refine ⟨.lit (.int .i64 (manyT xs most 0)), ?_, rfl, hext⟩
      simp (maxDischargeDepth := 8) [resultsA, omap, res_tmp, slot_eq, slot_ne, hl2, hmm]
    by_cases hlt : i < xs.length
    · have hx := List.getElem?_eq_getElem hlt
      have hg := rowsOf_get hx
      have hsk := size_kids hx
      have hdrop := List.drop_eq_getElem_cons hlt
      have hwd := wtT_get hlt
      have hw : IntKind.i64.wrap ((i : Int) + 1) = ((i + 1 : Nat) : Int) := wrap_succ (by omega)
      by_cases hmm : m ≤ most
      · refine CW.seqK fun K4 hK4 => CW.region ?_
        simp (maxDischargeDepth := 8) [LW_nil, LW_guardS, DW_guardS, LW_guardN, DW_guardN, yielded_eq, yv, LW_val, LW_skip, LW_enter, DW_nil, DW_val, DW_skip, DW_enter, es_move, es_assign, es_pick, es_allocV, es_boxV, es_build, es_buildSlice, es_buildSliceM, es_appendM, evMut, evAppendM, rowsA, es_load, es_store, es_nilCheck, es_binOp, es_unOp, es_convert, es_makeInterface, es_makeFunc, es_slice, es_fieldAddr, es_field, es_indexAddr, es_index, es_extract, es_panic, es_callV, es_len, es_max, evStepU, evPure, evLit, evMem, evx_tmp, evx_const, evx_func, putA_some, putA_none, slot_ne, slot_eq, List.length_set, isVal, valOf, stOf, accOf, isSkip, isEnter, fnOf, argsOf, absV, abs2, abs1, scal, binL, litInt, conc, conc2, lit?, omap, parts?, partA, fillA, putCells, chunks, AV.cells, AV.notTup, Op.operands, Call.operands, stripRows, AV.strip, aggT, andThen, hlen, h0, h1, h5, h6, rowsOf_length, hlt, hmm]
        refine hK4 _ _ ?_; clear hK4 K4
        refine CW.cond (t := true) (by simp (maxDischargeDepth := 8) [evx_tmp, slot_eq, slot_ne, hlen]) (CW.skip ?_)
        simp only [andThen]
        refine hK3 _ _ ?_; clear hK3 K3
        refine CW.seqK fun K3 hK3 => CW.block ?_
        refine CW.draw (by kernel_rfl) ?_
        generalize xs[i] = tx at *
        obtain ⟨x, kx, rx, ax⟩ := tx
        simp only [Tr.word, Tr.kids, Tr.row, Tr.at_] at *
        rw [hdrop, manyT, if_pos hmm, manyTr] at hd
        simp only [wtTr] at hwd
        have hb := manyT_le kx (most - m) 0 (Int.le_refl _)
        have a1 : IntKind.i64.wrap (m + 1) = m + 1 := IntWalk.i64_in _ (by omega)
        have hbs : (⟨x.toArray⟩ : ByteArray).size = x.length := by simp [ByteArray.size]
        have a2 : IntKind.i64.wrap ((x.length : Int) / 8) = (x.length : Int) / 8 := IntWalk.i64_in _ (by omega)
        have a3 : IntKind.i64.wrap (m + 1 + (x.length : Int) / 8) = m + 1 + (x.length : Int) / 8 := IntWalk.i64_in _ (by omega)
        have a4 : IntKind.i64.wrap (most - m) = most - m := IntWalk.i64_in _ (by omega)
        have a5 : IntKind.i64.wrap (m + 1 + (x.length : Int) / 8 + manyT kx (most - m) 0) = m + 1 + (x.length : Int) / 8 + manyT kx (most - m) 0 := IntWalk.i64_in _ (by omega)
        simp (maxDischargeDepth := 8) [LW_nil, LW_guardS, DW_guardS, LW_guardN, DW_guardN, yielded_eq, yv, LW_val, LW_skip, LW_enter, DW_nil, DW_val, DW_skip, DW_enter, es_move, es_assign, es_pick, es_allocV, es_boxV, es_build, es_buildSlice, es_buildSliceM, es_appendM, evMut, evAppendM, rowsA, es_load, es_store, es_nilCheck, es_binOp, es_unOp, es_convert, es_makeInterface, es_makeFunc, es_slice, es_fieldAddr, es_field, es_indexAddr, es_index, es_extract, es_panic, es_callV, es_len, es_max, evStepU, evPure, evLit, evMem, evx_tmp, evx_const, evx_func, putA_some, putA_none, slot_ne, slot_eq, List.length_set, isVal, valOf, stOf, accOf, isSkip, isEnter, fnOf, argsOf, absV, abs2, abs1, scal, binL, litInt, conc, conc2, lit?, omap, parts?, partA, fillA, putCells, chunks, AV.cells, AV.notTup, Op.operands, Call.operands, stripRows, AV.strip, aggT, andThen, outOf, hlen, h0, h1, h5, h6, hg, a1, hbs, a2, a3, a4]
        refine (ih kx _ _ _ (by omega) (by omega) (by omega) (by omega)).mono ?_
        rintro r σ2 ⟨rfl, hext2⟩
        simp (maxDischargeDepth := 8) [LW_nil, LW_guardS, DW_guardS, LW_guardN, DW_guardN, yielded_eq, yv, LW_val, LW_skip, LW_enter, DW_nil, DW_val, DW_skip, DW_enter, es_move, es_assign, es_pick, es_allocV, es_boxV, es_build, es_buildSlice, es_buildSliceM, es_appendM, evMut, evAppendM, rowsA, es_load, es_store, es_nilCheck, es_binOp, es_unOp, es_convert, es_makeInterface, es_makeFunc, es_slice, es_fieldAddr, es_field, es_indexAddr, es_index, es_extract, es_panic, es_callV, es_len, es_max, evStepU, evPure, evLit, evMem, evx_tmp, evx_const, evx_func, putA_some, putA_none, slot_ne, slot_eq, List.length_set, isVal, valOf, stOf, accOf, isSkip, isEnter, fnOf, argsOf, absV, abs2, abs1, scal, binL, litInt, conc, conc2, lit?, omap, parts?, partA, fillA, putCells, chunks, AV.cells, AV.notTup, Op.operands, Call.operands, stripRows, AV.strip, aggT, retK, andThen, outOf, hlen, h0, h1, h5, h6, hg, a1, hbs, a2, a3, a5]
        refine ⟨by kernel_rfl, hK3 _ _ ?_⟩; clear hK3 K3
        refine CW.region ?_
        simp (maxDischargeDepth := 8) [LW_nil, LW_guardS, DW_guardS, LW_guardN, DW_guardN, yielded_eq, yv, LW_val, LW_skip, LW_enter, DW_nil, DW_val, DW_skip, DW_enter, es_move, es_assign, es_pick, es_allocV, es_boxV, es_build, es_buildSlice, es_buildSliceM, es_appendM, evMut, evAppendM, rowsA, es_load, es_store, es_nilCheck, es_binOp, es_unOp, es_convert, es_makeInterface, es_makeFunc, es_slice, es_fieldAddr, es_field, es_indexAddr, es_index, es_extract, es_panic, es_callV, es_len, es_max, evStepU, evPure, evLit, evMem, evx_tmp, evx_const, evx_func, putA_some, putA_none, slot_ne, slot_eq, List.length_set, isVal, valOf, stOf, accOf, isSkip, isEnter, fnOf, argsOf, absV, abs2, abs1, scal, binL, litInt, conc, conc2, lit?, omap, parts?, partA, fillA, putCells, chunks, AV.cells, AV.notTup, Op.operands, Call.operands, stripRows, AV.strip, aggT, hlen, h6, hw]
        refine hR2 _ _ _ ⟨xs.length - (i + 1), by omega, i + 1, m + 1 + (x.length : Int) / 8 + manyT kx (most - m) 0, rfl, by omega, by simp [hlen], by simp [slot_ne, h0], by simp [slot_ne, h1], by simp (maxDischargeDepth := 8) [slot_ne, slot_eq, hlen], by simp [slot_eq, hlen], hext.trans hext2, by omega, by omega, ?_⟩
        rw [hd]
        congr 1
        omega
      · refine CW.seqK fun K4 hK4 => CW.region ?_
        simp (maxDischargeDepth := 8) [LW_nil, LW_guardS, DW_guardS, LW_guardN, DW_guardN, yielded_eq, yv, LW_val, LW_skip, LW_enter, DW_nil, DW_val, DW_skip, DW_enter, es_move, es_assign, es_pick, es_allocV, es_boxV, es_build, es_buildSlice, es_buildSliceM, es_appendM, evMut, evAppendM, rowsA, es_load, es_store, es_nilCheck, es_binOp, es_unOp, es_convert, es_makeInterface, es_makeFunc, es_slice, es_fieldAddr, es_field, es_indexAddr, es_index, es_extract, es_panic, es_callV, es_len, es_max, evStepU, evPure, evLit, evMem, evx_tmp, evx_const, evx_func, putA_some, putA_none, slot_ne, slot_eq, List.length_set, isVal, valOf, stOf, accOf, isSkip, isEnter, fnOf, argsOf, absV, abs2, abs1, scal, binL, litInt, conc, conc2, lit?, omap, parts?, partA, fillA, putCells, chunks, AV.cells, AV.notTup, Op.operands, Call.operands, stripRows, AV.strip, aggT, andThen, hlen, h0, h1, h5, h6, rowsOf_length, hlt, hmm]
        refine hK4 _ _ ?_; clear hK4 K4
        refine CW.cond (t := false) (by simp (maxDischargeDepth := 8) [evx_tmp, slot_eq, slot_ne, hlen]) (CW.exit ?_)
        simp only [andThen]
        refine hR2 _ _ _ (hR _ _ _ ?_)
        simp only [outOf, if_true, andThen]
        exact stop _ (by simp [hlen]) (by simp [slot_ne, h5]) (by rw [hd, hdrop, manyT, if_neg hmm])
    · refine CW.seqK fun K4 hK4 => CW.region ?_
      simp (maxDischargeDepth := 8) [LW_nil, LW_guardS, DW_guardS, LW_guardN, DW_guardN, yielded_eq, yv, LW_val, LW_skip, LW_enter, DW_nil, DW_val, DW_skip, DW_enter, es_move, es_assign, es_pick, es_allocV, es_boxV, es_build, es_buildSlice, es_buildSliceM, es_appendM, evMut, evAppendM, rowsA, es_load, es_store, es_nilCheck, es_binOp, es_unOp, es_convert, es_makeInterface, es_makeFunc, es_slice, es_fieldAddr, es_field, es_indexAddr, es_index, es_extract, es_panic, es_callV, es_len, es_max, evStepU, evPure, evLit, evMem, evx_tmp, evx_const, evx_func, putA_some, putA_none, slot_ne, slot_eq, List.length_set, isVal, valOf, stOf, accOf, isSkip, isEnter, fnOf, argsOf, absV, abs2, abs1, scal, binL, litInt, conc, conc2, lit?, omap, parts?, partA, fillA, putCells, chunks, AV.cells, AV.notTup, Op.operands, Call.operands, stripRows, AV.strip, aggT, andThen, hlen, h0, h1, h5, h6, rowsOf_length, hlt]
      refine hK4 _ _ ?_; clear hK4 K4
      refine CW.cond (t := false) (by simp (maxDischargeDepth := 8) [evx_tmp, slot_eq, slot_ne, hlen]) (CW.exit ?_)
      simp only [andThen]
      refine hR2 _ _ _ (hR _ _ _ ?_)
      simp only [outOf, if_true, andThen]
      exact stop _ (by simp [hlen]) (by simp [slot_ne, h5]) (by rw [hd, List.drop_eq_nil_of_le (by omega), manyT])

end Go.Proofs.YtocaickbfeaiaaaDoor
