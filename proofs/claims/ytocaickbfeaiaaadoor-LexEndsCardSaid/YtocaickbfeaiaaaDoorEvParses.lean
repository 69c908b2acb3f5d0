/-
  EV: what is parsed is the document's: same, parses, LexParses.
-/
import Derived.Test.YtocaickbfeaiaaaDoorLexRef
import Derived.Test.YtocaickbfeaiaaaDoorEvLex
namespace Go.Proofs.YtocaickbfeaiaaaDoor
set_option linter.unusedSimpArgs false
set_option linter.unusedVariables false
open Go.RowKit

/-- trees that an object holds -/
def SlAt (g : Nat → Nat) (σ : Sto) (v : AV) (xs : List Tr) : Prop := (xs = [] ∧ v = .sl [] .full) ∨ ∃ id cs, v = .asl id 0 xs.length 4 ∧ σ[id]? = some (.cells cs 83) ∧ IsTrs g σ cs xs

theorem IsTrs.get {g : Nat → Nat} {σ : Sto} : ∀ {cs : List AV} {xs : List Tr} {i : Nat} {x : List UInt8} {k : List Tr} {r : Bool} {a : Int}, IsTrs g σ cs xs → xs[i]? = some (.mk x k r a) →
    ∃ kv, cs[i * 4]? = some (.lit (.string ⟨x.toArray⟩)) ∧ cs[i * 4 + 1]? = some kv ∧ cs[i * 4 + 2]? = some (.lit (.bool r)) ∧ cs[i * 4 + 3]? = some (.lit (.int .i64 a)) ∧ SlAt g σ kv k
  | cs, [], i, x, k, r, a, h, hx => by simp at hx
  | cs, t :: l, 0, x, k, r, a, ⟨row, rest, h1, h2, h3⟩, hx => by
    simp at hx; subst hx
    obtain ⟨kv, hrow, hk⟩ := h2
    subst h1; subst hrow
    refine ⟨kv, rfl, rfl, rfl, rfl, ?_⟩
    rcases hk with hk | ⟨id, cs, g1, g2, g3, g4⟩
    · exact .inl hk
    · exact .inr ⟨id, cs, g1, g3, g4⟩
  | cs, t :: l, i + 1, x, k, r, a, ⟨row, rest, h1, h2, h3⟩, hx => by
    have hl := IsTr.length h2
    obtain ⟨kv, a1, a2, a3, a4, a5⟩ := IsTrs.get h3 (by simpa using hx)
    have sh : ∀ j, cs[(i + 1) * 4 + j]? = rest[i * 4 + j]? := fun j => by
      rw [h1, List.getElem?_append_right (by omega), hl]; congr 1; omega
    refine ⟨kv, ?_, ?_, ?_, ?_, a5⟩
    · have := sh 0; simp only [Nat.add_zero] at this; rw [this]; exact a1
    · rw [sh]; exact a2
    · rw [sh]; exact a3
    · rw [sh]; exact a4

set_option maxRecDepth 100000 in
set_option maxHeartbeats 4000000 in
theorem same_ev (g : Nat → Nat) (n : Nat) : ∀ (xs : List Tr) (tok : Tok) (v : AV) (σ : Sto), SizeOf.sizeOf xs < n → xs.length ≤ 2000000 → smallT xs → SlAt g σ v xs → CallW Tryd.prog EL 13 [.sl (rowsOf xs) tok, v] σ fun r σ' => r = .ret (.lit (.bool true)) ∧ σ' = σ := by
  induction n with
  | zero => intro xs tok v σ h; omega
  | succ n ih =>
    intro xs tok v σ h hmax hsm hsl
    refine CallW.start (fn := Tryd.f13) (M := []) rfl rfl rfl rfl (by simp) fun tm hlen hs => ?_
    have h0 := hs 0 _ rfl
    have h1 := hs 1 _ rfl
    clear hs
    simp at hlen
    have hlv : ∀ (tm : List AV) (ds : Option Tmp) (ty : TypeId) (po : String) (af : Array Edge) (gu : Option (Nat × Bool)) (x : Operand), evx tm x = some v → evStep Tryd.prog [] (evx tm) σ ⟨ds, .call ⟨.builtin .len, #[x], #[37]⟩, ty, po, af, gu⟩ = some (.val (.lit (.int .i64 xs.length)) σ .pure) := by
      intro tm ds ty po af gu x hx
      rcases hsl with ⟨rfl, rfl⟩ | ⟨id, cs, rfl, _, _⟩ <;> simp [es_len, evStepU, evPure, hx]
    refine CW.hide fun R0 hR0 => ?_
    refine CW.seqK fun K hK => CW.region ?_
    simp [LW_nil, LW_guardS, DW_guardS, LW_guardN, DW_guardN, yielded_eq, yv, LW_val, LW_skip, LW_enter, DW_nil, DW_val, DW_skip, DW_enter, es_move, es_assign, es_pick, es_allocV, es_boxV, es_build, es_buildSlice, es_buildSliceM, es_appendM, evMut, evAppendM, rowsA, es_load, es_store, es_nilCheck, es_binOp, es_unOp, es_convert, es_makeInterface, es_makeFunc, es_slice, es_fieldAddr, es_field, es_indexAddr, es_index, es_extract, es_panic, es_callV, es_len, es_max, evStepU, evPure, evLit, evMem, evx_tmp, evx_const, evx_func, putA_some, putA_none, slot_ne, slot_eq, List.length_set, isVal, valOf, stOf, accOf, isSkip, isEnter, fnOf, argsOf, absV, abs2, abs1, scal, binL, litInt, conc, conc2, lit?, omap, parts?, partA, fillA, putCells, chunks, AV.cells, AV.notTup, Op.operands, Call.operands, stripRows, AV.strip, aggT, andThen, hlen, h0, h1]
    refine hK _ _ ?_; clear hK K
    refine CW.seqK fun K hK => ?_
    refine CW.seqK fun K2 hK2 => CW.region ?_
    simp (maxDischargeDepth := 8) [LW_nil, LW_guardS, DW_guardS, LW_guardN, DW_guardN, yielded_eq, yv, LW_val, LW_skip, LW_enter, DW_nil, DW_val, DW_skip, DW_enter, es_move, es_assign, es_pick, es_allocV, es_boxV, es_build, es_buildSlice, es_buildSliceM, es_appendM, evMut, evAppendM, rowsA, es_load, es_store, es_nilCheck, es_binOp, es_unOp, es_convert, es_makeInterface, es_makeFunc, es_slice, es_fieldAddr, es_field, es_indexAddr, es_index, es_extract, es_panic, es_callV, es_len, es_max, evStepU, evPure, evLit, evMem, evx_tmp, evx_const, evx_func, putA_some, putA_none, slot_ne, slot_eq, List.length_set, isVal, valOf, stOf, accOf, isSkip, isEnter, fnOf, argsOf, absV, abs2, abs1, scal, binL, litInt, conc, conc2, lit?, omap, parts?, partA, fillA, putCells, chunks, AV.cells, AV.notTup, Op.operands, Call.operands, stripRows, AV.strip, aggT, andThen, hlen, h0, h1, rowsOf_length, hlv]
    refine hK2 _ _ ?_; clear hK2 K2
    refine CW.cond (t := false) (by simp [evx_tmp, slot_eq, hlen]) (CW.skip ?_)
    simp only [andThen]
    refine hK _ _ ?_; clear hK K
    refine CW.seqK fun K hK => ?_
    refine CW.seqK fun K2 hK2 => CW.region ?_
    simp (maxDischargeDepth := 8) [LW_nil, LW_guardS, DW_guardS, LW_guardN, DW_guardN, yielded_eq, yv, LW_val, LW_skip, LW_enter, DW_nil, DW_val, DW_skip, DW_enter, es_move, es_assign, es_pick, es_allocV, es_boxV, es_build, es_buildSlice, es_buildSliceM, es_appendM, evMut, evAppendM, rowsA, es_load, es_store, es_nilCheck, es_binOp, es_unOp, es_convert, es_makeInterface, es_makeFunc, es_slice, es_fieldAddr, es_field, es_indexAddr, es_index, es_extract, es_panic, es_callV, es_len, es_max, evStepU, evPure, evLit, evMem, evx_tmp, evx_const, evx_func, putA_some, putA_none, slot_ne, slot_eq, List.length_set, isVal, valOf, stOf, accOf, isSkip, isEnter, fnOf, argsOf, absV, abs2, abs1, scal, binL, litInt, conc, conc2, lit?, omap, parts?, partA, fillA, putCells, chunks, AV.cells, AV.notTup, Op.operands, Call.operands, stripRows, AV.strip, aggT, andThen, hlen]
    refine hK2 _ _ ?_; clear hK2 K2
    refine CW.block ?_
    refine CW.hide fun R hR => ?_
    refine CW.loopI (fun k tm σ1 => ∃ (i : Nat), k = xs.length - i ∧ i ≤ xs.length ∧ tm.length = 68 ∧ slot tm 0 = .sl (rowsOf xs) tok ∧ slot tm 1 = v ∧ slot tm 5 = .lit (.int .i64 i) ∧ σ1 = σ) ?_ xs.length _ _ ?_
    rotate_left
    · exact ⟨0, rfl, by omega, by simp [hlen], by simp [slot_ne, h0], by simp [slot_ne, h1], by simp [slot_eq, hlen], rfl⟩
    clear h0 h1 hlen tm
    rintro k tm σ1 ⟨i, rfl, hi, hlen, h0, h1, h5, rfl⟩
    refine CW.hide fun R2 hR2 => ?_
    refine CW.seqK fun K3 hK3 => ?_
    by_cases hlt : i < xs.length
    · have hlt' : (i : Int) < (xs.length : Int) := by omega
      refine CW.seqK fun K4 hK4 => CW.region ?_
      simp (maxDischargeDepth := 8) [LW_nil, LW_guardS, DW_guardS, LW_guardN, DW_guardN, yielded_eq, yv, LW_val, LW_skip, LW_enter, DW_nil, DW_val, DW_skip, DW_enter, es_move, es_assign, es_pick, es_allocV, es_boxV, es_build, es_buildSlice, es_buildSliceM, es_appendM, evMut, evAppendM, rowsA, es_load, es_store, es_nilCheck, es_binOp, es_unOp, es_convert, es_makeInterface, es_makeFunc, es_slice, es_fieldAddr, es_field, es_indexAddr, es_index, es_extract, es_panic, es_callV, es_len, es_max, evStepU, evPure, evLit, evMem, evx_tmp, evx_const, evx_func, putA_some, putA_none, slot_ne, slot_eq, List.length_set, isVal, valOf, stOf, accOf, isSkip, isEnter, fnOf, argsOf, absV, abs2, abs1, scal, binL, litInt, conc, conc2, lit?, omap, parts?, partA, fillA, putCells, chunks, AV.cells, AV.notTup, Op.operands, Call.operands, stripRows, AV.strip, aggT, andThen, hlen, h0, h5, rowsOf_length, hlt, hlt']
      refine hK4 _ _ ?_; clear hK4 K4
      refine CW.cond (t := true) (by simp [evx_tmp, slot_eq, hlen, hlt, hlt']) (CW.skip ?_)
      simp only [andThen]
      refine hK3 _ _ ?_; clear hK3 K3
      have hx := List.getElem?_eq_getElem hlt
      have hg := rowsOf_get hx
      have hsk := size_kids hx
      have hsm2 := smallT_get hsm hx
      have hw : IntKind.i64.wrap ((i : Int) + 1) = ((i + 1 : Nat) : Int) := wrap_succ (by omega)
      refine CW.seqK fun K3 hK3 => CW.block ?_
      refine CW.seqK fun K4 hK4 => CW.draw (by kernel_rfl) ?_
      generalize xs[i] = tx at *
      obtain ⟨x, kx, rx, ax⟩ := tx
      simp only [Tr.word, Tr.kids, Tr.row, Tr.at_] at *
      rcases hsl with ⟨hnil, _⟩ | ⟨id, cs, rfl, ho, hts⟩
      · rw [hnil] at hlt; simp at hlt
      obtain ⟨kv, c0, c1, c2, c3, hkv⟩ := IsTrs.get hts hx
      have lcs := hts.length
      simp (maxDischargeDepth := 8) [LW_nil, LW_guardS, DW_guardS, LW_guardN, DW_guardN, yielded_eq, yv, LW_val, LW_skip, LW_enter, DW_nil, DW_val, DW_skip, DW_enter, es_move, es_assign, es_pick, es_allocV, es_boxV, es_build, es_buildSlice, es_buildSliceM, es_appendM, evMut, evAppendM, rowsA, es_load, es_store, es_nilCheck, es_binOp, es_unOp, es_convert, es_makeInterface, es_makeFunc, es_slice, es_fieldAddr, es_field, es_indexAddr, es_index, es_extract, es_panic, es_callV, es_len, es_max, evStepU, evPure, evLit, evMem, evx_tmp, evx_const, evx_func, putA_some, putA_none, slot_ne, slot_eq, List.length_set, isVal, valOf, stOf, accOf, isSkip, isEnter, fnOf, argsOf, absV, abs2, abs1, scal, binL, litInt, conc, conc2, lit?, omap, parts?, partA, fillA, putCells, chunks, AV.cells, AV.notTup, Op.operands, Call.operands, stripRows, AV.strip, aggT, andThen, outOf, hlen, h0, h1, h5, hg, ho, c0, c1, c2, c3, hlt, hlt']
      refine (ih kx _ kv _ (by omega) hsm2.1 hsm2.2 hkv).mono ?_
      rintro r σ2 ⟨rfl, rfl⟩
      simp (maxDischargeDepth := 8) [LW_nil, LW_guardS, DW_guardS, LW_guardN, DW_guardN, yielded_eq, yv, LW_val, LW_skip, LW_enter, DW_nil, DW_val, DW_skip, DW_enter, es_move, es_assign, es_pick, es_allocV, es_boxV, es_build, es_buildSlice, es_buildSliceM, es_appendM, evMut, evAppendM, rowsA, es_load, es_store, es_nilCheck, es_binOp, es_unOp, es_convert, es_makeInterface, es_makeFunc, es_slice, es_fieldAddr, es_field, es_indexAddr, es_index, es_extract, es_panic, es_callV, es_len, es_max, evStepU, evPure, evLit, evMem, evx_tmp, evx_const, evx_func, putA_some, putA_none, slot_ne, slot_eq, List.length_set, isVal, valOf, stOf, accOf, isSkip, isEnter, fnOf, argsOf, absV, abs2, abs1, scal, binL, litInt, conc, conc2, lit?, omap, parts?, partA, fillA, putCells, chunks, AV.cells, AV.notTup, Op.operands, Call.operands, stripRows, AV.strip, aggT, retK, andThen, outOf, hlen]
      refine ⟨by kernel_rfl, hK4 _ _ ?_⟩; clear hK4 K4
      refine CW.cond (t := false) (by simp [evx_tmp, slot_eq, hlen]) (CW.skip ?_)
      simp only [outOf, andThen]
      refine hK3 _ _ ?_; clear hK3 K3
      refine CW.region ?_
      simp (maxDischargeDepth := 8) [LW_nil, LW_guardS, DW_guardS, LW_guardN, DW_guardN, yielded_eq, yv, LW_val, LW_skip, LW_enter, DW_nil, DW_val, DW_skip, DW_enter, es_move, es_assign, es_pick, es_allocV, es_boxV, es_build, es_buildSlice, es_buildSliceM, es_appendM, evMut, evAppendM, rowsA, es_load, es_store, es_nilCheck, es_binOp, es_unOp, es_convert, es_makeInterface, es_makeFunc, es_slice, es_fieldAddr, es_field, es_indexAddr, es_index, es_extract, es_panic, es_callV, es_len, es_max, evStepU, evPure, evLit, evMem, evx_tmp, evx_const, evx_func, putA_some, putA_none, slot_ne, slot_eq, List.length_set, isVal, valOf, stOf, accOf, isSkip, isEnter, fnOf, argsOf, absV, abs2, abs1, scal, binL, litInt, conc, conc2, lit?, omap, parts?, partA, fillA, putCells, chunks, AV.cells, AV.notTup, Op.operands, Call.operands, stripRows, AV.strip, aggT, hlen, h5, hw]
      exact hR2 _ _ _ ⟨xs.length - (i + 1), by omega, i + 1, rfl, by omega, by simp [hlen], by simp [slot_ne, h0], by simp [slot_ne, h1], by simp [slot_eq, hlen], rfl⟩
    · have hlt' : ¬ (i : Int) < (xs.length : Int) := by omega
      refine CW.seqK fun K4 hK4 => CW.region ?_
      simp (maxDischargeDepth := 8) [LW_nil, LW_guardS, DW_guardS, LW_guardN, DW_guardN, yielded_eq, yv, LW_val, LW_skip, LW_enter, DW_nil, DW_val, DW_skip, DW_enter, es_move, es_assign, es_pick, es_allocV, es_boxV, es_build, es_buildSlice, es_buildSliceM, es_appendM, evMut, evAppendM, rowsA, es_load, es_store, es_nilCheck, es_binOp, es_unOp, es_convert, es_makeInterface, es_makeFunc, es_slice, es_fieldAddr, es_field, es_indexAddr, es_index, es_extract, es_panic, es_callV, es_len, es_max, evStepU, evPure, evLit, evMem, evx_tmp, evx_const, evx_func, putA_some, putA_none, slot_ne, slot_eq, List.length_set, isVal, valOf, stOf, accOf, isSkip, isEnter, fnOf, argsOf, absV, abs2, abs1, scal, binL, litInt, conc, conc2, lit?, omap, parts?, partA, fillA, putCells, chunks, AV.cells, AV.notTup, Op.operands, Call.operands, stripRows, AV.strip, aggT, andThen, hlen, h0, h5, rowsOf_length, hlt, hlt']
      refine hK4 _ _ ?_; clear hK4 K4
      refine CW.cond (t := false) (by simp [evx_tmp, slot_eq, hlen, hlt, hlt']) (CW.exit ?_)
      simp only [andThen]
      refine hR2 _ _ _ (hR _ _ _ ?_)
      simp only [outOf, if_true, andThen]
      refine hK _ _ ?_
      refine CW.seqK fun K5 hK5 => CW.region ?_
      simp (maxDischargeDepth := 8) [LW_nil, LW_guardS, DW_guardS, LW_guardN, DW_guardN, yielded_eq, yv, LW_val, LW_skip, LW_enter, DW_nil, DW_val, DW_skip, DW_enter, es_move, es_assign, es_pick, es_allocV, es_boxV, es_build, es_buildSlice, es_buildSliceM, es_appendM, evMut, evAppendM, rowsA, es_load, es_store, es_nilCheck, es_binOp, es_unOp, es_convert, es_makeInterface, es_makeFunc, es_slice, es_fieldAddr, es_field, es_indexAddr, es_index, es_extract, es_panic, es_callV, es_len, es_max, evStepU, evPure, evLit, evMem, evx_tmp, evx_const, evx_func, putA_some, putA_none, slot_ne, slot_eq, List.length_set, isVal, valOf, stOf, accOf, isSkip, isEnter, fnOf, argsOf, absV, abs2, abs1, scal, binL, litInt, conc, conc2, lit?, omap, parts?, partA, fillA, putCells, chunks, AV.cells, AV.notTup, Op.operands, Call.operands, stripRows, AV.strip, aggT, andThen, hlen]
      refine hK5 _ _ ?_
      refine CW.ret (hR0 _ _ _ ?_)
      exact ⟨.lit (.bool true), by simp [resultsA, omap, res_tmp, slot_eq, hlen], rfl, rfl⟩

theorem OpenRow.slAt {g : Nat → Nat} {σ : Sto} {v : AV} {xs : List Tr} {n : Nat} (h : OpenRow g σ v xs n) : SlAt g σ v xs := by
  rcases h with h | ⟨id, cs, h1, h2, h3, h4⟩
  · exact .inl h
  · exact .inr ⟨id, cs, h1, h3, h4⟩

/-- the trees of a text are no more than its bytes -/
theorem small_rows (n : Nat) : ∀ (l : List UInt8) (i o : Nat), l.length ≤ 2000000 → i ≤ l.length → (∀ ts j, rowN n l i o = .ok (ts, j) → smallT ts) ∧ ∀ t k, treeN n l i o = .ok (t, k) → smallTr t := by
  induction n with
  | zero =>
    intro l i o hl hi
    refine ⟨fun ts j h => ?_, fun t k h => by simp [treeN] at h⟩
    simp [rowN] at h
    obtain ⟨rfl, rfl⟩ := h
    trivial
  | succ n ih =>
    intro l i o hl hi
    refine ⟨fun ts j h => ?_, fun t k h => ?_⟩
    · rw [rowN] at h
      split at h
      · simp at h; obtain ⟨rfl, rfl⟩ := h; trivial
      · split at h
        · simp at h; obtain ⟨rfl, rfl⟩ := h; trivial
        · have hle := skipTo_le blk l i hi
          split at h
          · cases h
          · rename_i t k ht
            have hk := treeN_le n l _ o hle t k ht
            split at h
            · cases h
            · rename_i ts' m hr
              simp at h
              obtain ⟨rfl, rfl⟩ := h
              exact ⟨(ih l _ o hl hle).2 t k ht, (ih l k o hl hk.2).1 ts' m hr⟩
    · rw [treeN] at h
      split at h
      · rename_i hc
        have hlt := (List.getElem?_eq_some_iff.1 hc).1
        split at h
        · split at h
          · cases h
          · rename_i ts j hr
            split at h
            · simp at h
              obtain ⟨rfl, rfl⟩ := h
              have hcnt := row_count n l (i + 1) (o + 1) (by omega) ts j hr
              have hj := rowN_le n l (i + 1) (o + 1) (by omega) ts j hr
              exact ⟨by omega, (ih l (i + 1) (o + 1) hl (by omega)).1 ts j hr⟩
            · cases h
        · cases h
      · split at h
        · cases h
        · simp at h
          obtain ⟨rfl, rfl⟩ := h
          exact ⟨by simp, trivial⟩

theorem parse_small (l : List UInt8) (h : l.length ≤ 262144) : (parseT l).1.length ≤ 2000000 ∧ smallT (parseT l).1 := by
  unfold parseT
  rw [if_neg (by omega)]
  cases hr : rowN (2 * l.length + 2) l 0 0 with
  | bad p e => exact ⟨by simp, trivial⟩
  | ok q =>
    obtain ⟨ts, j⟩ := q
    dsimp only
    split
    · exact ⟨by simp, trivial⟩
    · have hcnt := row_count _ l 0 0 (by omega) ts j hr
      have hj := rowN_le _ l 0 0 (by omega) ts j hr
      exact ⟨by dsimp only; omega, (small_rows _ l 0 0 (by omega) (by omega)).1 ts j hr⟩

set_option maxRecDepth 100000 in
set_option maxHeartbeats 4000000 in
theorem parses_ev (l : List UInt8) (hl : l.length ≤ 262144) (σ : Sto) : JC Tryd.prog EL 4 [.lit (.string ⟨l.toArray⟩)] σ fun r σ' => r = .ret (.lit (.bool true)) := by
  refine JC.start (fn := Tryd.f4) (M := []) rfl rfl rfl (by simp) fun tm hlen hs => ?_
  have h0 := hs 0 _ rfl
  clear hs
  simp at hlen
  obtain ⟨hsm1, hsm2⟩ := parse_small l hl
  have hpar : ∀ σ, JC Tryd.prog EL 7 [.lit (.string ⟨l.toArray⟩)] σ fun r σ' => r = .ret (.tup [.sl (rowsOf (parseT l).1) .no, .lit (.int .i64 (parseT l).2.1), .lit (.int .i64 (parseT l).2.2)]) ∧ σ' = σ := fun σ =>
    (CallW.prim (g := primParse) rfl (by unfold primParse; dsimp only; rw [if_pos (by rw [str_size]; unfold maxLen; omega)]) ⟨rfl, rfl⟩).toJ
  refine JD.hide fun R0 hR0 => ?_
  refine JD.seqK fun K hK => JD.region ?_
  simp [LW_nil, LW_guardS, DW_guardS, LW_guardN, DW_guardN, yielded_eq, yv, LW_val, LW_skip, LW_enter, DW_nil, DW_val, DW_skip, DW_enter, es_move, es_assign, es_pick, es_allocV, es_boxV, es_build, es_buildSlice, es_buildSliceM, es_appendM, evMut, evAppendM, rowsA, es_load, es_store, es_nilCheck, es_binOp, es_unOp, es_convert, es_makeInterface, es_makeFunc, es_slice, es_fieldAddr, es_field, es_indexAddr, es_index, es_extract, es_panic, es_callV, es_len, es_max, evStepU, evPure, evLit, evMem, evx_tmp, evx_const, evx_func, putA_some, putA_none, slot_ne, slot_eq, List.length_set, isVal, valOf, stOf, accOf, isSkip, isEnter, fnOf, argsOf, absV, abs2, abs1, scal, binL, litInt, conc, conc2, lit?, omap, parts?, partA, fillA, putCells, chunks, AV.cells, AV.notTup, Op.operands, Call.operands, stripRows, AV.strip, aggT, LJ_nil, LJ_guardS, LJ_guardN, LJ_val, LJ_skip, LJ_enter, andThen, hlen, h0]
  refine hK _ _ ?_; clear hK K
  refine JD.seqK fun K hK => JD.region ?_
  simp (maxDischargeDepth := 8) [LW_nil, LW_guardS, DW_guardS, LW_guardN, DW_guardN, yielded_eq, yv, LW_val, LW_skip, LW_enter, DW_nil, DW_val, DW_skip, DW_enter, es_move, es_assign, es_pick, es_allocV, es_boxV, es_build, es_buildSlice, es_buildSliceM, es_appendM, evMut, evAppendM, rowsA, es_load, es_store, es_nilCheck, es_binOp, es_unOp, es_convert, es_makeInterface, es_makeFunc, es_slice, es_fieldAddr, es_field, es_indexAddr, es_index, es_extract, es_panic, es_callV, es_len, es_max, evStepU, evPure, evLit, evMem, evx_tmp, evx_const, evx_func, putA_some, putA_none, slot_ne, slot_eq, List.length_set, isVal, valOf, stOf, accOf, isSkip, isEnter, fnOf, argsOf, absV, abs2, abs1, scal, binL, litInt, conc, conc2, lit?, omap, parts?, partA, fillA, putCells, chunks, AV.cells, AV.notTup, Op.operands, Call.operands, stripRows, AV.strip, aggT, LJ_nil, LJ_guardS, LJ_guardN, LJ_val, LJ_skip, LJ_enter, andThen, hlen, h0]
  refine (hpar σ).mono ?_
  rintro r σ2 ⟨rfl, rfl⟩
  simp (maxDischargeDepth := 8) [LW_nil, LW_guardS, DW_guardS, LW_guardN, DW_guardN, yielded_eq, yv, LW_val, LW_skip, LW_enter, DW_nil, DW_val, DW_skip, DW_enter, es_move, es_assign, es_pick, es_allocV, es_boxV, es_build, es_buildSlice, es_buildSliceM, es_appendM, evMut, evAppendM, rowsA, es_load, es_store, es_nilCheck, es_binOp, es_unOp, es_convert, es_makeInterface, es_makeFunc, es_slice, es_fieldAddr, es_field, es_indexAddr, es_index, es_extract, es_panic, es_callV, es_len, es_max, evStepU, evPure, evLit, evMem, evx_tmp, evx_const, evx_func, putA_some, putA_none, slot_ne, slot_eq, List.length_set, isVal, valOf, stOf, accOf, isSkip, isEnter, fnOf, argsOf, absV, abs2, abs1, scal, binL, litInt, conc, conc2, lit?, omap, parts?, partA, fillA, putCells, chunks, AV.cells, AV.notTup, Op.operands, Call.operands, stripRows, AV.strip, aggT, LJ_nil, LJ_guardS, LJ_guardN, LJ_val, LJ_skip, LJ_enter, retK, andThen, hlen]
  refine hK _ _ ?_; clear hK K
  refine JD.seqK fun K hK => JD.region ?_
  simp (maxDischargeDepth := 8) [LW_nil, LW_guardS, DW_guardS, LW_guardN, DW_guardN, yielded_eq, yv, LW_val, LW_skip, LW_enter, DW_nil, DW_val, DW_skip, DW_enter, es_move, es_assign, es_pick, es_allocV, es_boxV, es_build, es_buildSlice, es_buildSliceM, es_appendM, evMut, evAppendM, rowsA, es_load, es_store, es_nilCheck, es_binOp, es_unOp, es_convert, es_makeInterface, es_makeFunc, es_slice, es_fieldAddr, es_field, es_indexAddr, es_index, es_extract, es_panic, es_callV, es_len, es_max, evStepU, evPure, evLit, evMem, evx_tmp, evx_const, evx_func, putA_some, putA_none, slot_ne, slot_eq, List.length_set, isVal, valOf, stOf, accOf, isSkip, isEnter, fnOf, argsOf, absV, abs2, abs1, scal, binL, litInt, conc, conc2, lit?, omap, parts?, partA, fillA, putCells, chunks, AV.cells, AV.notTup, Op.operands, Call.operands, stripRows, AV.strip, aggT, LJ_nil, LJ_guardS, LJ_guardN, LJ_val, LJ_skip, LJ_enter, andThen, hlen, h0]
  refine (refParse_ev l σ2 hl _ rfl).mono ?_
  rintro r σ3 ⟨hk, hle, hpost⟩
  obtain ⟨v, g, rfl, hsl⟩ : ∃ v g, r = .ret (.tup [v, .lit (.int .i64 (parseT l).2.1), .lit (.int .i64 (parseT l).2.2)]) ∧ SlAt g σ3 v (parseT l).1 := by
    rcases run_parse l hl with ⟨ts, h1, h2⟩ | ⟨p, e, _, h1, h2⟩
    · rw [h2] at hpost
      obtain ⟨g, v, hr, hop⟩ := hpost
      exact ⟨v, g, by rw [hr, h1]; rfl, by rw [h1]; exact hop.slAt⟩
    · rw [h2] at hpost
      exact ⟨_, fun _ => 0, by rw [hpost, h1], by rw [h1]; exact .inl ⟨rfl, rfl⟩⟩
  simp (maxDischargeDepth := 8) [LW_nil, LW_guardS, DW_guardS, LW_guardN, DW_guardN, yielded_eq, yv, LW_val, LW_skip, LW_enter, DW_nil, DW_val, DW_skip, DW_enter, es_move, es_assign, es_pick, es_allocV, es_boxV, es_build, es_buildSlice, es_buildSliceM, es_appendM, evMut, evAppendM, rowsA, es_load, es_store, es_nilCheck, es_binOp, es_unOp, es_convert, es_makeInterface, es_makeFunc, es_slice, es_fieldAddr, es_field, es_indexAddr, es_index, es_extract, es_panic, es_callV, es_len, es_max, evStepU, evPure, evLit, evMem, evx_tmp, evx_const, evx_func, putA_some, putA_none, slot_ne, slot_eq, List.length_set, isVal, valOf, stOf, accOf, isSkip, isEnter, fnOf, argsOf, absV, abs2, abs1, scal, binL, litInt, conc, conc2, lit?, omap, parts?, partA, fillA, putCells, chunks, AV.cells, AV.notTup, Op.operands, Call.operands, stripRows, AV.strip, aggT, LJ_nil, LJ_guardS, LJ_guardN, LJ_val, LJ_skip, LJ_enter, retK, andThen, hlen]
  refine hK _ _ ?_; clear hK K
  generalize (((parseT l).2.1 : Nat) : Int) = p
  generalize (parseT l).2.2 = e
  refine JD.seqK fun K hK => JD.region ?_
  simp (maxDischargeDepth := 16) [LW_nil, LW_guardS, DW_guardS, LW_guardN, DW_guardN, yielded_eq, yv, LW_val, LW_skip, LW_enter, DW_nil, DW_val, DW_skip, DW_enter, es_move, es_assign, es_pick, es_allocV, es_boxV, es_build, es_buildSlice, es_buildSliceM, es_appendM, evMut, evAppendM, rowsA, es_load, es_store, es_nilCheck, es_binOp, es_unOp, es_convert, es_makeInterface, es_makeFunc, es_slice, es_fieldAddr, es_field, es_indexAddr, es_index, es_extract, es_panic, es_callV, es_len, es_max, evStepU, evPure, evLit, evMem, evx_tmp, evx_const, evx_func, putA_some, putA_none, slot_ne, slot_eq, List.length_set, isVal, valOf, stOf, accOf, isSkip, isEnter, fnOf, argsOf, absV, abs2, abs1, scal, binL, litInt, conc, conc2, lit?, omap, parts?, partA, fillA, putCells, chunks, AV.cells, AV.notTup, Op.operands, Call.operands, stripRows, AV.strip, aggT, LJ_nil, LJ_guardS, LJ_guardN, LJ_val, LJ_skip, LJ_enter, andThen, hlen]
  refine (same_ev g _ (parseT l).1 .no v σ3 (Nat.lt_succ_self _) hsm1 hsm2 hsl).toJ.mono ?_
  rintro r σ4 ⟨rfl, rfl⟩
  simp (maxDischargeDepth := 16) [LW_nil, LW_guardS, DW_guardS, LW_guardN, DW_guardN, yielded_eq, yv, LW_val, LW_skip, LW_enter, DW_nil, DW_val, DW_skip, DW_enter, es_move, es_assign, es_pick, es_allocV, es_boxV, es_build, es_buildSlice, es_buildSliceM, es_appendM, evMut, evAppendM, rowsA, es_load, es_store, es_nilCheck, es_binOp, es_unOp, es_convert, es_makeInterface, es_makeFunc, es_slice, es_fieldAddr, es_field, es_indexAddr, es_index, es_extract, es_panic, es_callV, es_len, es_max, evStepU, evPure, evLit, evMem, evx_tmp, evx_const, evx_func, putA_some, putA_none, slot_ne, slot_eq, List.length_set, isVal, valOf, stOf, accOf, isSkip, isEnter, fnOf, argsOf, absV, abs2, abs1, scal, binL, litInt, conc, conc2, lit?, omap, parts?, partA, fillA, putCells, chunks, AV.cells, AV.notTup, Op.operands, Call.operands, stripRows, AV.strip, aggT, LJ_nil, LJ_guardS, LJ_guardN, LJ_val, LJ_skip, LJ_enter, retK, andThen, hlen]
  refine hK _ _ ?_; clear hK K
  refine JD.ret (hR0 _ _ _ ?_)
  exact ⟨.lit (.bool true), by simp [resultsA, omap, res_tmp, slot_eq, hlen], rfl⟩

end Go.Proofs.YtocaickbfeaiaaaDoor
