/-
  EV: the document's Parse: a tree is put into the last row that is open; a row is closed; is a byte one of words?
-/
import Derived.Test.YtocaickbfeaiaaaDoorEvPrim
import Derived.Test.YtocaickbfeaiaaaDoorEvJ
import Derived.Test.YtocaickbfeaiaaaDoorEvLex
namespace Go.Proofs.YtocaickbfeaiaaaDoor
set_option linter.unusedSimpArgs false
set_option linter.unusedVariables false
open Go.RowKit

section
variable {P : Program} {M : List TypeId}

/-- append to nothing, where the row is an object: a new one -/
theorem appendM_nil (σ : Sto) {t e k by_ : Nat} {z : Value} {b : AV} {fs : List (List AV)} (ht : P.underlying t = some (.slice e)) (hk : szOf P e = some (k + 1)) (hb : bytesOf P e = some by_) (hz : ((P.info? e).bind fun x => x.zero) = some z) (hzk : z.cells.size = k + 1) (hM : M.contains t = true)
    (hf : rowsA σ (k + 1) b = some fs) (hl : fs.length ≠ 0) (hby : fs.length * by_ ≤ 140737488355328) (hle : fs.length ≤ 140737488355328) (tm : List AV) (ds : Option Tmp) (ty : TypeId) (po : String) (af : Array Edge) (gu : Option (Nat × Bool)) (x y : Operand) (hx : evx tm x = some (.sl [] .full)) (hy : evx tm y = some b) :
    evStep P M (evx tm) σ ⟨ds, .call ⟨.builtin .append, #[x, y], #[t, t]⟩, ty, po, af, gu⟩ = some (.val (.asl σ.length 0 fs.length (k + 1)) (σ ++ [.cells fs.flatten e]) (.grows none σ.length)) := by
  rw [es_appendM _ _ _ hM]
  have hz' : ((P.info? e).bind (·.zero)).map (·.cells.size) = some (k + 1) := by rw [hz]; simp [hzk]
  unfold evAppendM
  simp only [ht, hx, hy, hk, hb, hz', hf]
  simp [rowsA, hl, hby, hle]

/-- append to an object: it is gone, there is a new one -/
theorem appendM_own (σ : Sto) {t e k by_ id m : Nat} {z : Value} {b : AV} {es fs : List (List AV)} {cs : List AV} (ht : P.underlying t = some (.slice e)) (hk : szOf P e = some (k + 1)) (hb : bytesOf P e = some by_) (hz : ((P.info? e).bind fun x => x.zero) = some z) (hzk : z.cells.size = k + 1) (hM : M.contains t = true)
    (ho : σ[id]? = some (.cells cs e)) (he : chunks (k + 1) m cs = es) (hm : m * (k + 1) ≤ cs.length)
    (hf : rowsA σ (k + 1) b = some fs) (hl : fs.length ≠ 0) (hby : (m + fs.length) * by_ ≤ 140737488355328) (hle : m + fs.length ≤ 140737488355328) (tm : List AV) (ds : Option Tmp) (ty : TypeId) (po : String) (af : Array Edge) (gu : Option (Nat × Bool)) (x y : Operand) (hx : evx tm x = some (.asl id 0 m (k + 1))) (hy : evx tm y = some b) :
    evStep P M (evx tm) σ ⟨ds, .call ⟨.builtin .append, #[x, y], #[t, t]⟩, ty, po, af, gu⟩ = some (.val (.asl σ.length 0 (m + fs.length) (k + 1)) (σ.set id .dead ++ [.cells (cs.take (m * (k + 1)) ++ fs.flatten) e]) (.grows (some id) σ.length)) := by
  rw [es_appendM _ _ _ hM]
  have hz' : ((P.info? e).bind (·.zero)).map (·.cells.size) = some (k + 1) := by rw [hz]; simp [hzk]
  have hel : es.length = m := by rw [← he, chunks_length]
  have hfl : es.flatten = cs.take (m * (k + 1)) := by rw [← he, chunks_flat]
  have hr : rowsA σ (k + 1) (.asl id 0 m (k + 1)) = some es := by
    unfold rowsA
    simp [ho, hm, he]
  unfold evAppendM
  simp only [ht, hx, hy, hk, hb, hz', hf, hr]
  simp [hel, hl, hby, hle, ho, hfl]
end

/-! A region that draws, where objects bear letters: distinct letters are distinct numbers. -/
def Acc.ren (ids : List Nat) : Acc → Acc
  | .pure => .pure
  | .reads i => .reads (ids.getD i 0)
  | .writes i => .writes (ids.getD i 0)
  | .news i => .news (ids.getD i 0)
  | .grows k n => .grows (k.map fun i => ids.getD i 0) (ids.getD n 0)
  | .any => .any
def Acc.under (n : Nat) : Acc → Bool
  | .reads i | .writes i | .news i => decide (i < n)
  | .grows none i => decide (i < n)
  | .grows (some k) i => decide (k < n) && decide (i < n)
  | _ => true

theorem getD_inj {ids : List Nat} (h : ids.Nodup) {i j : Nat} (hi : i < ids.length) (hj : j < ids.length) : (ids.getD i 0 == ids.getD j 0) = (i == j) := by
  rw [List.getD_eq_getElem?_getD, List.getD_eq_getElem?_getD, List.getElem?_eq_getElem hi, List.getElem?_eq_getElem hj]
  simp only [Option.getD_some]
  by_cases e : i = j
  · subst e; simp
  · have hne : ids[i] ≠ ids[j] := by
      rcases Nat.lt_or_gt_of_ne e with hlt | hgt
      · exact List.pairwise_iff_getElem.1 h i j hi hj hlt
      · exact Ne.symm (List.pairwise_iff_getElem.1 h j i hj hi hgt)
    rw [beq_eq_false_iff_ne.2 hne, beq_eq_false_iff_ne.2 e]

theorem clash_ren {ids : List Nat} (h : ids.Nodup) {a b : Acc} (ha : a.under ids.length = true) (hb : b.under ids.length = true) : clash (a.ren ids) (b.ren ids) = clash a b := by
  have key : ∀ {i j : Nat}, i < ids.length → j < ids.length → (ids.getD i 0 == ids.getD j 0) = (i == j) := fun hi hj => getD_inj h hi hj
  have keyo : ∀ {i j : Nat}, i < ids.length → j < ids.length → (some (ids.getD i 0) == some (ids.getD j 0)) = (some i == some j) := fun {i j} hi hj => key hi hj
  have keyn : ∀ {i j : Nat}, ((none : Option Nat) == some (ids.getD j 0)) = ((none : Option Nat) == some j) := fun {i j} => rfl
  rcases a with _ | i | i | i | ⟨_ | k, i⟩ | _ <;> rcases b with _ | j | j | j | ⟨_ | l, j⟩ | _ <;> (try rfl) <;> simp only [Acc.under, Bool.and_eq_true, decide_eq_true_eq] at ha hb <;> simp only [Acc.ren, clash, Option.map_some, Option.map_none]
  all_goals first
    | exact key ha hb
    | (rw [key ha hb]; rfl)
    | (rw [key hb ha]; rfl)
    | (rw [keyo hb.1 ha, key ha hb.2])
    | (rw [keyo ha.1 hb, key hb ha.2])

theorem drawOk_ren {ops : Array Oper} (ids : List Nat) (h : ids.Nodup) (l : List Acc) (hl : l.all (Acc.under ids.length) = true) (hd : drawOk ops l = true) : drawOk ops (l.map (Acc.ren ids)) = true := by
  unfold drawOk at hd ⊢
  simp only [List.length_map, List.all_eq_true, List.mem_range] at hd ⊢
  intro i hi k hk
  have := hd i hi k hk
  unfold freeAt at this ⊢
  have g : ∀ n : Nat, (l.map (Acc.ren ids)).getD n .any = (l.getD n .any).ren ids := by
    intro n
    rw [List.getD_eq_getElem?_getD, List.getD_eq_getElem?_getD, List.getElem?_map]
    cases l[n]? <;> rfl
  have u : ∀ n : Nat, (l.getD n .any).under ids.length = true := by
    intro n
    rw [List.getD_eq_getElem?_getD]
    cases hn : l[n]? with
    | none => rfl
    | some a => exact List.all_eq_true.1 hl a (List.mem_of_getElem? hn)
  rw [g, g, clash_ren h (u k) (u i)]
  exact this

theorem putCells_append : ∀ (r z a : List AV), z.length = r.length → putCells (a ++ z) a.length r = a ++ r
  | [], z, a, h => by
    obtain rfl : z = [] := List.eq_nil_of_length_eq_zero h
    rfl
  | x :: r, y :: z, a, h => by
    rw [putCells, List.set_append_right _ _ (Nat.le_refl _), Nat.sub_self, List.set_cons_zero]
    have := putCells_append r z (a ++ [x]) (by simpa using h)
    simpa using this
  | x :: r, [], a, h => by simp at h

/-- a row of trees that is open, its object -/
def OldAt (σ : Sto) (v : AV) (m : Nat) (cs : List AV) : Prop := (v = .sl [] .full ∧ m = 0 ∧ cs = []) ∨ ∃ id, v = .asl id 0 m 4 ∧ σ[id]? = some (.cells cs 83) ∧ cs.length = m * 4
def isId (v : AV) (j : Nat) : Prop := ∃ m, v = .asl j 0 m 4

def PutPost (σ : Sto) (R L n m : Nat) (TL : TypeId) (v : AV) (ls cs row : List AV) (r : ARes) (σ' : Sto) : Prop :=
  r = .ret (.tup []) ∧ σ.length ≤ σ'.length ∧ ∃ id', σ.length ≤ id' ∧ σ'[id']? = some (.cells (cs ++ row) 83) ∧ σ'[L]? = some (.cells (ls.set n (.asl id' 0 (m + 1) 4)) TL) ∧
    ∀ j, j < σ.length → j ≠ L → ¬ isId v j → σ'[j]? = σ[j]?

/-- one tree more, behind an open row's -/
theorem put_app (σ : Sto) (R L m : Nat) (v : AV) (cs ls : List AV) (TL : TypeId) (hL : σ[L]? = some (.cells ls TL)) (hold : OldAt σ v m cs) (hm : m ≤ 1000000) (hvL : ¬ isId v L) (hvR : ¬ isId v R) (A B : AObj) (r : List AV) (hr : r.length = 4) :
    ∃ (σ' : Sto) (g : Option Nat), σ'.length = σ.length + 4 ∧ σ'[L]? = some (.cells ls TL) ∧ σ'[σ.length + 3]? = some (.cells (cs ++ r) 83) ∧ (∀ j, j < σ.length → ¬ isId v j → σ'[j]? = σ[j]?) ∧ (g = none ∨ ∃ id, g = some id ∧ id < σ.length ∧ id ≠ L ∧ id ≠ R) ∧
      ∀ (tm : List AV) (ds : Option Tmp) (ty : TypeId) (po : String) (af : Array Edge) (gu : Option (Nat × Bool)) (x y : Operand), evx tm x = some v → evx tm y = some (.asl (σ.length + 2) 0 1 4) →
        evStep Tryd.prog [76, 77, 37] (evx tm) (σ ++ [A, B, .cells r 83]) ⟨ds, .call ⟨.builtin .append, #[x, y], #[37, 37]⟩, ty, po, af, gu⟩ = some (.val (.asl (σ.length + 3) 0 (m + 1) 4) σ' (.grows g (σ.length + 3))) := by
  have lL := (List.getElem?_eq_some_iff.1 hL).1
  have fit4 : rowsA (σ ++ [A, B, .cells r 83]) 4 (.asl (σ.length + 2) 0 1 4) = some [r] := by
    have : (σ ++ [A, B, .cells r 83])[σ.length + 2]? = some (.cells r 83) := by rw [List.getElem?_append_right (by omega)]; simp
    simp only [rowsA, if_true, this]
    simp [hr, chunks]
    exact List.take_of_length_le (by omega)
  rcases hold with ⟨rfl, rfl, rfl⟩ | ⟨id, rfl, ho, hc⟩
  · refine ⟨σ ++ [A, B, .cells r 83] ++ [.cells [r].flatten 83], none, by simp, ?_, ?_, fun j hj _ => ?_, .inl rfl, ?_⟩
    · rw [List.append_assoc, List.getElem?_append_left lL]; exact hL
    · rw [List.getElem?_append_right (by simp)]; simp
    · rw [List.append_assoc, List.getElem?_append_left hj]
    · intro tm ds ty po af gu x y hx hy
      have := appendM_nil (P := Tryd.prog) (k := 3) (M := [76, 77, 37]) (σ ++ [A, B, .cells r 83]) Tryd.underlying37 szOf_83 bytesOf_83 zeroOf_83 rfl rfl fit4 (by simp) (by simp) (by simp) tm ds ty po af gu x y hx hy
      rw [this]
      simp
  · have lid := (List.getElem?_eq_some_iff.1 ho).1
    refine ⟨(σ ++ [A, B, .cells r 83]).set id .dead ++ [.cells (cs.take (m * 4) ++ [r].flatten) 83], some id, by simp, ?_, ?_, fun j hj hjv => ?_, .inr ⟨id, rfl, lid, fun e => hvL ⟨m, by rw [e]⟩, fun e => hvR ⟨m, by rw [e]⟩⟩, ?_⟩
    · rw [List.getElem?_append_left (by simp; omega), List.getElem?_set_ne (fun e => hvL ⟨m, by rw [e]⟩), List.getElem?_append_left lL]; exact hL
    · rw [List.getElem?_append_right (by simp)]
      simp [List.take_of_length_le (Nat.le_of_eq hc)]
    · rw [List.getElem?_append_left (by simp; omega), List.getElem?_set_ne (fun e => hjv ⟨m, by rw [e]⟩), List.getElem?_append_left hj]
    · intro tm ds ty po af gu x y hx hy
      have := appendM_own (P := Tryd.prog) (k := 3) (m := m) (es := chunks 4 m cs) (M := [76, 77, 37]) (σ ++ [A, B, .cells r 83]) Tryd.underlying37 szOf_83 bytesOf_83 zeroOf_83 rfl rfl
        (by rw [List.getElem?_append_left lid]; exact ho) rfl (by omega) fit4 (by simp) (by show (m + 1) * 56 ≤ _; omega) (by show m + 1 ≤ _; omega) tm ds ty po af gu x y hx hy
      rw [this]
      simp

theorem put_len (σ σ2 : Sto) (m : Nat) (v : AV) (cs : List AV) (hold : OldAt σ v m cs) (M : List TypeId) (tm : List AV) (ds : Option Tmp) (ty : TypeId) (po : String) (af : Array Edge) (gu : Option (Nat × Bool)) (x : Operand) (hx : evx tm x = some v) :
    evStep Tryd.prog M (evx tm) σ2 ⟨ds, .call ⟨.builtin .len, #[x], #[37]⟩, ty, po, af, gu⟩ = some (.val (.lit (.int .i64 m)) σ2 .pure) := by
  rcases hold with ⟨rfl, rfl, rfl⟩ | ⟨id, rfl, ho, hc⟩ <;> simp [es_len, evStepU, evPure, hx]

set_option maxRecDepth 100000 in
set_option maxHeartbeats 1000000 in
theorem put_ev (σ : Sto) (R L n m q B : Nat) (TR TL : TypeId) (v vb : AV) (ls cs row : List AV) (hR : σ[R]? = some (.cells [.asl L 0 (n + 1) 1, vb] TR)) (hL : σ[L]? = some (.cells ls TL)) (hn : n + 1 ≤ ls.length) (hv : ls[n]? = some v) (hold : OldAt σ v m cs) (hrow : row.length = 4)
    (hnmax : n ≤ 1000000) (hm : m ≤ 1000000) (hRL : R ≠ L) (hvL : ¬ isId v L) (hvR : ¬ isId v R) : JC Tryd.prog EL 34 [.ptr R 0, .agg row] σ (PutPost σ R L n m TL v ls cs row) := by
  obtain ⟨c0, c1, c2, c3, rfl⟩ : ∃ a b c d, row = [a, b, c, d] := by
    match row, hrow with
    | [a, b, c, d], _ => exact ⟨a, b, c, d, rfl⟩
  refine JC.start (fn := Tryd.f34) (M := [76, 77, 37]) rfl rfl rfl (by simp) fun tm hlen hs => ?_
  have h0 := hs 0 _ rfl
  have h1 := hs 1 _ rfl
  clear hs
  simp at hlen
  have lR := (List.getElem?_eq_some_iff.1 hR).1
  have lL := (List.getElem?_eq_some_iff.1 hL).1
  refine JD.hide fun R0 hR0 => ?_
  refine JD.seqK fun K hK => JD.region ?_
  simp [LW_nil, LW_guardS, DW_guardS, LW_guardN, DW_guardN, yielded_eq, yv, LW_val, LW_skip, LW_enter, DW_nil, DW_val, DW_skip, DW_enter, es_move, es_assign, es_pick, es_allocV, es_boxV, es_build, es_buildSlice, es_buildSliceM, es_appendM, evMut, evAppendM, rowsA, es_load, es_store, es_nilCheck, es_binOp, es_unOp, es_convert, es_makeInterface, es_makeFunc, es_slice, es_fieldAddr, es_field, es_indexAddr, es_index, es_extract, es_panic, es_callV, es_len, es_max, evStepU, evPure, evLit, evMem, evx_tmp, evx_const, evx_func, putA_some, putA_none, slot_ne, slot_eq, List.length_set, isVal, valOf, stOf, accOf, isSkip, isEnter, fnOf, argsOf, absV, abs2, abs1, scal, binL, litInt, conc, conc2, lit?, omap, parts?, partA, fillA, putCells, chunks, AV.cells, AV.notTup, Op.operands, Call.operands, stripRows, AV.strip, aggT, LJ_nil, LJ_guardS, LJ_guardN, LJ_val, LJ_skip, LJ_enter, andThen, hlen, h0, h1]
  refine hK _ _ ?_; clear hK K
  refine JD.seqK fun K hK => JD.region ?_
  have w2 : (n : Int) < (n : Int) + 1 := by omega
  have w1 : IntKind.i64.wrap (n : Int) = n := IntWalk.i64_in _ ⟨by omega, by omega⟩
  simp (maxDischargeDepth := 8) [LW_nil, LW_guardS, DW_guardS, LW_guardN, DW_guardN, yielded_eq, yv, LW_val, LW_skip, LW_enter, DW_nil, DW_val, DW_skip, DW_enter, es_move, es_assign, es_pick, es_allocV, es_boxV, es_build, es_buildSlice, es_buildSliceM, es_appendM, evMut, evAppendM, rowsA, es_load, es_store, es_nilCheck, es_binOp, es_unOp, es_convert, es_makeInterface, es_makeFunc, es_slice, es_fieldAddr, es_field, es_indexAddr, es_index, es_extract, es_panic, es_callV, es_len, es_max, evStepU, evPure, evLit, evMem, evx_tmp, evx_const, evx_func, putA_some, putA_none, slot_ne, slot_eq, List.length_set, isVal, valOf, stOf, accOf, isSkip, isEnter, fnOf, argsOf, absV, abs2, abs1, scal, binL, litInt, conc, conc2, lit?, omap, parts?, partA, fillA, putCells, chunks, AV.cells, AV.notTup, Op.operands, Call.operands, stripRows, AV.strip, aggT, LJ_nil, LJ_guardS, LJ_guardN, LJ_val, LJ_skip, LJ_enter, andThen, hlen, h0, h1, hR, List.getElem?_append_left lR, w1]
  refine hK _ _ ?_; clear hK K
  refine JD.seqK fun K hK => J.choice rfl szOf_4 zeroOf_4 (by kernel_rfl) (by simp [hlen]) (by simp [hlen]) (by kernel_rfl) (by kernel_rfl) (by kernel_rfl) (by kernel_rfl) (by kernel_rfl) (by kernel_rfl) fun b => ?_
  simp only [andThen]
  refine hK _ _ ?_; clear hK K
  refine JD.cond (t := b) (by simp [evx_tmp, slot_eq, hlen]) ?_
  have hlv := fun σ2 => put_len σ σ2 m v cs hold [76, 77, 37]
  cases b with
  | true =>
    refine JD.seqK fun K hK => J.cw (CW.draw (by kernel_rfl) ?_)
    obtain ⟨σ', g, l', hL', hN', hfr, hg, hap⟩ := put_app σ R L m v cs ls TL hL hold hm hvL hvR (.cells [c0, c1, c2, c3] 83) (.cells [.lit (.bool true)] 4) [.lit (.string ⟨#[]⟩), .sl [] .full, .lit (.bool false), .lit (.int .i64 0)] rfl
    have hne : L ≠ σ.length + 3 := by omega
    simp (maxDischargeDepth := 8) [LW_nil, LW_guardS, DW_guardS, LW_guardN, DW_guardN, yielded_eq, yv, LW_val, LW_skip, LW_enter, DW_nil, DW_val, DW_skip, DW_enter, es_move, es_assign, es_pick, es_allocV, es_boxV, es_build, es_buildSlice, es_buildSliceM, es_appendM, evMut, evAppendM, rowsA, es_load, es_store, es_nilCheck, es_binOp, es_unOp, es_convert, es_makeInterface, es_makeFunc, es_slice, es_fieldAddr, es_field, es_indexAddr, es_index, es_extract, es_panic, es_callV, es_len, es_max, evStepU, evPure, evLit, evMem, evx_tmp, evx_const, evx_func, putA_some, putA_none, slot_ne, slot_eq, List.length_set, isVal, valOf, stOf, accOf, isSkip, isEnter, fnOf, argsOf, absV, abs2, abs1, scal, binL, litInt, conc, conc2, lit?, omap, parts?, partA, fillA, putCells, chunks, AV.cells, AV.notTup, Op.operands, Call.operands, stripRows, AV.strip, aggT, -es_len, andThen, hlen, h0, h1, hR, hL, hv, List.getElem?_append_left lR, List.getElem?_append_left lL, w1, w2, hap, hn, hlv, hL']
    refine ⟨?_, ?_⟩
    · rcases hg with rfl | ⟨id, rfl, g1, g2, g3⟩
      · exact drawOk_ren [R, L, σ.length, σ.length + 2, σ.length + 5, σ.length + 3] (by simp; omega) [.pure, .pure, .pure, .reads 0, .pure, .pure, .reads 1, .reads 2, .pure, .news 3, .grows (none) 5, .pure, .writes 1] (by kernel_rfl) (by kernel_rfl)
      · exact drawOk_ren [R, L, σ.length, σ.length + 2, id, σ.length + 3] (by simp; omega) [.pure, .pure, .pure, .reads 0, .pure, .pure, .reads 1, .reads 2, .pure, .news 3, .grows (some 4) 5, .pure, .writes 1] (by kernel_rfl) (by kernel_rfl)
    refine hK _ _ ?_; clear hK K
    have hD : ∀ X, (σ'.set L X)[σ.length + 3]? = some (.cells (cs ++ [.lit (.string ⟨#[]⟩), .sl [] .full, .lit (.bool false), .lit (.int .i64 0)]) 83) := fun X => by rw [List.getElem?_set_ne hne]; exact hN'
    have hput : putCells (cs ++ [.lit (.string ⟨#[]⟩), .sl [] .full, .lit (.bool false), .lit (.int .i64 0)]) (m * 4) [c0, c1, c2, c3] = cs ++ [c0, c1, c2, c3] := by
      have hc : cs.length = m * 4 := by rcases hold with ⟨_, rfl, rfl⟩ | ⟨id, _, _, hc⟩ <;> first | rfl | exact hc
      rw [← hc]; exact putCells_append _ _ _ rfl
    have hw3 : (m : Int) < (m : Int) + 1 := by omega
    have hcl : m * 4 ≤ cs.length := by
      rcases hold with ⟨_, rfl, rfl⟩ | ⟨id, _, _, hc⟩ <;> omega
    refine JD.region ?_
    simp (maxDischargeDepth := 8) [LW_nil, LW_guardS, DW_guardS, LW_guardN, DW_guardN, yielded_eq, yv, LW_val, LW_skip, LW_enter, DW_nil, DW_val, DW_skip, DW_enter, es_move, es_assign, es_pick, es_allocV, es_boxV, es_build, es_buildSlice, es_buildSliceM, es_appendM, evMut, evAppendM, rowsA, es_load, es_store, es_nilCheck, es_binOp, es_unOp, es_convert, es_makeInterface, es_makeFunc, es_slice, es_fieldAddr, es_field, es_indexAddr, es_index, es_extract, es_panic, es_callV, es_len, es_max, evStepU, evPure, evLit, evMem, evx_tmp, evx_const, evx_func, putA_some, putA_none, slot_ne, slot_eq, List.length_set, isVal, valOf, stOf, accOf, isSkip, isEnter, fnOf, argsOf, absV, abs2, abs1, scal, binL, litInt, conc, conc2, lit?, omap, parts?, partA, fillA, putCells, chunks, AV.cells, AV.notTup, Op.operands, Call.operands, stripRows, AV.strip, aggT, LJ_nil, LJ_guardS, LJ_guardN, LJ_val, LJ_skip, LJ_enter, -putCells, hlen, h0, h1, hD, hput, hw3, hcl]
    refine hR0 _ _ _ ?_
    refine ⟨.tup [], by simp [resultsA, omap], rfl, by simp [l'], σ.length + 3, by omega, List.getElem?_set_self (by simp; omega), ?_, ?_⟩
    · rw [List.getElem?_set_ne (Ne.symm hne), List.getElem?_set_self (by omega)]
    · intro j hj hjL hjv
      rw [List.getElem?_set_ne (by omega), List.getElem?_set_ne (Ne.symm hjL)]
      exact hfr j hj hjv
  | false =>
    refine J.cw (CW.draw (by kernel_rfl) ?_)
    obtain ⟨σ', g, l', hL', hN', hfr, hg, hap⟩ := put_app σ R L m v cs ls TL hL hold hm hvL hvR (.cells [c0, c1, c2, c3] 83) (.cells [.lit (.bool false)] 4) [c0, c1, c2, c3] rfl
    simp (maxDischargeDepth := 8) [LW_nil, LW_guardS, DW_guardS, LW_guardN, DW_guardN, yielded_eq, yv, LW_val, LW_skip, LW_enter, DW_nil, DW_val, DW_skip, DW_enter, es_move, es_assign, es_pick, es_allocV, es_boxV, es_build, es_buildSlice, es_buildSliceM, es_appendM, evMut, evAppendM, rowsA, es_load, es_store, es_nilCheck, es_binOp, es_unOp, es_convert, es_makeInterface, es_makeFunc, es_slice, es_fieldAddr, es_field, es_indexAddr, es_index, es_extract, es_panic, es_callV, es_len, es_max, evStepU, evPure, evLit, evMem, evx_tmp, evx_const, evx_func, putA_some, putA_none, slot_ne, slot_eq, List.length_set, isVal, valOf, stOf, accOf, isSkip, isEnter, fnOf, argsOf, absV, abs2, abs1, scal, binL, litInt, conc, conc2, lit?, omap, parts?, partA, fillA, putCells, chunks, AV.cells, AV.notTup, Op.operands, Call.operands, stripRows, AV.strip, aggT, -es_len, andThen, hlen, h0, h1, hR, hL, hv, List.getElem?_append_left lR, List.getElem?_append_left lL, w1, w2, hap, hn, hlv, hL']
    refine ⟨?_, ?_⟩
    · rcases hg with rfl | ⟨id, rfl, g1, g2, g3⟩
      · exact drawOk_ren [R, L, σ.length, σ.length + 2, σ.length + 5, σ.length + 3] (by simp; omega) [.pure, .pure, .pure, .reads 0, .pure, .pure, .pure, .pure, .reads 0, .pure, .pure, .reads 1, .reads 2, .news 3, .grows (none) 5, .pure, .writes 1] (by kernel_rfl) (by kernel_rfl)
      · exact drawOk_ren [R, L, σ.length, σ.length + 2, id, σ.length + 3] (by simp; omega) [.pure, .pure, .pure, .reads 0, .pure, .pure, .pure, .pure, .reads 0, .pure, .pure, .reads 1, .reads 2, .news 3, .grows (some 4) 5, .pure, .writes 1] (by kernel_rfl) (by kernel_rfl)
    refine hR0 _ _ _ ?_
    refine ⟨.tup [], by simp [resultsA, omap], rfl, by simp [l'], σ.length + 3, by omega, ?_, ?_, ?_⟩
    · rw [List.getElem?_set_ne (by omega)]; exact hN'
    · exact List.getElem?_set_self (by omega)
    · intro j hj hjL hjv
      rw [List.getElem?_set_ne (Ne.symm hjL)]
      exact hfr j hj hjv

end Go.Proofs.YtocaickbfeaiaaaDoor
