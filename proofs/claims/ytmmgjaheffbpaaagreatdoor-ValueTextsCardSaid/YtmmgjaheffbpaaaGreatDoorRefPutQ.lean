/-
 EV: the document's Parse: a tree is put into the last row that is open; a row is closed; is a byte one of words?
-/
import Derived.Test.YtmmgjaheffbpaaaGreatDoorLexParseQ
import Derived.Test.YtmmgjaheffbpaaaGreatDoorEvJQ
import Derived.Test.YtmmgjaheffbpaaaGreatDoorEvDrawJQ
import Derived.Test.YtmmgjaheffbpaaaGreatDoorEvXQ
namespace Go.Proofs.YtmmgjaheffbpaaaGreatDoor
set_option maxRecDepth 100000
set_option maxHeartbeats 8000000
set_option linter.unusedSimpArgs false
set_option linter.unusedVariables false
set_option linter.unusedSectionVars false
section
open Go.RowKit
noncomputable def codeL (f : FuncId) : Option Func :=
 match f with
 | 55 => some Tryz.f55
 | 53 => some Tryz.f53
 | 29 => some Tryz.f29
 | 54 => some Tryz.f54
 | _ => none
def msL (f : FuncId) : List TypeId :=
 match f with
 | 55 | 53 | 29 => [109, 110, 71]
 | _ => []
noncomputable def EL : Env := { code := codeL, prim := fun _ => none, ms := msL }
theorem EL_ok : EnvOk Tryz.prog EL where
 code := fun f fn h => by
  have h : codeL f = some fn := h
  unfold codeL at h
  split at h
  · cases h; exact ⟨Tryz.func55, Tryz.call55⟩
  · cases h; exact ⟨Tryz.func53, Tryz.call53⟩
  · cases h; exact ⟨Tryz.func29, Tryz.call29⟩
  · cases h; exact ⟨Tryz.func54, Tryz.call54⟩
  · cases h
 prim := fun f g h => by cases h
section
variable {P : Program} {M : List TypeId}
theorem appendM_nil (σ : Sto) {t e k by_ : Nat} {z : Value} {b : AV} {fs : List (List AV)} (ht : P.underlying t = some (.slice e)) (hk : szOf P e = some (k + 1)) (hb : bytesOf P e = some by_) (hz : ((P.info? e).bind fun x => x.zero) = some z) (hzk : z.cells.size = k + 1) (hM : M.contains t = true)
    (hf : rowsA σ (k + 1) b = some fs) (hl : fs.length ≠ 0) (hby : fs.length * by_ ≤ 140737488355328) (hle : fs.length ≤ 140737488355328) (tm : List AV) (ds : Option Tmp) (ty : TypeId) (po : String) (af : Array Edge) (gu : Option (Nat × Bool)) (x y : Operand) (hx : evx tm x = some (.sl [] .full)) (hy : evx tm y = some b) :
    evStep P M (evx tm) σ ⟨ds, .call ⟨.builtin .append, #[x, y], #[t, t]⟩, ty, po, af, gu⟩ = some (.val (.asl σ.length 0 fs.length (k + 1)) (σ ++ [.cells fs.flatten e]) (.grows none σ.length)) := by
 rw [es_appendM _ _ _ hM]
 have hz' : ((P.info? e).bind (·.zero)).map (·.cells.size) = some (k + 1) := by rw [hz]; simp [hzk]
 unfold evAppendM
 simp only [ht, hx, hy, hk, hb, hz', hf]
 simp [rowsA, hl, hby, hle]
theorem appendM_own (σ : Sto) {t e k by_ id m : Nat} {z : Value} {b : AV} {es fs : List (List AV)} {cs : List AV} (ht : P.underlying t = some (.slice e)) (hk : szOf P e = some (k + 1)) (hb : bytesOf P e = some by_) (hz : ((P.info? e).bind fun x => x.zero) = some z) (hzk : z.cells.size = k + 1) (hM : M.contains t = true)
    (ho : σ[id]? = some (.cells cs e)) (he : chunks (k + 1) m cs = es) (hm : m * (k + 1) ≤ cs.length)
    (hf : rowsA σ (k + 1) b = some fs) (hl : fs.length ≠ 0) (hby : (m + fs.length) * by_ ≤ 140737488355328) (hle : m + fs.length ≤ 140737488355328) (tm : List AV) (ds : Option Tmp) (ty : TypeId) (po : String) (af : Array Edge) (gu : Option (Nat × Bool)) (x y : Operand) (hx : evx tm x = some (.asl id 0 m (k + 1))) (hy : evx tm y = some b) :
    evStep P M (evx tm) σ ⟨ds, .call ⟨.builtin .append, #[x, y], #[t, t]⟩, ty, po, af, gu⟩ = some (.val (.asl σ.length 0 (m + fs.length) (k + 1)) (σ.set id .dead ++ [.cells (cs.take (m * (k + 1)) ++ fs.flatten) e]) (.grows (some id) σ.length)) := by
 rw [es_appendM _ _ _ hM]
 have hz' : ((P.info? e).bind (·.zero)).map (·.cells.size) = some (k + 1) := by rw [hz]; simp [hzk]
 have hel : es.length = m := by rw [← he, chunks_length]
 have hfl : es.flatten = cs.take (m * (k + 1)) := by rw [← he, chunks_flat]
 have hr : rowsA σ (k + 1) (.asl id 0 m (k + 1)) = some es := by
  unfold rowsA
  simp [ho, hm, he]
 unfold evAppendM
 simp only [ht, hx, hy, hk, hb, hz', hf, hr]
 simp [hel, hl, hby, hle, ho, hfl]
end
theorem putCells_append : ∀ (r z a : List AV), z.length = r.length → putCells (a ++ z) a.length r = a ++ r
 | [], z, a, h => by
  obtain rfl : z = [] := List.eq_nil_of_length_eq_zero h
  rfl
 | x :: r, y :: z, a, h => by
  rw [putCells, List.set_append_right _ _ (Nat.le_refl _), Nat.sub_self, List.set_cons_zero]
  have := putCells_append r z (a ++ [x]) (by simpa using h)
  simpa using this
 | x :: r, [], a, h => by simp at h
def OldAt (σ : Sto) (v : AV) (m : Nat) (cs : List AV) : Prop := (v = .sl [] .full ∧ m = 0 ∧ cs = []) ∨ ∃ id, v = .asl id 0 m 4 ∧ σ[id]? = some (.cells cs 76) ∧ cs.length = m * 4
def isId (v : AV) (j : Nat) : Prop := ∃ m, v = .asl j 0 m 4
def PutPost (σ : Sto) (R L n m : Nat) (TL : TypeId) (v : AV) (ls cs row : List AV) (r : ARes) (σ' : Sto) : Prop :=
 r = .ret (.tup []) ∧ σ.length ≤ σ'.length ∧ ∃ id', σ.length ≤ id' ∧ σ'[id']? = some (.cells (cs ++ row) 76) ∧ σ'[L]? = some (.cells (ls.set n (.asl id' 0 (m + 1) 4)) TL) ∧
  ∀ j, j < σ.length → j ≠ L → ¬ isId v j → σ'[j]? = σ[j]?
theorem put_app (σ : Sto) (R L m : Nat) (v : AV) (cs ls : List AV) (TL : TypeId) (hL : σ[L]? = some (.cells ls TL)) (hold : OldAt σ v m cs) (hm : m ≤ 1000000) (hvL : ¬ isId v L) (hvR : ¬ isId v R) (A B : AObj) (r : List AV) (hr : r.length = 4) :
    ∃ (σ' : Sto) (g : Option Nat), σ'.length = σ.length + 4 ∧ σ'[L]? = some (.cells ls TL) ∧ σ'[σ.length + 3]? = some (.cells (cs ++ r) 76) ∧ (∀ j, j < σ.length → ¬ isId v j → σ'[j]? = σ[j]?) ∧ (g = none ∨ ∃ id, g = some id ∧ id < σ.length ∧ id ≠ L ∧ id ≠ R) ∧
     ∀ (tm : List AV) (ds : Option Tmp) (ty : TypeId) (po : String) (af : Array Edge) (gu : Option (Nat × Bool)) (x y : Operand), evx tm x = some v → evx tm y = some (.asl (σ.length + 2) 0 1 4) →
      evStep Tryz.prog [109, 110, 71] (evx tm) (σ ++ [A, B, .cells r 76]) ⟨ds, .call ⟨.builtin .append, #[x, y], #[71, 71]⟩, ty, po, af, gu⟩ = some (.val (.asl (σ.length + 3) 0 (m + 1) 4) σ' (.grows g (σ.length + 3))) := by
 have lL := (List.getElem?_eq_some_iff.1 hL).1
 have fit4 : rowsA (σ ++ [A, B, .cells r 76]) 4 (.asl (σ.length + 2) 0 1 4) = some [r] := by
  have : (σ ++ [A, B, .cells r 76])[σ.length + 2]? = some (.cells r 76) := by rw [List.getElem?_append_right (by omega)]; simp
  simp only [rowsA, if_true, this]
  simp [hr, chunks]
  exact List.take_of_length_le (by omega)
 rcases hold with ⟨rfl, rfl, rfl⟩ | ⟨id, rfl, ho, hc⟩
 · refine ⟨σ ++ [A, B, .cells r 76] ++ [.cells [r].flatten 76], none, by simp, ?_, ?_, fun j hj _ => ?_, .inl rfl, ?_⟩
   · rw [List.append_assoc, List.getElem?_append_left lL]; exact hL
   · rw [List.getElem?_append_right (by simp)]; simp
   · rw [List.append_assoc, List.getElem?_append_left hj]
   · intro tm ds ty po af gu x y hx hy
     have := appendM_nil (P := Tryz.prog) (k := 3) (M := [109, 110, 71]) (σ ++ [A, B, .cells r 76]) Tryz.underlying71 szOf_76 bytesOf_76 zeroOf_76 rfl rfl fit4 (by simp) (by simp) (by simp) tm ds ty po af gu x y hx hy
     rw [this]
     simp
 · have lid := (List.getElem?_eq_some_iff.1 ho).1
   refine ⟨(σ ++ [A, B, .cells r 76]).set id .dead ++ [.cells (cs.take (m * 4) ++ [r].flatten) 76], some id, by simp, ?_, ?_, fun j hj hjv => ?_, .inr ⟨id, rfl, lid, fun e => hvL ⟨m, by rw [e]⟩, fun e => hvR ⟨m, by rw [e]⟩⟩, ?_⟩
   · rw [List.getElem?_append_left (by simp; omega), List.getElem?_set_ne (fun e => hvL ⟨m, by rw [e]⟩), List.getElem?_append_left lL]; exact hL
   · rw [List.getElem?_append_right (by simp)]
     simp [List.take_of_length_le (Nat.le_of_eq hc)]
   · rw [List.getElem?_append_left (by simp; omega), List.getElem?_set_ne (fun e => hjv ⟨m, by rw [e]⟩), List.getElem?_append_left hj]
   · intro tm ds ty po af gu x y hx hy
     have := appendM_own (P := Tryz.prog) (k := 3) (m := m) (es := chunks 4 m cs) (M := [109, 110, 71]) (σ ++ [A, B, .cells r 76]) Tryz.underlying71 szOf_76 bytesOf_76 zeroOf_76 rfl rfl
      (by rw [List.getElem?_append_left lid]; exact ho) rfl (by omega) fit4 (by simp) (by show (m + 1) * 56 ≤ _; omega) (by show m + 1 ≤ _; omega) tm ds ty po af gu x y hx hy
     rw [this]
     simp
theorem put_len (σ σ2 : Sto) (m : Nat) (v : AV) (cs : List AV) (hold : OldAt σ v m cs) (M : List TypeId) (tm : List AV) (ds : Option Tmp) (ty : TypeId) (po : String) (af : Array Edge) (gu : Option (Nat × Bool)) (x : Operand) (hx : evx tm x = some v) :
    evStep Tryz.prog M (evx tm) σ2 ⟨ds, .call ⟨.builtin .len, #[x], #[71]⟩, ty, po, af, gu⟩ = some (.val (.lit (.int .i64 m)) σ2 .pure) := by
 rcases hold with ⟨rfl, rfl, rfl⟩ | ⟨id, rfl, ho, hc⟩ <;> simp [es_len, evStepU, evPure, hx]
theorem put_ev (σ : Sto) (R L n m q B : Nat) (TR TL : TypeId) (v vb : AV) (ls cs row : List AV) (hR : σ[R]? = some (.cells [.asl L 0 (n + 1) 1, vb] TR)) (hL : σ[L]? = some (.cells ls TL)) (hn : n + 1 ≤ ls.length) (hv : ls[n]? = some v) (hold : OldAt σ v m cs) (hrow : row.length = 4)
    (hnmax : n ≤ 1000000) (hm : m ≤ 1000000) (hRL : R ≠ L) (hvL : ¬ isId v L) (hvR : ¬ isId v R) : JC Tryz.prog EL 55 [.ptr R 0, .agg row] σ (PutPost σ R L n m TL v ls cs row) := by
 obtain ⟨c0, c1, c2, c3, rfl⟩ : ∃ a b c d, row = [a, b, c, d] := by
  match row, hrow with
  | [a, b, c, d], _ => exact ⟨a, b, c, d, rfl⟩
 refine JC.start (fn := Tryz.f55) (M := [109, 110, 71]) rfl rfl rfl (by simp) fun tm hlen hs => ?_
 have h0 := hs 0 _ rfl
 have h1 := hs 1 _ rfl
 clear hs
 simp at hlen
 have lR := (List.getElem?_eq_some_iff.1 hR).1
 have lL := (List.getElem?_eq_some_iff.1 hL).1
 refine JD.hide fun R0 hR0 => ?_
 refine JD.seqK fun K hK => JD.region ?_
 simp (maxDischargeDepth := 16) [symB, List.length_set, LJ_nil, LJ_guardS, LJ_guardN, LJ_val, LJ_skip, LJ_enter, andThen, hlen, h0, h1]
 refine hK _ _ ?_; clear hK K
 refine JD.seqK fun K hK => JD.region ?_
 have w2 : (n : Int) < (n : Int) + 1 := by omega
 have w1 : IntKind.i64.wrap (n : Int) = n := IntWalk.i64_in _ ⟨by omega, by omega⟩
 simp (maxDischargeDepth := 16) [symB, List.length_set, LJ_nil, LJ_guardS, LJ_guardN, LJ_val, LJ_skip, LJ_enter, andThen, hlen, h0, h1, hR, List.getElem?_append_left lR, w1]
 refine hK _ _ ?_; clear hK K
 refine JD.seqK fun K hK => J.choice rfl szOf_4 zeroOf_4 (by kernel_rfl) (by simp [hlen]) (by simp [hlen]) (by kernel_rfl) (by kernel_rfl) (by kernel_rfl) (by kernel_rfl) (by kernel_rfl) (by kernel_rfl) fun b => ?_
 simp only [andThen]
 refine hK _ _ ?_; clear hK K
 refine JD.cond (t := b) (by simp [zT, slot_eq, hlen]) ?_
 have hlv := fun σ2 => put_len σ σ2 m v cs hold [109, 110, 71]
 cases b with
 | true =>
  refine JD.seqK fun K hK => J.cw (CW.draw (by kernel_rfl) ?_)
  obtain ⟨σ', g, l', hL', hN', hfr, hg, hap⟩ := put_app σ R L m v cs ls TL hL hold hm hvL hvR (.cells [c0, c1, c2, c3] 76) (.cells [.lit (.bool true)] 4) [.lit (.string ⟨#[]⟩), .sl [] .full, .lit (.bool false), .lit (.int .i64 0)] rfl
  have hne : L ≠ σ.length + 3 := by omega
  simp (maxDischargeDepth := 16) [symB, List.length_set, andThen, hlen, h0, h1, hR, hL, hv, List.getElem?_append_left lR, List.getElem?_append_left lL, w1, w2, hap, hn, hlv, hL']
  refine ⟨?_, ?_⟩
  · rcases hg with rfl | ⟨id, rfl, g1, g2, g3⟩
    · exact drawOk_ren [R, L, σ.length, σ.length + 2, σ.length + 5, σ.length + 3] (by simp; omega) [.pure, .pure, .pure, .reads 0, .pure, .pure, .reads 1, .reads 2, .pure, .news 3, .grows (none) 5, .pure, .writes 1] (by kernel_rfl) (by kernel_rfl)
    · exact drawOk_ren [R, L, σ.length, σ.length + 2, id, σ.length + 3] (by simp; omega) [.pure, .pure, .pure, .reads 0, .pure, .pure, .reads 1, .reads 2, .pure, .news 3, .grows (some 4) 5, .pure, .writes 1] (by kernel_rfl) (by kernel_rfl)
  refine hK _ _ ?_; clear hK K
  have hD : ∀ X, (σ'.set L X)[σ.length + 3]? = some (.cells (cs ++ [.lit (.string ⟨#[]⟩), .sl [] .full, .lit (.bool false), .lit (.int .i64 0)]) 76) := fun X => by rw [List.getElem?_set_ne hne]; exact hN'
  have hput : putCells (cs ++ [.lit (.string ⟨#[]⟩), .sl [] .full, .lit (.bool false), .lit (.int .i64 0)]) (m * 4) [c0, c1, c2, c3] = cs ++ [c0, c1, c2, c3] := by
   have hc : cs.length = m * 4 := by rcases hold with ⟨_, rfl, rfl⟩ | ⟨id, _, _, hc⟩ <;> first | rfl | exact hc
   rw [← hc]; exact putCells_append _ _ _ rfl
  have hw3 : (m : Int) < (m : Int) + 1 := by omega
  have hcl : m * 4 ≤ cs.length := by
   rcases hold with ⟨_, rfl, rfl⟩ | ⟨id, _, _, hc⟩ <;> omega
  refine JD.region ?_
  simp (maxDischargeDepth := 16) [symB, List.length_set, LJ_nil, LJ_guardS, LJ_guardN, LJ_val, LJ_skip, LJ_enter, hlen, h0, h1, hD, hput, hw3, hcl]
  refine hR0 _ _ _ ?_
  refine ⟨.tup [], by simp [zA, omap], rfl, by simp [l'], σ.length + 3, by omega, List.getElem?_set_self (by simp; omega), ?_, ?_⟩
  · rw [List.getElem?_set_ne (Ne.symm hne), List.getElem?_set_self (by omega)]
  · intro j hj hjL hjv
    rw [List.getElem?_set_ne (by omega), List.getElem?_set_ne (Ne.symm hjL)]
    exact hfr j hj hjv
 | false =>
  refine J.cw (CW.draw (by kernel_rfl) ?_)
  obtain ⟨σ', g, l', hL', hN', hfr, hg, hap⟩ := put_app σ R L m v cs ls TL hL hold hm hvL hvR (.cells [c0, c1, c2, c3] 76) (.cells [.lit (.bool false)] 4) [c0, c1, c2, c3] rfl
  simp (maxDischargeDepth := 16) [symB, List.length_set, andThen, hlen, h0, h1, hR, hL, hv, List.getElem?_append_left lR, List.getElem?_append_left lL, w1, w2, hap, hn, hlv, hL']
  refine ⟨?_, ?_⟩
  · rcases hg with rfl | ⟨id, rfl, g1, g2, g3⟩
    · exact drawOk_ren [R, L, σ.length, σ.length + 2, σ.length + 5, σ.length + 3] (by simp; omega) [.pure, .pure, .pure, .reads 0, .pure, .pure, .pure, .pure, .reads 0, .pure, .pure, .reads 1, .reads 2, .news 3, .grows (none) 5, .pure, .writes 1] (by kernel_rfl) (by kernel_rfl)
    · exact drawOk_ren [R, L, σ.length, σ.length + 2, id, σ.length + 3] (by simp; omega) [.pure, .pure, .pure, .reads 0, .pure, .pure, .pure, .pure, .reads 0, .pure, .pure, .reads 1, .reads 2, .news 3, .grows (some 4) 5, .pure, .writes 1] (by kernel_rfl) (by kernel_rfl)
  refine hR0 _ _ _ ?_
  refine ⟨.tup [], by simp [zA, omap], rfl, by simp [l'], σ.length + 3, by omega, ?_, ?_, ?_⟩
  · rw [List.getElem?_set_ne (by omega)]; exact hN'
  · exact List.getElem?_set_self (by omega)
  · intro j hj hjL hjv
    rw [List.getElem?_set_ne (Ne.symm hjL)]
    exact hfr j hj hjv
end
section
open Go.RowKit
theorem close_build (σ : Sto) (M : List TypeId) (v1 : AV) (a : Int) (hone : v1.one = true) (tm : List AV) (ds : Option Tmp) (ty : TypeId) (po : String) (af : Array Edge) (gu : Option (Nat × Bool)) (x y : Operand) (hx : evx tm x = some v1) (hy : evx tm y = some (.lit (.int .i64 a))) :
    evStep Tryz.prog M (evx tm) σ ⟨ds, .build 76 #[(2, .const (.bool true)), (1, x), (3, y)], ty, po, af, gu⟩ = some (.val (.agg [.lit (.string ⟨#[]⟩), v1, .lit (.bool true), .lit (.int .i64 a)]) σ .pure) := by
 cases v1 <;> first
  | (simp [AV.one] at hone; done)
  | simp [es_build, evStepU, evPure, hx, hy, evx_const, parts?, omap, absV, abs2, abs1, scal, fillA, putCells, AV.notTup, AV.cells]
theorem close_ev (σ : Sto) (R L n m B : Nat) (a : Int) (TR TL TB : TypeId) (v v1 : AV) (ls bs cs : List AV) (hR : σ[R]? = some (.cells [.asl L 0 (n + 2) 1, .asl B 0 (n + 2) 1] TR)) (hL : σ[L]? = some (.cells ls TL)) (hB : σ[B]? = some (.cells bs TB)) (hn : n + 2 ≤ ls.length) (hv : ls[n]? = some v) (hv1 : ls[n + 1]? = some v1) (hb : bs[n + 1]? = some (.lit (.int .i64 a)))
    (hold : OldAt σ v m cs) (hone : v1.one = true) (hnmax : n ≤ 1000000) (hm : m ≤ 1000000) (hRL : R ≠ L) (hRB : R ≠ B) (hLB : L ≠ B) (hvL : ¬ isId v L) (hvR : ¬ isId v R) :
    JC Tryz.prog EL 53 [.ptr R 0] σ (PutPost ((σ ++ [AObj.cells [.lit (.string ⟨#[]⟩), v1, .lit (.bool true), .lit (.int .i64 a)] 76]).set R (.cells [.asl L 0 (n + 1) 1, .asl B 0 (n + 1) 1] TR)) R L n m TL v ls cs [.lit (.string ⟨#[]⟩), v1, .lit (.bool true), .lit (.int .i64 a)]) := by
 refine JC.start (fn := Tryz.f53) (M := [109, 110, 71]) rfl rfl rfl (by simp) fun tm hlen hs => ?_
 have h0 := hs 0 _ rfl
 clear hs
 simp at hlen
 have lR := (List.getElem?_eq_some_iff.1 hR).1
 have lL := (List.getElem?_eq_some_iff.1 hL).1
 have lB := (List.getElem?_eq_some_iff.1 hB).1
 have lbs := (List.getElem?_eq_some_iff.1 hb).1
 have w1 : IntKind.i64.wrap ((n : Int) + 2 - 1) = (n : Int) + 1 := by rw [show (n : Int) + 2 - 1 = n + 1 by omega]; exact IntWalk.i64_in _ ⟨by omega, by omega⟩
 have w2 : (n : Int) + 1 < (n : Int) + 2 := by omega
 have w3 : (0 : Int) ≤ (n : Int) + 1 := by omega
 have w4 : ((n : Int) + 1).toNat = n + 1 := by omega
 have w5 : (n : Int) + 1 ≤ (n : Int) + 2 := by omega
 have hc1 : AV.cells v1 = [v1] := by cases v1 <;> first | rfl | simp [AV.one] at hone
 have ht1 : AV.notTup v1 = true := by cases v1 <;> first | rfl | simp [AV.one] at hone
 have gS : ∀ X, (σ ++ [X])[σ.length]? = some X := fun X => by rw [List.getElem?_append_right (Nat.le_refl _)]; simp
 have hbu := close_build σ [109, 110, 71] v1 a hone
 refine JD.hide fun R0 hR0 => ?_
 refine JD.seqK fun K hK => JD.region ?_
 simp (maxDischargeDepth := 16) [symB, List.length_set, LJ_nil, LJ_guardS, LJ_guardN, LJ_val, LJ_skip, LJ_enter, andThen, hlen, h0, hR, w1]
 refine hK _ _ ?_; clear hK K
 refine JD.seqK fun K hK => J.cw (CW.draw (by kernel_rfl) ?_)
 simp (maxDischargeDepth := 16) [symB, List.length_set, hbu, andThen, hlen, h0, hR, hL, hB, hv1, hb, gS, List.getElem?_append_left lR, List.getElem?_append_left lL, List.getElem?_append_left lB, w1, w2, w3, w4]
 refine ⟨drawOk_ren [R, L, B, σ.length] (by simp; omega) [.pure, .pure, .pure, .reads 0, .pure, .pure, .reads 1, .pure, .pure, .pure, .reads 0, .pure, .pure, .reads 2, .pure, .news 3, .writes 3] (by kernel_rfl) (by kernel_rfl), hK _ _ ?_⟩; clear hK K
 have lR1 : R < σ.length + 1 := by omega
 refine JD.seqK fun K hK => JD.region ?_
 simp (maxDischargeDepth := 16) [symB, List.length_set, LJ_nil, LJ_guardS, LJ_guardN, LJ_val, LJ_skip, LJ_enter, andThen, hlen, h0, hR, List.getElem?_append_left lR, w1, w2, w3, w4, w5]
 refine hK _ _ ?_; clear hK K
 refine JD.seqK fun K hK => JD.region ?_
 simp (maxDischargeDepth := 16) [symB, List.length_set, LJ_nil, LJ_guardS, LJ_guardN, LJ_val, LJ_skip, LJ_enter, andThen, hlen, h0, hR, List.getElem?_append_left lR, w1, w2, w3, w4, w5, lR1]
 refine hK _ _ ?_; clear hK K
 refine JD.region ?_
 have hne : R ≠ σ.length := by omega
 simp (maxDischargeDepth := 16) [symB, List.length_set, LJ_nil, LJ_guardS, LJ_guardN, LJ_val, LJ_skip, LJ_enter, andThen, hlen, h0, hne, gS]
 refine (put_ev _ R L n m 0 0 TR TL v (.asl B 0 (n + 1) 1) ls cs _ (List.getElem?_set_self (by simp; omega)) (by rw [List.getElem?_set_ne hRL, List.getElem?_append_left lL]; exact hL) (by omega) hv ?_ rfl hnmax hm hRL hvL hvR).mono ?_
 · rcases hold with h | ⟨id, rfl, ho, hc⟩
   · exact .inl h
   · exact .inr ⟨id, rfl, by rw [List.getElem?_set_ne (fun e => hvR ⟨m, by rw [e]⟩), List.getElem?_append_left (List.getElem?_eq_some_iff.1 ho).1]; exact ho, hc⟩
 rintro r σ' h
 have hr := h.1
 subst hr
 simp only [retK]
 refine hR0 _ _ _ ?_
 exact ⟨.tup [], by simp [zA, omap], h⟩
theorem sgn_list (b : UInt8) : ([95, 45, 46, 43, 42, 47, 61, 60, 62] : List UInt8).contains b = true ↔ ∃ i : Nat, ∃ h : i < 9, ([95, 45, 46, 43, 42, 47, 61, 60, 62] : List UInt8)[i] = b := by
 simp only [List.contains_iff_mem, List.mem_iff_getElem]
 constructor
 · rintro ⟨i, h, e⟩; exact ⟨i, h, e⟩
 · rintro ⟨i, h, e⟩; exact ⟨i, h, e⟩
theorem sign_ev (b : UInt8) (σ : Sto) : CallW Tryz.prog EL 54 [.lit (.int .u8 b.toNat)] σ fun r σ' => r = .ret (.lit (.bool (sgn b))) ∧ σ' = σ := by
 refine CallW.start (fn := Tryz.f54) (M := []) rfl rfl rfl rfl (by simp) fun tm hlen hs => ?_
 have h0 := hs 0 _ rfl
 clear hs
 simp at hlen
 have e1 : (97 ≤ b) = ((97 : Int) ≤ (b.toNat : Int)) := by rw [UInt8.le_iff_toNat_le]; simp only [UInt8.reduceToNat]; exact propext ⟨fun h => by omega, fun h => by omega⟩
 have e2 : (b ≤ 122) = ((b.toNat : Int) ≤ 122) := by rw [UInt8.le_iff_toNat_le]; simp only [UInt8.reduceToNat]; exact propext ⟨fun h => by omega, fun h => by omega⟩
 have e3 : (48 ≤ b) = ((48 : Int) ≤ (b.toNat : Int)) := by rw [UInt8.le_iff_toNat_le]; simp only [UInt8.reduceToNat]; exact propext ⟨fun h => by omega, fun h => by omega⟩
 have e4 : (b ≤ 57) = ((b.toNat : Int) ≤ 57) := by rw [UInt8.le_iff_toNat_le]; simp only [UInt8.reduceToNat]; exact propext ⟨fun h => by omega, fun h => by omega⟩
 refine CW.hide fun R0 hR0 => ?_
 refine CW.seqK fun K hK => CW.region ?_
 simp (maxDischargeDepth := 16) [symB, List.length_set, andThen, hlen, h0]
 refine hK _ _ ?_; clear hK K
 refine CW.seqK fun K hK => ?_
 refine CW.seqK fun K2 hK2 => CW.region ?_
 have fin : ∀ (tm2 : List AV) (c : Bool), tm2.length = 30 → slot tm2 0 = .lit (.int .u8 b.toNat) → slot tm2 18 = .lit (.bool c) → c = (decide (97 ≤ b) && decide (b ≤ 122) || decide (48 ≤ b) && decide (b ≤ 57)) → K2 tm2 σ := by
  intro tm2 c hlen h0 h18 hc
  refine hK2 _ _ ?_; clear hK2 K2
  refine CW.cond (t := c) (by rw [zT, h18]) ?_
  cases c with
  | true =>
   refine CW.seqK fun K2 hK2 => CW.region ?_
   simp (maxDischargeDepth := 16) [symB, List.length_set, andThen, hlen, h0]
   refine hK2 _ _ ?_; clear hK2 K2
   refine CW.ret ?_
   simp only [andThen]
   refine hR0 _ _ _ ?_
   refine ⟨.lit (.bool true), by simp [zA, omap, zB, slot_eq, hlen], ?_, rfl⟩
   unfold sgn
   rw [← hc]; rfl
  | false =>
   refine CW.skip ?_
   simp only [andThen]
   refine hK _ _ ?_; clear hK K
   refine CW.seqK fun K2 hK2 => CW.region ?_
   simp (maxDischargeDepth := 16) [symB, List.length_set, andThen, hlen, h0]
   refine hK2 _ _ ?_; clear hK2 K2
   refine CW.seqK fun K hK => ?_
   refine CW.seqK fun K2 hK2 => CW.region ?_
   simp (maxDischargeDepth := 16) [symB, List.length_set, andThen, hlen, h0]
   refine hK2 _ _ ?_; clear hK2 K2
   refine CW.block ?_
   refine CW.hide fun R hR => ?_
   refine CW.loopI (fun k tm σ1 => ∃ (i : Nat), k = 9 - i ∧ i ≤ 9 ∧ tm.length = 30 ∧ slot tm 0 = .lit (.int .u8 b.toNat) ∧ slot tm 3 = .lit (.string ⟨#[95, 45, 46, 43, 42, 47, 61, 60, 62]⟩) ∧ slot tm 4 = .lit (.int .i64 i) ∧ σ1 = σ ∧ ∀ j : Nat, (h : j < 9) → j < i → ([95, 45, 46, 43, 42, 47, 61, 60, 62] : List UInt8)[j] ≠ b) ?_ 9 _ _ ?_
   rotate_left
   · exact ⟨0, rfl, by omega, by simp [hlen], by simp [slot_ne, h0], by simp [slot_ne, slot_eq, hlen], by simp [slot_eq, hlen], rfl, fun j h hj => by omega⟩
   clear h0 hlen h18 tm2
   rintro k tm σ1 ⟨i, rfl, hi, hlen, h0, h3, h4, rfl, hno⟩
   refine CW.hide fun R2 hR2 => ?_
   refine CW.seqK fun K3 hK3 => ?_
   have hsz : (⟨#[95, 45, 46, 43, 42, 47, 61, 60, 62]⟩ : ByteArray).size = 9 := rfl
   by_cases hlt : i < 9
   · have hlt' : (i : Int) < 9 := by omega
     refine CW.seqK fun K4 hK4 => CW.region ?_
     simp (maxDischargeDepth := 16) [symB, List.length_set, andThen, hlen, h0, h3, h4, hsz, hlt, hlt']
     refine hK4 _ _ ?_; clear hK4 K4
     refine CW.cond (t := true) (by simp [zT, slot_eq, hlen, hlt, hlt']) (CW.skip ?_)
     simp only [andThen]
     refine hK3 _ _ ?_; clear hK3 K3
     have hw : IntKind.i64.wrap ((i : Int) + 1) = ((i + 1 : Nat) : Int) := wrap_succ (by omega)
     have hg : ∀ (l : List UInt8) (h : i < l.length), (⟨l.toArray⟩ : ByteArray)[i]? = some (l[i]) := fun l h => by
      rw [getElem?_pos (⟨l.toArray⟩ : ByteArray) i (by simpa [ByteArray.size] using h)]
      rfl
     have hg' := hg [95, 45, 46, 43, 42, 47, 61, 60, 62] hlt
     generalize hx : ([95, 45, 46, 43, 42, 47, 61, 60, 62] : List UInt8)[i] = x at hg'
     refine CW.seqK fun K3 hK3 => CW.block ?_
     refine CW.seqK fun K4 hK4 => CW.region ?_
     by_cases hxb : x = b
     · subst hxb
       simp (maxDischargeDepth := 16) [symB, List.length_set, andThen, hlen, h0, h3, h4, hg', hsz]
       refine hK4 _ _ ?_; clear hK4 K4
       refine CW.cond (t := true) (by simp [zT, slot_eq, hlen]) ?_
       refine CW.seqK fun K4 hK4 => CW.region ?_
       simp (maxDischargeDepth := 16) [symB, List.length_set, andThen, hlen]
       refine hK4 _ _ ?_; clear hK4 K4
       refine CW.ret ?_
       simp only [outOf, andThen]
       refine hR2 _ _ _ (hR _ _ _ ?_)
       simp only [outOf, andThen]
       refine hR0 _ _ _ ?_
       refine ⟨.lit (.bool true), by simp [zA, omap, zB, slot_eq, hlen], ?_, rfl⟩
       have : sgn x = true := by
        unfold sgn
        rw [Bool.or_eq_true]
        exact .inr ((sgn_list x).2 ⟨i, hlt, hx⟩)
       rw [this]
     · have hne : ¬ (x.toNat : Int) = (b.toNat : Int) := fun e => hxb (UInt8.toNat_inj.1 (by omega))
       simp (maxDischargeDepth := 16) [symB, List.length_set, andThen, hlen, h0, h3, h4, hg', hsz, hne]
       refine hK4 _ _ ?_; clear hK4 K4
       refine CW.cond (t := false) (by simp [zT, slot_eq, hlen, hne]) (CW.skip ?_)
       simp only [outOf, andThen]
       refine hK3 _ _ ?_; clear hK3 K3
       refine CW.region ?_
       simp (maxDischargeDepth := 16) [symB, List.length_set, hlen, h4, hw]
       refine hR2 _ _ _ ⟨9 - (i + 1), by omega, i + 1, rfl, by omega, by simp [hlen], by simp [slot_ne, h0], by simp [slot_ne, h3], by simp [slot_eq, hlen], rfl, fun j h hj => ?_⟩
       rcases Nat.lt_or_ge j i with hji | hji
       · exact hno j h hji
       · obtain rfl : j = i := by omega
         rw [hx]; exact hxb
   · have hlt' : ¬ (i : Int) < 9 := by omega
     refine CW.seqK fun K4 hK4 => CW.region ?_
     simp (maxDischargeDepth := 16) [symB, List.length_set, andThen, hlen, h0, h3, h4, hsz, hlt, hlt']
     refine hK4 _ _ ?_; clear hK4 K4
     refine CW.cond (t := false) (by simp [zT, slot_eq, hlen, hlt, hlt']) (CW.exit ?_)
     simp only [andThen]
     refine hR2 _ _ _ (hR _ _ _ ?_)
     simp only [outOf, if_true, andThen]
     refine hK _ _ ?_
     refine CW.seqK fun K5 hK5 => CW.region ?_
     simp (maxDischargeDepth := 16) [symB, List.length_set, andThen, hlen]
     refine hK5 _ _ ?_
     refine CW.ret (hR0 _ _ _ ?_)
     refine ⟨.lit (.bool false), by simp [zA, omap, zB, slot_eq, hlen], ?_, rfl⟩
     have : sgn b = false := by
      unfold sgn
      rw [← hc, Bool.false_or]
      rw [← Bool.not_eq_true, sgn_list]
      rintro ⟨j, h, e⟩
      exact hno j h (by omega) e
     rw [this]
 by_cases p1 : (97 : Int) ≤ (b.toNat : Int)
 · by_cases p2 : (b.toNat : Int) ≤ 122
   · simp (maxDischargeDepth := 16) [symB, List.length_set, andThen, hlen, h0, p1, p2]
     exact fin _ true (by simp [hlen]) (by simp [slot_ne, h0]) (by simp [slot_eq, hlen]) (by simp [e1, e2, p1, p2])
   · have p3 : (48 : Int) ≤ (b.toNat : Int) := by omega
     have p4 : ¬ (b.toNat : Int) ≤ 57 := by omega
     simp (maxDischargeDepth := 16) [symB, List.length_set, andThen, hlen, h0, p1, p2, p3, p4]
     exact fin _ false (by simp [hlen]) (by simp [slot_ne, h0]) (by simp [slot_eq, hlen]) (by simp [e1, e2, e3, e4, p1, p2, p3, p4])
 · by_cases p3 : (48 : Int) ≤ (b.toNat : Int)
   · by_cases p4 : (b.toNat : Int) ≤ 57
     · simp (maxDischargeDepth := 16) [symB, List.length_set, andThen, hlen, h0, p1, p3, p4]
       exact fin _ true (by simp [hlen]) (by simp [slot_ne, h0]) (by simp [slot_eq, hlen]) (by simp [e1, e2, e3, e4, p1, p3, p4])
     · simp (maxDischargeDepth := 16) [symB, List.length_set, andThen, hlen, h0, p1, p3, p4]
       exact fin _ false (by simp [hlen]) (by simp [slot_ne, h0]) (by simp [slot_eq, hlen]) (by simp [e1, e2, e3, e4, p1, p3, p4])
   · simp (maxDischargeDepth := 16) [symB, List.length_set, andThen, hlen, h0, p1, p3]
     exact fin _ false (by simp [hlen]) (by simp [slot_ne, h0]) (by simp [slot_eq, hlen]) (by simp [e1, e2, e3, e4, p1, p3])
end
section
open Go.RowKit
section
variable (g : Nat → Nat) (σ : Sto)
mutual
def IsTr : List AV → Tr → Prop
 | row, .mk x k r a => ∃ kv, row = [.lit (.string ⟨x.toArray⟩), kv, .lit (.bool r), .lit (.int .i64 a)] ∧ ((k = [] ∧ kv = .sl [] .full) ∨ ∃ id cs, kv = .asl id 0 k.length 4 ∧ g id = 1 ∧ σ[id]? = some (.cells cs 76) ∧ IsTrs cs k)
def IsTrs : List AV → List Tr → Prop
 | cs, [] => cs = []
 | cs, t :: l => ∃ row rest, cs = row ++ rest ∧ IsTr row t ∧ IsTrs rest l
end
end
section
variable {g g' : Nat → Nat} {σ σ' : Sto}
mutual
theorem IsTr.keep (h : ∀ id, id < σ.length → g id = 1 → g' id = 1 ∧ σ'[id]? = σ[id]?) : ∀ (row : List AV) (t : Tr), IsTr g σ row t → IsTr g' σ' row t
 | row, .mk x k r a, ⟨kv, h1, h2⟩ => by
  refine ⟨kv, h1, ?_⟩
  rcases h2 with h2 | ⟨id, cs, h3, h4, h5, h6⟩
  · exact .inl h2
  · have hl := h id (List.getElem?_eq_some_iff.1 h5).1 h4
    exact .inr ⟨id, cs, h3, hl.1, hl.2.trans h5, IsTrs.keep h cs k h6⟩
theorem IsTrs.keep (h : ∀ id, id < σ.length → g id = 1 → g' id = 1 ∧ σ'[id]? = σ[id]?) : ∀ (cs : List AV) (l : List Tr), IsTrs g σ cs l → IsTrs g' σ' cs l
 | cs, [], h1 => h1
 | cs, t :: l, ⟨row, rest, h1, h2, h3⟩ => ⟨row, rest, h1, IsTr.keep h row t h2, IsTrs.keep h rest l h3⟩
end
theorem IsTr.length : ∀ {row : List AV} {t : Tr}, IsTr g σ row t → row.length = 4
 | row, .mk x k r a, ⟨kv, h1, _⟩ => by rw [h1]; rfl
theorem IsTrs.length : ∀ {cs : List AV} {l : List Tr}, IsTrs g σ cs l → cs.length = l.length * 4
 | cs, [], h => by rw [IsTrs] at h; subst h; rfl
 | cs, t :: l, ⟨row, rest, h1, h2, h3⟩ => by
  have a := IsTr.length h2
  have b := IsTrs.length h3
  rw [h1, List.length_append, a, b, List.length_cons]; omega
theorem IsTrs.snoc {row : List AV} {t : Tr} (ht : IsTr g σ row t) : ∀ {cs : List AV} {l : List Tr}, IsTrs g σ cs l → IsTrs g σ (cs ++ row) (l ++ [t])
 | cs, [], h => by rw [IsTrs] at h; subst h; exact ⟨row, [], by simp, ht, rfl⟩
 | cs, u :: l, ⟨row', rest, h1, h2, h3⟩ => ⟨row', rest ++ row, by rw [h1, List.append_assoc], h2, IsTrs.snoc ht h3⟩
end
def OpenRow (g : Nat → Nat) (σ : Sto) (v : AV) (xs : List Tr) (lev : Nat) : Prop :=
 (xs = [] ∧ v = .sl [] .full) ∨ ∃ id cs, v = .asl id 0 xs.length 4 ∧ g id = lev + 2 ∧ σ[id]? = some (.cells cs 76) ∧ IsTrs g σ cs xs
def Levels (g : Nat → Nat) (σ : Sto) (ls bs : List AV) : List (List Tr × Int) → Prop
 | [] => True
 | (xs, b) :: rest => (∃ v, ls[rest.length]? = some v ∧ OpenRow g σ v xs rest.length) ∧ bs[rest.length]? = some (.lit (.int .i64 b)) ∧ Levels g σ ls bs rest
theorem Levels.keep {g g' : Nat → Nat} {σ σ' : Sto} {ls ls' bs bs' : List AV} : ∀ {st : List (List Tr × Int)}, (∀ id, id < σ.length → g id = 1 → g' id = 1 ∧ σ'[id]? = σ[id]?) → (∀ id, id < σ.length → 2 ≤ g id → g id < st.length + 2 → g' id = g id ∧ σ'[id]? = σ[id]?) →
    (∀ j, j < st.length → ls'[j]? = ls[j]? ∧ bs'[j]? = bs[j]?) → Levels g σ ls bs st → Levels g' σ' ls' bs' st
 | [], _, _, _, _ => trivial
 | (xs, b) :: rest, h1, h2, h3, ⟨⟨v, hv, ho⟩, hb, hr⟩ => by
  have hj := h3 rest.length (by simp)
  refine ⟨⟨v, by rw [hj.1]; exact hv, ?_⟩, by rw [hj.2]; exact hb, Levels.keep h1 (fun id hid a b => h2 id hid a (by simp; omega)) (fun j hj => h3 j (by simp; omega)) hr⟩
  rcases ho with ho | ⟨id, cs, g1, g2, g3, g4⟩
  · exact .inl ho
  · have hl := (List.getElem?_eq_some_iff.1 g3).1
    have hk := h2 id hl (by omega) (by simp; omega)
    exact .inr ⟨id, cs, g1, by rw [hk.1]; exact g2, hk.2.trans g3, IsTrs.keep h1 cs xs g4⟩
structure PS (σ0 σ : Sto) (R L B : Nat) (g : Nat → Nat) (ls bs : List AV) (st : List (List Tr × Int)) : Prop where
 r : σ[R]? = some (.cells [.asl L 0 st.length 1, .asl B 0 st.length 1] 112)
 l : σ[L]? = some (.cells ls 71)
 b : σ[B]? = some (.cells bs 3)
 ll : st.length ≤ ls.length
 lb : st.length ≤ bs.length
 rl : R ≠ L
 rb : R ≠ B
 lb' : L ≠ B
 r0 : σ0.length ≤ R
 l0 : σ0.length ≤ L
 b0 : σ0.length ≤ B
 gr : g R = 0
 gl : g L = 0
 gb : g B = 0
 g0 : ∀ j, g j ≠ 0 → σ0.length ≤ j
 keep : ∀ j, j < σ0.length → σ[j]? = σ0[j]?
 le : σ0.length ≤ σ.length
 lev : Levels g σ ls bs st
def PState (σ0 σ : Sto) (R : Nat) (st : List (List Tr × Int)) : Prop := ∃ L B g ls bs, PS σ0 σ R L B g ls bs st
theorem PS.put {σ0 σ σ' : Sto} {R L B : Nat} {g : Nat → Nat} {ls bs : List AV} {xs : List Tr} {b : Int} {rest : List (List Tr × Int)} (h : PS σ0 σ R L B g ls bs ((xs, b) :: rest)) {row : List AV} {t : Tr} (ht : IsTr g σ row t) {v : AV} (hv : ls[rest.length]? = some v) {cs : List AV}
    (hold : (xs = [] ∧ v = .sl [] .full ∧ cs = []) ∨ ∃ id, v = .asl id 0 xs.length 4 ∧ g id = rest.length + 2 ∧ σ[id]? = some (.cells cs 76)) (hcs : IsTrs g σ cs xs) {r : ARes} (hp : PutPost σ R L rest.length xs.length 71 v ls cs row r σ') :
    PState σ0 σ' R ((xs ++ [t], b) :: rest) := by
 obtain ⟨rfl, hlen, id', hid', hc', hL', hfr⟩ := hp
 have lR := (List.getElem?_eq_some_iff.1 h.r).1
 have lL := (List.getElem?_eq_some_iff.1 h.l).1
 have lB := (List.getElem?_eq_some_iff.1 h.b).1
 have gid : ∀ j, isId v j → g j = rest.length + 2 := by
  rintro j ⟨m, hm⟩
  rcases hold with ⟨_, h1, _⟩ | ⟨id, h1, h2, h3⟩
  · rw [h1] at hm; cases hm
  · rw [h1] at hm; cases hm; exact h2
 have hnR : ¬ isId v R := fun e => by have := gid R e; rw [h.gr] at this; omega
 have hnB : ¬ isId v B := fun e => by have := gid B e; rw [h.gb] at this; omega
 have frozen : ∀ id, id < σ.length → g id = 1 → (if id = id' then rest.length + 2 else if g id = rest.length + 2 then 0 else g id) = 1 ∧ σ'[id]? = σ[id]? := by
  intro id hid h1
  refine ⟨by rw [if_neg (by omega), if_neg (by omega)]; exact h1, hfr id hid (fun e => by subst e; rw [h.gl] at h1; omega) fun e => by have := gid id e; omega⟩
 obtain ⟨⟨v0, hv0, _⟩, hb0, hlv⟩ := h.lev
 have hll : (ls.set rest.length (.asl id' 0 (xs.length + 1) 4)).length = ls.length := List.length_set
 have hrl := h.ll
 simp only [List.length_cons] at hrl
 refine ⟨L, B, fun j => if j = id' then rest.length + 2 else if g j = rest.length + 2 then 0 else g j, ls.set rest.length (.asl id' 0 (xs.length + 1) 4), bs, ?_⟩
 refine { r := ?_, l := hL', b := ?_, ll := by rw [hll]; exact h.ll, lb := h.lb, rl := h.rl, rb := h.rb, lb' := h.lb', r0 := h.r0, l0 := h.l0, b0 := h.b0, gr := ?_, gl := ?_, gb := ?_, g0 := ?_, keep := ?_, le := Nat.le_trans h.le hlen, lev := ?_ }
 · rw [hfr R lR h.rl hnR]; exact h.r
 · rw [hfr B lB (Ne.symm h.lb') hnB]; exact h.b
 · rw [if_neg (by omega), if_neg (by rw [h.gr]; omega)]; exact h.gr
 · rw [if_neg (by omega), if_neg (by rw [h.gl]; omega)]; exact h.gl
 · rw [if_neg (by omega), if_neg (by rw [h.gb]; omega)]; exact h.gb
 · intro j hj
   have := h.le
   split at hj
   · omega
   · split at hj
     · exact absurd rfl hj
     · exact h.g0 j hj
 · intro j hj
   have hl := h.l0
   rw [hfr j (by have := h.le; omega) (by omega) fun e => by have := h.g0 j (by have := gid j e; omega); omega]
   exact h.keep j hj
 · refine ⟨⟨_, List.getElem?_set_self (by omega), .inr ⟨id', cs ++ row, by simp, by simp, hc', IsTrs.snoc (IsTr.keep frozen _ _ ht) (IsTrs.keep frozen _ _ hcs)⟩⟩, hb0, ?_⟩
   refine Levels.keep frozen (fun id hid h2 h3 => ?_) (fun j hj => ⟨List.getElem?_set_ne (by omega), rfl⟩) hlv
   refine ⟨by rw [if_neg (by omega), if_neg (by omega)], hfr id hid (fun e => by subst e; rw [h.gl] at h2; omega) fun e => by have := gid id e; omega⟩
theorem PS.top {σ0 σ : Sto} {R L B : Nat} {g : Nat → Nat} {ls bs : List AV} {xs : List Tr} {b : Int} {rest : List (List Tr × Int)} (h : PS σ0 σ R L B g ls bs ((xs, b) :: rest)) :
    ∃ v cs, ls[rest.length]? = some v ∧ IsTrs g σ cs xs ∧ OldAt σ v xs.length cs ∧ ((xs = [] ∧ v = .sl [] .full ∧ cs = []) ∨ ∃ id, v = .asl id 0 xs.length 4 ∧ g id = rest.length + 2 ∧ σ[id]? = some (.cells cs 76)) ∧ ¬ isId v L ∧ ¬ isId v R ∧ v.one = true := by
 obtain ⟨⟨v, hv, ho⟩, hb, hlv⟩ := h.lev
 rcases ho with ⟨h1, h2⟩ | ⟨id, cs, h1, h2, h3, h4⟩
 · subst h1; subst h2
   exact ⟨_, [], hv, rfl, .inl ⟨rfl, rfl, rfl⟩, .inl ⟨rfl, rfl, rfl⟩, (fun ⟨m, e⟩ => by cases e), (fun ⟨m, e⟩ => by cases e), rfl⟩
 · subst h1
   refine ⟨_, cs, hv, h4, .inr ⟨id, rfl, h3, IsTrs.length h4⟩, .inr ⟨id, rfl, h2, h3⟩, ?_, ?_, rfl⟩
   · rintro ⟨m, e⟩; cases e; rw [h.gl] at h2; omega
   · rintro ⟨m, e⟩; cases e; rw [h.gr] at h2; omega
theorem put_st {σ0 σ : Sto} {R L B : Nat} {g : Nat → Nat} {ls bs : List AV} {xs : List Tr} {b : Int} {rest : List (List Tr × Int)} (h : PS σ0 σ R L B g ls bs ((xs, b) :: rest)) {row : List AV} {t : Tr} (ht : IsTr g σ row t) (hm : xs.length ≤ 1000000) (hn : rest.length ≤ 1000000) :
    JC Tryz.prog EL 55 [.ptr R 0, .agg row] σ fun r σ' => r = .ret (.tup []) ∧ PState σ0 σ' R ((xs ++ [t], b) :: rest) := by
 obtain ⟨v, cs, hv, hcs, hold, hold2, hvL, hvR, _⟩ := h.top
 have hrl := h.ll
 simp only [List.length_cons] at hrl
 refine (put_ev σ R L rest.length xs.length 0 0 _ _ v _ ls cs row h.r h.l (by omega) hv hold (IsTr.length ht) hn hm h.rl hvL hvR).mono fun r σ' hp => ⟨hp.1, h.put ht hv hold2 hcs hp⟩
theorem close_st {σ0 σ : Sto} {R L B : Nat} {g : Nat → Nat} {ls bs : List AV} {xs xs1 : List Tr} {b b1 : Int} {rest : List (List Tr × Int)} (h : PS σ0 σ R L B g ls bs ((xs1, b1) :: (xs, b) :: rest)) (hm : xs.length ≤ 1000000) (hn : rest.length ≤ 1000000) :
    JC Tryz.prog EL 53 [.ptr R 0] σ fun r σ' => r = .ret (.tup []) ∧ PState σ0 σ' R ((xs ++ [.mk [] xs1 true b1], b) :: rest) := by
 obtain ⟨v1, cs1, hv1, hcs1, hold1, hold12, hvL1, hvR1, hone⟩ := h.top
 have lR := (List.getElem?_eq_some_iff.1 h.r).1
 have lL := (List.getElem?_eq_some_iff.1 h.l).1
 have lB := (List.getElem?_eq_some_iff.1 h.b).1
 have hrl := h.ll
 have hrb := h.lb
 simp only [List.length_cons] at hrl hrb
 obtain ⟨_, hb1, hlv0⟩ := h.lev
 generalize hrow : ([.lit (.string ⟨#[]⟩), v1, .lit (.bool true), .lit (.int .i64 b1)] : List AV) = row
 generalize hσ1 : (σ ++ [AObj.cells row 76]).set R (.cells [.asl L 0 (rest.length + 1) 1, .asl B 0 (rest.length + 1) 1] 112) = σ1
 have l1 : σ1.length = σ.length + 1 := by rw [← hσ1]; simp
 have same : ∀ j, j < σ.length → j ≠ R → σ1[j]? = σ[j]? := fun j hj hjR => by rw [← hσ1, List.getElem?_set_ne (Ne.symm hjR), List.getElem?_append_left hj]
 have frozen : ∀ id, id < σ.length → g id = 1 → (if g id = rest.length + 3 then 1 else g id) = 1 ∧ σ1[id]? = σ[id]? := by
  intro id hid h1
  exact ⟨by rw [if_neg (by omega)]; exact h1, same id hid fun e => by subst e; rw [h.gr] at h1; omega⟩
 have h1 : PS σ0 σ1 R L B (fun j => if g j = rest.length + 3 then 1 else g j) ls bs ((xs, b) :: rest) := by
  refine { r := ?_, l := ?_, b := ?_, ll := by simp; omega, lb := by simp; omega, rl := h.rl, rb := h.rb, lb' := h.lb', r0 := h.r0, l0 := h.l0, b0 := h.b0, gr := ?_, gl := ?_, gb := ?_, g0 := ?_, keep := ?_, le := by rw [l1]; have := h.le; omega, lev := ?_ }
  · rw [← hσ1]; exact List.getElem?_set_self (by simp; omega)
  · rw [same L lL (Ne.symm h.rl)]; exact h.l
  · rw [same B lB (Ne.symm h.rb)]; exact h.b
  · rw [if_neg (by rw [h.gr]; omega)]; exact h.gr
  · rw [if_neg (by rw [h.gl]; omega)]; exact h.gl
  · rw [if_neg (by rw [h.gb]; omega)]; exact h.gb
  · intro j hj
    split at hj
    · exact h.g0 j (by omega)
    · exact h.g0 j hj
  · intro j hj
    have := h.r0
    have := h.le
    rw [same j (by omega) (by omega)]
    exact h.keep j hj
  · refine Levels.keep frozen (fun id hid g1 g2 => ?_) (fun j hj => ⟨rfl, rfl⟩) hlv0
    simp only [List.length_cons] at g2
    exact ⟨by rw [if_neg (by omega)], same id hid fun e => by subst e; rw [h.gr] at g1; omega⟩
 have ht : IsTr (fun j => if g j = rest.length + 3 then 1 else g j) σ1 row (.mk [] xs1 true b1) := by
  refine ⟨v1, hrow.symm, ?_⟩
  rcases hold12 with ⟨h1, h2, h3⟩ | ⟨id, h1, h2, h3⟩
  · exact .inl ⟨h1, h2⟩
  · simp only [List.length_cons] at h2
    refine .inr ⟨id, cs1, h1, if_pos (by omega), ?_, IsTrs.keep frozen _ _ hcs1⟩
    rw [same id (List.getElem?_eq_some_iff.1 h3).1 (fun e => by subst e; rw [h.gr] at h2; omega)]; exact h3
 obtain ⟨v, cs, hv, hcs, hold, hold2, hvL, hvR, _⟩ := h1.top
 have hold0 : OldAt σ v xs.length cs := by
  rcases hold with h2 | ⟨id, h2, h3, h4⟩
  · exact .inl h2
  · refine .inr ⟨id, h2, ?_, h4⟩
    have hid := (List.getElem?_eq_some_iff.1 h3).1
    have hR' : id ≠ R := fun e => hvR ⟨_, by rw [h2, e]⟩
    rcases Nat.lt_or_ge id σ.length with hlt | hge
    · rw [← same id hlt hR']; exact h3
    · rcases hold2 with ⟨_, g1, _⟩ | ⟨id2, g1, g2, g3⟩
      · rw [h2] at g1; cases g1
      · rw [h2] at g1; cases g1
        obtain ⟨⟨v', hv', ho'⟩, _, _⟩ := hlv0
        rw [hv] at hv'
        cases hv'
        rcases ho' with ⟨_, q⟩ | ⟨id3, cs3, q1, q2, q3, _⟩
        · rw [h2] at q; cases q
        · rw [h2] at q1; cases q1
          have := (List.getElem?_eq_some_iff.1 q3).1
          omega
 have := close_ev σ R L rest.length xs.length B b1 112 71 3 v v1 ls bs cs h.r h.l h.b (by omega) hv hv1 hb1 hold0 hone hn hm h.rl h.rb h.lb' hvL hvR
 rw [hrow, hσ1] at this
 exact this.mono fun r σ' hp => ⟨hp.1, h1.put ht hv hold2 hcs hp⟩
theorem PS.push {σ0 σ : Sto} {R L B : Nat} {g : Nat → Nat} {ls bs : List AV} {st : List (List Tr × Int)} (h : PS σ0 σ R L B g ls bs st) {σ' : Sto} {L' B' : Nat} {b : Int} {ls' bs' : List AV} (hls : ls' = ls.take st.length ++ [.sl [] .full]) (hbs : bs' = bs.take st.length ++ [.lit (.int .i64 b)])
    (hR : σ'[R]? = some (.cells [.asl L' 0 (st.length + 1) 1, .asl B' 0 (st.length + 1) 1] 112)) (hL : σ'[L']? = some (.cells ls' 71)) (hB : σ'[B']? = some (.cells bs' 3)) (hl : σ.length ≤ L') (hb : σ.length ≤ B') (hLB : L' ≠ B')
    (hle : σ.length ≤ σ'.length) (same : ∀ j, j < σ.length → j ≠ R → j ≠ L → j ≠ B → σ'[j]? = σ[j]?) : PState σ0 σ' R (([], b) :: st) := by
 have lR := (List.getElem?_eq_some_iff.1 h.r).1
 have hrl := h.ll
 have hrb := h.lb
 have hl0 := h.le
 have z : ∀ j, σ.length ≤ j → (if σ.length ≤ j then 0 else g j) = 0 := fun j hj => if_pos hj
 refine ⟨L', B', fun j => if σ.length ≤ j then 0 else g j, ls', bs', ?_⟩
 refine { r := hR, l := hL, b := hB, ll := by rw [hls]; simp; omega, lb := by rw [hbs]; simp; omega, rl := by omega, rb := by omega, lb' := hLB, r0 := h.r0, l0 := by omega, b0 := by omega, gr := ?_, gl := z _ hl, gb := z _ hb, g0 := ?_, keep := ?_, le := by omega, lev := ?_ }
 · rw [if_neg (by omega)]; exact h.gr
 · intro j hj
   split at hj
   · exact absurd rfl hj
   · exact h.g0 j hj
 · intro j hj
   have := h.r0
   have := h.l0
   have := h.b0
   rw [same j (by omega) (by omega) (by omega) (by omega)]
   exact h.keep j hj
 · have ne : ∀ id, g id ≠ 0 → id ≠ R ∧ id ≠ L ∧ id ≠ B := fun id hg => ⟨fun e => hg (by rw [e]; exact h.gr), fun e => hg (by rw [e]; exact h.gl), fun e => hg (by rw [e]; exact h.gb)⟩
   refine ⟨⟨.sl [] .full, ?_, .inl ⟨rfl, rfl⟩⟩, ?_, ?_⟩
   · rw [hls, List.getElem?_append_right (by simp; omega)]; simp [Nat.min_eq_left hrl]
   · rw [hbs, List.getElem?_append_right (by simp; omega)]; simp [Nat.min_eq_left hrb]
   · refine Levels.keep (fun id hid g1 => ?_) (fun id hid g1 g2 => ?_) (fun j hj => ?_) h.lev
     · obtain ⟨a, b, c⟩ := ne id (by omega)
       exact ⟨by rw [if_neg (by omega)]; exact g1, same id hid a b c⟩
     · obtain ⟨a, b, c⟩ := ne id (by omega)
       exact ⟨by rw [if_neg (by omega)], same id hid a b c⟩
     · rw [hls, hbs, List.getElem?_append_left (by simp; omega), List.getElem?_append_left (by simp; omega), List.getElem?_take_of_lt hj, List.getElem?_take_of_lt hj]
       exact ⟨rfl, rfl⟩
end
end Go.Proofs.YtmmgjaheffbpaaaGreatDoor
