/-
 EV: MAPS: made, put into, looked up, counted.
-/
import Derived.Test.YtmmgjaheffbpaaaGreatDoorEvStepMQ
import Derived.MapKept
import Derived.Laws.IdiomStrings
namespace Go.Proofs.YtmmgjaheffbpaaaGreatDoor
set_option maxRecDepth 100000
set_option maxHeartbeats 8000000
set_option linter.unusedSimpArgs false
set_option linter.unusedVariables false
set_option linter.unusedSectionVars false
section
open Go.RowKit Go.MapKept
section
variable {P : Program} {ι : List Nat} {Z : Nat → Nat → Prop} {w : World} {r : Operand → Value} {ρ : Operand → Option AV} {σ : Sto}
theorem kk_key {d : TypeDesc} {q : KK} {v : Value} (h : kkOf d = some q) (hf : q.fits v = true) : IsKey d v := by
 unfold kkOf at h
 split at h <;> cases h <;> unfold KK.fits at hf <;> split at hf <;> simp_all [IsKey]
theorem keyEq_iff {q : KK} {a b : Value} (ha : q.fits a = true) (hb : q.fits b = true) : keyEq a b = true ↔ a = b := by
 unfold KK.fits at ha hb
 cases q <;> cases a <;> simp at ha <;> cases b <;> simp at hb
 · simp only [keyEq, beq_iff_eq, Value.string.injEq]
   constructor
   · intro h
     rename_i s t
     obtain ⟨s⟩ := s; obtain ⟨t⟩ := t
     have e : s = t := Array.toList_inj.1 h
     rw [e]
   · rintro rfl; rfl
 · simp [keyEq]
 · subst ha; subst hb
   simp [keyEq]
theorem step_makeMap (hM : Match σ ι Z w) {o : Oper} {t : TypeId} {q : KK} (ho : o.op = .makeMap t none) {acc : Acc} : StepR P ι Z w r o (.val (.mp σ.length) (σ ++ [.map q []]) acc) := by
 obtain ⟨e, m⟩ := hM.newAny (.map #[] 0) (.map q []) fun e hb hz => ⟨#[], hb, rfl, fun i k v a hi => by simp at hi, hz⟩
 refine ⟨.map (some w.heap.size), _, _, _, ?_, e, m, .mp _ _ ?_⟩
 · unfold execOp
   rw [ho]
   refine run_v ?_
   simp [Instr.makeMap, Result.andThen]
 · rw [← hM.len, List.getElem?_append_right (Nat.le_refl _)]; simp
theorem evMk_local {t : TypeId} {rs : Option Operand} {s : AStep} (h : evMk P σ t rs = some s) : ∃ q, rs = none ∧ s = .val (.mp σ.length) (σ ++ [.map q []]) (.news σ.length) ∧ ∀ σ2, evMk P σ2 t rs = some (.val (.mp σ2.length) (σ2 ++ [.map q []]) (.news σ2.length)) := by
 unfold evMk at h
 split at h
 · rename_i kt e ht
   rw [Option.map_eq_some_iff] at h
   obtain ⟨q, hq, rfl⟩ := h
   refine ⟨q, rfl, rfl, fun σ2 => ?_⟩
   unfold evMk
   simp only [ht, hq, Option.map_some]
 · cases h
theorem find_get {q : KK} {key : Value} {es : List (Value × AV)} {arr : Array MapEntry} (hl : arr.size = es.length) (hq : ∀ (i : Nat) (k : Value) (v : AV) (a : MapEntry), es[i]? = some (k, v) → arr[i]? = some a → a.key = k ∧ a.born = i ∧ q.fits k = true ∧ VR ι Z w v a.val) (hf : q.fits key = true) :
    ((∀ x ∈ arr.toList, x.key ≠ key) → mapGet key es = none ∧ ∀ v, mapPut key v es = es ++ [(key, v)]) := by
 have gen : ∀ (es : List (Value × AV)) (l : List MapEntry), l.length = es.length → (∀ (i : Nat) (k : Value) (v : AV) (a : MapEntry), es[i]? = some (k, v) → l[i]? = some a → a.key = k ∧ q.fits k = true) → (∀ x ∈ l, x.key ≠ key) → mapGet key es = none ∧ ∀ v, mapPut key v es = es ++ [(key, v)] := by
  intro es
  induction es with
  | nil => intro l _ _ _; exact ⟨rfl, fun v => rfl⟩
  | cons x es ih =>
   obtain ⟨k, u⟩ := x
   intro l hl hq hn
   cases l with
   | nil => simp at hl
   | cons a l =>
    obtain ⟨h1, h2⟩ := hq 0 k u a rfl rfl
    have hne : keyEq key k = false := by
     cases hk : keyEq key k with
     | false => rfl
     | true => exact absurd (h1.trans ((keyEq_iff hf h2).1 hk).symm) (hn a (by simp))
    obtain ⟨g1, g2⟩ := ih l (by simpa using hl) (fun i k v a hi ha => hq (i + 1) k v a (by simpa using hi) (by simpa using ha)) (fun x hx => hn x (by simp [hx]))
    refine ⟨by rw [mapGet, hne]; exact g1, fun v => ?_⟩
    rw [mapPut, hne]
    simp [g2]
 intro hn
 refine gen es arr.toList (by simpa using hl) (fun i k v a hi ha => ?_) hn
 have := hq i k v a hi (by simpa using ha)
 exact ⟨this.1, this.2.2.1⟩
theorem first_get {q : KK} {key : Value} : ∀ (es : List (Value × AV)) (l : List MapEntry) (j : Nat) (e : MapEntry), l.length = es.length → (∀ (i : Nat) (k : Value) (v : AV) (a : MapEntry), es[i]? = some (k, v) → l[i]? = some a → a.key = k ∧ q.fits k = true) → q.fits key = true → l[j]? = some e → e.key = key → (∀ i x, i < j → l[i]? = some x → x.key ≠ key) →
    ∃ u, es[j]? = some (key, u) ∧ mapGet key es = some u ∧ ∀ v, mapPut key v es = es.set j (key, v)
 | [], l, j, e, hl, _, _, hj, _, _ => by
  have : l = [] := List.eq_nil_of_length_eq_zero (by simpa using hl)
  subst this; simp at hj
 | (k, u) :: es, [], j, e, hl, _, _, hj, _, _ => by simp at hl
 | (k, u) :: es, a :: l, j, e, hl, hq, hf, hj, hk, hn => by
  obtain ⟨h1, h2⟩ := hq 0 k u a rfl rfl
  cases j with
  | zero =>
   simp at hj; subst hj
   have hkk : k = key := h1.symm.trans hk
   subst hkk
   have hee : keyEq k k = true := (keyEq_iff hf hf).2 rfl
   exact ⟨u, rfl, by rw [mapGet, hee]; rfl, fun v => by rw [mapPut, hee]; rfl⟩
  | succ j =>
   have hne : keyEq key k = false := by
    cases hb : keyEq key k with
    | false => rfl
    | true => exact absurd (h1.trans ((keyEq_iff hf h2).1 hb).symm) (hn 0 a (by omega) rfl)
   obtain ⟨v, g1, g2, g3⟩ := first_get es l j e (by simpa using hl) (fun i k v a hi ha => hq (i + 1) k v a (by simpa using hi) (by simpa using ha)) hf (by simpa using hj) hk (fun i x hi hx => hn (i + 1) x (by omega) (by simpa using hx))
   exact ⟨v, by simpa using g1, by rw [mapGet, hne]; exact g2, fun v => by rw [mapPut, hne]; simp [g3]⟩
theorem findNow_first {d : TypeDesc} {k : Value} (hk : IsKey d k) : ∀ (l : List MapEntry) (i : Nat), (∀ x ∈ l, IsKey d x.key) →
    (Instr.findNow d k l i = some none ∧ ∀ x ∈ l, x.key ≠ k) ∨ ∃ j e, Instr.findNow d k l i = some (some (i + j, e.val)) ∧ l[j]? = some e ∧ e.key = k ∧ ∀ n x, n < j → l[n]? = some x → x.key ≠ k
 | [], _, _ => .inl ⟨rfl, by simp⟩
 | e :: es, i, h => by
  obtain ⟨r, hr, hiff⟩ := sameNow_of_keys hk (h e (.head _))
  cases r with
  | true => exact .inr ⟨0, e, by simp [Instr.findNow, hr], rfl, (hiff.1 rfl).symm, fun n x hn => by omega⟩
  | false =>
   have hne : e.key ≠ k := fun q => by have := hiff.2 q.symm; cases this
   rcases findNow_first hk es (i + 1) (fun x hx => h x (.tail _ hx)) with ⟨h1, h2⟩ | ⟨j, e', h1, h2, h3, h4⟩
   · exact .inl ⟨by simp [Instr.findNow, hr, h1], fun x hx => by
      cases hx with
      | head => exact hne
      | tail _ hx => exact h2 x hx⟩
   · refine .inr ⟨j + 1, e', by simp [Instr.findNow, hr, h1]; omega, by simpa using h2, h3, fun n x hn hx => ?_⟩
     cases n with
     | zero => simp at hx; subst hx; exact hne
     | succ n => exact h4 n x (by omega) (by simpa using hx)
theorem step_lookup (hρ : ∀ x d, ρ x = some d → VR ι Z w d (r x)) (hM : Match σ ι Z w) {o : Oper} {t : TypeId} {m k : Operand} {ok : Bool} {s : AStep} (ho : o.op = .lookup t m k ok) (h : evGet P ρ σ t m k ok = some s) : StepR P ι Z w r o s := by
 unfold evGet at h
 split at h
 · rename_i kt e id key ht hm hk
   rw [Option.bind_eq_some_iff] at hk
   obtain ⟨kd, hk1, hk2⟩ := hk
   split at h
   · rename_i q z q' es hq hz hσ
     rw [Option.bind_eq_some_iff] at hq hz
     obtain ⟨d, hd, hqd⟩ := hq
     obtain ⟨zv, hzv, hz2⟩ := hz
     split at h
     · rename_i hc
       obtain ⟨rfl, hf⟩ := hc
       cases h
       have hkr : r k = key := lit_eq (hρ k _ hk1) hk2
       have hmr := hρ m _ hm
       generalize hrm : r m = mv at hmr
       cases hmr with
       | mp _ b hb =>
        obtain ⟨arr, h1, h2, h3, h4⟩ := hM.obj id _ b hσ hb
        have hik := kk_key hqd hf
        have hzr : (zeroValue e).run P w = .ok zv w := by
         rw [Option.bind_eq_some_iff] at hzv
         obtain ⟨i, hi, hiz⟩ := hzv
         simp [zeroValue, typeInfo, hi, hiz, Result.andThen]
        have hks : ∀ x ∈ arr.toList, IsKey d x.key := by
         intro x hx
         obtain ⟨i, hi⟩ := List.getElem?_of_mem hx
         have hlt : i < es.length := by have := (List.getElem?_eq_some_iff.1 hi).1; simp at this; omega
         have := h3 i es[i].1 es[i].2 x (by rw [List.getElem?_eq_getElem hlt]) (by simpa using hi)
         rw [this.1]
         exact kk_key hqd this.2.2.1
        have fin : ∀ (u : Value) (v : AV) (c : Bool), VR ι Z w v u → (Instr.lookup t (.map (some b)) key ok).run P w = .ok (if ok then .tuple #[u, .bool c] else u) w → lookA ok z (mapGet key es) = (if ok then .tup [v, .lit (.bool c)] else v) → StepR P ι Z w r o (.val (lookA ok z (mapGet key es)) σ (.reads id)) := by
         intro u v c hv hrun hl
         refine ⟨(if ok then .tuple #[u, .bool c] else u), w, ι, Z, ?_, .refl _ _ _, hM, ?_⟩
         · unfold execOp
           rw [ho]
           refine run_v ?_
           rw [hrm, hkr]
           exact hrun
         · rw [hl]
           cases ok with
           | false => exact hv
           | true =>
            refine .tup _ _ rfl fun i d u hd hu => ?_
            match i with
            | 0 => simp at hd hu; subst hd; subst hu; exact hv
            | 1 => simp at hd hu; subst hd; subst hu; exact .lit _ rfl
            | i + 2 => simp at hd
        rcases findNow_first hik arr.toList 0 hks with ⟨g1, g2⟩ | ⟨j, en, g1, g2, g3, g4⟩
        · have hg := (find_get h2 h3 hf g2).1
          refine fin zv z false (abs2_rel hz2).2 ?_ (by rw [hg]; unfold lookA; simp)
          simp [Instr.lookup, run_underlying ht, MapKept.run_getObj_map h1, run_checkKey hd hik, run_findKey hd g1, hzr, Result.andThen]
        · obtain ⟨u, e1, e2, _⟩ := first_get es arr.toList j en (by simpa using h2) (fun i k v a hi ha => by have := h3 i k v a hi (by simpa using ha); exact ⟨this.1, this.2.2.1⟩) hf g2 g3 g4
          refine fin en.val u true (h3 j key u en e1 (by simpa using g2)).2.2.2 ?_ (by rw [e2]; unfold lookA; simp)
          simp [Instr.lookup, run_underlying ht, MapKept.run_getObj_map h1, run_checkKey hd hik, run_findKey hd g1, Result.andThen]
     · cases h
   · cases h
 · cases h
theorem step_mapPut (hρ : ∀ x d, ρ x = some d → VR ι Z w d (r x)) (hM : Match σ ι Z w) {o : Oper} {t : TypeId} {m k x : Operand} {s : AStep} (ho : o.op = .insert t m k x ∨ o.op = .mapUpdate t m k x) (h : evPut P ρ σ t m k x = some s) : StepR P ι Z w r o s := by
 unfold evPut at h
 split at h
 · rename_i kt e id key v ht hm hk hx
   rw [Option.bind_eq_some_iff] at hk
   obtain ⟨kd, hk1, hk2⟩ := hk
   split at h
   · rename_i q q' es hq hσ
     rw [Option.bind_eq_some_iff] at hq
     obtain ⟨d, hd, hqd⟩ := hq
     split at h
     · rename_i hc
       obtain ⟨rfl, hf, hnt⟩ := hc
       cases h
       have hkr : r k = key := lit_eq (hρ k _ hk1) hk2
       have hxr := hρ x _ hx
       have hmr := hρ m _ hm
       generalize hrm : r m = mv at hmr
       cases hmr with
       | mp _ b hb =>
        obtain ⟨arr, h1, h2, h3, h4⟩ := hM.obj id _ b hσ hb
        have hik := kk_key hqd hf
        have hks : ∀ x ∈ arr.toList, IsKey d x.key := by
         intro x hx
         obtain ⟨i, hi⟩ := List.getElem?_of_mem hx
         have hlt : i < es.length := by have := (List.getElem?_eq_some_iff.1 hi).1; simp at this; omega
         have := h3 i es[i].1 es[i].2 x (by rw [List.getElem?_eq_getElem hlt]) (by simpa using hi)
         rw [this.1]
         exact kk_key hqd this.2.2.1
        have fin : ∀ arr' : Array MapEntry, (Instr.mapUpdate t (.map (some b)) key (r x)).run P w = .ok () { w with heap := w.heap.setIfInBounds b (.map arr' arr'.size) } → arr'.size = (mapPut key v es).length →
            (∀ w' : World, Evo ι Z w ι Z w' → ∀ (i : Nat) (k : Value) (v2 : AV) (a : MapEntry), (mapPut key v es)[i]? = some (k, v2) → arr'[i]? = some a → a.key = k ∧ a.born = i ∧ q.fits k = true ∧ VR ι Z w' v2 a.val) → StepR P ι Z w r o (.skip (σ.set id (.map q (mapPut key v es))) (.writes id)) := by
         intro arr' hrun hl hall
         obtain ⟨e1, m1⟩ := hM.setAny (o1 := .map q (mapPut key v es)) (x := .map arr' arr'.size) hσ trivial hb h4 h1 rfl rfl fun e hg => ⟨arr', hg, hl, hall _ e, h4⟩
         refine ⟨_, _, _, ?_, e1, m1⟩
         have : execOp r o = (do Instr.mapUpdate t (r m) (r k) (r x); pure .skip) := by
          unfold execOp
          rcases ho with ho | ho <;> rw [ho]
         rw [this, hrm, hkr, Sem.run_bind, hrun]
         rfl
        rcases findNow_first hik arr.toList 0 hks with ⟨g1, g2⟩ | ⟨j, en, g1, g2, g3, g4⟩
        · have hp := (find_get h2 h3 hf g2).2 v
          refine fin (arr.push { key, val := r x, born := arr.size }) ?_ (by rw [hp]; simp [h2]) ?_
          · simp [Instr.mapUpdate, run_underlying ht, MapKept.run_getObj_map h1, run_checkKey hd hik, run_findKey hd g1, run_setObj_map _ h1, Result.andThen]
          · intro w' e i k' v2 a hi ha
            rw [hp] at hi
            rcases Nat.lt_or_ge i es.length with hlt | hge
            · rw [List.getElem?_append_left hlt] at hi
              rw [Array.getElem?_push_lt (by omega)] at ha
              have := h3 i k' v2 a hi (by rw [Array.getElem?_eq_getElem (by omega)]; exact ha)
              exact ⟨this.1, this.2.1, this.2.2.1, this.2.2.2.evo e⟩
            · rw [List.getElem?_append_right hge] at hi
              have hie : i = es.length := by
               have := (List.getElem?_eq_some_iff.1 hi).1
               simp at this; omega
              subst hie
              simp at hi
              obtain ⟨rfl, rfl⟩ := hi
              rw [← h2] at ha
              simp at ha
              subst ha
              exact ⟨rfl, h2, hf, hxr.evo e⟩
        · obtain ⟨u, e1, e2, e3⟩ := first_get es arr.toList j en (by simpa using h2) (fun i k v a hi ha => by have := h3 i k v a hi (by simpa using ha); exact ⟨this.1, this.2.2.1⟩) hf g2 g3 g4
          have hp := e3 v
          have hj : arr[j]? = some en := by simpa using g2
          refine fin (arr.modify j fun e => { e with key, val := r x }) ?_ (by rw [hp]; simp [h2]) ?_
          · simp [Instr.mapUpdate, run_underlying ht, MapKept.run_getObj_map h1, run_checkKey hd hik, run_findKey hd g1, hj, g3, run_keyThatStays hik, run_setObj_map _ h1, Result.andThen]
          · intro w' e i k' v2 a hi ha
            rw [hp] at hi
            rw [Array.getElem?_modify] at ha
            by_cases hji : j = i
            · subst hji
              have hlt : j < es.length := by have := (List.getElem?_eq_some_iff.1 e1).1; omega
              rw [List.getElem?_set_self hlt] at hi
              cases hi
              rw [if_pos rfl, hj] at ha
              simp at ha
              subst ha
              exact ⟨rfl, (h3 j key u en e1 hj).2.1, hf, hxr.evo e⟩
            · rw [List.getElem?_set_ne hji] at hi
              rw [if_neg hji] at ha
              have := h3 i k' v2 a hi ha
              exact ⟨this.1, this.2.1, this.2.2.1, this.2.2.2.evo e⟩
     · cases h
   · cases h
 · cases h
theorem step_lenM (hρ : ∀ x d, ρ x = some d → VR ι Z w d (r x)) (hM : Match σ ι Z w) {o : Oper} {t : TypeId} {x : Operand} {s : AStep} (ho : o.op = .call { callee := .builtin .len, args := #[x], argTypes := #[t] }) (h : evLenM P ρ σ t x = some s) : StepR P ι Z w r o s := by
 unfold evLenM at h
 split at h
 · rename_i kt e id ht hx
   split at h
   · rename_i q es hσ
     cases h
     have hmr := hρ x _ hx
     generalize hrm : r x = mv at hmr
     cases hmr with
     | mp _ b hb =>
      obtain ⟨arr, h1, h2, h3, h4⟩ := hM.obj id _ b hσ hb
      refine ⟨.int .i64 es.length, w, ι, Z, ?_, .refl _ _ _, hM, .lit _ rfl⟩
      unfold execOp
      rw [ho]
      simp [resolve, invoke, builtin, Builtin.len_, run_underlying ht, hrm, MapKept.run_getObj_map h1, goInt, h2, Result.andThen]
   · cases h
 · cases h
end
end
section
open Go.RowKit
section
variable {P : Program} {ι : List Nat} {Z : Nat → Nat → Prop} {w : World} {r : Operand → Value} {ρ : Operand → Option AV} {σ : Sto}
theorem call_is {c : Call} {q : Callee} {xs : List Operand} {ts : List TypeId} (h1 : c.callee = q) (h2 : c.args.toList = xs) (h3 : c.argTypes.toList = ts) : Op.call c = .call { callee := q, args := xs.toArray, argTypes := ts.toArray } := by
 cases c; simp_all
 subst h2; subst h3; simp
theorem PureR.step (hM : Match σ ι Z w) {o : Oper} {d : AV} {acc : Acc} (h : PureR P ι Z w r o d) : StepR P ι Z w r o (.val d σ acc) := by
 obtain ⟨u, h1, h2⟩ := h
 exact ⟨u, w, ι, Z, h1, .refl _ _ _, hM, h2⟩
theorem bytesAV_len : ∀ {cs : List AV} {l : List UInt8}, bytesAV cs = some l → l.length = cs.length
 | [], l, h => by cases h; rfl
 | d :: cs, l, h => by
  unfold bytesAV at h
  split at h
  · rename_i he; cases he
  · rename_i x l' he
    cases he
    split at h
    · rw [Option.map_eq_some_iff] at h
      obtain ⟨m, h1, rfl⟩ := h
      simp [bytesAV_len h1]
    · cases h
  · cases h
theorem bytesAV_get : ∀ {cs : List AV} {l : List UInt8}, bytesAV cs = some l → ∀ (j : Nat) (x : UInt8), l[j]? = some x → cs[j]? = some (.lit (.int .u8 x.toNat))
 | [], l, h, j, x, hx => by cases h; simp at hx
 | d :: cs, l, h, j, x, hx => by
  unfold bytesAV at h
  split at h
  · rename_i he; cases he
  · rename_i y l' he
    cases he
    split at h
    · rename_i hy
      rw [Option.map_eq_some_iff] at h
      obtain ⟨m, h1, rfl⟩ := h
      cases j with
      | zero =>
       simp at hx; subst hx
       have : ((UInt8.ofNat y.toNat).toNat : Int) = y := by
        rw [show (UInt8.ofNat y.toNat).toNat = y.toNat % 256 from rfl]; omega
       rw [List.getElem?_cons_zero, this]
      | succ j => simpa using bytesAV_get h1 j x (by simpa using hx)
    · cases h
  · cases h
theorem pure_convInt (hρ : ∀ x d, ρ x = some d → VR ι Z w d (r x)) {o : Oper} {t u : TypeId} {x : Operand} {d : TypeDesc} {k k0 : IntKind} {n : Int} (ho : o.op = .convert t u x) (ht : P.underlying t = some d) (hu : P.underlying u = some (.int k)) (hx : ρ x = some (.lit (.int k0 n))) : PureR P ι Z w r o (.lit (.int k (k.wrap n))) := by
 have e1 := conc_eq (v := .int k0 n) (hρ x _ hx) rfl
 refine ⟨.int k (k.wrap n), ?_, .lit _ rfl⟩
 unfold execOp
 rw [ho]
 refine run_v ?_
 rw [e1]
 simp [convert, run_underlying ht, run_underlying hu, Conv.intToInt]
theorem pure_convBytes (hρ : ∀ x d, ρ x = some d → VR ι Z w d (r x)) {o : Oper} {t u e : TypeId} {x : Operand} {es : List (List AV)} {tok : Tok} {l : List UInt8} (ho : o.op = .convert t u x) (ht : P.underlying t = some (.slice e)) (hu : P.underlying u = some .string) (he : P.underlying e = some (.int .u8)) (hx : ρ x = some (.sl es tok)) (hl : bytesAV es.flatten = some l) (hn : es.length = l.length) (h0 : 0 < es.length) (hh : es.head?.all (·.length == 1) = true) : PureR P ι Z w r o (.lit (.string ⟨l.toArray⟩)) := by
 have hv := hρ x _ hx
 obtain ⟨a, c, hu', hc, ha⟩ := sl_row hv
 generalize hq : r x = q at hv hu'
 subst hu'
 obtain ⟨h1, h2, h3, us, h4, h5, h6⟩ := sl_cells hv hh
 have hus : us.length = es.length := by rw [h5, Nat.mul_one]
 obtain ⟨b, o', ha', _, _⟩ := h6 0 _ (List.getElem?_eq_getElem (by omega))
 subst ha'
 refine ⟨.string ⟨l.toArray⟩, ?_, .lit _ rfl⟩
 unfold execOp
 rw [ho]
 refine run_v ?_
 rw [hq, hn]
 refine run_convert_bytes_back w t u e ⟨b, o', none⟩ c l ht he hu fun j hj => ?_
 have hj2 : j < us.length := by omega
 obtain ⟨b', o2, e1, hcell, _⟩ := h6 j _ (List.getElem?_eq_getElem hj2)
 cases e1
 have hcs := bytesAV_get hl j _ (List.getElem?_eq_getElem hj)
 have := (h4.2 j _ _ hcs (List.getElem?_eq_getElem hj2)).2
 rw [Addr.add_lit, hcell]
 generalize us[j] = v at this
 cases this; rfl
theorem pure_lenR (hρ : ∀ x d, ρ x = some d → VR ι Z w d (r x)) {o : Oper} {x : Operand} {t e : TypeId} {es : List (List AV)} {g : Nat} (ho : o.op = .call { callee := .builtin .len, args := #[x], argTypes := #[t] }) (ht : P.underlying t = some (.slice e)) (hx : ρ x = some (.rsl es g)) :
    PureR P ι Z w r o (.lit (.int .i64 es.length)) := by
 obtain ⟨a, c, hu, _, _⟩ := sl_row (hρ x _ hx).toSl
 refine ⟨.int .i64 es.length, ?_, .lit _ rfl⟩
 unfold execOp
 rw [ho]
 simp [resolve, invoke, builtin, Builtin.len_, run_underlying ht, hu, goInt]
theorem pure_indexAddrR (hρ : ∀ x d, ρ x = some d → VR ι Z w d (r x)) {o : Oper} {x i : Operand} {t e k : Nat} {es : List (List AV)} {g : Nat} {di : AV} {n : Int} {row : List AV} (ho : o.op = .indexAddr t x i) (ht : P.underlying t = some (.slice e)) (hx : ρ x = some (.rsl es g))
    (hi : ρ i = some di) (hn : litInt di = some n) (hk : szOf P e = some (k + 1)) (h0 : 0 ≤ n) (hr : es[n.toNat]? = some row) (hl : row.length = k + 1) : PureR P ι Z w r o (.eptr row 0) := by
 obtain ⟨ki, hri⟩ := litInt_rel (hρ i _ hi) hn
 have h1 := (hρ x _ hx).toSl
 generalize hrx : r x = u at *
 cases h1 with
 | nils a c tok h1 h2 => simp at hr
 | sl b q n' c k' es tok U h1 h2 h3 h4 h5 h6 h7 h8 =>
  have hk' : k' = k + 1 := by rw [← h5 _ _ hr, hl]
  subst hk'
  have hlt := (List.getElem?_eq_some_iff.1 hr).1
  refine ⟨.pointer (some ⟨b, q + n.toNat * (k + 1), none⟩), ?_, ?_⟩
  · unfold execOp
    rw [ho]
    refine run_v ?_
    have hlt' : n < n' := by omega
    simp [Instr.indexAt, run_underlying ht, hrx, hri, asIntOf, h0, hlt', run_szOf hk, Addr.add_lit]
  · exact .eptr row 0 b _ (U n.toNat) (fun j d hd => h6 _ j row d hr hd) fun j d hd => h8 _ j row d hr hd
theorem pure_sliceR (hρ : ∀ x d, ρ x = some d → VR ι Z w d (r x)) {o : Oper} {x y : Operand} {t e k : Nat} {es : List (List AV)} {g : Nat} (ho : o.op = .slice t x none (some y) none) (ht : P.underlying t = some (.slice e)) (hx : ρ x = some (.rsl es g))
    (hk : szOf P e = some (k + 1)) (hy : (ρ y).bind litInt = some (((es ++ roomRows g).length : Nat) : Int)) (hh : (es ++ roomRows g).head?.all (·.length == k + 1) = true) :
    PureR P ι Z w r o (.sl (es ++ roomRows g) .no) := by
 obtain ⟨b, q, c, hu, hc, hv⟩ := (hρ x _ hx).toAll
 obtain ⟨d, hd1, hd2⟩ := Option.bind_eq_some_iff.1 hy
 obtain ⟨ki, hki⟩ := litInt_rel (hρ y d hd1) hd2
 generalize (es ++ roomRows g).length = m at *
 refine ⟨.slice (some ⟨b, q, none⟩) m c, ?_, hv⟩
 unfold execOp
 rw [ho]
 refine run_v ?_
 have hcm : (m : Int) ≤ (c : Int) := by omega
 have hb : (Instr.sliceBounds true es.length c none (some (r y)) none).run P w = .ok (0, m, c) w := by
  unfold Instr.sliceBounds
  simp [hki, Instr.sliceBound, asIntOf, hcm, hc, Nat.not_lt.2 hc]
 simp only [Instr.sliceAt, Sem.run_bind, run_underlying ht, Result.andThen_ok, Instr.slice, hu, Option.map_none, Option.map_some, hb, run_szOf hk]
 simp [Addr.add]
theorem evPure_sound (hρ : ∀ x d, ρ x = some d → VR ι Z w d (r x)) (hM : Match σ ι Z w) {o : Oper} {d : AV} {acc : Acc} (h : evPure P ρ o = some d) : StepR P ι Z w r o (.val d σ acc) := by
 unfold evPure at h
 split at h
 · exact (pure_move hρ (.inl (by assumption)) h).step hM
 · exact (pure_move hρ (.inr (by assumption)) h).step hM
 · split at h
   · rename_i t ht
     exact (pure_pick hρ (by assumption) ht h).step hM
   · cases h
 · split at h
   · rename_i z fields l hz hu hl
     split at h
     · rename_i d0 places hd hp
       split at h
       · rename_i ht
         rw [Option.map_eq_some_iff] at h
         obtain ⟨cs, h1, rfl⟩ := h
         exact (pure_build hρ (by assumption) hz hu hl hd hp ht h1).step hM
       · cases h
     · cases h
   · cases h
 · split at h
   · rename_i i q hx; cases h; exact (pure_nilCheck hρ (by assumption) hx (.inl ⟨_, _, rfl⟩)).step hM
   · rename_i i q hx; cases h; exact (pure_nilCheck hρ (by assumption) hx (.inr (.inl ⟨_, _, rfl⟩))).step hM
   · rename_i f a b hx; cases h; exact (pure_nilCheck hρ (by assumption) hx (.inr (.inr ⟨_, _, _, rfl⟩))).step hM
   · cases h
 · split at h
   · cases h
   · rename_i td hn ht
     rw [Option.map_eq_some_iff] at h
     obtain ⟨d0, h1, rfl⟩ := h
     exact (pure_makeInterface hρ (by assumption) ht (fun m e => hn m e) h1).step hM
   · cases h
 · split at h
   · rename_i a b ha hb
     cases h
     exact (pure_makeFunc hρ (by assumption) ha hb).step hM
   · cases h
 · split at h
   · rename_i fields hs
     split at h
     · rename_i fd hf
       split at h
       · rename_i n hn
         split at h
         · rename_i i q hx; cases h; exact (pure_fieldAddr hρ (by assumption) hs hf hn hx (.inl ⟨_, _, rfl, rfl⟩)).step hM
         · rename_i i q hx; cases h; exact (pure_fieldAddr hρ (by assumption) hs hf hn hx (.inr ⟨_, _, rfl, rfl⟩)).step hM
         · cases h
       · cases h
     · cases h
   · cases h
 · split at h
   · rename_i fields ht
     split at h
     · rename_i fd cs hf hx
       exact (pure_field hρ (by assumption) ht hf hx h).step hM
     · cases h
   · cases h
 · split at h
   · rename_i e es tok n ht hx hi
     rw [Option.bind_eq_some_iff] at hi
     obtain ⟨di, hi1, hi2⟩ := hi
     split at h
     · rename_i k hk
       split at h
       · rename_i h0
         split at h
         · rename_i row hr
           split at h
           · rename_i hl
             cases h
             exact (pure_indexAddr hρ (by assumption) ht hx hi1 hi2 hk h0 hr hl).step hM
           · cases h
         · cases h
       · cases h
     · cases h
   · rename_i e id off m k n ht hx hi
     rw [Option.bind_eq_some_iff] at hi
     obtain ⟨di, hi1, hi2⟩ := hi
     split at h
     · rename_i k' hk
       split at h
       · rename_i hc
         obtain ⟨rfl, h0, h1⟩ := hc
         cases h
         exact (pure_indexAddrA hρ (by assumption) ht hx hi1 hi2 hk h0 h1).step hM
       · cases h
     · cases h
   · rename_i e es g n ht hx hi
     rw [Option.bind_eq_some_iff] at hi
     obtain ⟨di, hi1, hi2⟩ := hi
     split at h
     · rename_i k hk
       split at h
       · rename_i h0
         split at h
         · rename_i row hr
           split at h
           · rename_i hl
             cases h
             exact (pure_indexAddrR hρ (by assumption) ht hx hi1 hi2 hk h0 hr hl).step hM
           · cases h
         · cases h
       · cases h
     · cases h
   · cases h
 · rename_i t x lo hi mx ho
   split at h
   · rename_i e id off m k ht hx
     split at h
     · rename_i k' l hh hk hlo hhi
       split at h
       · rename_i hc
         obtain ⟨rfl, h0, h1, h2, h3⟩ := hc
         cases h
         exact (pure_sliceA hρ ho ht hx hk (by unfold boundA; exact hlo) (by unfold boundA; exact hhi) h0 h1 h2 h3).step hM
       · cases h
     · cases h
   · rename_i e es tok ht hx
     split at h
     · rename_i k l hh hk hlo hhi
       split at h
       · rename_i hc
         obtain ⟨h0, h1, h2, h3⟩ := hc
         cases h
         exact (pure_slice hρ ho ht hx hk (by unfold boundA; exact hlo) (by unfold boundA; exact hhi) h0 h1 h2 h3).step hM
       · cases h
     · cases h
   · rename_i s ht hx
     split at h
     · rename_i l hh hlo hhi
       split at h
       · rename_i hc
         obtain ⟨h0, h1, h2⟩ := hc
         cases h
         exact (pure_sliceStr hρ ho ht hx (by unfold boundA; exact hlo) (by unfold boundA; exact hhi) h0 h1 h2).step hM
       · cases h
     · cases h
   · rename_i e es g ht hx
     split at h
     · rename_i k hh hk hhi
       split at h
       · rename_i hc
         obtain ⟨rfl, h1⟩ := hc
         cases h
         cases hi with
         | none => cases hhi
         | some y => exact (pure_sliceR hρ ho ht hx hk hhi h1).step hM
       · cases h
     · cases h
   · cases h
 · split at h
   · rename_i a b hx hy
     split at h
     · rename_i ht
       cases h
       exact (pure_binBool hρ ht (by assumption) hx hy (.inl ⟨rfl, rfl⟩)).step hM
     · rename_i ht
       cases h
       exact (pure_binBool hρ ht (by assumption) hx hy (.inr ⟨rfl, rfl⟩)).step hM
     · cases h
   · rename_i a b _ hx hy
     rw [Option.map_eq_some_iff] at h
     obtain ⟨c, h1, rfl⟩ := h
     exact (pure_binOp hρ (by assumption) hx hy h1).step hM
   · cases h
 · split at h
   · cases h
     exact (pure_not hρ (by assumption) (by assumption)).step hM
   · cases h
 · split at h
   · rename_i s n ht hx hi
     rw [Option.bind_eq_some_iff] at hi
     obtain ⟨di, hi1, hi2⟩ := hi
     split at h
     · rename_i h0
       rw [Option.map_eq_some_iff] at h
       obtain ⟨c, h1, rfl⟩ := h
       exact (pure_index hρ (by assumption) ht hx hi1 hi2 h0 h1).step hM
     · cases h
   · cases h
 · split at h
   · rename_i vs hx
     exact (pure_extract hρ (by assumption) hx h).step hM
   · cases h
 · rename_i c ho
   split at h
   · rename_i x t hc1 hc2 hc3
     split at h
     · rename_i e es tok ht hx
       cases h
       refine (pure_len (x := x) (t := t) hρ ?_ ht hx).step hM
       rw [ho]
       exact call_is hc1 hc2 hc3
     · rename_i e id off m k ht hx
       cases h
       refine (pure_lenA (x := x) (t := t) hρ ?_ ht hx).step hM
       rw [ho]
       exact call_is hc1 hc2 hc3
     · rename_i s ht hx
       cases h
       refine (pure_lenS (x := x) (t := t) hρ ?_ ht hx).step hM
       rw [ho]
       exact call_is hc1 hc2 hc3
     · rename_i e es g ht hx
       cases h
       refine (pure_lenR (x := x) (t := t) hρ ?_ ht hx).step hM
       rw [ho]
       exact call_is hc1 hc2 hc3
     · cases h
   · cases h
 · split at h
   · rename_i row q hx
     exact (pure_load hρ (by assumption) hx h).step hM
   · cases h
 · split at h
   · rename_i e l ht hl
     split at h
     · rename_i k z hk hz
       split at h
       · rename_i d0 hd
         split at h
         · rename_i hc
           rw [Option.map_eq_some_iff] at h
           obtain ⟨cs, h1, rfl⟩ := h
           exact step_buildSlice hρ hM (by assumption) ht hl hk hz hd hc.1 hc.2.1 hc.2.2 h1
         · cases h
       · cases h
     · cases h
   · cases h
 · split at h
   · rename_i d0 k k0 n ht hu hx
     cases h
     exact (pure_convInt hρ (by assumption) ht hu hx).step hM
   · rename_i e es tok ht hu hx
     split at h
     · rename_i l he hl
       split at h
       · rename_i hc
         obtain ⟨h1, h2, h3⟩ := hc
         cases h
         exact (pure_convBytes hρ (by assumption) ht hu he hx hl h1 h2 h3).step hM
       · cases h
     · cases h
   · cases h
 · cases h
theorem VR.strip {d : AV} {u : Value} (h : VR ι Z w d u) : VR ι Z w d.strip u := by
 cases h with
 | nils a c tok h1 h2 => exact .nils a c .no h1 (.inl rfl)
 | frs t k c b h1 h2 h3 => exact .nils _ c .no (fun h => by cases h) (.inl rfl)
 | sl b o n c k es tok U h1 h2 h3 h4 h5 h6 h7 h8 => exact .sl b o n c k es .no U h1 h2 h3 h4 h5 h6 trivial h8
 | lit _ h => exact .lit _ h
 | ptr id off b h => exact .ptr id off b h
 | eptr row off b o U h h' => exact .eptr row off b o U h h'
 | asl id off n k c b h1 h2 h3 h4 => exact .asl id off n k c b h1 h2 h3 h4
 | mp id b h => exact .mp id b h
 | fn f first cap fs cs h1 h2 h3 h4 => exact .fn f first cap fs cs h1 h2 h3 h4
 | ifc t d u h => exact .ifc t d u h
 | agg ds cs h1 h2 h3 => exact .agg ds cs h1 h2 h3
 | tup ds cs h1 h2 => exact .tup ds cs h1 h2
 | rsl b o c k es g U h2 h3 h4 h5 h6 h7 => exact .rsl b o c k es g U h2 h3 h4 h5 h6 h7
theorem AV.strip_one (d : AV) : d.strip.one = d.one := by cases d <;> rfl
theorem stripRows_get {es fs : List (List AV)} {i : Nat} {e : List AV} (h : (es ++ stripRows fs)[i]? = some e) : ∃ e', (es ++ fs)[i]? = some e' ∧ (e = e' ∨ e = e'.map AV.strip) := by
 rcases Nat.lt_or_ge i es.length with hl | hl
 · rw [List.getElem?_append_left hl] at h
   exact ⟨e, by rw [List.getElem?_append_left hl]; exact h, .inl rfl⟩
 · rw [List.getElem?_append_right hl] at h
   unfold stripRows at h
   rw [List.getElem?_map, Option.map_eq_some_iff] at h
   obtain ⟨e', h1, h2⟩ := h
   exact ⟨e', by rw [List.getElem?_append_right hl]; exact h1, .inr h2.symm⟩
theorem row_get {e e' : List AV} (h : e = e' ∨ e = e'.map AV.strip) {j : Nat} {d : AV} (hd : e[j]? = some d) : ∃ d', e'[j]? = some d' ∧ (d = d' ∨ d = d'.strip) := by
 rcases h with rfl | rfl
 · exact ⟨d, hd, .inl rfl⟩
 · rw [List.getElem?_map, Option.map_eq_some_iff] at hd
   obtain ⟨d', h1, h2⟩ := hd
   exact ⟨d', h1, .inr h2.symm⟩
theorem VR.stripRows {es fs : List (List AV)} {tok : Tok} {u : Value} (h : VR ι Z w (.sl (es ++ fs) tok) u) : VR ι Z w (.sl (es ++ stripRows fs) tok) u := by
 generalize hq : es ++ fs = q at h
 cases h with
 | nils a c tok h1 h2 =>
  obtain ⟨rfl, rfl⟩ := List.append_eq_nil_iff.1 hq
  exact .nils a c tok h1 h2
 | frs t k c b h1 h2 h3 =>
  obtain ⟨rfl, rfl⟩ := List.append_eq_nil_iff.1 hq
  exact .frs t k c b h1 h2 h3
 | sl b o n c k _ tok U h1 h2 h3 h4 h5 h6 h7 h8 =>
  subst hq
  refine .sl b o n c k _ tok U (by simpa [Go.Proofs.YtmmgjaheffbpaaaGreatDoor.stripRows] using h1) h2 h3 h4 (fun i e he => ?_) (fun i j e d he hd => ?_) h7 (fun i j e d he hd => ?_)
  · obtain ⟨e', g1, g2⟩ := stripRows_get he
    have := h5 i e' g1
    rcases g2 with rfl | rfl
    · exact this
    · simpa using this
  · obtain ⟨e', g1, g2⟩ := stripRows_get he
    obtain ⟨d', g3, g4⟩ := row_get g2 hd
    have := h6 i j e' d' g1 g3
    rcases g4 with rfl | rfl
    · exact this
    · rw [AV.strip_one]; exact this
  · obtain ⟨e', g1, g2⟩ := stripRows_get he
    obtain ⟨d', g3, g4⟩ := row_get g2 hd
    have := h8 i j e' d' g1 g3
    rcases g4 with rfl | rfl
    · exact this
    · exact this.strip
theorem StepR.strip {o : Oper} {es fs : List (List AV)} {tok : Tok} {σ' : Sto} {acc : Acc} (h : StepR P ι Z w r o (.val (.sl (es ++ fs) tok) σ' acc)) : StepR P ι Z w r o (.val (.sl (es ++ stripRows fs) tok) σ' acc) := by
 obtain ⟨u, w', ι', Z', h1, h2, h3, h4⟩ := h
 exact ⟨u, w', ι', Z', h1, h2, h3, h4.stripRows⟩
theorem evAppend_sound (hρ : ∀ x d, ρ x = some d → VR ι Z w d (r x)) (hM : Match σ ι Z w) {o : Oper} {t : TypeId} {x y : Operand} {s : AStep} (ho : o.op = .call { callee := .builtin .append, args := #[x, y], argTypes := #[t, t] }) (h : evAppend P ρ σ t x y = some s) : StepR P ι Z w r o s := by
 unfold evAppend at h
 split at h
 · rename_i e es tok fs tok2 ht hx hy
   split at h
   · rename_i k by_ zn hk hb hz
     rw [Option.map_eq_some_iff] at hz
     obtain ⟨z, hz, hzn⟩ := hz
     split at h
     · rename_i hc
       obtain ⟨c0, c1, c2, c3, c4⟩ := hc
       have key := fun acc => step_append (acc := acc) hρ hM (o := o) ho ht hx hy hk hb c1 c2 c3 c4
       split at h
       · rename_i h0
         cases h
         exact (key _).1 h0
       · rename_i h0
         split at h
         · cases h
         · cases h
           exact (((key _).2 h0 z hz (by omega)).1 rfl).strip
         · rename_i i
           split at h
           · rename_i m e' hσ
             split at h
             · rename_i hm
               obtain ⟨rfl, rfl⟩ := hm
               cases h
               exact (((key _).2 h0 z hz (by omega)).2 i (.inl rfl) hσ).strip
             · cases h
           · cases h
         · rename_i i k'
           split at h
           · rename_i m e' hσ
             split at h
             · rename_i hm
               obtain ⟨⟨rfl, rfl⟩, he0, rfl⟩ := hm
               cases h
               exact (((key _).2 h0 z hz (by omega)).2 i (.inr ⟨rfl, he0⟩) hσ).strip
             · cases h
           · cases h
     · cases h
   · cases h
 · cases h
theorem evMem_sound (hρ : ∀ x d, ρ x = some d → VR ι Z w d (r x)) (hM : Match σ ι Z w) {o : Oper} {s : AStep} (h : evMem P ρ σ o = some s) : StepR P ι Z w r o s := by
 unfold evMem at h
 split at h
 · split at h
   · rename_i z hz
     split at h
     · rename_i d hd
       split at h
       · rename_i ht; cases h; exact step_alloc hM (by assumption) hz hd ht
       · cases h
     · cases h
   · cases h
 · split at h
   · rename_i d hx
     split at h
     · rename_i ht; cases h; exact step_box hρ hM (by assumption) hx ht
     · cases h
   · cases h
 · split at h
   · rename_i id off hx
     split at h
     · rename_i cs T hσ
       rw [Option.map_eq_some_iff] at h
       obtain ⟨d, h1, rfl⟩ := h
       exact step_load hρ hM (by assumption) hx hσ h1
     · cases h
   · cases h
 · split at h
   · rename_i id off v n hx hy hn
     split at h
     · rename_i cs T hσ
       split at h
       · rename_i hc
         cases h
         exact step_store hρ hM (by assumption) hx hy hn hσ hc.1 hc.2.1 hc.2.2
       · cases h
     · cases h
   · cases h
 · rename_i c ho
   split at h
   · rename_i hc1
     split at h
     · rename_i x y t u hc2 hc3
       split at h
       · rename_i htu
         subst htu
         exact evAppend_sound hρ hM (by rw [ho]; exact call_is hc1 hc2 hc3) h
       · cases h
     · cases h
   · rename_i hc1
     split at h
     · rename_i x t hc2 hc3
       exact step_lenM hρ hM (by rw [ho]; exact call_is hc1 hc2 hc3) h
     · cases h
   · rename_i f hc1
     split at h
     · rename_i g first cap l hf hl
       cases h
       exact step_enter (args := c.args) (ts := c.argTypes) hρ (by rw [ho]; exact call_is hc1 rfl rfl) hf hl
     · cases h
   · cases h
 · split at h
   · rename_i t v hx
     cases h
     exact step_panic hρ (by assumption) hx
   · cases h
 · obtain ⟨q, rfl, rfl, _⟩ := evMk_local h
   exact step_makeMap hM (by assumption)
 · exact step_mapPut hρ hM (.inl (by assumption)) h
 · exact step_mapPut hρ hM (.inr (by assumption)) h
 · exact step_lookup hρ hM (by assumption) h
 · cases h
theorem evMut_sound (hρ : ∀ x d, ρ x = some d → VR ι Z w d (r x)) (hM : Match σ ι Z w) {o : Oper} {s : AStep} (h : evMut P ρ σ o = some s) : StepR P ι Z w r o s := by
 unfold evMut at h
 split at h
 · split at h
   · rename_i e l ht hl
     split at h
     · rename_i k z hk hz
       split at h
       · rename_i d0 hd
         split at h
         · rename_i hc
           rw [Option.map_eq_some_iff] at h
           obtain ⟨cs, h1, rfl⟩ := h
           exact step_buildM hρ hM (by assumption) ht hl hk hz hd hc.1 hc.2.1 hc.2.2 h1
         · cases h
       · cases h
     · cases h
   · cases h
 · exact step_makeM hρ hM (by assumption) h
 · rename_i c ho
   split at h
   · rename_i hc1
     split at h
     · rename_i x y t u hc2 hc3
       split at h
       · rename_i htu
         subst htu
         exact evAppendM_sound hρ hM (by rw [ho]; exact call_is hc1 hc2 hc3) h
       · exact evAppendS_sound hρ hM (by rw [ho]; exact call_is hc1 hc2 hc3) h
     · cases h
   · cases h
 · cases h
theorem evStep_sound (hρ : ∀ x d, ρ x = some d → VR ι Z w d (r x)) (hM : Match σ ι Z w) {M : List TypeId} {o : Oper} {s : AStep} (h : evStep P M ρ σ o = some s) : StepR P ι Z w r o s := by
 unfold evStep at h
 split at h
 · exact evMut_sound hρ hM h
 · split at h
   · rename_i v hv
     cases h
     exact evPure_sound hρ hM hv
   · split at h
     · rename_i s' hs
       cases h
       exact evLit_sound hρ hM hs
     · exact evMem_sound hρ hM h
end
end
end Go.Proofs.YtmmgjaheffbpaaaGreatDoor
