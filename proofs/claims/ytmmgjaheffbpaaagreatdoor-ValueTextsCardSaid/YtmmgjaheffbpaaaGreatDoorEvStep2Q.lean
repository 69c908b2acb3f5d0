/-
 EV: THE STEP, further: slices of slices, literal slices, variables, append, calls.
-/
import Derived.Test.YtmmgjaheffbpaaaGreatDoorEvOpQ
import Derived.Laws.Strings2
namespace Go.Proofs.YtmmgjaheffbpaaaGreatDoor
set_option linter.unusedSimpArgs false
set_option linter.unusedVariables false
set_option linter.unusedSectionVars false
section
open Go.RowKit
section
variable {P : Program} {ι : List Nat} {Z : Nat → Nat → Prop} {w : World} {r : Operand → Value} {ρ : Operand → Option AV} {σ : Sto}
def boundA (ρ : Operand → Option AV) (d : Int) : Option Operand → Option Int
 | none => some d
 | some y => (ρ y).bind litInt
theorem asl_at {id off m k : Nat} {u : Value} (h : VR ι Z w (.asl id off m k) u) : ∃ b c, u = .slice (some ⟨b, off, none⟩) m c ∧ ι[id]? = some b ∧ m ≤ c ∧ c ≤ maxLen ∧ off + c * k ≤ cellsz w b := by
 cases h with
 | asl _ _ _ _ c b h1 h2 h3 h4 => exact ⟨b, c, rfl, h1, h2, h3, h4⟩
theorem pure_lenA (hρ : ∀ x d, ρ x = some d → VR ι Z w d (r x)) {o : Oper} {x : Operand} {t e id off m k : Nat} (ho : o.op = .call { callee := .builtin .len, args := #[x], argTypes := #[t] }) (ht : P.underlying t = some (.slice e)) (hx : ρ x = some (.asl id off m k)) :
    PureR P ι Z w r o (.lit (.int .i64 m)) := by
 obtain ⟨b, c, hu, _⟩ := asl_at (hρ x _ hx)
 refine ⟨.int .i64 m, ?_, .lit _ rfl⟩
 unfold execOp
 rw [ho]
 simp [resolve, invoke, builtin, Builtin.len_, run_underlying ht, hu, goInt]
theorem pure_indexAddrA (hρ : ∀ x d, ρ x = some d → VR ι Z w d (r x)) {o : Oper} {x i : Operand} {t e k id off m : Nat} {di : AV} {n : Int} (ho : o.op = .indexAddr t x i) (ht : P.underlying t = some (.slice e)) (hx : ρ x = some (.asl id off m (k + 1)))
    (hi : ρ i = some di) (hn : litInt di = some n) (hk : szOf P e = some (k + 1)) (h0 : 0 ≤ n) (hl : n < m) : PureR P ι Z w r o (.ptr id (off + n.toNat * (k + 1))) := by
 obtain ⟨ki, hri⟩ := litInt_rel (hρ i _ hi) hn
 obtain ⟨b, c, hu, hb, _⟩ := asl_at (hρ x _ hx)
 refine ⟨.pointer (some ⟨b, off + n.toNat * (k + 1), none⟩), ?_, .ptr id _ b hb⟩
 unfold execOp
 rw [ho]
 refine run_v ?_
 simp [Instr.indexAt, run_underlying ht, hu, hri, asIntOf, h0, hl, run_szOf hk, Addr.add_lit]
theorem pure_sliceA (hρ : ∀ x d, ρ x = some d → VR ι Z w d (r x)) {o : Oper} {x : Operand} {lo hi : Option Operand} {t e k id off m : Nat} {l h : Int} (ho : o.op = .slice t x lo hi none) (ht : P.underlying t = some (.slice e)) (hx : ρ x = some (.asl id off m (k + 1)))
    (hk : szOf P e = some (k + 1)) (hlo : boundA ρ 0 lo = some l) (hhi : boundA ρ m hi = some h) (h0 : 0 ≤ l) (h1 : l ≤ h) (h2 : h ≤ m) (hl0 : l = 0 ∨ l < m) :
    PureR P ι Z w r o (.asl id (off + l.toNat * (k + 1)) (h.toNat - l.toNat) (k + 1)) := by
 have hv := hρ x _ hx
 obtain ⟨b, c, hu, hb0, hc, hmx, hcz⟩ := asl_at hv
 have hc' := hc
 have hrun : (execOp r o).run P w = .ok (.value (.slice (if c = l.toNat then some ⟨b, off, none⟩ else (some (⟨b, off, none⟩ : Addr)).map (·.add (l.toNat * (k + 1)))) (h.toNat - l.toNat) (c - l.toNat))) w := by
  unfold execOp
  rw [ho]
  refine run_v ?_
  have hb : (Instr.sliceBounds true m c (lo.map r) (hi.map r) none).run P w = .ok (l.toNat, h.toNat, c) w := by
   have eh : (match hi.map r, (none : Option Value) with
    | some v, some _ => Instr.sliceBound v c .slice3B
    | some v, none => Instr.sliceBound v c .sliceAcap
    | none, none => pure m
    | none, some _ => stuck "Slice: max without high").run P w = .ok h.toNat w := by
    cases hi with
    | none => simp [boundA] at hhi; subst hhi; simp
    | some y =>
     simp only [boundA, Option.bind_eq_some_iff] at hhi
     obtain ⟨d, hd1, hd2⟩ := hhi
     obtain ⟨ki, hki⟩ := litInt_rel (hρ y d hd1) hd2
     simp [hki, Instr.sliceBound, asIntOf, show 0 ≤ h by omega, show h ≤ c by omega]
   have el : (match lo.map r with
    | some v => Instr.sliceBound v h.toNat .sliceB
    | none => pure 0 : Sem Nat).run P w = .ok l.toNat w := by
    cases lo with
    | none => simp [boundA] at hlo; subst hlo; simp
    | some y =>
     simp only [boundA, Option.bind_eq_some_iff] at hlo
     obtain ⟨d, hd1, hd2⟩ := hlo
     obtain ⟨ki, hki⟩ := litInt_rel (hρ y d hd1) hd2
     simp [hki, Instr.sliceBound, asIntOf, h0, show l ≤ max h 0 by omega]
   unfold Instr.sliceBounds
   cases hi <;> cases lo <;> simp_all
  simp only [Instr.sliceAt, Sem.run_bind, run_underlying ht, Result.andThen_ok, Instr.slice, hu, Option.map_none, hb, run_szOf hk]
  rfl
 refine ⟨_, hrun, ?_⟩
 have e3 : (if c = l.toNat then some (⟨b, off, none⟩ : Addr) else (some (⟨b, off, none⟩ : Addr)).map (·.add (l.toNat * (k + 1)))) = some ⟨b, off + l.toNat * (k + 1), none⟩ := by
  split
  · rename_i e
    have : l = 0 := by omega
    subst this
    simp
  · simp [Addr.add_lit]
 rw [e3]
 refine .asl id _ _ _ _ b hb0 (by omega) (by omega) ?_
 have : l.toNat * (k + 1) + (c - l.toNat) * (k + 1) = c * (k + 1) := by rw [← Nat.add_mul]; congr 1; omega
 omega
theorem pure_sliceStr (hρ : ∀ x d, ρ x = some d → VR ι Z w d (r x)) {o : Oper} {x : Operand} {lo hi : Option Operand} {t : Nat} {s : ByteArray} {l h : Int} (ho : o.op = .slice t x lo hi none) (ht : P.underlying t = some .string) (hx : ρ x = some (.lit (.string s)))
    (hlo : boundA ρ 0 lo = some l) (hhi : boundA ρ s.size hi = some h) (h0 : 0 ≤ l) (h1 : l ≤ h) (h2 : h ≤ s.size) :
    PureR P ι Z w r o (.lit (.string (s.extract l.toNat h.toNat))) := by
 have hu : r x = .string s := by have hv := hρ x _ hx; generalize r x = u at hv; cases hv; rfl
 refine ⟨.string (s.extract l.toNat h.toNat), ?_, .lit _ rfl⟩
 unfold execOp
 rw [ho]
 refine run_v ?_
 rw [run_sliceAt_string _ _ _ _ _ _ ht]
 rw [hu]
 cases lo with
 | none =>
  simp [boundA] at hlo; subst hlo
  cases hi with
  | none => simp [boundA] at hhi; subst hhi; simpa using run_slice_string_all w t s ht
  | some y =>
   simp only [boundA, Option.bind_eq_some_iff] at hhi
   obtain ⟨d, hd1, hd2⟩ := hhi
   obtain ⟨ki, hki⟩ := litInt_rel (hρ y d hd1) hd2
   simp only [Option.map_none, Option.map_some, hki]
   exact run_slice_string_h w t s ht ki h h1 h2
 | some z =>
  simp only [boundA, Option.bind_eq_some_iff] at hlo
  obtain ⟨d, hd1, hd2⟩ := hlo
  obtain ⟨ki, hki⟩ := litInt_rel (hρ z d hd1) hd2
  cases hi with
  | none =>
   simp [boundA] at hhi; subst hhi
   simp only [Option.map_none, Option.map_some, hki]
   have := run_slice_string_l w t s ht ki l h0 h1
   simpa using this
  | some y =>
   simp only [boundA, Option.bind_eq_some_iff] at hhi
   obtain ⟨d', hd1', hd2'⟩ := hhi
   obtain ⟨kj, hkj⟩ := litInt_rel (hρ y d' hd1') hd2'
   simp only [Option.map_none, Option.map_some, hki, hkj]
   exact run_slice_string w t s ki kj l h ht h0 h1 h2
theorem pure_slice (hρ : ∀ x d, ρ x = some d → VR ι Z w d (r x)) {o : Oper} {x : Operand} {lo hi : Option Operand} {t e k : Nat} {es : List (List AV)} {tok : Tok} {l h : Int} (ho : o.op = .slice t x lo hi none) (ht : P.underlying t = some (.slice e)) (hx : ρ x = some (.sl es tok))
    (hk : szOf P e = some (k + 1)) (hlo : boundA ρ 0 lo = some l) (hhi : boundA ρ es.length hi = some h) (h0 : 0 ≤ l) (h1 : l ≤ h) (h2 : h ≤ es.length) (hh : es.head?.all (·.length == k + 1) = true) :
    PureR P ι Z w r o (.sl ((es.take h.toNat).drop l.toNat) (sliceTok tok h l es.length)) := by
 have hv := hρ x _ hx
 obtain ⟨a, c, hu, hc, ha⟩ := sl_row hv
 have hrun : (execOp r o).run P w = .ok (.value (.slice (if c = l.toNat then a else a.map (·.add (l.toNat * (k + 1)))) (h.toNat - l.toNat) (c - l.toNat))) w := by
  unfold execOp
  rw [ho]
  refine run_v ?_
  have hb : (Instr.sliceBounds true es.length c (lo.map r) (hi.map r) none).run P w = .ok (l.toNat, h.toNat, c) w := by
   have eh : (match hi.map r, (none : Option Value) with
    | some v, some _ => Instr.sliceBound v c .slice3B
    | some v, none => Instr.sliceBound v c .sliceAcap
    | none, none => pure es.length
    | none, some _ => stuck "Slice: max without high").run P w = .ok h.toNat w := by
    cases hi with
    | none => simp [boundA] at hhi; subst hhi; simp
    | some y =>
     simp only [boundA, Option.bind_eq_some_iff] at hhi
     obtain ⟨d, hd1, hd2⟩ := hhi
     obtain ⟨ki, hki⟩ := litInt_rel (hρ y d hd1) hd2
     simp [hki, Instr.sliceBound, asIntOf, show 0 ≤ h by omega, show h ≤ c by omega]
   have el : (match lo.map r with
    | some v => Instr.sliceBound v h.toNat .sliceB
    | none => pure 0 : Sem Nat).run P w = .ok l.toNat w := by
    cases lo with
    | none => simp [boundA] at hlo; subst hlo; simp
    | some y =>
     simp only [boundA, Option.bind_eq_some_iff] at hlo
     obtain ⟨d, hd1, hd2⟩ := hlo
     obtain ⟨ki, hki⟩ := litInt_rel (hρ y d hd1) hd2
     simp [hki, Instr.sliceBound, asIntOf, h0, show l ≤ max h 0 by omega]
   unfold Instr.sliceBounds
   cases hi <;> cases lo <;> simp_all
  simp only [Instr.sliceAt, Sem.run_bind, run_underlying ht, Result.andThen_ok, Instr.slice, hu, Option.map_none, hb, run_szOf hk]
  rfl
 refine ⟨_, hrun, ?_⟩
 generalize r x = u at hv hu
 subst hu
 cases hv with
 | nils a c tok h3 h4 =>
  have e1 : h = 0 := by simp at h2; omega
  have e2 : l = 0 := by omega
  subst e1; subst e2
  have e3 : (if c = (0 : Int).toNat then a else a.map (·.add ((0 : Int).toNat * (k + 1)))) = a := by
   split
   · rfl
   · cases a with
     | none => rfl
     | some a => simp [Addr.add]
  rw [e3]
  refine .nils a _ _ h3 ?_
  rcases h4 with rfl | ⟨rfl, rfl⟩
  · exact .inl rfl
  · exact .inr ⟨by simp [sliceTok], by simp⟩
 | frs t' k' c b h3 h4 h5 =>
  have e1 : h = 0 := by simp at h2; omega
  have e2 : l = 0 := by omega
  subst e1; subst e2
  have e3 : (if c = (0 : Int).toNat then (some ⟨b, 0, none⟩ : Option Addr) else (some ⟨b, 0, none⟩ : Option Addr).map (·.add ((0 : Int).toNat * (k + 1)))) = some ⟨b, 0, none⟩ := by
   split
   · rfl
   · simp [Addr.add]
  rw [e3]
  exact .nils _ _ _ (fun h => by cases h) (.inl rfl)
 | sl b q n c k' es tok U g1 g2 g3 g4 g5 g6 g7 g8 =>
  have hk' : k' = k + 1 := by
   cases es with
   | nil => simp at g2
   | cons e0 es => have := g5 0 e0 rfl; simp at hh; omega
  subst hk'
  by_cases hlh : l = h
  · subst hlh
    have e1 : (es.take l.toNat).drop l.toNat = [] := by simp
    rw [e1, Nat.sub_self]
    refine .nils _ _ _ (fun e => ?_) ?_
    · split at e
      · omega
      · simp at e
    · cases tok with
      | no => exact .inl rfl
      | fresh t k => exact .inl rfl
      | full =>
       simp only [sliceTok]
       split
       · exact .inr ⟨rfl, by have g7' : c = es.length := g7; omega⟩
       · exact .inl rfl
      | own t =>
       simp only [sliceTok]
       rw [if_neg (by omega)]
       exact .inl rfl
  · have hcl : ¬ c = l.toNat := by omega
    rw [if_neg hcl]
    simp only [Option.map_some, Addr.add_lit]
    have hget : ∀ (i : Nat) (e : List AV), ((es.take h.toNat).drop l.toNat)[i]? = some e → es[l.toNat + i]? = some e := by
     intro i e hi
     rw [List.getElem?_drop, List.getElem?_take] at hi
     split at hi
     · exact hi
     · cases hi
    have hoff : ∀ i j : Nat, q + l.toNat * (k + 1) + i * (k + 1) + j = q + (l.toNat + i) * (k + 1) + j := by intro i j; rw [Nat.add_mul]; omega
    refine .sl b (q + l.toNat * (k + 1)) _ _ (k + 1) _ _ (fun i j => U (l.toNat + i) j) (by simp; omega) (by omega) (by omega) (by omega) (fun i e hi => g5 _ e (hget i e hi)) (fun i j e d hi hj => ?_) ?_ (fun i j e d hi hj => g8 _ j e d (hget i e hi) hj)
    · have := g6 _ j e d (hget i e hi) hj
      rw [hoff]; exact this
    · cases tok with
      | no => trivial
      | fresh t k => trivial
      | full =>
       simp only [sliceTok]
       split
       · have g7' : c = es.length := g7
         show c - l.toNat = h.toNat - l.toNat
         omega
       · trivial
      | own t =>
       simp only [sliceTok]
       split
       · rename_i hc2
         obtain ⟨b', hb', hb2, hb3⟩ := g7
         have e0 : l.toNat = 0 := by omega
         rw [e0, Nat.zero_mul, Nat.add_zero]
         exact ⟨b', hb', hb2, by simpa using hb3⟩
       · trivial
theorem chunks_get (k : Nat) : ∀ (n : Nat) (cs : List AV) (i : Nat) (e : List AV), (chunks k n cs)[i]? = some e → i < n ∧ e = (cs.drop (i * k)).take k
 | 0, cs, i, e, h => by simp [chunks] at h
 | n + 1, cs, 0, e, h => by simp [chunks] at h; exact ⟨by omega, by simp [h]⟩
 | n + 1, cs, i + 1, e, h => by
  rw [chunks, List.getElem?_cons_succ] at h
  obtain ⟨h1, h2⟩ := chunks_get k n _ i e h
  refine ⟨by omega, ?_⟩
  rw [h2, List.drop_drop]
  congr 2
  rw [Nat.succ_mul]; omega
theorem chunks_length (k : Nat) : ∀ (n : Nat) (cs : List AV), (chunks k n cs).length = n
 | 0, _ => rfl
 | n + 1, cs => by simp [chunks, chunks_length k n]
theorem replicate_get {α : Type} (l : List α) : ∀ (n j : Nat), j < n * l.length → (List.replicate n l).flatten[j]? = l[j % l.length]?
 | 0, j, h => by simp at h
 | n + 1, j, h => by
  rw [List.replicate_succ, List.flatten_cons]
  rcases Nat.lt_or_ge j l.length with hl | hl
  · rw [List.getElem?_append_left hl, Nat.mod_eq_of_lt hl]
  · rw [List.getElem?_append_right hl, replicate_get l n (j - l.length) (by rw [Nat.succ_mul] at h; omega), Nat.mod_eq_sub_mod hl]
theorem fillA_length {place : Nat → Option (Nat × Nat)} : ∀ {l : List (Nat × AV)} {cs out : List AV}, fillA place cs l = some out → out.length = cs.length
 | [], cs, out, h => by simp [fillA] at h; subst h; rfl
 | (i, d) :: l, cs, out, h => by
  rw [fillA] at h
  split at h
  · cases h
  · split at h
    · cases h
    · rw [fillA_length h, putCells_length]
theorem step_buildSlice (hρ : ∀ x d, ρ x = some d → VR ι Z w d (r x)) (hM : Match σ ι Z w) {o : Oper} {t e k len : Nat} {ps : Array (Nat × Operand)} {l : List (Nat × AV)} {z : Value} {d : AV} {cs : List AV} (ho : o.op = .buildSlice t len ps) (ht : P.underlying t = some (.slice e)) (hl : parts? ρ ps = some l)
    (hk : szOf P e = some (k + 1)) (hz : (P.info? e).bind (·.zero) = some z) (hd : abs2 z = some d) (hs : len * (k + 1) ≤ 2 ^ 24) (hdl : d.cells.length = k + 1) (hdt : d.notTup = true)
    (hf : fillA (fun i => some (i * (k + 1), k + 1)) (List.replicate len d.cells).flatten l = some cs) : StepR P ι Z w r o (.val (.sl (chunks (k + 1) len cs) .full) σ .pure) := by
 have h1 := parts_rel hρ hl
 have h2 := (abs2_rel (ι := ι) (Z := Z) (w := w) hd).2.cells hdt
 rw [Option.bind_eq_some_iff] at hz
 obtain ⟨ie, hie, hz⟩ := hz
 obtain ⟨ie', hie', hks⟩ := szOf_info hk
 have : ie' = ie := by rw [hie] at hie'; exact (Option.some.inj hie').symm
 subst this
 have hzl : z.cells.size = k + 1 := by rw [← hdl]; simpa using h2.1.symm
 have hbase : CR ι Z w (List.replicate len d.cells).flatten ((Array.range (len * (k + 1))).map (z.cells[· % z.cells.size]!)).toList := by
  refine ⟨by simp [hdl], fun j x y hx hy => ?_⟩
  have hj : j < len * (k + 1) := by have := (List.getElem?_eq_some_iff.1 hx).1; simpa [hdl] using this
  rw [replicate_get _ _ _ (by rw [hdl]; exact hj), hdl] at hx
  have hm : j % (k + 1) < k + 1 := Nat.mod_lt _ (by omega)
  have hy' : y = z.cells[j % (k + 1)]! := by
   rw [Array.toList_map, List.getElem?_map] at hy
   simp [hj, hzl] at hy
   exact hy.symm
  refine h2.2 (j % (k + 1)) x y hx ?_
  rw [hy', Array.getElem?_toList, Array.getElem?_eq_getElem (by omega), getElem!_pos z.cells (j % (k + 1)) (by omega)]
 obtain ⟨out, h3, h4⟩ := fill_rel h1.1 h1.2 hbase hf
 have hcl : cs.length = len * (k + 1) := by rw [fillA_length hf]; simp [hdl]
 have hol : out.size = len * (k + 1) := by rw [← hcl]; simpa using h4.1.symm
 obtain ⟨e1, m1⟩ := hM.newFrozen out e
 rcases Nat.eq_zero_or_pos len with h0 | h0
 · subst h0
   refine ⟨.slice (some ⟨w.heap.size, 0, none⟩) 0 0, _, _, _, ?_, e1, m1, ?_⟩
   · unfold execOp
     rw [ho]
     refine run_v ?_
     have hr0 : Array.range 0 = #[] := rfl
     have h3' := h3
     simp [hr0] at h3'
     simp only [Instr.buildSlice, Sem.run_bind, run_underlying ht, Result.andThen_ok, run_szOf hk, Nat.zero_mul]
     simp [hr0, h3', newRow]
   · exact .nils _ 0 .full (fun _ => rfl) (.inr ⟨rfl, rfl⟩)
 · refine ⟨.slice (some ⟨w.heap.size, 0, none⟩) len len, _, _, _, ?_, e1, m1, ?_⟩
   · unfold execOp
     rw [ho]
     have hpos : 0 < len * (k + 1) := Nat.mul_pos h0 (by omega)
     exact run_v (run_buildSlice w t e len _ out ie' z ht hie hz (by rw [hks]; omega) (by rw [hks]; omega) (by rw [hks]; exact h3))
   · have hrow : ∀ (i j : Nat) (x : List AV) (y : AV), (chunks (k + 1) len cs)[i]? = some x → x[j]? = some y → i < len ∧ j < k + 1 ∧ cs[i * (k + 1) + j]? = some y ∧ i * (k + 1) + j < out.size := by
      intro i j x y hx hy
      obtain ⟨a1, rfl⟩ := chunks_get _ _ _ _ _ hx
      rw [List.getElem?_take] at hy
      split at hy
      · rename_i hj
        rw [List.getElem?_drop] at hy
        refine ⟨a1, hj, hy, ?_⟩
        have := (List.getElem?_eq_some_iff.1 hy).1
        omega
      · cases hy
     refine .sl w.heap.size 0 len len (k + 1) _ .full (fun i j => out[i * (k + 1) + j]!) (chunks_length _ _ _) h0 (Nat.le_refl _) ?_ (fun i x hx => ?_) (fun i j x y hx hy => ?_) rfl (fun i j x y hx hy => ?_)
     · have : len ≤ len * (k + 1) := Nat.le_mul_of_pos_right _ (by omega)
       have h24 : (2 : Nat) ^ 24 ≤ maxLen := by decide
       omega
     · obtain ⟨a1, rfl⟩ := chunks_get _ _ _ _ _ hx
       have : (i + 1) * (k + 1) ≤ len * (k + 1) := Nat.mul_le_mul_right _ a1
       rw [Nat.succ_mul] at this
       simp; omega
     · obtain ⟨a1, a2, a3, a4⟩ := hrow i j x y hx hy
       refine ⟨(h4.2 _ y _ a3 (by rw [Array.getElem?_toList, Array.getElem?_eq_getElem a4])).1, .inr ⟨rfl, by omega⟩, ?_⟩
       rw [Nat.zero_add, World.cell?_alloc_new, getElem!_pos out _ a4]
       exact Array.getElem?_eq_getElem a4
     · obtain ⟨a1, a2, a3, a4⟩ := hrow i j x y hx hy
       rw [getElem!_pos out _ a4]
       exact (h4.2 _ y _ a3 (by rw [Array.getElem?_toList, Array.getElem?_eq_getElem a4])).2.evo e1
end
end
section
open Go.RowKit
section
variable {P : Program} {ι : List Nat} {Z : Nat → Nat → Prop} {w : World} {r : Operand → Value} {ρ : Operand → Option AV} {σ : Sto}
theorem CR.ofArrLe {cs : List AV} {c : Array Value} (h : cs.length ≤ c.size) (h2 : ∀ (j : Nat) (d : AV) (u : Value), cs[j]? = some d → c[j]? = some u → d.one = true ∧ VR ι Z w d u) : CR ι Z w cs (c.toList.take cs.length) :=
 ⟨by simp; omega, fun j d u hd hu => h2 j d u hd (by rw [List.getElem?_take, if_pos (List.getElem?_eq_some_iff.1 hd).1] at hu; simpa using hu)⟩
theorem new_rel (hM : Match σ ι Z w) {d : AV} {u : Value} {T : TypeId} (hv : VR ι Z w d u) (ht : d.notTup = true) :
    ∃ ι' Z', Evo ι Z w ι' Z' (w.alloc (.cells u.cells T)) ∧ Match (σ ++ [.cells d.cells T]) ι' Z' (w.alloc (.cells u.cells T)) ∧ VR ι' Z' (w.alloc (.cells u.cells T)) (.ptr σ.length 0) (.pointer (some ⟨w.heap.size, 0, none⟩)) := by
 have hc := hv.cells ht
 obtain ⟨e1, m1⟩ := hM.newCells d.cells u.cells T (Nat.le_of_eq (by simpa using hc.1)) (fun j x y hx hy => hc.2 j x y hx (by simpa using hy))
 exact ⟨_, _, e1, m1, .ptr _ _ _ (by rw [← hM.len]; simp)⟩
theorem step_alloc (hM : Match σ ι Z w) {o : Oper} {e : TypeId} {z : Value} {d : AV} (ho : o.op = .alloc e) (hz : (P.info? e).bind (·.zero) = some z) (hd : abs2 z = some d) (ht : d.notTup = true) :
    StepR P ι Z w r o (.val (.ptr σ.length 0) (σ ++ [.cells d.cells e]) (.news σ.length)) := by
 obtain ⟨ι', Z', e1, m1, v1⟩ := new_rel (T := e) hM (abs2_rel hd).2 ht
 rw [Option.bind_eq_some_iff] at hz
 obtain ⟨ie, hie, hz⟩ := hz
 refine ⟨_, _, ι', Z', ?_, e1, m1, v1⟩
 unfold execOp
 rw [ho]
 refine run_v ?_
 simp [Instr.alloc, zeroValue, typeInfo, hie, hz, newVar, newRow]
theorem step_box (hρ : ∀ x d, ρ x = some d → VR ι Z w d (r x)) (hM : Match σ ι Z w) {o : Oper} {e : TypeId} {x : Operand} {d : AV} (ho : o.op = .box e x) (hx : ρ x = some d) (ht : d.notTup = true) :
    StepR P ι Z w r o (.val (.ptr σ.length 0) (σ ++ [.cells d.cells e]) (.news σ.length)) := by
 obtain ⟨ι', Z', e1, m1, v1⟩ := new_rel (T := e) hM (hρ x d hx) ht
 refine ⟨_, _, ι', Z', ?_, e1, m1, v1⟩
 unfold execOp
 rw [ho]
 refine run_v ?_
 simp [Instr.box, newVar, newRow]
theorem ptr_at {id off : Nat} {u : Value} (h : VR ι Z w (.ptr id off) u) : ∃ b, ι[id]? = some b ∧ u = .pointer (some ⟨b, off, none⟩) := by cases h; exact ⟨_, by assumption, rfl⟩
theorem step_load (hρ : ∀ x d, ρ x = some d → VR ι Z w d (r x)) (hM : Match σ ι Z w) {o : Oper} {x : Operand} {t id off : Nat} {cs : List AV} {T : TypeId} {d : AV} {acc : Acc} (ho : o.op = .load t x) (hx : ρ x = some (.ptr id off)) (hσ : σ[id]? = some (.cells cs T)) (hp : partA P t cs off = some d) :
    StepR P ι Z w r o (.val d σ acc) := by
 obtain ⟨b, hb, hu⟩ := ptr_at (hρ x _ hx)
 obtain ⟨c, h1, h2, h3, h4⟩ := hM.obj id _ b hσ hb
 obtain ⟨u, hl, hv, _⟩ := load_rel (P := P) (b := b) (o := 0) (CR.ofArrLe h2 h3) (fun j u hu => by
  rw [Nat.zero_add]; simp [World.cell?, h1]
  rw [List.getElem?_take] at hu
  split at hu
  · simpa using hu
  · cases hu) hp
 refine ⟨u, w, ι, Z, ?_, .refl _ _ _, hM, hv⟩
 unfold execOp
 rw [ho]
 refine run_v ?_
 rw [Nat.zero_add] at hl
 simp [Instr.loadAt, Instr.sureAddr, hu, hl]
theorem putCells_eq : ∀ (vs cs : List AV) (off : Nat), off + vs.length ≤ cs.length → putCells cs off vs = cs.take off ++ vs ++ cs.drop (off + vs.length)
 | [], cs, off, h => by simp [putCells]
 | v :: vs, cs, off, h => by
  simp only [List.length_cons] at h
  rw [putCells, putCells_eq vs _ _ (by simp; omega)]
  have hlt : off < cs.length := by omega
  rw [List.take_set, List.drop_set_of_lt (by omega)]
  have e1 : (cs.take (off + 1)).set off v = cs.take off ++ [v] := by
   rw [List.take_succ_eq_append_getElem hlt, List.set_append, if_neg (by simp; omega)]
   simp [Nat.min_eq_left (Nat.le_of_lt hlt)]
  rw [e1]
  simp [Nat.add_assoc, Nat.add_comm 1]
theorem step_store (hρ : ∀ x d, ρ x = some d → VR ι Z w d (r x)) (hM : Match σ ι Z w) {o : Oper} {x y : Operand} {t id off n : Nat} {cs : List AV} {T : TypeId} {v : AV} {acc : Acc} (ho : o.op = .store t x y) (hx : ρ x = some (.ptr id off)) (hy : ρ y = some v) (hn : szOf P t = some n) (hσ : σ[id]? = some (.cells cs T))
    (h1 : v.cells.length = n) (h2 : off + n ≤ cs.length) (h3 : v.notTup = true) : StepR P ι Z w r o (.skip (σ.set id (.cells (putCells cs off v.cells) T)) acc) := by
 obtain ⟨b, hb, hu⟩ := ptr_at (hρ x _ hx)
 obtain ⟨c, g1, g2, g3, g4⟩ := hM.obj id _ b hσ hb
 have hcr := CR.ofArrLe g2 g3
 have hv := (hρ y v hy).cells h3
 have hl : (r y).cells.size = n := by rw [← h1]; simpa using hv.1.symm
 have e : (r y).cells.toList.length = v.cells.length := hv.1.symm
 have hnew : CR ι Z w (putCells cs off v.cells) ((c.toList.take (off + 0) ++ (r y).cells.toList ++ c.toList.drop (off + 0 + (r y).cells.toList.length)).take cs.length) := by
  rw [putCells_eq _ _ _ (by omega), Nat.add_zero, e]
  have e2 : (c.toList.take off ++ (r y).cells.toList ++ c.toList.drop (off + v.cells.length)).take cs.length = (c.toList.take cs.length).take off ++ (r y).cells.toList ++ (c.toList.take cs.length).drop (off + v.cells.length) := by
   rw [List.take_append, List.take_of_length_le (by simp; omega), List.take_take, Nat.min_eq_left (by omega), List.take_drop]
   congr 2
   simp; omega
  rw [e2]
  exact ((hcr.take off).append hv).append (hcr.drop _)
 have hsz : (c.toList.take (off + 0) ++ (r y).cells.toList ++ c.toList.drop (off + 0 + (r y).cells.toList.length)).toArray.size = c.size := by
  simp only [List.size_toArray, List.length_append, List.length_take, List.length_drop, Array.length_toList]
  omega
 have hpl : (putCells cs off v.cells).length = cs.length := putCells_length _ _ _
 obtain ⟨e1, m1⟩ := hM.setCells (cs := putCells cs off v.cells) (c := (c.toList.take (off + 0) ++ (r y).cells.toList ++ c.toList.drop (off + 0 + (r y).cells.toList.length)).toArray) hσ hb g1 hsz (by rw [hsz, hpl]; exact g2) (fun j d u hd hu => hnew.2 j d u hd (by
  have hj := (List.getElem?_eq_some_iff.1 hd).1
  rw [hpl] at hj
  rw [List.getElem?_take, if_pos hj]; simpa using hu))
 refine ⟨_, ι, Z, ?_, e1, m1⟩
 unfold execOp
 rw [ho]
 have hst := run_storeCells_at (P := P) b off T (r y).cells.toList 0 c w g1 (by simp; omega) hv.oneCell
 simp only [Sem.run_bind, Instr.storeAt, Instr.sureAddr, hu, Sem.run_pure, Result.andThen_ok, storeVar, run_szOf hn, hl, ne_eq, not_true_eq_false, if_false, hst]
theorem rows_flat {es : List (List AV)} {k : Nat} (h : ∀ (i : Nat) (e : List AV), es[i]? = some e → e.length = k) : es.flatten.length = es.length * k ∧ ∀ (i j : Nat) (e : List AV) (d : AV), es[i]? = some e → e[j]? = some d → es.flatten[i * k + j]? = some d := by
 induction es with
 | nil => exact ⟨by simp, fun i j e d h => by simp at h⟩
 | cons e0 es ih =>
  obtain ⟨h1, h2⟩ := ih fun i e he => h (i + 1) e (by simpa using he)
  have h0 : e0.length = k := h 0 e0 rfl
  refine ⟨by rw [List.flatten_cons, List.length_append, h1, h0, List.length_cons, Nat.succ_mul]; omega, fun i j e d he hd => ?_⟩
  have hj := (List.getElem?_eq_some_iff.1 hd).1
  cases i with
  | zero =>
   simp at he; subst he
   rw [List.flatten_cons, Nat.zero_mul, Nat.zero_add, List.getElem?_append_left hj]; exact hd
  | succ i =>
   rw [List.flatten_cons, List.getElem?_append_right (by rw [h0, Nat.succ_mul]; omega)]
   have e1 : (i + 1) * k + j - e0.length = i * k + j := by rw [h0, Nat.succ_mul]; omega
   rw [e1]
   exact h2 i j e d (by simpa using he) hd
theorem sl_cells {es : List (List AV)} {tok : Tok} {a : Option Addr} {n c k : Nat} (h : VR ι Z w (.sl es tok) (.slice a n c)) (hk : es.head?.all (·.length == k) = true) :
    es.length = n ∧ n ≤ c ∧ (∀ (i : Nat) (e : List AV), es[i]? = some e → e.length = k) ∧ ∃ us : List Value, CR ι Z w es.flatten us ∧ us.length = n * k ∧ (∀ (j : Nat) (u : Value), us[j]? = some u → ∃ b o, a = some ⟨b, o, none⟩ ∧ w.cell? ⟨b, o + j, none⟩ = some u ∧ Z b (o + j)) := by
 cases h with
 | nils a c tok h1 h2 => exact ⟨rfl, Nat.zero_le _, fun i e h => by simp at h, [], by simpa using CR.nil, by simp, fun j u h => by simp at h⟩
 | frs t k' c b h1 h2 h3 => exact ⟨rfl, Nat.zero_le _, fun i e h => by simp at h, [], by simpa using CR.nil, by simp, fun j u h => by simp at h⟩
 | sl b o n c k' es tok U h1 h2 h3 h4 h5 h6 h7 h8 =>
  have e : k' = k := by
   cases es with
   | nil => simp at h1; omega
   | cons e0 es => have := h5 0 e0 rfl; simp at hk; omega
  subst e
  obtain ⟨f1, f2⟩ := rows_flat h5
  have hdm : ∀ j, j < n * k' → j / k' < es.length ∧ j % k' < k' ∧ j / k' * k' + j % k' = j := by
   intro j hj
   have hk0 : 0 < k' := by
    rcases Nat.eq_zero_or_pos k' with h | h
    · subst h; simp at hj
    · exact h
   exact ⟨by rw [h1]; exact Nat.div_lt_of_lt_mul (by rw [Nat.mul_comm]; exact hj), Nat.mod_lt _ hk0, by rw [Nat.mul_comm]; exact Nat.div_add_mod j k'⟩
  have hget : ∀ j, j < n * k' → ∃ (e : List AV) (d : AV), es[j / k']? = some e ∧ e[j % k']? = some d ∧ es.flatten[j]? = some d := by
   intro j hj
   obtain ⟨a1, a2, a3⟩ := hdm j hj
   have hel := h5 _ _ (List.getElem?_eq_getElem a1)
   have hd := List.getElem?_eq_getElem (l := es[j / k']) (i := j % k') (by rw [hel]; exact a2)
   refine ⟨_, _, List.getElem?_eq_getElem a1, hd, ?_⟩
   have := f2 _ _ _ _ (List.getElem?_eq_getElem a1) hd
   rw [a3] at this; exact this
  refine ⟨h1, h3, h5, (List.range (n * k')).map fun j => U (j / k') (j % k'), ⟨by rw [f1, h1]; simp, fun j d u hd hu => ?_⟩, by simp, fun j u hu => ?_⟩
  · have hj : j < n * k' := by have := (List.getElem?_eq_some_iff.1 hu).1; simpa using this
    rw [List.getElem?_map, List.getElem?_range hj] at hu
    cases hu
    obtain ⟨e, d', a1, a2, a3⟩ := hget j hj
    rw [a3] at hd
    cases hd
    exact ⟨(h6 _ _ e d a1 a2).1, h8 _ _ e d a1 a2⟩
  · have hj : j < n * k' := by have := (List.getElem?_eq_some_iff.1 hu).1; simpa using this
    rw [List.getElem?_map, List.getElem?_range hj] at hu
    cases hu
    obtain ⟨e, d', a1, a2, _⟩ := hget j hj
    obtain ⟨_, z1, z2⟩ := h6 _ _ e d' a1 a2
    have e3 := (hdm j hj).2.2
    rw [Nat.add_assoc, e3] at z1 z2
    exact ⟨b, o, rfl, z2, z1⟩
theorem step_append (hρ : ∀ x d, ρ x = some d → VR ι Z w d (r x)) (hM : Match σ ι Z w) {o : Oper} {x y : Operand} {t e k by_ : Nat} {es fs : List (List AV)} {tok tok2 : Tok} {acc : Acc} (ho : o.op = .call { callee := .builtin .append, args := #[x, y], argTypes := #[t, t] }) (ht : P.underlying t = some (.slice e))
    (hx : ρ x = some (.sl es tok)) (hy : ρ y = some (.sl fs tok2)) (hk : szOf P e = some (k + 1)) (hb : bytesOf P e = some by_) (he : es.head?.all (·.length == k + 1) = true) (hf : fs.head?.all (·.length == k + 1) = true)
    (hbytes : (es.length + fs.length) * by_ ≤ 140737488355328) (hlen : es.length + fs.length ≤ 140737488355328) :
    (fs.length = 0 → StepR P ι Z w r o (.val (.sl es tok) σ acc)) ∧
    (fs.length ≠ 0 → ∀ z, (P.info? e).bind (·.zero) = some z → z.cells.size = k + 1 → (tok = .full → StepR P ι Z w r o (.val (.sl (es ++ fs) (.own σ.length)) (σ ++ [.tok ((es.length + fs.length) * (k + 1)) e]) acc)) ∧
     (∀ i, (tok = .own i ∨ (tok = .fresh i (k + 1) ∧ es = [])) → σ[i]? = some (.tok (es.length * (k + 1)) e) → StepR P ι Z w r o (.val (.sl (es ++ fs) (.own σ.length)) (σ.set i .dead ++ [.tok ((es.length + fs.length) * (k + 1)) e]) acc))) := by
 obtain ⟨ie, hie, hks⟩ := szOf_info hk
 have hby : ie.bytes = by_ := by unfold bytesOf at hb; rw [hie] at hb; simpa using hb
 obtain ⟨a, c, hux, hac, han⟩ := sl_row (hρ x _ hx)
 obtain ⟨a2, c2, huy, hac2, han2⟩ := sl_row (hρ y _ hy)
 have hvx := hρ x _ hx
 have hvy := hρ y _ hy
 rw [hux] at hvx
 rw [huy] at hvy
 obtain ⟨_, _, hrx, us, hus, hul, huc⟩ := sl_cells hvx he
 obtain ⟨_, _, hry, vs, hvs, hvl, hvc⟩ := sl_cells hvy hf
 have hexec : ∀ (u : Value) (w' : World), (Builtin.append_ #[t, t] o.type #[.slice a es.length c, .slice a2 fs.length c2]).run P w = .ok u w' → (execOp r o).run P w = .ok (.value u) w' := by
  intro u w' h
  unfold execOp
  rw [ho]
  simp [resolve, invoke, builtin, hux, huy, h]
 refine ⟨fun h0 => ?_, fun h0 z hz hzk => ?_⟩
 · refine ⟨.slice a es.length c, w, ι, Z, hexec _ _ ?_, .refl _ _ _, hM, hvx⟩
   rw [h0]
   have hlf : (Builtin.firstCells ie.size 0 (.slice a2 0 c2)).run P w = .ok #[] w := by
    cases a2 with
    | none => rfl
    | some a2 => simp [Builtin.firstCells, loadCells, loadCellsFrom]
   cases a with
   | none => simp [Builtin.append_, run_underlying ht, sizeOf, typeInfo, hie, Builtin.lenOf, hac, hlf]
   | some a => simp [Builtin.append_, run_underlying ht, sizeOf, typeInfo, hie, Builtin.lenOf, hac, hlf, storeCells]
 · rw [Option.bind_eq_some_iff] at hz
   obtain ⟨ie', hie', hz⟩ := hz
   have : ie' = ie := by rw [hie] at hie'; exact (Option.some.inj hie').symm
   subst this
   have hm0 : 0 < fs.length := by omega
   -- the source
   obtain ⟨b2, o2, rfl⟩ : ∃ b2 o2, a2 = some ⟨b2, o2, none⟩ := by
    have hv0 : 0 < vs.length := by rw [hvl]; exact Nat.mul_pos hm0 (by omega)
    obtain ⟨b, o', h1, _⟩ := hvc 0 _ (List.getElem?_eq_getElem hv0)
    exact ⟨b, o', h1⟩
   have hnews : ∀ (j : Nat) (u : Value), vs[j]? = some u → w.cell? ((⟨b2, o2, none⟩ : Addr).add j) = some u := by
    intro j u hu
    obtain ⟨b, o', h1, h2, _⟩ := hvc j u hu
    cases h1
    rw [Addr.add_lit]; exact h2
   have hvl' : vs.length = fs.length * ie'.size := by rw [hvl, hks]
   have hcr : CR ι Z w (es ++ fs).flatten (us ++ vs) := by rw [List.flatten_append]; exact hus.append hvs
   have htot : (us ++ vs).length = (es.length + fs.length) * (k + 1) := by rw [List.length_append, hul, hvl, Nat.add_mul]
   have hrows : ∀ (i : Nat) (q : List AV), (es ++ fs)[i]? = some q → q.length = k + 1 := by
    intro i q hq
    rcases Nat.lt_or_ge i es.length with h | h
    · rw [List.getElem?_append_left h] at hq; exact hrx i q hq
    · rw [List.getElem?_append_right h] at hq; exact hry _ q hq
   have hflat := (rows_flat hrows).2
   have h63 : ((es.length + fs.length : Nat) : Int) ≤ 9223372036854775807 := by omega
   -- the result, wherever its cells lie
   have res : ∀ (g cap : Nat) (ι' : List Nat) (Z' : Nat → Nat → Prop) (w' : World) (all : Array Value), Evo ι Z w ι' Z' w' → ι'[σ.length]? = some g → w'.heap[g]? = some (.cells all e (0, 0)) → all.toList.take ((es.length + fs.length) * (k + 1)) = us ++ vs →
       (∀ j, j < (es.length + fs.length) * (k + 1) → Z' g j) → es.length + fs.length ≤ cap → cap * (k + 1) ≤ all.size → cap ≤ maxLen → VR ι' Z' w' (.sl (es ++ fs) (.own σ.length)) (.slice (some ⟨g, 0, none⟩) (es.length + fs.length) cap) := by
    intro g cap ι' Z' w' all hev hg hheap htake hz' hcap hfit hmax
    have hcells : ∀ (i j : Nat) (q : List AV) (d : AV), (es ++ fs)[i]? = some q → q[j]? = some d → i * (k + 1) + j < (es.length + fs.length) * (k + 1) ∧ ∃ u, (us ++ vs)[i * (k + 1) + j]? = some u ∧ d.one = true ∧ VR ι Z w d u ∧ all[i * (k + 1) + j]? = some u := by
     intro i j q d hq hd
     have hi := (List.getElem?_eq_some_iff.1 hq).1
     have hj := (List.getElem?_eq_some_iff.1 hd).1
     rw [hrows i q hq] at hj
     have hlt : i * (k + 1) + j < (es.length + fs.length) * (k + 1) := by
      have : (i + 1) * (k + 1) ≤ (es.length + fs.length) * (k + 1) := Nat.mul_le_mul_right _ (by have := hi; simp only [List.length_append] at this; omega)
      rw [Nat.succ_mul] at this; omega
     obtain ⟨u, hu, h1, h2⟩ := hcr.at (hflat i j q d hq hd)
     refine ⟨hlt, u, hu, h1, h2, ?_⟩
     rw [← htake, List.getElem?_take, if_pos hlt] at hu
     simpa using hu
    refine .sl g 0 _ cap (k + 1) _ _ (fun i j => all[i * (k + 1) + j]!) (by simp) (by omega) hcap hmax hrows (fun i j q d hq hd => ?_) ⟨g, hg, rfl, by unfold cellsz; rw [hheap]; exact hfit⟩ (fun i j q d hq hd => ?_)
    · obtain ⟨hlt, u, _, h1, _, h3⟩ := hcells i j q d hq hd
      have hl := (Array.getElem?_eq_some_iff.1 h3).1
      refine ⟨h1, by rw [Nat.zero_add]; exact hz' _ hlt, ?_⟩
      rw [Nat.zero_add, getElem!_pos all _ hl]
      simp [World.cell?, hheap, hl]
    · obtain ⟨hlt, u, _, h1, h2, h3⟩ := hcells i j q d hq hd
      have hl := (Array.getElem?_eq_some_iff.1 h3).1
      rw [getElem!_pos all _ hl]
      have : all[i * (k + 1) + j] = u := (Array.getElem?_eq_some_iff.1 h3).2
      rw [this]; exact h2.evo hev
   -- a new row
   have fresh : ∀ (σ1 : Sto), σ1.length = σ.length → Match σ1 ι Z w → (execOp r o).run P w = .ok (.value (.slice (some ⟨w.heap.size, 0, none⟩) (es.length + fs.length) (grownCap w (es.length + fs.length) c e)))
       (w.drew.alloc (.cells (us.toArray ++ vs.toArray ++ Builtin.zeroCells z.cells (grownCap w (es.length + fs.length) c e - (es.length + fs.length))) e)) →
       StepR P ι Z w r o (.val (.sl (es ++ fs) (.own σ.length)) (σ1 ++ [.tok ((es.length + fs.length) * (k + 1)) e]) acc) := by
    intro σ1 hl1 hM1 hrun
    have hge := grownCap_ge w (es.length + fs.length) c e
    have hmx : grownCap w (es.length + fs.length) c e ≤ maxLen := grownCap_le_maxLen w _ c e (by unfold maxLen; omega)
    generalize hcap : grownCap w (es.length + fs.length) c e = cap at *
    have hsz : (us.toArray ++ vs.toArray ++ Builtin.zeroCells z.cells (cap - (es.length + fs.length))).size = cap * (k + 1) := by
     simp only [Array.size_append, List.size_toArray, size_zeroCells, hzk]
     have := htot
     rw [List.length_append] at this
     rw [this, ← Nat.add_mul]
     congr 1; omega
    have hle : (es.length + fs.length) * (k + 1) ≤ cap * (k + 1) := Nat.mul_le_mul_right _ hge
    obtain ⟨e1, m1⟩ := hM1.drew.newTok (us.toArray ++ vs.toArray ++ Builtin.zeroCells z.cells (cap - (es.length + fs.length))) e ((es.length + fs.length) * (k + 1)) (by rw [hsz]; exact hle)
    have e2 := (Evo.drew ι Z w).trans e1
    refine ⟨_, _, _, _, hrun, e2, m1, ?_⟩
    refine res w.heap.size cap _ _ _ _ e2 (by rw [← hl1, ← hM1.len]; simp) (heap_alloc_new w.drew _) ?_ (fun j hj => .inr ⟨rfl, hj⟩) hge (by rw [hsz]; exact Nat.le_refl _) hmx
    simp only [Array.toList_append, List.append_assoc]
    rw [← List.append_assoc, ← htot]
    exact List.take_left
   have growRun : c < es.length + fs.length → (execOp r o).run P w = .ok (.value (.slice (some ⟨w.heap.size, 0, none⟩) (es.length + fs.length) (grownCap w (es.length + fs.length) c e)))
       (w.drew.alloc (.cells (us.toArray ++ vs.toArray ++ Builtin.zeroCells z.cells (grownCap w (es.length + fs.length) c e - (es.length + fs.length))) e)) := by
    intro hlt
    have hfit := growslice_fits (bytes := by_) hlt hbytes
    cases a with
    | none =>
     obtain ⟨h1, h2⟩ := han rfl
     have hu0 : us = [] := List.eq_nil_of_length_eq_zero (by rw [hul, h1]; simp)
     subst hu0; subst h2
     have := hexec _ _ (by
      rw [h1]
      exact run_append_nil (P := P) w t o.type e ie' z ht hie hz ⟨b2, o2, none⟩ fs.length c2 vs hvl' hnews hm0 (by omega) (by rw [hby]; have := hbytes; rw [h1, Nat.zero_add] at this; omega))
     rw [this]
     simp [h1]
    | some a =>
     have hold : ∀ (j : Nat) (u : Value), us[j]? = some u → w.cell? (a.add j) = some u := by
      intro j u hu
      obtain ⟨b, o', h1, h2, _⟩ := huc j u hu
      cases h1
      rw [Addr.add_lit]; exact h2
     exact hexec _ _ (run_append_grow (P := P) w t o.type e ie' z ht hie hz a es.length c us (by rw [hul, hks]) hold ⟨b2, o2, none⟩ fs.length c2 vs hvl' hnews hlt h63 (by rw [hby]; exact hfit))
   refine ⟨fun htok => ?_, fun i htok hσ => ?_⟩
   · subst htok
     have hc0 : c = es.length := by
      cases hvx with
      | nils a c tok g1 g2 => rcases g2 with g2 | ⟨_, g2⟩; · cases g2
                              · simpa using g2
      | sl b q n c k' es tok U g1 g2 g3 g4 g5 g6 g7 g8 => exact g7
     exact fresh σ rfl hM (growRun (by omega))
   · by_cases hroom : es.length + fs.length ≤ c
     · obtain ⟨g, hg, rfl, hcapz⟩ : ∃ g, ι[i]? = some g ∧ a = some ⟨g, 0, none⟩ ∧ c * (k + 1) ≤ cellsz w g := by
        cases hvx with
        | nils a c tok g1 g2 =>
         rcases htok with htok | ⟨htok, _⟩
         · rcases g2 with g2 | ⟨g2, _⟩ <;> rw [htok] at g2 <;> cases g2
         · rcases g2 with g2 | ⟨g2, _⟩ <;> rw [htok] at g2 <;> cases g2
        | frs t' k' c b g1 g2 g3 =>
         rcases htok with htok | ⟨htok, _⟩
         · cases htok
         · cases htok; exact ⟨b, g1, rfl, g2⟩
        | sl b q n c k' es tok U g1 g2 g3 g4 g5 g6 g7 g8 =>
         have htok : tok = .own i := by
          rcases htok with htok | ⟨_, htok⟩
          · exact htok
          · simp [htok] at g2
         subst htok
         have hk' : k' = k + 1 := by
          cases es with
          | nil => simp at g2
          | cons e0 es => have := g5 0 e0 rfl; simp at he; omega
         subst hk'
         exact g7
       obtain ⟨cur, hheap, hmc, hnz⟩ := hM.obj i _ g hσ hg
       have hcs : cellsz w g = cur.size := by unfold cellsz; rw [hheap]
       have hle : (es.length + fs.length) * (k + 1) ≤ c * (k + 1) := Nat.mul_le_mul_right _ hroom
       have hfit : es.length * ie'.size + vs.length ≤ cur.size := by rw [hvl, hks, ← Nat.add_mul]; omega
       have hrun := hexec _ _ (run_append_room (P := P) w t o.type e ie' ht hie g es.length c cur hheap ⟨b2, o2, none⟩ fs.length c2 vs hvl' hnews hvs.oneCell hroom hfit)
       have hold : cur.toList.take (es.length * (k + 1)) = us := by
        apply List.ext_getElem?
        intro j
        rw [List.getElem?_take]
        split
        · rename_i hj
          have hju : j < us.length := by rw [hul]; exact hj
          obtain ⟨b, o', h1, h2, _⟩ := huc j _ (List.getElem?_eq_getElem hju)
          cases h1
          rw [List.getElem?_eq_getElem hju, ← h2, Nat.zero_add]
          simp [World.cell?, hheap]
        · rename_i hj
          rw [List.getElem?_eq_none (by rw [hul]; omega)]
       rw [hks] at hrun hfit
       have hdl : (cur.toList.take (es.length * (k + 1)) ++ vs ++ cur.toList.drop (es.length * (k + 1) + vs.length)).toArray.size = cur.size := by
        simp only [List.size_toArray, List.length_append, List.length_take, List.length_drop, Array.length_toList]
        omega
       have hm' : (es.length + fs.length) * (k + 1) ≤ cur.size := by omega
       obtain ⟨e1, m1⟩ := hM.grow (m' := (es.length + fs.length) * (k + 1)) (c := (cur.toList.take (es.length * (k + 1)) ++ vs ++ cur.toList.drop (es.length * (k + 1) + vs.length)).toArray) hσ hg hheap hdl (by rw [hdl]; exact hm')
        (by rw [Nat.add_mul]; omega) (fun j hj => by
         have hj' : j < cur.size := by omega
         rw [List.getElem?_toArray, List.append_assoc, List.getElem?_append_left (by simp; omega), List.getElem?_take, if_pos hj]
         simp)
       refine ⟨_, _, _, _, hrun, e1, m1, ?_⟩
       refine res g c _ _ _ _ e1 (by rw [← hM.len]; simp) (setRow_heap w g cur _ e _ hheap) ?_ (fun j hj => ?_) hroom (by rw [hdl, ← hcs]; exact hcapz) ?_
       · rw [hold, ← htot]
         exact List.take_left
       · rcases Nat.lt_or_ge j (es.length * (k + 1)) with h | h
         · obtain ⟨b, o', h1, _, h3⟩ := huc j _ (List.getElem?_eq_getElem (by rw [hul]; exact h))
           cases h1
           rw [Nat.zero_add] at h3
           exact .inl h3
         · exact .inr ⟨rfl, hj, h⟩
       · cases hvx with
         | sl b q n c k' es tok U g1 g2 g3 g4 g5 g6 g7 g8 => exact g4
         | frs t' k' c b g1 g2 g3 => exact g3
         | nils a c tok g1 g2 =>
          rcases htok with htok | ⟨htok, _⟩
          · rcases g2 with g2 | ⟨g2, _⟩ <;> rw [htok] at g2 <;> cases g2
          · rcases g2 with g2 | ⟨g2, _⟩ <;> rw [htok] at g2 <;> cases g2
     · exact fresh (σ.set i .dead) (by simp) (hM.kill i) (growRun (by omega))
theorem step_enter (hρ : ∀ x d, ρ x = some d → VR ι Z w d (r x)) {o : Oper} {f : Operand} {args : Array Operand} {ts : Array TypeId} {g : FuncId} {first cap l : List AV} (ho : o.op = .call { callee := .value f, args := args, argTypes := ts }) (hf : ρ f = some (.fn (.func g) first cap)) (hl : omap ρ args.toList = some l) :
    StepR P ι Z w r o (.enter g (first ++ l ++ cap)) := by
 have h1 := hρ f _ hf
 have h2 := arr_rel hρ hl
 generalize hrf : r f = u at h1
 cases h1 with
 | fn _ _ _ fs cs g1 g2 g3 g4 =>
  refine ⟨fs ++ args.map r ++ cs, ?_, by simp [g1, g2, h2.1], ?_⟩
  · unfold execOp
    rw [ho]
    simp [resolve, Deferred.ofValue, hrf, invoke]
  · have app : ∀ {a b : List AV} {x y : Array Value}, a.length = x.size → (∀ (i : Nat) (d : AV) (u : Value), a[i]? = some d → x[i]? = some u → VR ι Z w d u) → (∀ (i : Nat) (d : AV) (u : Value), b[i]? = some d → y[i]? = some u → VR ι Z w d u) →
        ∀ (i : Nat) (d : AV) (u : Value), (a ++ b)[i]? = some d → (x ++ y)[i]? = some u → VR ι Z w d u := by
     intro a b x y hl ha hb i d u hd hu
     rcases Nat.lt_or_ge i a.length with h | h
     · rw [List.getElem?_append_left h] at hd
       rw [Array.getElem?_append_left (by omega)] at hu
       exact ha i d u hd hu
     · rw [List.getElem?_append_right h] at hd
       rw [Array.getElem?_append_right (by omega), ← hl] at hu
       exact hb _ d u hd hu
    exact app (by simp [g1, h2.1]) (app g1 g3 h2.2) g4
theorem step_panic (hρ : ∀ x d, ρ x = some d → VR ι Z w d (r x)) {o : Oper} {x : Operand} {t : TypeId} {v : AV} (ho : o.op = .panic x) (hx : ρ x = some (.ifc t v)) : StepR P ι Z w r o (.pan (.ifc t v)) := by
 have h1 := hρ x _ hx
 refine ⟨r x, ?_, h1⟩
 unfold execOp
 rw [ho]
 dsimp only
 generalize r x = u at h1 ⊢
 cases h1
 rfl
end
end
end Go.Proofs.YtmmgjaheffbpaaaGreatDoor
