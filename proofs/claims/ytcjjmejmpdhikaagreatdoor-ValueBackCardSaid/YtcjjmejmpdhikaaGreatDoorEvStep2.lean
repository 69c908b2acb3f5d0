/-
  EV: THE STEP, further: slices of slices, literal slices, variables, append, calls.
-/
import Derived.Test.YtcjjmejmpdhikaaGreatDoorEvStep
import Derived.Laws.Strings2
namespace Go.Proofs.YtcjjmejmpdhikaaGreatDoor
set_option linter.unusedSimpArgs false
set_option linter.unusedVariables false
open Go.RowKit

section
variable {P : Program} {ι : List Nat} {Z : Nat → Nat → Prop} {w : World} {r : Operand → Value} {ρ : Operand → Option AV} {σ : Sto}

def boundA (ρ : Operand → Option AV) (d : Int) : Option Operand → Option Int
  | none => some d
  | some y => (ρ y).bind litInt

theorem asl_at {id off m k : Nat} {u : Value} (h : VR ι Z w (.asl id off m k) u) : ∃ b c, u = .slice (some ⟨b, off, none⟩) m c ∧ ι[id]? = some b ∧ m ≤ c ∧ c ≤ maxLen ∧ off + c * k ≤ cellsz w b := by
  cases h with
  | asl _ _ _ _ c b h1 h2 h3 h4 => exact ⟨b, c, rfl, h1, h2, h3, h4⟩

theorem pure_lenA (hρ : ∀ x d, ρ x = some d → VR ι Z w d (r x)) {o : Oper} {x : Operand} {t e id off m k : Nat} (ho : o.op = .call { callee := .builtin .len, args := #[x], argTypes := #[t] }) (ht : P.underlying t = some (.slice e)) (hx : ρ x = some (.asl id off m k)) :
    PureR P ι Z w r o (.lit (.int .i64 m)) := by
  obtain ⟨b, c, hu, _⟩ := asl_at (hρ x _ hx)
  refine ⟨.int .i64 m, ?_, .lit _ rfl⟩
  unfold execOp
  rw [ho]
  simp [resolve, invoke, builtin, Builtin.len_, run_underlying ht, hu, goInt]

theorem pure_indexAddrA (hρ : ∀ x d, ρ x = some d → VR ι Z w d (r x)) {o : Oper} {x i : Operand} {t e k id off m : Nat} {di : AV} {n : Int} (ho : o.op = .indexAddr t x i) (ht : P.underlying t = some (.slice e)) (hx : ρ x = some (.asl id off m (k + 1)))
    (hi : ρ i = some di) (hn : litInt di = some n) (hk : szOf P e = some (k + 1)) (h0 : 0 ≤ n) (hl : n < m) : PureR P ι Z w r o (.ptr id (off + n.toNat * (k + 1))) := by
  obtain ⟨ki, hri⟩ := litInt_rel (hρ i _ hi) hn
  obtain ⟨b, c, hu, hb, _⟩ := asl_at (hρ x _ hx)
  refine ⟨.pointer (some ⟨b, off + n.toNat * (k + 1), none⟩), ?_, .ptr id _ b hb⟩
  unfold execOp
  rw [ho]
  refine run_v ?_
  simp [Instr.indexAt, run_underlying ht, hu, hri, asIntOf, h0, hl, run_szOf hk, Addr.add_lit]

theorem pure_sliceA (hρ : ∀ x d, ρ x = some d → VR ι Z w d (r x)) {o : Oper} {x : Operand} {lo hi : Option Operand} {t e k id off m : Nat} {l h : Int} (ho : o.op = .slice t x lo hi none) (ht : P.underlying t = some (.slice e)) (hx : ρ x = some (.asl id off m (k + 1)))
    (hk : szOf P e = some (k + 1)) (hlo : boundA ρ 0 lo = some l) (hhi : boundA ρ m hi = some h) (h0 : 0 ≤ l) (h1 : l ≤ h) (h2 : h ≤ m) (hl0 : l = 0 ∨ l < m) :
    PureR P ι Z w r o (.asl id (off + l.toNat * (k + 1)) (h.toNat - l.toNat) (k + 1)) := by
  have hv := hρ x _ hx
  obtain ⟨b, c, hu, hb0, hc, hmx, hcz⟩ := asl_at hv
  have hc' := hc
  have hrun : (execOp r o).run P w = .ok (.value (.slice (if c = l.toNat then some ⟨b, off, none⟩ else (some (⟨b, off, none⟩ : Addr)).map (·.add (l.toNat * (k + 1)))) (h.toNat - l.toNat) (c - l.toNat))) w := by
    unfold execOp
    rw [ho]
    refine run_v ?_
    have hb : (Instr.sliceBounds true m c (lo.map r) (hi.map r) none).run P w = .ok (l.toNat, h.toNat, c) w := by
      have eh : (match hi.map r, (none : Option Value) with
        | some v, some _ => Instr.sliceBound v c .slice3B
        | some v, none => Instr.sliceBound v c .sliceAcap
        | none, none => pure m
        | none, some _ => stuck "Slice: max without high").run P w = .ok h.toNat w := by
        cases hi with
        | none => simp [boundA] at hhi; subst hhi; simp
        | some y =>
          simp only [boundA, Option.bind_eq_some_iff] at hhi
          obtain ⟨d, hd1, hd2⟩ := hhi
          obtain ⟨ki, hki⟩ := litInt_rel (hρ y d hd1) hd2
          simp [hki, Instr.sliceBound, asIntOf, show 0 ≤ h by omega, show h ≤ c by omega]
      have el : (match lo.map r with
        | some v => Instr.sliceBound v h.toNat .sliceB
        | none => pure 0 : Sem Nat).run P w = .ok l.toNat w := by
        cases lo with
        | none => simp [boundA] at hlo; subst hlo; simp
        | some y =>
          simp only [boundA, Option.bind_eq_some_iff] at hlo
          obtain ⟨d, hd1, hd2⟩ := hlo
          obtain ⟨ki, hki⟩ := litInt_rel (hρ y d hd1) hd2
          simp [hki, Instr.sliceBound, asIntOf, h0, show l ≤ max h 0 by omega]
      unfold Instr.sliceBounds
      cases hi <;> cases lo <;> simp_all
    simp only [Instr.sliceAt, Sem.run_bind, run_underlying ht, Result.andThen_ok, Instr.slice, hu, Option.map_none, hb, run_szOf hk]
    rfl
  refine ⟨_, hrun, ?_⟩
  have e3 : (if c = l.toNat then some (⟨b, off, none⟩ : Addr) else (some (⟨b, off, none⟩ : Addr)).map (·.add (l.toNat * (k + 1)))) = some ⟨b, off + l.toNat * (k + 1), none⟩ := by
    split
    · rename_i e
      have : l = 0 := by omega
      subst this
      simp
    · simp [Addr.add_lit]
  rw [e3]
  refine .asl id _ _ _ _ b hb0 (by omega) (by omega) ?_
  have : l.toNat * (k + 1) + (c - l.toNat) * (k + 1) = c * (k + 1) := by rw [← Nat.add_mul]; congr 1; omega
  omega

theorem pure_sliceStr (hρ : ∀ x d, ρ x = some d → VR ι Z w d (r x)) {o : Oper} {x : Operand} {lo hi : Option Operand} {t : Nat} {s : ByteArray} {l h : Int} (ho : o.op = .slice t x lo hi none) (ht : P.underlying t = some .string) (hx : ρ x = some (.lit (.string s)))
    (hlo : boundA ρ 0 lo = some l) (hhi : boundA ρ s.size hi = some h) (h0 : 0 ≤ l) (h1 : l ≤ h) (h2 : h ≤ s.size) :
    PureR P ι Z w r o (.lit (.string (s.extract l.toNat h.toNat))) := by
  have hu : r x = .string s := by have hv := hρ x _ hx; generalize r x = u at hv; cases hv; rfl
  refine ⟨.string (s.extract l.toNat h.toNat), ?_, .lit _ rfl⟩
  unfold execOp
  rw [ho]
  refine run_v ?_
  rw [run_sliceAt_string _ _ _ _ _ _ ht]
  rw [hu]
  cases lo with
  | none =>
    simp [boundA] at hlo; subst hlo
    cases hi with
    | none => simp [boundA] at hhi; subst hhi; simpa using run_slice_string_all w t s ht
    | some y =>
      simp only [boundA, Option.bind_eq_some_iff] at hhi
      obtain ⟨d, hd1, hd2⟩ := hhi
      obtain ⟨ki, hki⟩ := litInt_rel (hρ y d hd1) hd2
      simp only [Option.map_none, Option.map_some, hki]
      exact run_slice_string_h w t s ht ki h h1 h2
  | some z =>
    simp only [boundA, Option.bind_eq_some_iff] at hlo
    obtain ⟨d, hd1, hd2⟩ := hlo
    obtain ⟨ki, hki⟩ := litInt_rel (hρ z d hd1) hd2
    cases hi with
    | none =>
      simp [boundA] at hhi; subst hhi
      simp only [Option.map_none, Option.map_some, hki]
      have := run_slice_string_l w t s ht ki l h0 h1
      simpa using this
    | some y =>
      simp only [boundA, Option.bind_eq_some_iff] at hhi
      obtain ⟨d', hd1', hd2'⟩ := hhi
      obtain ⟨kj, hkj⟩ := litInt_rel (hρ y d' hd1') hd2'
      simp only [Option.map_none, Option.map_some, hki, hkj]
      exact run_slice_string w t s ki kj l h ht h0 h1 h2

theorem pure_slice (hρ : ∀ x d, ρ x = some d → VR ι Z w d (r x)) {o : Oper} {x : Operand} {lo hi : Option Operand} {t e k : Nat} {es : List (List AV)} {tok : Tok} {l h : Int} (ho : o.op = .slice t x lo hi none) (ht : P.underlying t = some (.slice e)) (hx : ρ x = some (.sl es tok))
    (hk : szOf P e = some (k + 1)) (hlo : boundA ρ 0 lo = some l) (hhi : boundA ρ es.length hi = some h) (h0 : 0 ≤ l) (h1 : l ≤ h) (h2 : h ≤ es.length) (hh : es.head?.all (·.length == k + 1) = true) :
    PureR P ι Z w r o (.sl ((es.take h.toNat).drop l.toNat) (sliceTok tok h l es.length)) := by
  have hv := hρ x _ hx
  obtain ⟨a, c, hu, hc, ha⟩ := sl_row hv
  have hrun : (execOp r o).run P w = .ok (.value (.slice (if c = l.toNat then a else a.map (·.add (l.toNat * (k + 1)))) (h.toNat - l.toNat) (c - l.toNat))) w := by
    unfold execOp
    rw [ho]
    refine run_v ?_
    have hb : (Instr.sliceBounds true es.length c (lo.map r) (hi.map r) none).run P w = .ok (l.toNat, h.toNat, c) w := by
      have eh : (match hi.map r, (none : Option Value) with
        | some v, some _ => Instr.sliceBound v c .slice3B
        | some v, none => Instr.sliceBound v c .sliceAcap
        | none, none => pure es.length
        | none, some _ => stuck "Slice: max without high").run P w = .ok h.toNat w := by
        cases hi with
        | none => simp [boundA] at hhi; subst hhi; simp
        | some y =>
          simp only [boundA, Option.bind_eq_some_iff] at hhi
          obtain ⟨d, hd1, hd2⟩ := hhi
          obtain ⟨ki, hki⟩ := litInt_rel (hρ y d hd1) hd2
          simp [hki, Instr.sliceBound, asIntOf, show 0 ≤ h by omega, show h ≤ c by omega]
      have el : (match lo.map r with
        | some v => Instr.sliceBound v h.toNat .sliceB
        | none => pure 0 : Sem Nat).run P w = .ok l.toNat w := by
        cases lo with
        | none => simp [boundA] at hlo; subst hlo; simp
        | some y =>
          simp only [boundA, Option.bind_eq_some_iff] at hlo
          obtain ⟨d, hd1, hd2⟩ := hlo
          obtain ⟨ki, hki⟩ := litInt_rel (hρ y d hd1) hd2
          simp [hki, Instr.sliceBound, asIntOf, h0, show l ≤ max h 0 by omega]
      unfold Instr.sliceBounds
      cases hi <;> cases lo <;> simp_all
    simp only [Instr.sliceAt, Sem.run_bind, run_underlying ht, Result.andThen_ok, Instr.slice, hu, Option.map_none, hb, run_szOf hk]
    rfl
  refine ⟨_, hrun, ?_⟩
  generalize r x = u at hv hu
  subst hu
  cases hv with
  | nils a c tok h3 h4 =>
    have e1 : h = 0 := by simp at h2; omega
    have e2 : l = 0 := by omega
    subst e1; subst e2
    have e3 : (if c = (0 : Int).toNat then a else a.map (·.add ((0 : Int).toNat * (k + 1)))) = a := by
      split
      · rfl
      · cases a with
        | none => rfl
        | some a => simp [Addr.add]
    rw [e3]
    refine .nils a _ _ h3 ?_
    rcases h4 with rfl | ⟨rfl, rfl⟩
    · exact .inl rfl
    · exact .inr ⟨by simp [sliceTok], by simp⟩
  | frs t' k' c b h3 h4 h5 =>
    have e1 : h = 0 := by simp at h2; omega
    have e2 : l = 0 := by omega
    subst e1; subst e2
    have e3 : (if c = (0 : Int).toNat then (some ⟨b, 0, none⟩ : Option Addr) else (some ⟨b, 0, none⟩ : Option Addr).map (·.add ((0 : Int).toNat * (k + 1)))) = some ⟨b, 0, none⟩ := by
      split
      · rfl
      · simp [Addr.add]
    rw [e3]
    exact .nils _ _ _ (fun h => by cases h) (.inl rfl)
  | sl b q n c k' es tok U g1 g2 g3 g4 g5 g6 g7 g8 =>
    have hk' : k' = k + 1 := by
      cases es with
      | nil => simp at g2
      | cons e0 es => have := g5 0 e0 rfl; simp at hh; omega
    subst hk'
    by_cases hlh : l = h
    · subst hlh
      have e1 : (es.take l.toNat).drop l.toNat = [] := by simp
      rw [e1, Nat.sub_self]
      refine .nils _ _ _ (fun e => ?_) ?_
      · split at e
        · omega
        · simp at e
      · cases tok with
        | no => exact .inl rfl
        | fresh t k => exact .inl rfl
        | full =>
          simp only [sliceTok]
          split
          · exact .inr ⟨rfl, by have g7' : c = es.length := g7; omega⟩
          · exact .inl rfl
        | own t =>
          simp only [sliceTok]
          rw [if_neg (by omega)]
          exact .inl rfl
    · have hcl : ¬ c = l.toNat := by omega
      rw [if_neg hcl]
      simp only [Option.map_some, Addr.add_lit]
      have hget : ∀ (i : Nat) (e : List AV), ((es.take h.toNat).drop l.toNat)[i]? = some e → es[l.toNat + i]? = some e := by
        intro i e hi
        rw [List.getElem?_drop, List.getElem?_take] at hi
        split at hi
        · exact hi
        · cases hi
      have hoff : ∀ i j : Nat, q + l.toNat * (k + 1) + i * (k + 1) + j = q + (l.toNat + i) * (k + 1) + j := by intro i j; rw [Nat.add_mul]; omega
      refine .sl b (q + l.toNat * (k + 1)) _ _ (k + 1) _ _ (fun i j => U (l.toNat + i) j) (by simp; omega) (by omega) (by omega) (by omega) (fun i e hi => g5 _ e (hget i e hi)) (fun i j e d hi hj => ?_) ?_ (fun i j e d hi hj => g8 _ j e d (hget i e hi) hj)
      · have := g6 _ j e d (hget i e hi) hj
        rw [hoff]; exact this
      · cases tok with
        | no => trivial
        | fresh t k => trivial
        | full =>
          simp only [sliceTok]
          split
          · have g7' : c = es.length := g7
            show c - l.toNat = h.toNat - l.toNat
            omega
          · trivial
        | own t =>
          simp only [sliceTok]
          split
          · rename_i hc2
            obtain ⟨b', hb', hb2, hb3⟩ := g7
            have e0 : l.toNat = 0 := by omega
            rw [e0, Nat.zero_mul, Nat.add_zero]
            exact ⟨b', hb', hb2, by simpa using hb3⟩
          · trivial

theorem chunks_get (k : Nat) : ∀ (n : Nat) (cs : List AV) (i : Nat) (e : List AV), (chunks k n cs)[i]? = some e → i < n ∧ e = (cs.drop (i * k)).take k
  | 0, cs, i, e, h => by simp [chunks] at h
  | n + 1, cs, 0, e, h => by simp [chunks] at h; exact ⟨by omega, by simp [h]⟩
  | n + 1, cs, i + 1, e, h => by
    rw [chunks, List.getElem?_cons_succ] at h
    obtain ⟨h1, h2⟩ := chunks_get k n _ i e h
    refine ⟨by omega, ?_⟩
    rw [h2, List.drop_drop]
    congr 2
    rw [Nat.succ_mul]; omega
theorem chunks_length (k : Nat) : ∀ (n : Nat) (cs : List AV), (chunks k n cs).length = n
  | 0, _ => rfl
  | n + 1, cs => by simp [chunks, chunks_length k n]

theorem replicate_get {α : Type} (l : List α) : ∀ (n j : Nat), j < n * l.length → (List.replicate n l).flatten[j]? = l[j % l.length]?
  | 0, j, h => by simp at h
  | n + 1, j, h => by
    rw [List.replicate_succ, List.flatten_cons]
    rcases Nat.lt_or_ge j l.length with hl | hl
    · rw [List.getElem?_append_left hl, Nat.mod_eq_of_lt hl]
    · rw [List.getElem?_append_right hl, replicate_get l n (j - l.length) (by rw [Nat.succ_mul] at h; omega), Nat.mod_eq_sub_mod hl]

theorem fillA_length {place : Nat → Option (Nat × Nat)} : ∀ {l : List (Nat × AV)} {cs out : List AV}, fillA place cs l = some out → out.length = cs.length
  | [], cs, out, h => by simp [fillA] at h; subst h; rfl
  | (i, d) :: l, cs, out, h => by
    rw [fillA] at h
    split at h
    · cases h
    · split at h
      · cases h
      · rw [fillA_length h, putCells_length]

/-- a literal slice -/
theorem step_buildSlice (hρ : ∀ x d, ρ x = some d → VR ι Z w d (r x)) (hM : Match σ ι Z w) {o : Oper} {t e k len : Nat} {ps : Array (Nat × Operand)} {l : List (Nat × AV)} {z : Value} {d : AV} {cs : List AV} (ho : o.op = .buildSlice t len ps) (ht : P.underlying t = some (.slice e)) (hl : parts? ρ ps = some l)
    (hk : szOf P e = some (k + 1)) (hz : (P.info? e).bind (·.zero) = some z) (hd : abs2 z = some d) (hs : len * (k + 1) ≤ 2 ^ 24) (hdl : d.cells.length = k + 1) (hdt : d.notTup = true)
    (hf : fillA (fun i => some (i * (k + 1), k + 1)) (List.replicate len d.cells).flatten l = some cs) : StepR P ι Z w r o (.val (.sl (chunks (k + 1) len cs) .full) σ .pure) := by
  have h1 := parts_rel hρ hl
  have h2 := (abs2_rel (ι := ι) (Z := Z) (w := w) hd).2.cells hdt
  rw [Option.bind_eq_some_iff] at hz
  obtain ⟨ie, hie, hz⟩ := hz
  obtain ⟨ie', hie', hks⟩ := szOf_info hk
  have : ie' = ie := by rw [hie] at hie'; exact (Option.some.inj hie').symm
  subst this
  have hzl : z.cells.size = k + 1 := by rw [← hdl]; simpa using h2.1.symm
  have hbase : CR ι Z w (List.replicate len d.cells).flatten ((Array.range (len * (k + 1))).map (z.cells[· % z.cells.size]!)).toList := by
    refine ⟨by simp [hdl], fun j x y hx hy => ?_⟩
    have hj : j < len * (k + 1) := by have := (List.getElem?_eq_some_iff.1 hx).1; simpa [hdl] using this
    rw [replicate_get _ _ _ (by rw [hdl]; exact hj), hdl] at hx
    have hm : j % (k + 1) < k + 1 := Nat.mod_lt _ (by omega)
    have hy' : y = z.cells[j % (k + 1)]! := by
      rw [Array.toList_map, List.getElem?_map] at hy
      simp [hj, hzl] at hy
      exact hy.symm
    refine h2.2 (j % (k + 1)) x y hx ?_
    rw [hy', Array.getElem?_toList, Array.getElem?_eq_getElem (by omega), getElem!_pos z.cells (j % (k + 1)) (by omega)]
  obtain ⟨out, h3, h4⟩ := fill_rel h1.1 h1.2 hbase hf
  have hcl : cs.length = len * (k + 1) := by rw [fillA_length hf]; simp [hdl]
  have hol : out.size = len * (k + 1) := by rw [← hcl]; simpa using h4.1.symm
  obtain ⟨e1, m1⟩ := hM.newFrozen out e
  rcases Nat.eq_zero_or_pos len with h0 | h0
  · subst h0
    refine ⟨.slice (some ⟨w.heap.size, 0, none⟩) 0 0, _, _, _, ?_, e1, m1, ?_⟩
    · unfold execOp
      rw [ho]
      refine run_v ?_
      have hr0 : Array.range 0 = #[] := rfl
      have h3' := h3
      simp [hr0] at h3'
      simp only [Instr.buildSlice, Sem.run_bind, run_underlying ht, Result.andThen_ok, run_szOf hk, Nat.zero_mul]
      simp [hr0, h3', newRow]
    · exact .nils _ 0 .full (fun _ => rfl) (.inr ⟨rfl, rfl⟩)
  · refine ⟨.slice (some ⟨w.heap.size, 0, none⟩) len len, _, _, _, ?_, e1, m1, ?_⟩
    · unfold execOp
      rw [ho]
      have hpos : 0 < len * (k + 1) := Nat.mul_pos h0 (by omega)
      exact run_v (run_buildSlice w t e len _ out ie' z ht hie hz (by rw [hks]; omega) (by rw [hks]; omega) (by rw [hks]; exact h3))
    · have hrow : ∀ (i j : Nat) (x : List AV) (y : AV), (chunks (k + 1) len cs)[i]? = some x → x[j]? = some y → i < len ∧ j < k + 1 ∧ cs[i * (k + 1) + j]? = some y ∧ i * (k + 1) + j < out.size := by
        intro i j x y hx hy
        obtain ⟨a1, rfl⟩ := chunks_get _ _ _ _ _ hx
        rw [List.getElem?_take] at hy
        split at hy
        · rename_i hj
          rw [List.getElem?_drop] at hy
          refine ⟨a1, hj, hy, ?_⟩
          have := (List.getElem?_eq_some_iff.1 hy).1
          omega
        · cases hy
      refine .sl w.heap.size 0 len len (k + 1) _ .full (fun i j => out[i * (k + 1) + j]!) (chunks_length _ _ _) h0 (Nat.le_refl _) ?_ (fun i x hx => ?_) (fun i j x y hx hy => ?_) rfl (fun i j x y hx hy => ?_)
      · have : len ≤ len * (k + 1) := Nat.le_mul_of_pos_right _ (by omega)
        have h24 : (2 : Nat) ^ 24 ≤ maxLen := by decide
        omega
      · obtain ⟨a1, rfl⟩ := chunks_get _ _ _ _ _ hx
        have : (i + 1) * (k + 1) ≤ len * (k + 1) := Nat.mul_le_mul_right _ a1
        rw [Nat.succ_mul] at this
        simp; omega
      · obtain ⟨a1, a2, a3, a4⟩ := hrow i j x y hx hy
        refine ⟨(h4.2 _ y _ a3 (by rw [Array.getElem?_toList, Array.getElem?_eq_getElem a4])).1, .inr ⟨rfl, by omega⟩, ?_⟩
        rw [Nat.zero_add, World.cell?_alloc_new, getElem!_pos out _ a4]
        exact Array.getElem?_eq_getElem a4
      · obtain ⟨a1, a2, a3, a4⟩ := hrow i j x y hx hy
        rw [getElem!_pos out _ a4]
        exact (h4.2 _ y _ a3 (by rw [Array.getElem?_toList, Array.getElem?_eq_getElem a4])).2.evo e1

end
end Go.Proofs.YtcjjmejmpdhikaaGreatDoor
