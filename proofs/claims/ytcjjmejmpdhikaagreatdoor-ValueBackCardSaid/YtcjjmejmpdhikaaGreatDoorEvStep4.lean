/-
  EV: THE STEP: all operations.
-/
import Derived.Test.YtcjjmejmpdhikaaGreatDoorEvStepM
import Derived.Laws.IdiomStrings
namespace Go.Proofs.YtcjjmejmpdhikaaGreatDoor
set_option linter.unusedSimpArgs false
set_option linter.unusedVariables false
open Go.RowKit

section
variable {P : Program} {ι : List Nat} {Z : Nat → Nat → Prop} {w : World} {r : Operand → Value} {ρ : Operand → Option AV} {σ : Sto}

theorem call_is {c : Call} {q : Callee} {xs : List Operand} {ts : List TypeId} (h1 : c.callee = q) (h2 : c.args.toList = xs) (h3 : c.argTypes.toList = ts) : Op.call c = .call { callee := q, args := xs.toArray, argTypes := ts.toArray } := by
  cases c; simp_all
  subst h2; subst h3; simp

theorem PureR.step (hM : Match σ ι Z w) {o : Oper} {d : AV} {acc : Acc} (h : PureR P ι Z w r o d) : StepR P ι Z w r o (.val d σ acc) := by
  obtain ⟨u, h1, h2⟩ := h
  exact ⟨u, w, ι, Z, h1, .refl _ _ _, hM, h2⟩

set_option maxHeartbeats 1000000 in
theorem bytesAV_len : ∀ {cs : List AV} {l : List UInt8}, bytesAV cs = some l → l.length = cs.length
  | [], l, h => by cases h; rfl
  | d :: cs, l, h => by
    unfold bytesAV at h
    split at h
    · rename_i he; cases he
    · rename_i x l' he
      cases he
      split at h
      · rw [Option.map_eq_some_iff] at h
        obtain ⟨m, h1, rfl⟩ := h
        simp [bytesAV_len h1]
      · cases h
    · cases h
theorem bytesAV_get : ∀ {cs : List AV} {l : List UInt8}, bytesAV cs = some l → ∀ (j : Nat) (x : UInt8), l[j]? = some x → cs[j]? = some (.lit (.int .u8 x.toNat))
  | [], l, h, j, x, hx => by cases h; simp at hx
  | d :: cs, l, h, j, x, hx => by
    unfold bytesAV at h
    split at h
    · rename_i he; cases he
    · rename_i y l' he
      cases he
      split at h
      · rename_i hy
        rw [Option.map_eq_some_iff] at h
        obtain ⟨m, h1, rfl⟩ := h
        cases j with
        | zero =>
          simp at hx; subst hx
          have : ((UInt8.ofNat y.toNat).toNat : Int) = y := by
            rw [show (UInt8.ofNat y.toNat).toNat = y.toNat % 256 from rfl]; omega
          rw [List.getElem?_cons_zero, this]
        | succ j => simpa using bytesAV_get h1 j x (by simpa using hx)
      · cases h
    · cases h

theorem pure_convInt (hρ : ∀ x d, ρ x = some d → VR ι Z w d (r x)) {o : Oper} {t u : TypeId} {x : Operand} {d : TypeDesc} {k k0 : IntKind} {n : Int} (ho : o.op = .convert t u x) (ht : P.underlying t = some d) (hu : P.underlying u = some (.int k)) (hx : ρ x = some (.lit (.int k0 n))) : PureR P ι Z w r o (.lit (.int k (k.wrap n))) := by
  have e1 := conc_eq (v := .int k0 n) (hρ x _ hx) rfl
  refine ⟨.int k (k.wrap n), ?_, .lit _ rfl⟩
  unfold execOp
  rw [ho]
  refine run_v ?_
  rw [e1]
  simp [convert, run_underlying ht, run_underlying hu, Conv.intToInt]

theorem pure_convBytes (hρ : ∀ x d, ρ x = some d → VR ι Z w d (r x)) {o : Oper} {t u e : TypeId} {x : Operand} {es : List (List AV)} {tok : Tok} {l : List UInt8} (ho : o.op = .convert t u x) (ht : P.underlying t = some (.slice e)) (hu : P.underlying u = some .string) (he : P.underlying e = some (.int .u8)) (hx : ρ x = some (.sl es tok)) (hl : bytesAV es.flatten = some l) (hn : es.length = l.length) (h0 : 0 < es.length) (hh : es.head?.all (·.length == 1) = true) : PureR P ι Z w r o (.lit (.string ⟨l.toArray⟩)) := by
  have hv := hρ x _ hx
  obtain ⟨a, c, hu', hc, ha⟩ := sl_row hv
  generalize hq : r x = q at hv hu'
  subst hu'
  obtain ⟨h1, h2, h3, us, h4, h5, h6⟩ := sl_cells hv hh
  have hus : us.length = es.length := by rw [h5, Nat.mul_one]
  obtain ⟨b, o', ha', _, _⟩ := h6 0 _ (List.getElem?_eq_getElem (by omega))
  subst ha'
  refine ⟨.string ⟨l.toArray⟩, ?_, .lit _ rfl⟩
  unfold execOp
  rw [ho]
  refine run_v ?_
  rw [hq, hn]
  refine run_convert_bytes_back w t u e ⟨b, o', none⟩ c l ht he hu fun j hj => ?_
  have hj2 : j < us.length := by omega
  obtain ⟨b', o2, e1, hcell, _⟩ := h6 j _ (List.getElem?_eq_getElem hj2)
  cases e1
  have hcs := bytesAV_get hl j _ (List.getElem?_eq_getElem hj)
  have := (h4.2 j _ _ hcs (List.getElem?_eq_getElem hj2)).2
  rw [Addr.add_lit, hcell]
  generalize us[j] = v at this
  cases this; rfl

theorem evPure_sound (hρ : ∀ x d, ρ x = some d → VR ι Z w d (r x)) (hM : Match σ ι Z w) {o : Oper} {d : AV} {acc : Acc} (h : evPure P ρ o = some d) : StepR P ι Z w r o (.val d σ acc) := by
  unfold evPure at h
  split at h
  · exact (pure_move hρ (.inl (by assumption)) h).step hM
  · exact (pure_move hρ (.inr (by assumption)) h).step hM
  · split at h
    · rename_i t ht
      exact (pure_pick hρ (by assumption) ht h).step hM
    · cases h
  · split at h
    · rename_i z fields l hz hu hl
      split at h
      · rename_i d0 places hd hp
        split at h
        · rename_i ht
          rw [Option.map_eq_some_iff] at h
          obtain ⟨cs, h1, rfl⟩ := h
          exact (pure_build hρ (by assumption) hz hu hl hd hp ht h1).step hM
        · cases h
      · cases h
    · cases h
  · split at h
    · rename_i i q hx; cases h; exact (pure_nilCheck hρ (by assumption) hx (.inl ⟨_, _, rfl⟩)).step hM
    · rename_i i q hx; cases h; exact (pure_nilCheck hρ (by assumption) hx (.inr (.inl ⟨_, _, rfl⟩))).step hM
    · rename_i f a b hx; cases h; exact (pure_nilCheck hρ (by assumption) hx (.inr (.inr ⟨_, _, _, rfl⟩))).step hM
    · cases h
  · split at h
    · cases h
    · rename_i td hn ht
      rw [Option.map_eq_some_iff] at h
      obtain ⟨d0, h1, rfl⟩ := h
      exact (pure_makeInterface hρ (by assumption) ht (fun m e => hn m e) h1).step hM
    · cases h
  · split at h
    · rename_i a b ha hb
      cases h
      exact (pure_makeFunc hρ (by assumption) ha hb).step hM
    · cases h
  · split at h
    · rename_i fields hs
      split at h
      · rename_i fd hf
        split at h
        · rename_i n hn
          split at h
          · rename_i i q hx; cases h; exact (pure_fieldAddr hρ (by assumption) hs hf hn hx (.inl ⟨_, _, rfl, rfl⟩)).step hM
          · rename_i i q hx; cases h; exact (pure_fieldAddr hρ (by assumption) hs hf hn hx (.inr ⟨_, _, rfl, rfl⟩)).step hM
          · cases h
        · cases h
      · cases h
    · cases h
  · split at h
    · rename_i fields ht
      split at h
      · rename_i fd cs hf hx
        exact (pure_field hρ (by assumption) ht hf hx h).step hM
      · cases h
    · cases h
  · split at h
    · rename_i e es tok n ht hx hi
      rw [Option.bind_eq_some_iff] at hi
      obtain ⟨di, hi1, hi2⟩ := hi
      split at h
      · rename_i k hk
        split at h
        · rename_i h0
          split at h
          · rename_i row hr
            split at h
            · rename_i hl
              cases h
              exact (pure_indexAddr hρ (by assumption) ht hx hi1 hi2 hk h0 hr hl).step hM
            · cases h
          · cases h
        · cases h
      · cases h
    · rename_i e id off m k n ht hx hi
      rw [Option.bind_eq_some_iff] at hi
      obtain ⟨di, hi1, hi2⟩ := hi
      split at h
      · rename_i k' hk
        split at h
        · rename_i hc
          obtain ⟨rfl, h0, h1⟩ := hc
          cases h
          exact (pure_indexAddrA hρ (by assumption) ht hx hi1 hi2 hk h0 h1).step hM
        · cases h
      · cases h
    · cases h
  · rename_i t x lo hi mx ho
    split at h
    · rename_i e id off m k ht hx
      split at h
      · rename_i k' l hh hk hlo hhi
        split at h
        · rename_i hc
          obtain ⟨rfl, h0, h1, h2, h3⟩ := hc
          cases h
          exact (pure_sliceA hρ ho ht hx hk (by unfold boundA; exact hlo) (by unfold boundA; exact hhi) h0 h1 h2 h3).step hM
        · cases h
      · cases h
    · rename_i e es tok ht hx
      split at h
      · rename_i k l hh hk hlo hhi
        split at h
        · rename_i hc
          obtain ⟨h0, h1, h2, h3⟩ := hc
          cases h
          exact (pure_slice hρ ho ht hx hk (by unfold boundA; exact hlo) (by unfold boundA; exact hhi) h0 h1 h2 h3).step hM
        · cases h
      · cases h
    · rename_i s ht hx
      split at h
      · rename_i l hh hlo hhi
        split at h
        · rename_i hc
          obtain ⟨h0, h1, h2⟩ := hc
          cases h
          exact (pure_sliceStr hρ ho ht hx (by unfold boundA; exact hlo) (by unfold boundA; exact hhi) h0 h1 h2).step hM
        · cases h
      · cases h
    · cases h
  · split at h
    · rename_i a b hx hy
      split at h
      · rename_i ht
        cases h
        exact (pure_binBool hρ ht (by assumption) hx hy (.inl ⟨rfl, rfl⟩)).step hM
      · rename_i ht
        cases h
        exact (pure_binBool hρ ht (by assumption) hx hy (.inr ⟨rfl, rfl⟩)).step hM
      · cases h
    · rename_i a b _ hx hy
      rw [Option.map_eq_some_iff] at h
      obtain ⟨c, h1, rfl⟩ := h
      exact (pure_binOp hρ (by assumption) hx hy h1).step hM
    · cases h
  · split at h
    · cases h
      exact (pure_not hρ (by assumption) (by assumption)).step hM
    · cases h
  · split at h
    · rename_i s n ht hx hi
      rw [Option.bind_eq_some_iff] at hi
      obtain ⟨di, hi1, hi2⟩ := hi
      split at h
      · rename_i h0
        rw [Option.map_eq_some_iff] at h
        obtain ⟨c, h1, rfl⟩ := h
        exact (pure_index hρ (by assumption) ht hx hi1 hi2 h0 h1).step hM
      · cases h
    · cases h
  · split at h
    · rename_i vs hx
      exact (pure_extract hρ (by assumption) hx h).step hM
    · cases h
  · rename_i c ho
    split at h
    · rename_i x t hc1 hc2 hc3
      split at h
      · rename_i e es tok ht hx
        cases h
        refine (pure_len (x := x) (t := t) hρ ?_ ht hx).step hM
        rw [ho]
        exact call_is hc1 hc2 hc3
      · rename_i e id off m k ht hx
        cases h
        refine (pure_lenA (x := x) (t := t) hρ ?_ ht hx).step hM
        rw [ho]
        exact call_is hc1 hc2 hc3
      · rename_i s ht hx
        cases h
        refine (pure_lenS (x := x) (t := t) hρ ?_ ht hx).step hM
        rw [ho]
        exact call_is hc1 hc2 hc3
      · cases h
    · cases h
  · split at h
    · rename_i row q hx
      exact (pure_load hρ (by assumption) hx h).step hM
    · cases h
  · split at h
    · rename_i e l ht hl
      split at h
      · rename_i k z hk hz
        split at h
        · rename_i d0 hd
          split at h
          · rename_i hc
            rw [Option.map_eq_some_iff] at h
            obtain ⟨cs, h1, rfl⟩ := h
            exact step_buildSlice hρ hM (by assumption) ht hl hk hz hd hc.1 hc.2.1 hc.2.2 h1
          · cases h
        · cases h
      · cases h
    · cases h
  · split at h
    · rename_i d0 k k0 n ht hu hx
      cases h
      exact (pure_convInt hρ (by assumption) ht hu hx).step hM
    · rename_i e es tok ht hu hx
      split at h
      · rename_i l he hl
        split at h
        · rename_i hc
          obtain ⟨h1, h2, h3⟩ := hc
          cases h
          exact (pure_convBytes hρ (by assumption) ht hu he hx hl h1 h2 h3).step hM
        · cases h
      · cases h
    · cases h
  · cases h

theorem VR.strip {d : AV} {u : Value} (h : VR ι Z w d u) : VR ι Z w d.strip u := by
  cases h with
  | nils a c tok h1 h2 => exact .nils a c .no h1 (.inl rfl)
  | frs t k c b h1 h2 h3 => exact .nils _ c .no (fun h => by cases h) (.inl rfl)
  | sl b o n c k es tok U h1 h2 h3 h4 h5 h6 h7 h8 => exact .sl b o n c k es .no U h1 h2 h3 h4 h5 h6 trivial h8
  | lit _ h => exact .lit _ h
  | ptr id off b h => exact .ptr id off b h
  | eptr row off b o U h h' => exact .eptr row off b o U h h'
  | asl id off n k c b h1 h2 h3 h4 => exact .asl id off n k c b h1 h2 h3 h4
  | fn f first cap fs cs h1 h2 h3 h4 => exact .fn f first cap fs cs h1 h2 h3 h4
  | ifc t d u h => exact .ifc t d u h
  | agg ds cs h1 h2 h3 => exact .agg ds cs h1 h2 h3
  | tup ds cs h1 h2 => exact .tup ds cs h1 h2
theorem AV.strip_one (d : AV) : d.strip.one = d.one := by cases d <;> rfl

theorem stripRows_get {es fs : List (List AV)} {i : Nat} {e : List AV} (h : (es ++ stripRows fs)[i]? = some e) : ∃ e', (es ++ fs)[i]? = some e' ∧ (e = e' ∨ e = e'.map AV.strip) := by
  rcases Nat.lt_or_ge i es.length with hl | hl
  · rw [List.getElem?_append_left hl] at h
    exact ⟨e, by rw [List.getElem?_append_left hl]; exact h, .inl rfl⟩
  · rw [List.getElem?_append_right hl] at h
    unfold stripRows at h
    rw [List.getElem?_map, Option.map_eq_some_iff] at h
    obtain ⟨e', h1, h2⟩ := h
    exact ⟨e', by rw [List.getElem?_append_right hl]; exact h1, .inr h2.symm⟩

theorem row_get {e e' : List AV} (h : e = e' ∨ e = e'.map AV.strip) {j : Nat} {d : AV} (hd : e[j]? = some d) : ∃ d', e'[j]? = some d' ∧ (d = d' ∨ d = d'.strip) := by
  rcases h with rfl | rfl
  · exact ⟨d, hd, .inl rfl⟩
  · rw [List.getElem?_map, Option.map_eq_some_iff] at hd
    obtain ⟨d', h1, h2⟩ := hd
    exact ⟨d', h1, .inr h2.symm⟩

theorem VR.stripRows {es fs : List (List AV)} {tok : Tok} {u : Value} (h : VR ι Z w (.sl (es ++ fs) tok) u) : VR ι Z w (.sl (es ++ stripRows fs) tok) u := by
  generalize hq : es ++ fs = q at h
  cases h with
  | nils a c tok h1 h2 =>
    obtain ⟨rfl, rfl⟩ := List.append_eq_nil_iff.1 hq
    exact .nils a c tok h1 h2
  | frs t k c b h1 h2 h3 =>
    obtain ⟨rfl, rfl⟩ := List.append_eq_nil_iff.1 hq
    exact .frs t k c b h1 h2 h3
  | sl b o n c k _ tok U h1 h2 h3 h4 h5 h6 h7 h8 =>
    subst hq
    refine .sl b o n c k _ tok U (by simpa [Go.Proofs.YtcjjmejmpdhikaaGreatDoor.stripRows] using h1) h2 h3 h4 (fun i e he => ?_) (fun i j e d he hd => ?_) h7 (fun i j e d he hd => ?_)
    · obtain ⟨e', g1, g2⟩ := stripRows_get he
      have := h5 i e' g1
      rcases g2 with rfl | rfl
      · exact this
      · simpa using this
    · obtain ⟨e', g1, g2⟩ := stripRows_get he
      obtain ⟨d', g3, g4⟩ := row_get g2 hd
      have := h6 i j e' d' g1 g3
      rcases g4 with rfl | rfl
      · exact this
      · rw [AV.strip_one]; exact this
    · obtain ⟨e', g1, g2⟩ := stripRows_get he
      obtain ⟨d', g3, g4⟩ := row_get g2 hd
      have := h8 i j e' d' g1 g3
      rcases g4 with rfl | rfl
      · exact this
      · exact this.strip

theorem StepR.strip {o : Oper} {es fs : List (List AV)} {tok : Tok} {σ' : Sto} {acc : Acc} (h : StepR P ι Z w r o (.val (.sl (es ++ fs) tok) σ' acc)) : StepR P ι Z w r o (.val (.sl (es ++ stripRows fs) tok) σ' acc) := by
  obtain ⟨u, w', ι', Z', h1, h2, h3, h4⟩ := h
  exact ⟨u, w', ι', Z', h1, h2, h3, h4.stripRows⟩

theorem evAppend_sound (hρ : ∀ x d, ρ x = some d → VR ι Z w d (r x)) (hM : Match σ ι Z w) {o : Oper} {t : TypeId} {x y : Operand} {s : AStep} (ho : o.op = .call { callee := .builtin .append, args := #[x, y], argTypes := #[t, t] }) (h : evAppend P ρ σ t x y = some s) : StepR P ι Z w r o s := by
  unfold evAppend at h
  split at h
  · rename_i e es tok fs tok2 ht hx hy
    split at h
    · rename_i k by_ zn hk hb hz
      rw [Option.map_eq_some_iff] at hz
      obtain ⟨z, hz, hzn⟩ := hz
      split at h
      · rename_i hc
        obtain ⟨c0, c1, c2, c3, c4⟩ := hc
        have key := fun acc => step_append (acc := acc) hρ hM (o := o) ho ht hx hy hk hb c1 c2 c3 c4
        split at h
        · rename_i h0
          cases h
          exact (key _).1 h0
        · rename_i h0
          split at h
          · cases h
          · cases h
            exact (((key _).2 h0 z hz (by omega)).1 rfl).strip
          · rename_i i
            split at h
            · rename_i m e' hσ
              split at h
              · rename_i hm
                obtain ⟨rfl, rfl⟩ := hm
                cases h
                exact (((key _).2 h0 z hz (by omega)).2 i (.inl rfl) hσ).strip
              · cases h
            · cases h
          · rename_i i k'
            split at h
            · rename_i m e' hσ
              split at h
              · rename_i hm
                obtain ⟨⟨rfl, rfl⟩, he0, rfl⟩ := hm
                cases h
                exact (((key _).2 h0 z hz (by omega)).2 i (.inr ⟨rfl, he0⟩) hσ).strip
              · cases h
            · cases h
      · cases h
    · cases h
  · cases h

set_option maxHeartbeats 1000000 in
theorem evMem_sound (hρ : ∀ x d, ρ x = some d → VR ι Z w d (r x)) (hM : Match σ ι Z w) {o : Oper} {s : AStep} (h : evMem P ρ σ o = some s) : StepR P ι Z w r o s := by
  unfold evMem at h
  split at h
  · split at h
    · rename_i z hz
      split at h
      · rename_i d hd
        split at h
        · rename_i ht; cases h; exact step_alloc hM (by assumption) hz hd ht
        · cases h
      · cases h
    · cases h
  · split at h
    · rename_i d hx
      split at h
      · rename_i ht; cases h; exact step_box hρ hM (by assumption) hx ht
      · cases h
    · cases h
  · split at h
    · rename_i id off hx
      split at h
      · rename_i cs T hσ
        rw [Option.map_eq_some_iff] at h
        obtain ⟨d, h1, rfl⟩ := h
        exact step_load hρ hM (by assumption) hx hσ h1
      · cases h
    · cases h
  · split at h
    · rename_i id off v n hx hy hn
      split at h
      · rename_i cs T hσ
        split at h
        · rename_i hc
          cases h
          exact step_store hρ hM (by assumption) hx hy hn hσ hc.1 hc.2.1 hc.2.2
        · cases h
      · cases h
    · cases h
  · rename_i c ho
    split at h
    · rename_i hc1
      split at h
      · rename_i x y t u hc2 hc3
        split at h
        · rename_i htu
          subst htu
          exact evAppend_sound hρ hM (by rw [ho]; exact call_is hc1 hc2 hc3) h
        · cases h
      · cases h
    · rename_i f hc1
      split at h
      · rename_i g first cap l hf hl
        cases h
        exact step_enter (args := c.args) (ts := c.argTypes) hρ (by rw [ho]; exact call_is hc1 rfl rfl) hf hl
      · cases h
    · cases h
  · split at h
    · rename_i t v hx
      cases h
      exact step_panic hρ (by assumption) hx
    · cases h
  · cases h

theorem evMut_sound (hρ : ∀ x d, ρ x = some d → VR ι Z w d (r x)) (hM : Match σ ι Z w) {o : Oper} {s : AStep} (h : evMut P ρ σ o = some s) : StepR P ι Z w r o s := by
  unfold evMut at h
  split at h
  · split at h
    · rename_i e l ht hl
      split at h
      · rename_i k z hk hz
        split at h
        · rename_i d0 hd
          split at h
          · rename_i hc
            rw [Option.map_eq_some_iff] at h
            obtain ⟨cs, h1, rfl⟩ := h
            exact step_buildM hρ hM (by assumption) ht hl hk hz hd hc.1 hc.2.1 hc.2.2 h1
          · cases h
        · cases h
      · cases h
    · cases h
  · exact step_makeM hρ hM (by assumption) h
  · rename_i c ho
    split at h
    · rename_i hc1
      split at h
      · rename_i x y t u hc2 hc3
        split at h
        · rename_i htu
          subst htu
          exact evAppendM_sound hρ hM (by rw [ho]; exact call_is hc1 hc2 hc3) h
        · exact evAppendS_sound hρ hM (by rw [ho]; exact call_is hc1 hc2 hc3) h
      · cases h
    · cases h
  · cases h

theorem evStep_sound (hρ : ∀ x d, ρ x = some d → VR ι Z w d (r x)) (hM : Match σ ι Z w) {M : List TypeId} {o : Oper} {s : AStep} (h : evStep P M ρ σ o = some s) : StepR P ι Z w r o s := by
  unfold evStep at h
  split at h
  · exact evMut_sound hρ hM h
  · split at h
    · rename_i v hv
      cases h
      exact evPure_sound hρ hM hv
    · split at h
      · rename_i s' hs
        cases h
        exact evLit_sound hρ hM hs
      · exact evMem_sound hρ hM h

end
end Go.Proofs.YtcjjmejmpdhikaaGreatDoor
