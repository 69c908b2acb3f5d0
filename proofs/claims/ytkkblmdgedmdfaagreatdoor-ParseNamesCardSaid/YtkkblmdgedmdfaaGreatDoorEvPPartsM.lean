/-
 EV: parse: parts: trees, each by its own reader.
-/
import Derived.Test.YtkkblmdgedmdfaaGreatDoorEvPRest
namespace Go.Proofs.YtkkblmdgedmdfaaGreatDoor
set_option linter.unusedSimpArgs false
set_option linter.unusedVariables false
section
open Go.RowKit
inductive Tgt where
 | skip
 | into (g : RF) (tg off : Nat)
def clos : RF → FuncId
 | .name => 92
 | .many => 93
 | .term => 96
 | .params => 97
 | .kind => 100
 | .body => 101
 | .whole => 122
 | .right => 175
 | .names => 206
 | _ => 0
def intoable : RF → Bool
 | .name | .many | .term | .params | .kind | .body | .whole | .right | .names => true
 | _ => false
theorem into1_ev (N : Nat) (g : RF) (hi : intoable g = true) {t : Tr} {fid : Nat} {σ : Sto} {a b tg off T1 T2 Tt : Nat} {cs : List AV} (hf : fineT t) (hn : 8 * sizeT t + rank g ≤ N) (hc : σ[fid]? = some cleanO) (ha : σ[a]? = some (.cells [.fn (.func (fidOf g)) [] []] T2)) (hb : σ[b]? = some (.cells [.ptr tg off] T1)) (ht : σ[tg]? = some (.cells cs Tt)) (hto : tg ≠ fid) (hfit : off + lenR g ≤ cs.length) :
    CallW Tryz.prog (EN N) (clos g) [nodeA t fid, .ptr a 0, .ptr b 0] σ fun r σ' => r = .ret (.tup []) ∧ Ext ((setF σ fid (rd N g t).2).set tg (.cells (putCells cs off (rd N g t).1) Tt)) σ' := by
 cases g <;> first | (cases hi; done) | skip
 · exact into1_name_ev N hf hn hc ha hb ht hto hfit
 · exact into1_whole_ev N hf hn hc ha hb ht hto hfit
 · exact into1_many_ev N hf hn hc ha hb ht hto hfit
 · exact into1_names_ev N hf hn hc ha hb ht hto hfit
 · exact into1_params_ev N hf hn hc ha hb ht hto hfit
 · exact into1_kind_ev N hf hn hc ha hb ht hto hfit
 · exact into1_term_ev N hf hn hc ha hb ht hto hfit
 · exact into1_right_ev N hf hn hc ha hb ht hto hfit
 · exact into1_body_ev N hf hn hc ha hb ht hto hfit
def putAt (σ : Sto) (tg off : Nat) (v : List AV) : Sto := match σ[tg]? with | some (.cells cs T) => σ.set tg (.cells (putCells cs off v) T) | _ => σ
theorem putAt_eq {σ : Sto} {tg off T : Nat} {v cs : List AV} (h : σ[tg]? = some (.cells cs T)) : putAt σ tg off v = σ.set tg (.cells (putCells cs off v) T) := by unfold putAt; rw [h]
theorem putAt_ne {σ : Sto} {tg off x : Nat} {v : List AV} (h : x ≠ tg) : (putAt σ tg off v)[x]? = σ[x]? := by
 unfold putAt; split
 · exact List.getElem?_set_ne (Ne.symm h)
 · rfl
theorem putAt_len (σ : Sto) (tg off : Nat) (v : List AV) : (putAt σ tg off v).length = σ.length := by unfold putAt; split <;> simp
theorem putAt_self {σ : Sto} {tg off T : Nat} {v cs : List AV} (h : σ[tg]? = some (.cells cs T)) : (putAt σ tg off v)[tg]? = some (.cells (putCells cs off v) T) := by
 rw [putAt_eq h]; exact List.getElem?_set_self (lt_of_obj h)
def partsE (N fid : Nat) : List Tgt → List Tr → Sto → Sto
 | .skip :: gs, _ :: ts, σ => partsE N fid gs ts σ
 | .into g tg off :: gs, t :: ts, σ => match (rd N g t).2 with
  | some p => putAt (setF σ fid (some p)) tg off (rd N g t).1
  | none => partsE N fid gs ts (putAt σ tg off (rd N g t).1)
 | _, _, σ => σ
def FnOk (fid hi : Nat) (σ : Sto) : Tgt → AV → Prop
 | .skip, v => v = .fn (.func 43) [] []
 | .into g tg off, v => intoable g = true ∧ ∃ a b T1 T2 Tt cs, v = .fn (.func (clos g)) [] [.ptr a 0, .ptr b 0] ∧ hi ≤ a ∧ hi ≤ b ∧ tg < hi ∧ tg ≠ fid ∧ σ[a]? = some (.cells [.fn (.func (fidOf g)) [] []] T2) ∧ σ[b]? = some (.cells [.ptr tg off] T1) ∧ σ[tg]? = some (.cells cs Tt) ∧ off + lenR g ≤ cs.length
def Shape (hi : Nat) (σ E : Sto) : Prop := E.length = σ.length ∧ (∀ x, hi ≤ x → E[x]? = σ[x]?) ∧ ∀ (x : Nat) (cs : List AV) (T : Nat), σ[x]? = some (AObj.cells cs T) → ∃ cs' : List AV, E[x]? = some (AObj.cells cs' T) ∧ cs'.length = cs.length
theorem Shape.refl (hi : Nat) (σ : Sto) : Shape hi σ σ := ⟨rfl, fun _ _ => rfl, fun x cs T h => ⟨cs, h, rfl⟩⟩
theorem Shape.put {hi : Nat} {σ E : Sto} {tg off : Nat} {v : List AV} (h : Shape hi σ E) (ht : tg < hi) : Shape hi σ (putAt E tg off v) := by
 refine ⟨by rw [putAt_len]; exact h.1, fun x hx => by rw [putAt_ne (by omega)]; exact h.2.1 x hx, fun x cs T hx => ?_⟩
 obtain ⟨cs', h1, h2⟩ := h.2.2 x cs T hx
 by_cases e : x = tg
 · subst e
   exact ⟨_, putAt_self h1, by rw [putCells_len]; exact h2⟩
 · exact ⟨cs', by rw [putAt_ne e]; exact h1, h2⟩
theorem FnOk.shape {fid hi : Nat} {σ E : Sto} {g : Tgt} {v : AV} (h : FnOk fid hi σ g v) (hs : Shape hi σ E) : FnOk fid hi E g v := by
 cases g with
 | skip => exact h
 | into g tg off =>
  obtain ⟨hi', a, b, T1, T2, Tt, cs, h1, h2, h3, h4, h5, h6, h7, h8, h9⟩ := h
  obtain ⟨cs', e1, e2⟩ := hs.2.2 _ _ _ h8
  exact ⟨hi', a, b, T1, T2, Tt, cs', h1, h2, h3, h4, h5, (hs.2.1 a h2).trans h6, (hs.2.1 b h3).trans h7, e1, by omega⟩
theorem FnOk.ext {fid hi : Nat} {σ E : Sto} {g : Tgt} {v : AV} (h : FnOk fid hi σ g v) (hs : Ext σ E) : FnOk fid hi E g v := by
 cases g with
 | skip => exact h
 | into g tg off =>
  obtain ⟨hi', a, b, T1, T2, Tt, cs, h1, h2, h3, h4, h5, h6, h7, h8, h9⟩ := h
  exact ⟨hi', a, b, T1, T2, Tt, cs, h1, h2, h3, h4, h5, hs.get h6, hs.get h7, hs.get h8, h9⟩
def oneE (N fid : Nat) (g : Tgt) (t : Tr) (σ : Sto) : Sto := match g with | .skip => σ | .into g tg off => putAt (setF σ fid (rd N g t).2) tg off (rd N g t).1
def oneB (N : Nat) (g : Tgt) (t : Tr) : Option Int := match g with | .skip => none | .into g tg off => (rd N g t).2
theorem partsE_cons (N fid : Nat) (g : Tgt) (gs : List Tgt) (t : Tr) (ts : List Tr) (σ : Sto) : partsE N fid (g :: gs) (t :: ts) σ = match oneB N g t with | some p => oneE N fid g t σ | none => partsE N fid gs ts (oneE N fid g t σ) := by
 cases g with
 | skip => rfl
 | into g tg off =>
  have e1 : partsE N fid (.into g tg off :: gs) (t :: ts) σ = match (rd N g t).2 with | some p => putAt (setF σ fid (some p)) tg off (rd N g t).1 | none => partsE N fid gs ts (putAt σ tg off (rd N g t).1) := rfl
  have e2 : oneB N (.into g tg off) t = (rd N g t).2 := rfl
  have e3 : oneE N fid (.into g tg off) t σ = putAt (setF σ fid (rd N g t).2) tg off (rd N g t).1 := rfl
  rw [e1, e2, e3]
  cases (rd N g t).2 <;> rfl
def rankT : Tgt → Nat | .skip => 0 | .into g _ _ => rank g
theorem putAt_ext {E σ : Sto} {tg off : Nat} {v : List AV} (h : Ext E σ) (ht : tg < E.length) : Ext (putAt E tg off v) (putAt σ tg off v) := by
 have e : σ[tg]? = E[tg]? := by
  obtain ⟨g, rfl⟩ := h
  exact List.getElem?_append_left ht
 unfold putAt
 rw [e]
 split
 · exact Ext.setL h ht _
 · exact h
theorem oneE_ext {N fid hi : Nat} {g : Tgt} {u : Tr} {E σ : Sto} {v : AV} (h : Ext E σ) (hf : fid < E.length) (hok : FnOk fid hi E g v) : Ext (oneE N fid g u E) (oneE N fid g u σ) := by
 cases g with
 | skip => exact h
 | into g tg off =>
  obtain ⟨hi', a, b, T1, T2, Tt, cs, h1, h2, h3, h4, h5, h6, h7, h8, h9⟩ := hok
  exact putAt_ext (setF_ext _ h hf) (by rw [setF_len]; exact lt_of_obj h8)
theorem oneE_shape {N fid hi : Nat} {g : Tgt} {u : Tr} {σ E : Sto} {v : AV} (hb : oneB N g u = none) (hs : Shape hi σ E) (hok : FnOk fid hi E g v) : Shape hi σ (oneE N fid g u E) := by
 cases g with
 | skip => exact hs
 | into g tg off =>
  obtain ⟨hi', a, b, T1, T2, Tt, cs, h1, h2, h3, h4, h5, h6, h7, h8, h9⟩ := hok
  have hb : (rd N g u).2 = none := hb
  show Shape hi σ (putAt (setF E fid (rd N g u).2) tg off (rd N g u).1)
  rw [hb]
  exact hs.put h4
theorem oneE_fid {N fid hi : Nat} {g : Tgt} {u : Tr} {E : Sto} {v : AV} (hc : E[fid]? = some cleanO) (hok : FnOk fid hi E g v) : (oneE N fid g u E)[fid]? = some (match oneB N g u with | some p => badO p | none => cleanO) := by
 cases g with
 | skip => exact hc
 | into g tg off =>
  obtain ⟨hi', a, b, T1, T2, Tt, cs, h1, h2, h3, h4, h5, h6, h7, h8, h9⟩ := hok
  show (putAt (setF E fid (rd N g u).2) tg off (rd N g u).1)[fid]? = some (match (rd N g u).2 with | some p => badO p | none => cleanO)
  rw [putAt_ne (Ne.symm h5)]
  cases (rd N g u).2 with
  | none => exact hc
  | some p => exact List.getElem?_set_self (lt_of_obj hc)
theorem oneE_len (N fid : Nat) (g : Tgt) (u : Tr) (σ : Sto) : (oneE N fid g u σ).length = σ.length := by
 cases g with
 | skip => rfl
 | into g tg off => unfold oneE; rw [putAt_len, setF_len]
theorem oneE_ne {N fid hi x : Nat} {g : Tgt} {u : Tr} {E σ : Sto} {v : AV} (hf : fid < E.length) (hok : FnOk fid hi E g v) (hx : E.length ≤ x) : (oneE N fid g u σ)[x]? = σ[x]? := by
 cases g with
 | skip => rfl
 | into g tg off =>
  obtain ⟨hi', a, b, T1, T2, Tt, cs, h1, h2, h3, h4, h5, h6, h7, h8, h9⟩ := hok
  have := lt_of_obj h8
  show (putAt (setF σ fid (rd N g u).2) tg off (rd N g u).1)[x]? = _
  rw [putAt_ne (by omega), setF_ne _ (by omega)]
theorem tgt_ev (N : Nat) {g : Tgt} {fid hi : Nat} {u : Tr} {σ : Sto} {v : AV} (hok : FnOk fid hi σ g v) (hf : fineT u) (hn : 8 * sizeT u + rankT g ≤ N) (hc : σ[fid]? = some cleanO) :
    ∃ f cap, v = .fn (.func f) [] cap ∧ CallW Tryz.prog (EN N) f (nodeA u fid :: cap) σ fun r σ' => r = .ret (.tup []) ∧ Ext (oneE N fid g u σ) σ' := by
 cases g with
 | skip =>
  exact ⟨_, [], hok, skip_ev N u fid σ⟩
 | into g tg off =>
  obtain ⟨hi', a, b, T1, T2, Tt, cs, h1, h2, h3, h4, h5, h6, h7, h8, h9⟩ := hok
  refine ⟨clos g, [.ptr a 0, .ptr b 0], h1, (into1_ev N g hi' hf hn hc h6 h7 h8 h5 h9).mono ?_⟩
  rintro r σ' ⟨rfl, hx⟩
  refine ⟨rfl, ?_⟩
  show Ext (putAt (setF σ fid (rd N g u).2) tg off (rd N g u).1) σ'
  rw [putAt_eq (by rw [setF_ne _ h5]; exact h8)]
  exact hx
def partsF (N fid : Nat) (gs : List Tgt) (t : Tr) (σ : Sto) : Sto := if t.row && (t.kids.length == gs.length) then partsE N fid gs t.kids σ else setF σ fid (some t.at_)
set_option maxRecDepth 100000 in
set_option maxHeartbeats 1000000 in
theorem parts_ev (N : Nat) (gs : List Tgt) {vs : List AV} {t : Tr} {fid hi : Nat} {tok : Tok} {σ : Sto} (hvl : vs.length = gs.length) (hok : ∀ (k : Nat) (g : Tgt) (v : AV), gs[k]? = some g → vs[k]? = some v → FnOk fid hi σ g v) (hf : fineL t.kids)
    (hn : ∀ u ∈ t.kids, ∀ g ∈ gs, 8 * sizeT u + rankT g ≤ N) (hc : σ[fid]? = some cleanO) (hl : t.kids.length ≤ 1000000) (hgl : gs.length ≤ 1000) :
    CallW Tryz.prog (EN N) 42 [nodeA t fid, .sl (vs.map fun v => [v]) tok] σ fun r σ' => r = .ret (.tup []) ∧ Ext (partsF N fid gs t σ) σ' := by
 refine CallW.start (fn := Tryz.f42) (M := []) rfl rfl rfl rfl (by simp) fun tm hlen hs => ?_
 have h0 := hs 0 _ rfl
 have h1 := hs 1 _ rfl
 clear hs
 rw [nodeA_eq] at h0
 simp at hlen
 refine CW.hide fun R0 hR0 => ?_
 have hfl := lt_of_obj hc
 have done : ∀ (x : AExit) (tm : List AV) (σ' : Sto), (x = .ret ∨ x = .normal) → Ext (partsF N fid gs t σ) σ' → R0 x tm σ' := by
  intro x tm σ' hx he
  rcases hx with rfl | rfl <;> exact hR0 _ _ _ ⟨_, rfl, rfl, he⟩
 clear hR0
 have hml : (vs.map fun v => [v]).length = gs.length := by rw [List.length_map, hvl]
 have hkl : (rowsOf t.kids).length = t.kids.length := rowsOf_length _
 refine CW.seqK fun K hK => CW.region ?_
 simp (maxDischargeDepth := 16) [symB, List.length_set, andThen, hlen, h0]
 refine hK _ _ ?_; clear hK K
 refine CW.reset2 (fun tm σ1 => tm.length = 40 ∧ slot tm 1 = .sl (vs.map fun v => [v]) tok ∧ slot tm 2 = .ptr σ.length 0 ∧ σ1 = σ ++ [nodeO t fid]) ⟨by simp [hlen], by simp [slot_ne, h1], by simp [slot_eq, slot_ne, hlen], rfl⟩ ?_
 clear h0 h1 hlen tm
 rintro tm σ0 ⟨hlen, h1, h2, hσ0⟩
 have hb0 : σ0[σ.length]? = some (.cells [.lit (.string (bs t.word)), .sl (rowsOf t.kids) .no, .lit (.bool t.row), .lit (.int .i64 t.at_), .ptr fid 0] 57) := by rw [hσ0]; exact get_new _ _ _
 have hx0 : Ext σ σ0 := by rw [hσ0]; exact ⟨_, rfl⟩
 have hc0 : σ0[fid]? = some cleanO := by rw [hσ0]; exact get_app hc
 clear hσ0
 refine CW.seqK fun K hK => ?_
 refine CW.seqK fun K2 hK2 => CW.region ?_
 have bad : partsF N fid gs t σ = setF σ fid (some t.at_) → ∀ tm : List AV, tm.length = 40 → slot tm 2 = .ptr σ.length 0 → slot tm 18 = .lit (.bool true) → K2 tm σ0 := by
  intro he tm hlen h2 h18
  refine hK2 _ _ ?_
  refine CW.cond (t := true) (by simp [evx_tmp, slot_eq, slot_ne, hlen, h18]) ?_
  refine CW.seqK fun K3 hK3 => CW.region ?_
  simp (maxDischargeDepth := 16) [symB, List.length_set, andThen, hlen, h2, hb0]
  rw [← nodeA_eq]
  refine (fault_ev N t fid σ0 hc0).mono ?_
  rintro r σ2 ⟨rfl, hx2⟩
  simp (maxDischargeDepth := 16) [symB, List.length_set, andThen, hlen, retK]
  refine hK3 _ _ ?_
  refine CW.ret ?_
  simp only [andThen]
  exact done _ _ _ (.inl rfl) (by rw [he]; exact (setF_ext _ hx0 hfl).trans hx2)
 have good : t.row = true → t.kids.length = gs.length → ∀ tm : List AV, tm.length = 40 → slot tm 1 = .sl (vs.map fun v => [v]) tok → slot tm 2 = .ptr σ.length 0 → slot tm 18 = .lit (.bool false) → K2 tm σ0 := by
  intro hrow hkg tm hlen h1 h2 h18
  have hF : partsF N fid gs t σ = partsE N fid gs t.kids σ := by unfold partsF; rw [hrow, hkg]; simp
  rw [hF] at done
  refine hK2 _ _ ?_
  refine CW.cond (t := false) (by simp [evx_tmp, slot_eq, slot_ne, hlen, h18]) ?_
  refine CW.skip ?_
  simp only [andThen]
  refine hK _ _ ?_; clear hK K hK2 K2 bad hF
  refine CW.seqK fun K hK => CW.region ?_
  simp (maxDischargeDepth := 16) [symB, List.length_set, andThen, hlen, h1, hml]
  refine hK _ _ ?_; clear hK K
  refine CW.block ?_
  refine CW.hide fun R hR => ?_
  refine CW.loopI (fun r tm σ1 => tm.length = 40 ∧ slot tm 2 = .ptr σ.length 0 ∧ slot tm 21 = .sl (vs.map fun v => [v]) tok ∧ slot tm 22 = .lit (.int .i64 gs.length) ∧ σ1[σ.length]? = some (.cells [.lit (.string (bs t.word)), .sl (rowsOf t.kids) .no, .lit (.bool t.row), .lit (.int .i64 t.at_), .ptr fid 0] 57) ∧ ∃ (i : Nat) (E : Sto), slot tm 23 = .lit (.int .i64 i) ∧ i ≤ gs.length ∧ r = gs.length - i ∧ Ext E σ1 ∧ E.length = σ.length ∧
      ((Shape hi σ E ∧ E[fid]? = some cleanO ∧ partsE N fid gs t.kids σ = partsE N fid (gs.drop i) (t.kids.drop i) E) ∨ (partsE N fid gs t.kids σ = E ∧ ∃ p, E[fid]? = some (badO p)))) ?_ _ _ _
   ⟨by simp [hlen], by simp [slot_ne, h2], by simp [slot_eq, slot_ne, hlen], by simp [slot_eq, slot_ne, hlen], hb0, 0, σ, by simp [slot_eq, slot_ne, hlen], by omega, rfl, hx0, rfl, .inl ⟨Shape.refl _ _, hc, rfl⟩⟩
  clear h1 h2 h18 hlen tm hb0 hx0 hc0 σ0
  rintro r tm σ1 ⟨hlen, h2, h21, h22, hb, i, E, h23, hi2, rfl, hext, hEl, hAB⟩
  refine CW.hide fun R2 hR2 => ?_
  refine CW.seqK fun K3 hK3 => CW.region ?_
  by_cases hlt : i < gs.length
  · have hlt' : (i : Int) < gs.length := by omega
    simp (maxDischargeDepth := 16) [symB, List.length_set, andThen, hlen, h22, h23, hlt', hlt]
    refine hK3 _ _ ?_
    refine CW.seqK fun K4 hK4 => ?_
    refine CW.cond (t := true) (by simp [evx_tmp, slot_eq, slot_ne, hlen, hlt]) ?_
    refine CW.skip ?_
    simp only [andThen]
    refine hK4 _ _ ?_; clear hK3 K3 hK4 K4
    obtain ⟨v, hv⟩ : ∃ v, vs[i]? = some v := ⟨_, List.getElem?_eq_getElem (by omega)⟩
    obtain ⟨g, hg⟩ : ∃ g, gs[i]? = some g := ⟨_, List.getElem?_eq_getElem hlt⟩
    obtain ⟨u, hu⟩ : ∃ u, t.kids[i]? = some u := ⟨_, List.getElem?_eq_getElem (by omega)⟩
    have hvm : (vs.map fun v => [v])[i]? = some [v] := by rw [List.getElem?_map, hv]; rfl
    have hwk : IntKind.i64.wrap ((i : Int) + 1) = ((i + 1 : Nat) : Int) := wrap_succ (by omega)
    have hum := List.mem_of_getElem? hu
    have hgm := List.mem_of_getElem? hg
    have hdk : t.kids.drop i = u :: t.kids.drop (i + 1) := by
     obtain ⟨h, rfl⟩ := List.getElem?_eq_some_iff.1 hu
     exact List.drop_eq_getElem_cons h
    have hdg : gs.drop i = g :: gs.drop (i + 1) := by
     obtain ⟨h, rfl⟩ := List.getElem?_eq_some_iff.1 hg
     exact List.drop_eq_getElem_cons h
    refine CW.seqK fun K5 hK5 => CW.block ?_
    refine CW.seqK fun K hK => CW.region ?_
    simp (maxDischargeDepth := 16) [symB, List.length_set, andThen, hlen, h21, h23, hvm]
    refine hK _ _ ?_; clear hK K
    have nxt : ∀ (tm : List AV) (σ1 E : Sto), tm.length = 40 → slot tm 2 = .ptr σ.length 0 → slot tm 21 = .sl (vs.map fun v => [v]) tok → slot tm 22 = .lit (.int .i64 gs.length) → slot tm 23 = .lit (.int .i64 i) → σ1[σ.length]? = some (.cells [.lit (.string (bs t.word)), .sl (rowsOf t.kids) .no, .lit (.bool t.row), .lit (.int .i64 t.at_), .ptr fid 0] 57) → Ext E σ1 → E.length = σ.length →
        ((Shape hi σ E ∧ E[fid]? = some cleanO ∧ partsE N fid gs t.kids σ = partsE N fid (gs.drop (i + 1)) (t.kids.drop (i + 1)) E) ∨ (partsE N fid gs t.kids σ = E ∧ ∃ p, E[fid]? = some (badO p))) → K5 tm σ1 := by
     intro tm σ1 E hlen h2 h21 h22 h23 hb hext hEl hAB
     refine hK5 _ _ ?_
     refine CW.region ?_
     simp (maxDischargeDepth := 16) [symB, List.length_set, andThen, hlen, h23, hwk]
     exact hR2 _ _ _ ⟨gs.length - (i + 1), by omega, by simp [hlen], by simp [slot_ne, h2], by simp [slot_ne, h21], by simp [slot_ne, h22], hb, i + 1, E, by simp [slot_eq, hlen], hlt, rfl, hext, hEl, hAB⟩
    rcases hAB with ⟨hsh, hcE, heq⟩ | ⟨heq, p, hbE⟩
    · have hcl := hext.get hcE
      unfold cleanO boolA at hcl
      refine CW.seqK fun K hK => CW.region ?_
      simp (maxDischargeDepth := 16) [symB, List.length_set, andThen, hlen, h2, hb, hcl]
      refine hK _ _ ?_; clear hK K
      refine CW.cond (t := true) (by simp [evx_tmp, slot_eq, slot_ne, hlen]) ?_
      refine CW.region ?_
      simp (maxDischargeDepth := 16) [symB, List.length_set, andThen, outOf, hlen, h2, hb]
      rw [← nodeA_eq]
      refine (kid_ev N hu hl).mono ?_
      rintro r2 σ2 ⟨rfl, hx2⟩
      have hok1 := (hok i g v hg hv).shape hsh
      have hx3 := hext.trans hx2
      obtain ⟨f, cap, hvf, hcall⟩ := tgt_ev N (hok1.ext hx3) (fineL_mem hf hum) (hn u hum g hgm) (hx3.get hcE)
      subst hvf
      simp (maxDischargeDepth := 16) [symB, List.length_set, retK, andThen, outOf, hlen]
      refine hcall.mono ?_
      rintro r2 σ3 ⟨rfl, hx4⟩
      simp (maxDischargeDepth := 16) [symB, List.length_set, retK, andThen, outOf, hlen]
      have hbox : (oneE N fid g u σ2)[σ.length]? = σ2[σ.length]? := oneE_ne (lt_of_obj hcE) hok1 (by omega)
      refine nxt _ _ (oneE N fid g u E) (by simp [hlen]) (by simp [slot_ne, h2]) (by simp [slot_ne, h21]) (by simp [slot_ne, h22]) (by simp [slot_ne, h23]) (hx4.get (hbox.trans (hx2.get hb))) ((oneE_ext hx3 (lt_of_obj hcE) hok1).trans hx4) (by rw [oneE_len]; exact hEl) ?_
      have hfd := oneE_fid (N := N) (u := u) hcE hok1
      rw [hdk, hdg, partsE_cons] at heq
      cases hq : oneB N g u with
      | none =>
       rw [hq] at hfd heq
       exact .inl ⟨oneE_shape hq hsh hok1, hfd, heq⟩
      | some p =>
       rw [hq] at hfd heq
       exact .inr ⟨heq, p, hfd⟩
    · have hbl := hext.get hbE
      unfold badO boolA at hbl
      refine CW.seqK fun K hK => CW.region ?_
      simp (maxDischargeDepth := 16) [symB, List.length_set, andThen, hlen, h2, hb, hbl]
      refine hK _ _ ?_; clear hK K
      refine CW.cond (t := false) (by simp [evx_tmp, slot_eq, slot_ne, hlen]) ?_
      refine CW.skip ?_
      simp only [outOf, andThen]
      exact nxt _ _ E (by simp [hlen]) (by simp [slot_ne, h2]) (by simp [slot_ne, h21]) (by simp [slot_ne, h22]) (by simp [slot_ne, h23]) hb hext hEl (.inr ⟨heq, p, hbE⟩)
  · have hlt' : ¬ (i : Int) < gs.length := by omega
    simp (maxDischargeDepth := 16) [symB, List.length_set, andThen, hlen, h22, h23, hlt', hlt]
    refine hK3 _ _ ?_
    refine CW.seqK fun K4 hK4 => ?_
    refine CW.cond (t := false) (by simp [evx_tmp, slot_eq, slot_ne, hlen, hlt]) ?_
    refine CW.exit ?_
    simp only [andThen]
    refine hR2 _ _ _ (hR _ _ _ ?_)
    simp only [outOf, if_true]
    refine done _ _ _ (.inr rfl) ?_
    rcases hAB with ⟨hsh, hcE, heq⟩ | ⟨heq, p, hbE⟩
    · rw [heq, List.drop_of_length_le (by omega)]
      exact hext
    · rw [heq]; exact hext
 cases hrow : t.row with
 | false =>
  rw [hrow] at hb0
  simp (maxDischargeDepth := 16) [symB, List.length_set, andThen, hlen, h2, hb0]
  exact bad (by unfold partsF; rw [hrow]; rfl) _ (by simp [hlen]) (by simp [slot_ne, h2]) (by simp [slot_eq, slot_ne, hlen])
 | true =>
  rw [hrow] at hb0
  by_cases hkg : t.kids.length = gs.length
  · simp (maxDischargeDepth := 16) [symB, List.length_set, andThen, hlen, h1, h2, hb0, hml, hkl, hkg]
    exact good hrow hkg _ (by simp [hlen]) (by simp [slot_ne, h1]) (by simp [slot_ne, h2]) (by simp [slot_eq, slot_ne, hlen, hkg])
  · have hkg' : ¬ (t.kids.length : Int) = gs.length := by omega
    simp (maxDischargeDepth := 16) [symB, List.length_set, andThen, hlen, h1, h2, hb0, hml, hkl, hkg, hkg']
    exact bad (by unfold partsF; rw [hrow]; simp [hkg]) _ (by simp [hlen]) (by simp [slot_ne, h2]) (by simp [slot_eq, slot_ne, hlen, hkg, hkg'])
end
section
open Go.RowKit
def NumR (t : Tr) (v : AV) : Prop := match numS t with
 | none => ∃ tk, v = .tup [.agg [.lit (.bool false), .sl [] tk], .lit (.bool false)]
 | some p => v = .tup [.agg [.lit (.bool p.1), .sl (d32 p.2) .no], .lit (.bool true)]
set_option maxRecDepth 100000 in
theorem number_ev (N : Nat) (t : Tr) (fid : Nat) (σ : Sto) (hw : t.word.length ≤ 1000000) : CallW Tryz.prog (EN N) 121 [nodeA t fid] σ fun r σ' => (∃ v, r = .ret v ∧ NumR t v) ∧ Ext σ σ' := by
 refine CallW.start (fn := Tryz.f121) (M := []) rfl rfl rfl rfl (by simp) fun tm hlen hs => ?_
 have h0 := hs 0 _ rfl
 clear hs
 rw [nodeA_eq] at h0
 simp at hlen
 refine CW.hide fun R0 hR0 => ?_
 have done : ∀ (b ok : Bool) (d : List (List AV)) (tk : Tok) (tm : List AV) (σ' : Sto), NumR t (.tup [.agg [.lit (.bool b), .sl d tk], .lit (.bool ok)]) → Ext σ σ' → σ'[σ.length + 1]? = some (.cells [.lit (.bool b), .sl d tk] 38) → tm.length = 21 → slot tm 2 = .ptr (σ.length + 1) 0 → slot tm 3 = .lit (.bool ok) → R0 .ret tm σ' := by
  intro b ok d tk tm σ' hn hx ho hlen h2 h3
  refine hR0 _ _ _ ⟨.tup [.agg [.lit (.bool b), .sl d tk], .lit (.bool ok)], ?_, ⟨_, rfl, hn⟩, hx⟩
  simp [resultsA, omap, res_tmp, res_cell, slot_eq, slot_ne, hlen, h2, h3, ho, partA, aggT]
 clear hR0
 refine CW.seqK fun K hK => CW.region ?_
 simp (maxDischargeDepth := 16) [symB, List.length_set, andThen, hlen, h0]
 refine hK _ _ ?_; clear hK K
 refine CW.reset2 (fun tm σ1 => tm.length = 21 ∧ slot tm 1 = .ptr σ.length 0 ∧ slot tm 2 = .ptr (σ.length + 1) 0 ∧ slot tm 3 = .lit (.bool false) ∧ σ1 = σ ++ [nodeO t fid, .cells [.lit (.bool false), .sl [] .full] 38]) ⟨by simp [hlen], by simp [slot_eq, slot_ne, hlen], by simp [slot_eq, slot_ne, hlen], by simp [slot_eq, slot_ne, hlen], rfl⟩ ?_
 clear h0 hlen tm
 rintro tm σ0 ⟨hlen, h1, h2, h3, hσ0⟩
 have hb0 : σ0[σ.length]? = some (.cells [.lit (.string (bs t.word)), .sl (rowsOf t.kids) .no, .lit (.bool t.row), .lit (.int .i64 t.at_), .ptr fid 0] 57) := by rw [hσ0]; exact get_new _ _ _
 have hb1 : σ0[σ.length + 1]? = some (.cells [.lit (.bool false), .sl [] .full] 38) := by rw [hσ0]; exact get_new1 _ _ _ _
 have hx0 : ∀ o, Ext σ (σ0.set (σ.length + 1) o) := fun o => by rw [hσ0]; exact ⟨[nodeO t fid, .cells [.lit (.bool false), .sl [] .full] 38].set 1 o, by rw [List.set_append_right _ _ (by omega), show σ.length + 1 - σ.length = 1 by omega]⟩
 have hset : ∀ o, (σ0.set (σ.length + 1) o)[σ.length + 1]? = some o := fun o => List.getElem?_set_self (lt_of_obj hb1)
 clear hσ0
 refine CW.seqK fun K hK => ?_
 refine CW.seqK fun K2 hK2 => CW.region ?_
 have no : numS t = none → ∀ tm : List AV, tm.length = 21 → slot tm 2 = .ptr (σ.length + 1) 0 → slot tm 13 = .lit (.bool true) → K2 tm σ0 := by
  intro hno tm hlen h2 h13
  refine hK2 _ _ ?_
  refine CW.cond (t := true) (by simp [evx_tmp, slot_eq, slot_ne, hlen, h13]) ?_
  refine CW.seqK fun K3 hK3 => CW.region ?_
  simp (maxDischargeDepth := 16) [symB, List.length_set, andThen, hlen, h2, hb1]
  refine hK3 _ _ ?_
  refine CW.ret ?_
  simp only [andThen]
  exact done false false [] .full _ _ (by unfold NumR; rw [hno]; exact ⟨_, rfl⟩) (hx0 _) (hset _) (by simp [hlen]) (by simp [slot_ne, h2]) (by simp [slot_eq, slot_ne, hlen])
 have yes : numS t = numOf t.word → ∀ tm : List AV, tm.length = 21 → slot tm 1 = .ptr σ.length 0 → slot tm 2 = .ptr (σ.length + 1) 0 → slot tm 13 = .lit (.bool false) → K2 tm σ0 := by
  intro hys tm hlen h1 h2 h13
  refine hK2 _ _ ?_
  refine CW.cond (t := false) (by simp [evx_tmp, slot_eq, slot_ne, hlen, h13]) ?_
  refine CW.skip ?_
  simp only [andThen]
  refine hK _ _ ?_
  refine CW.seqK fun K3 hK3 => CW.region ?_
  simp (maxDischargeDepth := 16) [symB, List.length_set, andThen, hlen, h1, h2, hb0]
  cases hq : numOf t.word with
  | none =>
   refine CallW.prim (g := primNum) rfl (primNum_none _ _ hw hq) ?_
   simp (maxDischargeDepth := 16) [symB, List.length_set, retK, andThen, hlen, h2, hb1, intZ, boolA, nilA]
   refine hK3 _ _ ?_
   exact CW.ret (done false false [] .no _ _ (by unfold NumR; rw [hys, hq]; exact ⟨_, rfl⟩) (hx0 _) (hset _) (by simp [hlen]) (by simp [slot_ne, h2]) (by simp [slot_eq, slot_ne, hlen]))
  | some p =>
   refine CallW.prim (g := primNum) rfl (primNum_some _ _ hw hq) ?_
   simp (maxDischargeDepth := 16) [symB, List.length_set, retK, andThen, hlen, h2, hb1, numC, boolA, rowsA']
   refine hK3 _ _ ?_
   exact CW.ret (done p.1 true (d32 p.2) .no _ _ (by unfold NumR; rw [hys, hq]) (hx0 _) (hset _) (by simp [hlen]) (by simp [slot_ne, h2]) (by simp [slot_eq, slot_ne, hlen]))
 cases hrow : t.row with
 | true =>
  rw [hrow] at hb0
  simp (maxDischargeDepth := 16) [symB, List.length_set, andThen, hlen, h1, hb0]
  exact no (by unfold numS; rw [hrow]; rfl) _ (by simp [hlen]) (by simp [slot_ne, h2]) (by simp [slot_eq, slot_ne, hlen])
 | false =>
  rw [hrow] at hb0
  by_cases hlong : 400 < t.word.length
  · have hl' : (400 : Int) < t.word.length := by omega
    simp (maxDischargeDepth := 16) [symB, List.length_set, andThen, hlen, h1, hb0, bsz, hlong, hl']
    exact no (by unfold numS; rw [hrow]; simp [hlong]) _ (by simp [hlen]) (by simp [slot_ne, h2]) (by simp [slot_eq, slot_ne, hlen, hlong, hl'])
  · have hl' : ¬ (400 : Int) < t.word.length := by omega
    simp (maxDischargeDepth := 16) [symB, List.length_set, andThen, hlen, h1, hb0, bsz, hlong, hl']
    exact yes (by unfold numS; rw [hrow]; simp [hlong]) _ (by simp [hlen]) (by simp [slot_ne, h1]) (by simp [slot_ne, h2]) (by simp [slot_eq, slot_ne, hlen, hlong, hl'])
end
section
open Go.RowKit
theorem fgt_of {σ σ' : Sto} {fid : Nat} {o : Option Int} {v v2 : AV} (hx : Ext (setF σ fid o) σ') (hc : σ[fid]? = some cleanO) (hf : Frz σ' σ.length v v2) : Fgt σ (.ret v) σ' (.ret v2) (setF σ fid o) := by
 cases o with
 | none => exact Fgt.pure hx hf
 | some p =>
  refine Fgt.wrote hx hc trivial (fun j d hj => ?_) hf
  match j with
  | 0 => cases hj; exact .lit _
  | 1 => cases hj; exact .lit _
  | j + 2 => simp at hj
inductive FrzL (σ : Sto) (n : Nat) : List AV → List AV → Prop
 | nil : FrzL σ n [] []
 | cons {c d : AV} {l m : List AV} : Frz σ n c d → FrzL σ n l m → FrzL σ n (c :: l) (d :: m)
section
variable {σ : Sto} {n : Nat}
theorem FrzL.len {l m : List AV} (h : FrzL σ n l m) : l.length = m.length := by
 induction h with
 | nil => rfl
 | cons _ _ ih => simp [ih]
theorem FrzL.at {l m : List AV} (h : FrzL σ n l m) : ∀ (j : Nat) (d d' : AV), l[j]? = some d → m[j]? = some d' → Frz σ n d d' := by
 induction h with
 | nil => intro j d d' h; simp at h
 | cons h _ ih =>
  intro j d d' h1 h2
  cases j with
  | zero => simp at h1 h2; subst h1; subst h2; exact h
  | succ j => exact ih j d d' (by simpa using h1) (by simpa using h2)
theorem FrzL.refl : ∀ {l : List AV}, okL l → FrzL σ n l l
 | [], _ => .nil
 | c :: l, h => .cons (Frz.still (h c (by simp)).2.1) (FrzL.refl fun d hd => h d (by simp [hd]))
theorem FrzL.agg {l m : List AV} (h : FrzL σ n l m) : Frz σ n (.agg l) (.agg m) := .agg _ _ h.len h.at
theorem FrzL.set {l m : List AV} (h : FrzL σ n l m) {k : Nat} {c d : AV} (hc : Frz σ n c d) : FrzL σ n (l.set k c) (m.set k d) := by
 induction h generalizing k with
 | nil => exact .nil
 | cons h hs ih =>
  cases k with
  | zero => exact .cons hc hs
  | succ k => exact .cons h ih
theorem FrzL.put {v w : List AV} (hv : FrzL σ n v w) : ∀ {l m : List AV} {off : Nat}, FrzL σ n l m → FrzL σ n (putCells l off v) (putCells m off w) := by
 induction hv with
 | nil => intro l m off h; exact h
 | cons h _ ih => intro l m off hl; exact ih (hl.set h)
theorem FrzL.append {l m l2 m2 : List AV} (h : FrzL σ n l m) (h2 : FrzL σ n l2 m2) : FrzL σ n (l ++ l2) (m ++ m2) := by
 induction h with
 | nil => exact h2
 | cons h _ ih => exact .cons h ih
theorem Frz.lit (v : Value) : Frz σ n (.lit v) (.lit v) := Frz.still (still_lit v)
theorem Frz.nil (tok : Tok) : Frz σ n (.sl [] tok) nilA := Frz.rows (by simp)
theorem Frz.okR {es : List (List AV)} (h : okR es) (tok : Tok) : Frz σ n (.sl es tok) (rowsA' es) := Frz.rows fun e he d hd => (h e he d hd).2.1
end
def RdOk (N : Nat) (g : RF) : Prop := ∀ (t : Tr) (fid : Nat) (σ : Sto), fineT t → 8 * sizeT t + rank g ≤ N + 1 → σ[fid]? = some cleanO →
 JC Tryz.prog (EN N) (fidOf g) [nodeA t fid] σ fun r1 σ1 => Fgt σ r1 σ1 (.ret (valR g (rd (N + 1) g t).1)) (setF σ fid (rd (N + 1) g t).2)
theorem size_pos (t : Tr) : 0 < sizeT t := by cases t; rw [sizeT_kids]; omega
theorem fineT_w {t : Tr} (h : fineT t) : t.word.length ≤ 1000000 := by cases t; exact h.1.1
theorem fineT_k {t : Tr} (h : fineT t) : t.kids.length ≤ 1000000 := by cases t; exact h.1.2
theorem fineT_l {t : Tr} (h : fineT t) : fineL t.kids := by cases t; exact h.2
theorem size_kid {t u : Tr} (h : u ∈ t.kids) : sizeT u < sizeT t := by cases t; exact sizeT_kid h
set_option maxRecDepth 100000 in
theorem name_rd (N : Nat) : RdOk N .name := by
 intro t fid σ hf hn hc
 show JC _ _ 39 _ _ _
 refine JC.startW (fn := Tryz.f39) (M := []) rfl rfl rfl (by simp) fun tm hlen hs => ?_
 have h0 := hs 0 _ rfl
 clear hs
 rw [nodeA_eq] at h0
 simp at hlen
 refine CW.hide fun R0 hR0 => ?_
 have hfl := lt_of_obj hc
 have hw := fineT_w hf
 have done : ∀ (s : List UInt8) (tm : List AV) (σ' : Sto), (nameS t).1 = [strA s] → Ext (setF σ fid (nameS t).2) σ' → tm.length = 18 → slot tm 2 = .lit (.string (bs s)) → R0 .ret tm σ' := by
  intro s tm σ' hs hx hlen h2
  refine hR0 _ _ _ ⟨.lit (.string (bs s)), ?_, ?_⟩
  · simp [resultsA, omap, res_tmp, slot_eq, slot_ne, hlen, h2]
  · refine fgt_of hx hc ?_
    show Frz _ _ _ (valR .name (nameS t).1)
    rw [hs]
    exact Frz.lit _
 clear hR0
 refine CW.seqK fun K hK => CW.region ?_
 simp (maxDischargeDepth := 16) [symB, List.length_set, andThen, hlen, h0]
 refine hK _ _ ?_; clear hK K
 refine CW.reset2 (fun tm σ1 => tm.length = 18 ∧ slot tm 1 = .ptr σ.length 0 ∧ σ1 = σ ++ [nodeO t fid]) ⟨by simp [hlen], by simp [slot_eq, slot_ne, hlen], rfl⟩ ?_
 clear h0 hlen tm
 rintro tm σ0 ⟨hlen, h1, hσ0⟩
 have hb0 : σ0[σ.length]? = some (.cells [.lit (.string (bs t.word)), .sl (rowsOf t.kids) .no, .lit (.bool t.row), .lit (.int .i64 t.at_), .ptr fid 0] 57) := by rw [hσ0]; exact get_new _ _ _
 have hx0 : Ext σ σ0 := by rw [hσ0]; exact ⟨_, rfl⟩
 have hc0 : σ0[fid]? = some cleanO := by rw [hσ0]; exact get_app hc
 clear hσ0
 refine CW.seqK fun K hK => ?_
 refine CW.seqK fun K2 hK2 => CW.region ?_
 have bad : nameS t = ([strA []], some t.at_) → ∀ tm : List AV, tm.length = 18 → slot tm 1 = .ptr σ.length 0 → slot tm 12 = .lit (.bool true) → K2 tm σ0 := by
  intro he tm hlen h1 h12
  rw [he] at done
  refine hK2 _ _ ?_
  refine CW.cond (t := true) (by simp [evx_tmp, slot_eq, slot_ne, hlen, h12]) ?_
  refine CW.seqK fun K3 hK3 => CW.region ?_
  simp (maxDischargeDepth := 16) [symB, List.length_set, andThen, hlen, h1, hb0]
  rw [← nodeA_eq]
  refine (fault_ev N t fid σ0 hc0).mono ?_
  rintro r σ2 ⟨rfl, hx2⟩
  simp (maxDischargeDepth := 16) [symB, List.length_set, andThen, hlen, retK]
  refine hK3 _ _ ?_
  refine CW.seqK fun K4 hK4 => CW.region ?_
  simp (maxDischargeDepth := 16) [symB, List.length_set, andThen, hlen]
  refine hK4 _ _ ?_
  refine CW.ret ?_
  simp only [andThen]
  exact done [] _ _ rfl ((setF_ext _ hx0 hfl).trans hx2) (by simp [hlen]) (by simp [slot_eq, slot_ne, hlen]; rfl)
 cases hrow : t.row with
 | true =>
  rw [hrow] at hb0
  simp (maxDischargeDepth := 16) [symB, List.length_set, andThen, hlen, h1, hb0]
  rw [← hrow] at hb0
  exact bad (by unfold nameS; rw [hrow]; rfl) _ (by simp [hlen]) (by simp [slot_ne, h1]) (by simp [slot_eq, slot_ne, hlen])
 | false =>
  rw [hrow] at hb0
  simp (maxDischargeDepth := 16) [symB, List.length_set, andThen, hlen, h1, hb0]
  rw [← hrow] at hb0
  refine CallW.prim (g := primName) rfl (primName_eq t.word _ (by omega)) ?_
  cases hnm : nameOk t.word with
  | false =>
   simp (maxDischargeDepth := 16) [symB, List.length_set, andThen, hlen, retK]
   exact bad (by unfold nameS; rw [hrow, hnm]; rfl) _ (by simp [hlen]) (by simp [slot_ne, h1]) (by simp [slot_eq, slot_ne, hlen])
  | true =>
   have he : nameS t = ([strA t.word], none) := by unfold nameS; rw [hrow, hnm]; rfl
   rw [he] at done
   simp (maxDischargeDepth := 16) [symB, List.length_set, andThen, hlen, retK]
   refine hK2 _ _ ?_
   refine CW.cond (t := false) (by simp [evx_tmp, slot_eq, slot_ne, hlen]) ?_
   refine CW.skip ?_
   simp only [andThen]
   refine hK _ _ ?_
   refine CW.seqK fun K hK => CW.region ?_
   simp (maxDischargeDepth := 16) [symB, List.length_set, andThen, hlen, h1, hb0]
   refine hK _ _ ?_; clear hK K
   exact CW.ret (done t.word _ _ rfl hx0 (by simp [hlen]) (by simp [slot_eq, slot_ne, hlen]))
end
section
open Go.RowKit
theorem rd_sound {N : Nat} {g : RF} (hE : EnvOk Tryz.prog (EN N)) (h : RdOk N g) : CallSound Tryz.prog fun f' args σ => if f' = fidOf g then relPrim (SR (N + 1) g) args σ else none :=
 prim_sound mixedA hE fun args σ r σ' hs => by
  obtain ⟨t, fid, e1, hf, hn, hc, e2, e3⟩ := hs
  subst e1; subst e2; subst e3
  exact h t fid σ hf hn hc
theorem rd_sound0 {g : RF} : CallSound Tryz.prog fun f' args σ => if f' = fidOf g then relPrim (SR 0 g) args σ else none := by
 intro f' args σ r σ' hr
 dsimp only at hr
 split at hr
 · obtain ⟨t, fid, e1, hf, hn, hc, e2, e3⟩ := relPrim_spec hr
   have := size_pos t
   omega
 · cases hr
theorem EN_prims {N : Nat} (h : ∀ g, CallSound Tryz.prog fun f' args σ => if f' = fidOf g then relPrim (SR N g) args σ else none) : EnvOk Tryz.prog (EN N) where
 code := codeEV_ok
 prim := fun f g hp => by
  have hp : primN N f = some g := hp
  unfold primN at hp
  split at hp
  · cases hp; exact h .name
  · cases hp; exact h .whole
  · cases hp; exact h .atom
  · cases hp; exact h .sorted
  · cases hp; exact h .many
  · cases hp; exact h .con
  · cases hp; exact h .names
  · cases hp; exact h .params
  · cases hp; exact h .param
  · cases hp; exact h .kind
  · cases hp; exact h .term
  · cases hp; exact h .right
  · cases hp; exact h .body
  · cases hp; exact h .let_
  · cases hp; exact h .last
  · cases hp; exact h .arm
  · cases hp; exact primFun_sound
  · cases hp; exact primNum_sound
  · cases hp; exact primName_sound
  · exact EV_ok.prim _ _ hp
theorem EN_ok {B : Nat} (h : ∀ N, N < B → EnvOk Tryz.prog (EN N) → ∀ g, CallSound Tryz.prog fun f' args σ => if f' = fidOf g then relPrim (SR (N + 1) g) args σ else none) : ∀ N, N ≤ B → EnvOk Tryz.prog (EN N)
 | 0, _ => EN_prims fun g => rd_sound0
 | N + 1, hN => EN_prims (h N (by omega) (EN_ok h N (by omega)))
end
end Go.Proofs.YtkkblmdgedmdfaaGreatDoor
