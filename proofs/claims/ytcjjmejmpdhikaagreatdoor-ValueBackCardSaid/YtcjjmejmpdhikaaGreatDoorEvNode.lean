/-
  EV: model: is a value of a sort?
-/
import Derived.Test.YtcjjmejmpdhikaaGreatDoorEvSorts
namespace Go.Proofs.YtcjjmejmpdhikaaGreatDoor
set_option linter.unusedSimpArgs false
set_option linter.unusedVariables false
open Go.RowKit

mutual
/-- is a value of a sort? -/
def ofV (ds : List Data) (sort : List UInt8) : Vl → Bool
  | .mk k b d t n f =>
    noneB k b d t n f &&
    (if k = 1 then sort == bInt && rightIB b d
    else if k = 2 then sort == bBool
    else if k = 3 then
      dataM sort ds && (if n = [] then f.length == 0 else
        match conM n ds with
        | none => false
        | some (a, c) =>
          match ds[a]? with
          | none => false
          | some dd => dd.1 == sort && (match dd.2[c]? with | none => false | some cc => cc.2.length == f.length && ofVs ds cc.2 f))
    else false)
def ofVs (ds : List Data) : List (List UInt8) → List Vl → Bool
  | s :: ss, v :: l => ofV ds s v && ofVs ds ss l
  | _, _ => true
end
/-- a value as it is handed on -/
def aggV (v : Vl) (t1 t2 : Tok) : AV := match v with | .mk k b d t n f => .agg [.lit (.int .u8 k), .lit (.bool b), .sl (d32 d) t1, .lit (.bool t), .lit (.string (bs n)), .sl (rowsV f) t2]
mutual
/-- numbers, rows that are not beyond all -/
def smallV : Vl → Prop
  | .mk k b d t n f => d.length ≤ 1000000 ∧ f.length ≤ 1000000 ∧ smallVs f
def smallVs : List Vl → Prop
  | [] => True
  | v :: l => smallV v ∧ smallVs l
end

theorem conM_ok {name : List UInt8} : ∀ {ds : List Data} {a c : Nat}, conM name ds = some (a, c) → ∃ d cc, ds[a]? = some d ∧ d.2[c]? = some cc
  | [], a, c, h => by simp [conM] at h
  | d :: l, a, c, h => by
    rw [conM] at h
    split at h
    · rename_i j hj
      cases h
      have hl := fidx_lt hj
      rw [rowsC_len] at hl
      exact ⟨d, d.2[c], rfl, List.getElem?_eq_getElem hl⟩
    · obtain ⟨⟨a', c'⟩, hq, he⟩ := Option.map_eq_some_iff.1 h
      cases he
      obtain ⟨d', cc, h1, h2⟩ := conM_ok hq
      exact ⟨d', cc, by simpa using h1, h2⟩

theorem smallVs_get : ∀ {l : List Vl} {i : Nat} {v : Vl}, smallVs l → l[i]? = some v → smallV v
  | [], i, v, _, h => by simp at h
  | a :: l, 0, v, hs, h => by simp at h; subst h; exact hs.1
  | a :: l, i + 1, v, hs, h => smallVs_get (i := i) hs.2 (by simpa using h)
theorem ofVs_drop (ds : List Data) : ∀ {ss : List (List UInt8)} {l : List Vl} {i : Nat} {s : List UInt8} {v : Vl}, ss[i]? = some s → l[i]? = some v → ofVs ds (ss.drop i) (l.drop i) = (ofV ds s v && ofVs ds (ss.drop (i + 1)) (l.drop (i + 1)))
  | [], l, i, s, v, h, _ => by simp at h
  | s0 :: ss, [], i, s, v, _, h => by simp at h
  | s0 :: ss, v0 :: l, 0, s, v, h, h2 => by simp at h h2; subst h; subst h2; simp [ofVs]
  | s0 :: ss, v0 :: l, i + 1, s, v, h, h2 => by simpa using ofVs_drop ds (i := i) (by simpa using h) (by simpa using h2)
theorem size_fields {f : List Vl} {i : Nat} {v : Vl} (h : f[i]? = some v) : SizeOf.sizeOf v < SizeOf.sizeOf f := by
  have := List.sizeOf_lt_of_mem (List.mem_of_getElem? h); exact this

/-! A region of loads and calls: the order of the loads' objects and the calls. -/
def nrm : Acc → Acc
  | .reads _ => .reads 0
  | .calls _ b => .calls 1 b
  | a => a
def okA (N : Nat) : Acc → Prop
  | .pure => True
  | .reads a => a < N
  | .calls n _ => N ≤ n
  | _ => False
theorem clash_nrm {N : Nat} {a b : Acc} (ha : okA N a) (hb : okA N b) : clash a b = clash (nrm a) (nrm b) := by
  cases a <;> cases b <;> simp only [okA] at ha hb <;> simp [clash, nrm] <;> omega
theorem drawOk_rc {ops : Array Oper} {accs : List Acc} (N : Nat) (h : ∀ x ∈ accs, okA N x) (hd : drawOk ops (accs.map nrm) = true) : drawOk ops accs = true := by
  unfold drawOk at hd ⊢
  simp only [List.length_map, List.all_eq_true, List.mem_range] at hd ⊢
  intro i hi k hk
  have := hd i hi k hk
  unfold freeAt at this ⊢
  have g : ∀ n : Nat, (accs.map nrm).getD n .any = nrm (accs.getD n .any) := by
    intro n
    rw [List.getD_eq_getElem?_getD, List.getD_eq_getElem?_getD, List.getElem?_map]
    cases accs[n]? <;> rfl
  have u : ∀ n : Nat, n < accs.length → okA N (accs.getD n .any) := by
    intro n hn
    rw [List.getD_eq_getElem?_getD, List.getElem?_eq_getElem hn]
    exact h _ (List.getElem_mem hn)
  rw [g, g, ← clash_nrm (u k (by omega)) (u i hi)] at this
  exact this

/-- code, less its first parts -/
def sndC : Code → Code
  | .seq _ b => b
  | c => c
def tailC : Nat → Code → Code
  | 0, c => c
  | n + 1, c => tailC n (sndC c)
theorem smallVs_mem : ∀ {l : List Vl} {v : Vl}, smallVs l → v ∈ l → smallV v
  | a :: l, v, hs, h => by
    rcases List.mem_cons.1 h with rfl | h
    · exact hs.1
    · exact smallVs_mem hs.2 h

set_option maxRecDepth 100000 in
set_option maxHeartbeats 1000000 in
theorem of_loop (ds : List Data) (tok : Tok) (b : Bool) (d : List Nat) (t : Bool) (n : List UInt8) (f : List Vl) (t1 t2 : Tok) (hfl : f.length ≤ 1000000)
    (ih : ∀ (s : List UInt8) (v : Vl) (σ : Sto), v ∈ f → CallW Tryz.prog EV 24 [.sl (rowsD ds) tok, .lit (.string (bs s)), aggV v .no .no] σ fun r σ' => r = .ret (.lit (.bool (ofV ds s v))) ∧ Ext σ σ')
    (pa pb : Nat) (dd : Data) (cc : Con) (hda : ds[pa]? = some dd) (hdc : dd.2[pb]? = some cc) (hle : cc.2.length = f.length) (res : Bool) (hofV : res = ofVs ds cc.2 f) (ia ip : Nat) (tm : List AV) (σ6 : Sto) (R0 : AExit → List AV → Sto → Prop) (σ : Sto)
    (hlen : tm.length = 89) (h0 : slot tm 0 = .sl (rowsD ds) tok) (h5 : slot tm 5 = .ptr ia 0) (h7 : slot tm 7 = .ptr ip 0)
    (hob6 : σ6[ia]? = some (.cells [.lit (.int .u8 (3 : Nat)), .lit (.bool b), .sl (d32 d) t1, .lit (.bool t), .lit (.string (bs n)), .sl (rowsV f) t2] 37)) (hpl6 : σ6[ip]? = some (.cells [.lit (.int .i64 pa), .lit (.int .i64 pb)] 88)) (hxx6 : Ext σ σ6)
    (done : ∀ (c : Bool) (tm : List AV) (σ1 : Sto), c = res → tm.length = 89 → slot tm 6 = .lit (.bool c) → Ext σ σ1 → R0 .ret tm σ1) : CW Tryz.prog EV [] (tailC 5 (Tryz.f24.body.getD .skip)) tm σ6 R0 := by
  refine CW.seqK fun K hK => ?_
  refine CW.seqK fun K2 hK2 => CW.region ?_
  simp (maxDischargeDepth := 16) [symB, List.length_set, andThen, hlen, h0, h7, hpl6]
  refine (fields_ev ds tok pa pb dd cc hda hdc σ6).mono ?_
  rintro r σ7 ⟨rfl, hx7⟩
  have hob7 := hx7.get hob6
  simp (maxDischargeDepth := 16) [symB, List.length_set, retK, andThen, hlen, strR_len, hle]
  refine hK2 _ _ ?_; clear hK2 K2
  refine CW.block ?_
  refine CW.hide fun R hR => ?_
  refine CW.loopI (fun r tm σ1 => ∃ i, r = f.length - i ∧ i ≤ f.length ∧ ofVs ds (cc.2.drop i) (f.drop i) = res ∧ tm.length = 89 ∧ slot tm 0 = .sl (rowsD ds) tok ∧ slot tm 5 = .ptr ia 0 ∧ slot tm 72 = .sl (strR cc.2) .no ∧ slot tm 73 = .lit (.int .i64 f.length) ∧ slot tm 74 = .lit (.int .i64 i) ∧ Ext σ7 σ1) ?_ _ _ _
    ⟨0, rfl, by omega, by rw [hofV]; rfl, by simp [hlen], by simp (maxDischargeDepth := 16) [slot_ne, h0], by simp (maxDischargeDepth := 16) [slot_ne, h5], by simp (maxDischargeDepth := 16) [slot_eq, slot_ne, hlen], by simp (maxDischargeDepth := 16) [slot_ne, slot_eq, hlen], by simp (maxDischargeDepth := 16) [slot_eq, hlen], .refl _⟩
  clear h0 h5 h7 hlen tm
  rintro r tm σ1 ⟨i, rfl, hi, hof, hlen, h0, h5, h72, h73, h74, hext⟩
  have hob1 := hext.get hob7
  refine CW.hide fun R2 hR2 => ?_
  refine CW.seqK fun K4 hK4 => CW.region ?_
  by_cases hlt : i < f.length
  · have hlt' : (i : Int) < f.length := by omega
    simp (maxDischargeDepth := 16) [symB, List.length_set, andThen, hlen, h73, h74, hlt', hlt]
    refine hK4 _ _ ?_
    refine CW.seqK fun K3 hK3 => ?_
    refine CW.cond (t := true) (by simp (maxDischargeDepth := 16) [evx_tmp, slot_eq, slot_ne, hlen]) ?_
    refine CW.skip ?_
    simp only [andThen]
    refine hK3 _ _ ?_
    have hsl : i < cc.2.length := by omega
    have hgs := strR_get hsl
    have hgs2 := List.getElem?_eq_getElem hsl
    generalize cc.2[i] = s at *
    have hgf := rowsV_get hlt
    have hgf2 := List.getElem?_eq_getElem hlt
    have hmem := List.getElem_mem hlt
    generalize f[i] = v at *
    rw [ofVs_drop ds hgs2 hgf2] at hof
    have hwk : IntKind.i64.wrap ((i : Int) + 1) = ((i + 1 : Nat) : Int) := wrap_succ (by omega)
    obtain ⟨k', b', d', tt', n', f'⟩ := v
    rw [rowV] at hgf
    have hc := ih s _ σ1 hmem
    unfold aggV at hc
    refine CW.seqK fun K5 hK5 => CW.block ?_
    refine CW.seqK fun K hK => CW.region ?_
    simp (maxDischargeDepth := 16) [symB, List.length_set, andThen, hlen, h72, h74, hgs]
    refine hK _ _ ?_; clear hK K
    refine CW.seqK fun K6 hK6 => CW.region ?_
    simp (maxDischargeDepth := 16) [symB, List.length_set, andThen, hlen, h0, h5, hob1, hgf]
    refine hc.mono ?_
    rintro r σ2 ⟨rfl, hext2⟩
    generalize ofV ds s (.mk k' b' d' tt' n' f') = bb at *
    cases bb with
    | false =>
      simp (maxDischargeDepth := 16) [symB, List.length_set, andThen, hlen, retK]
      refine hK6 _ _ ?_
      refine CW.cond (t := true) (by simp (maxDischargeDepth := 16) [evx_tmp, slot_eq, slot_ne, hlen]) ?_
      refine CW.seqK fun K7 hK7 => CW.region ?_
      simp (maxDischargeDepth := 16) [symB, List.length_set, andThen, hlen]
      refine hK7 _ _ ?_
      refine CW.ret ?_
      simp only [andThen, outOf]
      exact hR2 _ _ _ (hR _ _ _ (done false _ _ (by rw [← hof]; rfl) (by simp [hlen]) (by simp (maxDischargeDepth := 16) [slot_eq, slot_ne, hlen]) ((hxx6.trans hx7).trans (hext.trans hext2))))
    | true =>
      rw [Bool.true_and] at hof
      simp (maxDischargeDepth := 16) [symB, List.length_set, andThen, hlen, retK]
      refine hK6 _ _ ?_
      refine CW.cond (t := false) (by simp (maxDischargeDepth := 16) [evx_tmp, slot_eq, slot_ne, hlen]) ?_
      refine CW.skip ?_
      simp only [andThen, outOf]
      refine hK5 _ _ ?_
      refine CW.region ?_
      simp (maxDischargeDepth := 16) [symB, List.length_set, andThen, hlen, h74, hwk]
      exact hR2 _ _ _ ⟨f.length - (i + 1), by omega, i + 1, rfl, hlt, hof, by simp [hlen], by simp (maxDischargeDepth := 16) [slot_ne, h0], by simp (maxDischargeDepth := 16) [slot_ne, h5], by simp (maxDischargeDepth := 16) [slot_ne, h72], by simp (maxDischargeDepth := 16) [slot_ne, h73], by simp (maxDischargeDepth := 16) [slot_eq, hlen], hext.trans hext2⟩
  · have hlt' : ¬ (i : Int) < f.length := by omega
    have hil : i = f.length := by omega
    subst hil
    simp (maxDischargeDepth := 16) [symB, List.length_set, andThen, hlen, h73, h74]
    refine hK4 _ _ ?_
    refine CW.seqK fun K3 hK3 => ?_
    refine CW.cond (t := false) (by simp (maxDischargeDepth := 16) [evx_tmp, slot_eq, slot_ne, hlen]) ?_
    refine CW.exit ?_
    simp only [andThen]
    refine hR2 _ _ _ (hR _ _ _ ?_)
    simp only [outOf, if_true, andThen]
    refine hK _ _ ?_
    refine CW.seqK fun K hK => CW.region ?_
    simp (maxDischargeDepth := 16) [symB, List.length_set, andThen, hlen]
    refine hK _ _ ?_; clear hK K
    refine CW.ret ?_
    refine done true _ _ ?_ (by simp [hlen]) (by simp (maxDischargeDepth := 16) [slot_eq, slot_ne, hlen]) ((hxx6.trans hx7).trans hext)
    rw [← hof, List.drop_length]
    cases cc.2.drop f.length <;> rfl

set_option maxRecDepth 100000 in
set_option maxHeartbeats 1000000 in
theorem of_tail (ds : List Data) (tok : Tok) (hds : smallD ds) (b : Bool) (d : List Nat) (t : Bool) (n : List UInt8) (f : List Vl) (t1 t2 : Tok) (sort : List UInt8) (hdl : d.length ≤ 1000000) (hfl : f.length ≤ 1000000) (hsf : smallVs f)
    (ih : ∀ (s : List UInt8) (v : Vl) (σ : Sto), v ∈ f → CallW Tryz.prog EV 24 [.sl (rowsD ds) tok, .lit (.string (bs s)), aggV v .no .no] σ fun r σ' => r = .ret (.lit (.bool (ofV ds s v))) ∧ Ext σ σ')
    (res : Bool) (hofV : res = (dataM sort ds && (if n = [] then f.length == 0 else
            match conM n ds with
            | none => false
            | some (a, c) =>
              match ds[a]? with
              | none => false
              | some dd => dd.1 == sort && (match dd.2[c]? with | none => false | some cc => cc.2.length == f.length && ofVs ds cc.2 f)))) (ia : Nat) (σ : Sto) (tm : List AV) (σ2 : Sto) (R0 : AExit → List AV → Sto → Prop)
    (hlen : tm.length = 89) (h0 : slot tm 0 = .sl (rowsD ds) tok) (h1 : slot tm 1 = .lit (.string (bs sort))) (h5 : slot tm 5 = .ptr ia 0)
    (hob2 : σ2[ia]? = some (.cells [.lit (.int .u8 (3 : Nat)), .lit (.bool b), .sl (d32 d) t1, .lit (.bool t), .lit (.string (bs n)), .sl (rowsV f) t2] 37)) (hxA : Ext σ σ2)
    (done1 : ∀ (tm : List AV) (σ1 : Sto), tm.length = 89 → slot tm 6 = .lit (.bool res) → Ext σ σ1 → R0 .ret tm σ1) : CW Tryz.prog EV [] (tailC 3 (Tryz.f24.body.getD .skip)) tm σ2 R0 := by
  have done : ∀ (c : Bool) (tm : List AV) (σ1 : Sto), c = res → tm.length = 89 → slot tm 6 = .lit (.bool c) → Ext σ σ1 → R0 .ret tm σ1 := fun c tm σ1 hc hl h6 hx => done1 tm σ1 hl (by rw [← hc]; exact h6) hx
  have hF1 : dataM sort ds = false → res = false := fun h => by rw [hofV, h]; rfl
  have hF2 : dataM sort ds = true → n = [] → res = (f.length == 0) := fun h h2 => by rw [hofV, h, if_pos h2]; rfl
  have hF3 : dataM sort ds = true → ¬ n = [] → conM n ds = none → res = false := fun h h2 h3 => by rw [hofV, h, if_neg h2, h3]; rfl
  have hF4 : ∀ a c dd cc, dataM sort ds = true → ¬ n = [] → conM n ds = some (a, c) → ds[a]? = some dd → dd.2[c]? = some cc → res = (dd.1 == sort && (cc.2.length == f.length && ofVs ds cc.2 f)) := fun a c dd cc h h2 h3 h4 h5 => by rw [hofV, h, if_neg h2, h3]; dsimp only; rw [h4]; dsimp only; rw [h5]; rfl
  clear hofV
  obtain ⟨pa, pb, ok, hcv, hok⟩ : ∃ (pa pb : Nat) (ok : Bool), conAV n ds = .tup [.agg [.lit (.int .i64 pa), .lit (.int .i64 pb)], .lit (.bool ok)] ∧ (match conM n ds with | some (a, c) => pa = a ∧ pb = c ∧ ok = true | none => ok = false) := by
    unfold conAV
    cases conM n ds with
    | none => exact ⟨0, 0, false, rfl, rfl⟩
    | some q => exact ⟨q.1, q.2, true, rfl, rfl, rfl, rfl⟩
  refine CW.seqK fun K2 hK2 => CW.region ?_
  simp (maxDischargeDepth := 16) [symB, List.length_set, andThen, hlen, h0, h5, hob2]
  refine (con_ev ds tok n σ2 hds).mono ?_
  rintro r σ3 ⟨rfl, hx3⟩
  have hob3 := hx3.get hob2
  rw [hcv]
  simp (maxDischargeDepth := 16) [symB, List.length_set, andThen, hlen, retK]
  refine hK2 _ _ ?_; clear hK2 K2
  obtain ⟨ip, hip⟩ : ∃ ip : Nat, List.length σ3 = ip := ⟨_, rfl⟩
  have hob4 : (σ3 ++ [AObj.cells [.lit (.int .i64 pa), .lit (.int .i64 pb)] 88])[ia]? = some (.cells [.lit (.int .u8 (3 : Nat)), .lit (.bool b), .sl (d32 d) t1, .lit (.bool t), .lit (.string (bs n)), .sl (rowsV f) t2] 37) := by rw [List.getElem?_append_left (List.getElem?_eq_some_iff.1 hob3).1]; exact hob3
  have hpl4 : (σ3 ++ [AObj.cells [.lit (.int .i64 pa), .lit (.int .i64 pb)] 88])[ip]? = some (.cells [.lit (.int .i64 pa), .lit (.int .i64 pb)] 88) := by rw [← hip]; simp
  have hx4 : Ext σ (σ3 ++ [AObj.cells [.lit (.int .i64 pa), .lit (.int .i64 pb)] 88]) := (hxA.trans hx3).push _
  generalize (σ3 ++ [AObj.cells [.lit (.int .i64 pa), .lit (.int .i64 pb)] 88]) = σ4 at *
  refine CW.reset (fun tm => tm.length = 89 ∧ slot tm 0 = .sl (rowsD ds) tok ∧ slot tm 1 = .lit (.string (bs sort)) ∧ slot tm 5 = .ptr ia 0 ∧ slot tm 7 = .ptr ip 0 ∧ slot tm 8 = .lit (.bool ok)) ⟨by simp [hlen], by simp (maxDischargeDepth := 16) [slot_ne, h0], by simp (maxDischargeDepth := 16) [slot_ne, h1], by simp (maxDischargeDepth := 16) [slot_ne, h5], by simp (maxDischargeDepth := 16) [slot_eq, slot_ne, hlen, hip], by simp (maxDischargeDepth := 16) [slot_eq, slot_ne, hlen]⟩ ?_
  clear h0 h1 h5 hlen tm
  rintro tm ⟨hlen, h0, h1, h5, h7, h8⟩
  refine CW.seqK fun K3 hK3 => CW.block ?_
  refine CW.seqK fun K4 hK4 => CW.region ?_
  simp (maxDischargeDepth := 16) [symB, List.length_set, andThen, hlen, h0, h1]
  refine (data_ev ds tok sort σ4 hds).mono ?_
  rintro r σ5 ⟨rfl, hx5⟩
  have hob5 := hx5.get hob4
  have hpl5 := hx5.get hpl4
  have hxx5 := hx4.trans hx5
  cases hdm : dataM sort ds with
  | false =>
    simp (maxDischargeDepth := 16) [symB, List.length_set, andThen, hlen, retK]
    refine hK4 _ _ ?_
    refine CW.cond (t := true) (by simp (maxDischargeDepth := 16) [evx_tmp, slot_eq, slot_ne, hlen]) ?_
    refine CW.seqK fun K5 hK5 => CW.region ?_
    simp (maxDischargeDepth := 16) [symB, List.length_set, andThen, hlen]
    refine hK5 _ _ ?_
    refine CW.ret ?_
    simp only [andThen, outOf]
    exact done false _ _ (hF1 hdm).symm (by simp [hlen]) (by simp (maxDischargeDepth := 16) [slot_eq, slot_ne, hlen]) hxx5
  | true =>
    simp (maxDischargeDepth := 16) [symB, List.length_set, andThen, hlen, retK]
    refine hK4 _ _ ?_
    refine CW.cond (t := false) (by simp (maxDischargeDepth := 16) [evx_tmp, slot_eq, slot_ne, hlen]) ?_
    refine CW.seqK fun K5 hK5 => CW.region ?_
    have hz0 : (⟨#[]⟩ : ByteArray).toList = [] := bs_list []
    by_cases hn : n = []
    · have hG2 := hF2 hdm hn
      subst hn
      simp (maxDischargeDepth := 16) [symB, List.length_set, andThen, hlen, h5, hob5, bs_list, hz0]
      refine hK5 _ _ ?_
      refine CW.cond (t := true) (by simp (maxDischargeDepth := 16) [evx_tmp, slot_eq, slot_ne, hlen]) ?_
      refine CW.seqK fun K6 hK6 => CW.region ?_
      have hb0 := ieq f.length 0
      simp (maxDischargeDepth := 16) [symB, List.length_set, andThen, hlen, h5, hob5, rowsV_len]
      refine hK6 _ _ ?_
      refine CW.ret ?_
      simp only [andThen, outOf]
      refine done (f.length == 0) _ _ hG2.symm (by simp [hlen]) ?_ hxx5
      simp (maxDischargeDepth := 16) [slot_eq, slot_ne, hlen]
      exact hb0
    · simp (maxDischargeDepth := 16) [symB, List.length_set, andThen, hlen, h5, hob5, bs_list, hz0, hn]
      refine hK5 _ _ ?_
      refine CW.cond (t := false) (by simp (maxDischargeDepth := 16) [evx_tmp, slot_eq, slot_ne, hlen, hn]) ?_
      refine CW.seqK fun K6 hK6 => ?_
      have bad : res = false → ∀ (tm : List AV) (σ6 : Sto), Ext σ σ6 → tm.length = 89 → slot tm 51 = .lit (.bool true) → K6 tm σ6 := by
        intro hr tm σ6 hx6 hlen h51
        refine hK6 _ _ ?_
        refine CW.cond (t := true) (by simp (maxDischargeDepth := 16) [evx_tmp, slot_eq, slot_ne, hlen, h51]) ?_
        refine CW.seqK fun K7 hK7 => CW.region ?_
        simp (maxDischargeDepth := 16) [symB, List.length_set, andThen, hlen]
        refine hK7 _ _ ?_
        refine CW.ret ?_
        simp only [andThen, outOf]
        exact done false _ _ hr.symm (by simp [hlen]) (by simp (maxDischargeDepth := 16) [slot_eq, slot_ne, hlen]) hx6
      refine CW.seqK fun K7 hK7 => CW.region ?_
      simp (maxDischargeDepth := 16) [symB, List.length_set, andThen, hlen, h8]
      refine hK7 _ _ ?_
      cases hcm : conM n ds with
      | none =>
        rw [hcm] at hok
        dsimp only at hok
        subst hok
        refine CW.cond (t := true) (by simp (maxDischargeDepth := 16) [evx_tmp, slot_eq, slot_ne, hlen]) ?_
        refine CW.skip ?_
        simp only [andThen]
        exact bad (hF3 hdm hn hcm) _ _ hxx5 (by simp [hlen]) (by simp (maxDischargeDepth := 16) [slot_eq, slot_ne, hlen])
      | some q =>
        obtain ⟨a, c⟩ := q
        rw [hcm] at hok
        dsimp only at hok
        obtain ⟨rfl, rfl, rfl⟩ := hok
        obtain ⟨dd, cc, hda, hdc⟩ := conM_ok hcm
        have hF5 := hF4 _ _ _ _ hdm hn hcm hda hdc
        clear hF1 hF2 hF3 hF4
        have hgd : (rowsD ds)[pa]? = some [.lit (.string (bs dd.1)), .sl (rowsC dd.2) .no] := by unfold rowsD; rw [List.getElem?_map, hda]; rfl
        refine CW.cond (t := false) (by simp (maxDischargeDepth := 16) [evx_tmp, slot_eq, slot_ne, hlen]) ?_
        refine CW.seqK fun K8 hK8 => CW.region ?_
        by_cases hso : dd.1 = sort
        · simp (maxDischargeDepth := 16) [symB, List.length_set, andThen, hlen, h0, h1, h7, hpl5, hgd, bs_list, hso]
          refine hK8 _ _ ?_
          refine CW.cond (t := false) (by simp (maxDischargeDepth := 16) [evx_tmp, slot_eq, slot_ne, hlen, hso]) ?_
          refine CW.reset (fun tm => tm.length = 89 ∧ slot tm 0 = .sl (rowsD ds) tok ∧ slot tm 5 = .ptr ia 0 ∧ slot tm 7 = .ptr ip 0) ⟨by simp [hlen], by simp (maxDischargeDepth := 16) [slot_ne, h0], by simp (maxDischargeDepth := 16) [slot_ne, h5], by simp (maxDischargeDepth := 16) [slot_ne, h7]⟩ ?_
          clear h0 h1 h5 h7 h8 hlen tm
          rintro tm ⟨hlen, h0, h5, h7⟩
          refine CW.draw (by kernel_rfl) ?_
          simp (maxDischargeDepth := 16) [symB, List.length_set, andThen, hlen, h0, h7, hpl5]
          refine (fields_ev ds tok pa pb dd cc hda hdc σ5).mono ?_
          rintro r σ6 ⟨rfl, hx6⟩
          have hob6 := hx6.get hob5
          have hpl6 := hx6.get hpl5
          have hxx6 := hxx5.trans hx6
          have hfl2 := (hds.2 dd (List.mem_of_getElem? hda)).2 cc (List.mem_of_getElem? hdc)
          by_cases hle : cc.2.length = f.length
          · have hofV : res = ofVs ds cc.2 f := by rw [hF5, hso, hle]; simp
            have hli : (cc.2.length : Int) = (f.length : Int) := by omega
            have hia5 := (List.getElem?_eq_some_iff.1 hob5).1
            have hip5 := (List.getElem?_eq_some_iff.1 hpl5).1
            simp (maxDischargeDepth := 16) [symB, List.length_set, retK, andThen, hlen, h5, hob6, strR_len, rowsV_len, hle, extB_of hx6]
            refine ⟨drawOk_rc σ5.length (by simp [okA, hia5, hip5]) (by kernel_rfl), ?_⟩
            refine hK6 _ _ ?_
            refine CW.cond (t := false) (by simp (maxDischargeDepth := 16) [evx_tmp, slot_eq, slot_ne, hlen]) ?_
            refine CW.skip ?_
            simp only [andThen, outOf]
            refine hK3 _ _ ?_
            exact of_loop ds tok b d t n f t1 t2 hfl ih pa pb dd cc hda hdc hle res hofV ia ip _ σ6 R0 σ (by simp [hlen]) (by simp (maxDischargeDepth := 16) [slot_ne, h0]) (by simp (maxDischargeDepth := 16) [slot_ne, h5]) (by simp (maxDischargeDepth := 16) [slot_ne, h7]) hob6 hpl6 hxx6 done
          · have hlb : (cc.2.length == f.length) = false := by simpa using hle
            have hofV : res = false := by rw [hF5, hlb]; simp
            have hli : ¬ (cc.2.length : Int) = (f.length : Int) := by omega
            have hia5 := (List.getElem?_eq_some_iff.1 hob5).1
            have hip5 := (List.getElem?_eq_some_iff.1 hpl5).1
            simp (maxDischargeDepth := 16) [symB, List.length_set, retK, andThen, hlen, h5, hob6, strR_len, rowsV_len, hle, hli, extB_of hx6]
            refine ⟨drawOk_rc σ5.length (by simp [okA, hia5, hip5]) (by kernel_rfl), ?_⟩
            exact bad hofV _ _ hxx6 (by simp [hlen]) (by simp (maxDischargeDepth := 16) [slot_eq, slot_ne, hlen, hle, hli])
        · have hbb : (dd.1 == sort) = false := by simpa using hso
          have hofV : res = false := by rw [hF5, hbb]; rfl
          simp (maxDischargeDepth := 16) [symB, List.length_set, andThen, hlen, h0, h1, h7, hpl5, hgd, bs_list, hso]
          refine hK8 _ _ ?_
          refine CW.cond (t := true) (by simp (maxDischargeDepth := 16) [evx_tmp, slot_eq, slot_ne, hlen, hso]) ?_
          refine CW.skip ?_
          simp only [andThen]
          exact bad hofV _ _ hxx5 (by simp [hlen]) (by simp (maxDischargeDepth := 16) [slot_eq, slot_ne, hlen, hso])

set_option maxRecDepth 100000 in
set_option maxHeartbeats 1000000 in
theorem of_ev_ (ds : List Data) (tok : Tok) (hds : smallD ds) (N : Nat) : ∀ (v : Vl) (sort : List UInt8) (t1 t2 : Tok) (σ : Sto), SizeOf.sizeOf v < N → smallV v →
    CallW Tryz.prog EV 24 [.sl (rowsD ds) tok, .lit (.string (bs sort)), aggV v t1 t2] σ fun r σ' => r = .ret (.lit (.bool (ofV ds sort v))) ∧ Ext σ σ' := by
  induction N with
  | zero => intro v sort t1 t2 σ h; omega
  | succ N ih =>
    intro v sort t1 t2 σ hN hsv
    obtain ⟨k, b, d, t, n, f⟩ := v
    obtain ⟨hdl, hfl, hsf⟩ := hsv
    unfold aggV
    refine CallW.start (fn := Tryz.f24) (M := []) rfl rfl rfl rfl (by simp) fun tm hlen hss => ?_
    have h0 := hss 0 _ rfl
    have h1 := hss 1 _ rfl
    have h2 := hss 2 _ rfl
    clear hss
    simp at hlen
    refine CW.hide fun R0 hR0 => ?_
    have done : ∀ (c : Bool) (tm : List AV) (σ1 : Sto), c = ofV ds sort (.mk k b d t n f) → tm.length = 89 → slot tm 6 = .lit (.bool c) → Ext σ σ1 → R0 .ret tm σ1 := by
      intro c tm σ1 hc hlen h6 hx
      subst hc
      refine hR0 _ _ _ ⟨.lit (.bool (ofV ds sort (.mk k b d t n f))), ?_, rfl, hx⟩
      simp (maxDischargeDepth := 16) [resultsA, omap, res_tmp, slot_eq, slot_ne, hlen, h6]
    clear hR0
    have hofV := ofV.eq_1 ds sort k b d t n f
    generalize ofV ds sort (.mk k b d t n f) = res at *
    refine CW.seqK fun K hK => CW.region ?_
    simp (maxDischargeDepth := 16) [symB, List.length_set, andThen, hlen, h2]
    refine hK _ _ ?_; clear hK K
    have hobA : (σ ++ [AObj.cells [.lit (.int .u8 k), .lit (.bool b), .sl (d32 d) t1, .lit (.bool t), .lit (.string (bs n)), .sl (rowsV f) t2] 37])[σ.length]? = some (.cells [.lit (.int .u8 k), .lit (.bool b), .sl (d32 d) t1, .lit (.bool t), .lit (.string (bs n)), .sl (rowsV f) t2] 37) := by simp
    have hxA : Ext σ (σ ++ [AObj.cells [.lit (.int .u8 k), .lit (.bool b), .sl (d32 d) t1, .lit (.bool t), .lit (.string (bs n)), .sl (rowsV f) t2] 37]) := ⟨_, rfl⟩
    generalize (σ ++ [AObj.cells [.lit (.int .u8 k), .lit (.bool b), .sl (d32 d) t1, .lit (.bool t), .lit (.string (bs n)), .sl (rowsV f) t2] 37]) = σA at *
    refine CW.reset (fun tm => tm.length = 89 ∧ slot tm 0 = .sl (rowsD ds) tok ∧ slot tm 1 = .lit (.string (bs sort)) ∧ slot tm 5 = .ptr σ.length 0) ⟨by simp [hlen], by simp (maxDischargeDepth := 16) [slot_ne, h0], by simp (maxDischargeDepth := 16) [slot_ne, h1], by simp (maxDischargeDepth := 16) [slot_eq, slot_ne, hlen]⟩ ?_
    clear h0 h1 h2 hlen tm
    rintro tm ⟨hlen, h0, h1, h5⟩
    refine CW.seqK fun K hK => ?_
    refine CW.seqK fun K2 hK2 => CW.region ?_
    simp (maxDischargeDepth := 16) [symB, List.length_set, andThen, hlen, h5, hobA]
    refine (none_ev k b d t n f t1 t2 σA).mono ?_
    rintro r σ2 ⟨rfl, hx2⟩
    cases hno : noneB k b d t n f with
    | false =>
      rw [hno] at hofV
      simp (maxDischargeDepth := 16) [symB, List.length_set, andThen, hlen, retK]
      refine hK2 _ _ ?_
      refine CW.cond (t := true) (by simp (maxDischargeDepth := 16) [evx_tmp, slot_eq, slot_ne, hlen]) ?_
      refine CW.seqK fun K hK => CW.region ?_
      simp (maxDischargeDepth := 16) [symB, List.length_set, andThen, hlen]
      refine hK _ _ ?_; clear hK K
      refine CW.ret ?_
      simp only [andThen]
      exact done false _ _ (by rw [hofV]; rfl) (by simp [hlen]) (by simp (maxDischargeDepth := 16) [slot_eq, slot_ne, hlen]) (hxA.trans hx2)
    | true =>
      rw [hno] at hofV
      simp only [Bool.true_and] at hofV
      have hob2 := hx2.get hobA
      simp (maxDischargeDepth := 16) [symB, List.length_set, andThen, hlen, retK]
      refine hK2 _ _ ?_
      refine CW.cond (t := false) (by simp (maxDischargeDepth := 16) [evx_tmp, slot_eq, slot_ne, hlen]) ?_
      refine CW.skip ?_
      simp only [andThen]
      refine hK _ _ ?_; clear hK K hK2 K2
      refine CW.seqK fun K hK => ?_
      refine CW.seqK fun K hK => CW.region ?_
      simp (maxDischargeDepth := 16) [symB, List.length_set, andThen, hlen, h5, hob2]
      refine hK _ _ ?_; clear hK K
      refine CW.block ?_
      refine CW.seqK fun K2 hK2 => CW.region ?_
      have tail : ∀ tm : List AV, k = 3 → tm.length = 89 → slot tm 0 = .sl (rowsD ds) tok → slot tm 1 = .lit (.string (bs sort)) → slot tm 5 = .ptr σ.length 0 → K tm σ2 := by
        intro tm hk hlen h0 h1 h5
        refine hK _ _ ?_
        subst hk
        exact of_tail ds tok hds b d t n f t1 t2 sort hdl hfl hsf (fun s v σ hv => ih v s .no .no σ (by have := List.sizeOf_lt_of_mem hv; simp at hN; omega) (smallVs_mem hsf hv)) res (by rw [hofV]; simp) σ.length σ tm σ2 R0 hlen h0 h1 h5 hob2 (hxA.trans hx2) (fun tm σ1 hl h6 hx => done res tm σ1 rfl hl h6 hx)
      by_cases hk1 : k = 1
      · subst hk1
        simp only [if_true] at hofV
        have hb1 : (⟨#[105, 110, 116]⟩ : ByteArray).toList = bInt := bs_list bInt
        simp (maxDischargeDepth := 16) [symB, List.length_set, andThen, hlen]
        refine hK2 _ _ ?_
        refine CW.cond (t := true) (by simp (maxDischargeDepth := 16) [evx_tmp, slot_eq, slot_ne, hlen]) ?_
        refine CW.seqK fun K3 hK3 => CW.region ?_
        by_cases hs : sort = bInt
        · simp (maxDischargeDepth := 16) [symB, List.length_set, andThen, hlen, h1, h5, hob2, bs_list, hb1, hs]
          refine (numRight_ev b d t1 σ2 (by omega)).mono ?_
          rintro r σ3 ⟨rfl, hx3⟩
          simp (maxDischargeDepth := 16) [symB, List.length_set, andThen, hlen, retK]
          refine hK3 _ _ ?_
          refine CW.ret ?_
          simp only [andThen, outOf]
          exact done (rightIB b d) _ _ (by rw [hofV, hs]; simp) (by simp [hlen]) (by simp (maxDischargeDepth := 16) [slot_eq, slot_ne, hlen]) ((hxA.trans hx2).trans hx3)
        · simp (maxDischargeDepth := 16) [symB, List.length_set, andThen, hlen, h1, h5, hob2, bs_list, hb1, hs]
          refine hK3 _ _ ?_
          refine CW.ret ?_
          simp only [andThen, outOf]
          exact done false _ _ (by rw [hofV]; simp [hs]) (by simp [hlen]) (by simp (maxDischargeDepth := 16) [slot_eq, slot_ne, hlen]) (hxA.trans hx2)
      · have e1 : ((k : Int) == 1) = false := by simp; omega
        have e1' : ¬ (k : Int) = 1 := by omega
        rw [if_neg hk1] at hofV
        simp (maxDischargeDepth := 16) [symB, List.length_set, andThen, hlen, e1]
        refine hK2 _ _ ?_
        refine CW.cond (t := false) (by simp (maxDischargeDepth := 16) [evx_tmp, slot_eq, slot_ne, hlen]) ?_
        refine CW.seqK fun K3 hK3 => CW.region ?_
        by_cases hk2 : k = 2
        · subst hk2
          simp only [if_true] at hofV
          have hb2 : (⟨#[98, 111, 111, 108]⟩ : ByteArray).toList = bBool := bs_list bBool
          simp (maxDischargeDepth := 16) [symB, List.length_set, andThen, hlen]
          refine hK3 _ _ ?_
          refine CW.cond (t := true) (by simp (maxDischargeDepth := 16) [evx_tmp, slot_eq, slot_ne, hlen]) ?_
          refine CW.seqK fun K4 hK4 => CW.region ?_
          simp (maxDischargeDepth := 16) [symB, List.length_set, andThen, hlen, h1, bs_list, hb2]
          refine hK4 _ _ ?_
          refine CW.ret ?_
          simp only [andThen, outOf]
          exact done (sort == bBool) _ _ (by rw [hofV]) (by simp [hlen]) (by simp (maxDischargeDepth := 16) [slot_eq, slot_ne, hlen]) (hxA.trans hx2)
        · have e2 : ((k : Int) == 2) = false := by simp; omega
          rw [if_neg hk2] at hofV
          simp (maxDischargeDepth := 16) [symB, List.length_set, andThen, hlen, e2]
          refine hK3 _ _ ?_
          refine CW.cond (t := false) (by simp (maxDischargeDepth := 16) [evx_tmp, slot_eq, slot_ne, hlen]) ?_
          refine CW.seqK fun K4 hK4 => CW.region ?_
          by_cases hk3 : k = 3
          · subst hk3
            simp (maxDischargeDepth := 16) [symB, List.length_set, andThen, hlen]
            refine hK4 _ _ ?_
            refine CW.cond (t := true) (by simp (maxDischargeDepth := 16) [evx_tmp, slot_eq, slot_ne, hlen]) ?_
            refine CW.skip ?_
            simp only [andThen, outOf]
            exact tail _ rfl (by simp [hlen]) (by simp (maxDischargeDepth := 16) [slot_ne, h0]) (by simp (maxDischargeDepth := 16) [slot_ne, h1]) (by simp (maxDischargeDepth := 16) [slot_ne, h5])
          · have e3 : ((k : Int) == 3) = false := by simp; omega
            rw [if_neg hk3] at hofV
            simp (maxDischargeDepth := 16) [symB, List.length_set, andThen, hlen, e3]
            refine hK4 _ _ ?_
            refine CW.cond (t := false) (by simp (maxDischargeDepth := 16) [evx_tmp, slot_eq, slot_ne, hlen]) ?_
            refine CW.seqK fun K5 hK5 => CW.region ?_
            simp (maxDischargeDepth := 16) [symB, List.length_set, andThen, hlen]
            refine hK5 _ _ ?_
            refine CW.ret ?_
            simp only [andThen, outOf]
            exact done false _ _ hofV.symm (by simp [hlen]) (by simp (maxDischargeDepth := 16) [slot_eq, slot_ne, hlen]) (hxA.trans hx2)

end Go.Proofs.YtcjjmejmpdhikaaGreatDoor

namespace Go.Proofs.YtcjjmejmpdhikaaGreatDoor
set_option linter.unusedSimpArgs false
set_option linter.unusedVariables false
open Go.RowKit

/-! A region that draws, where objects bear letters: distinct letters are distinct numbers. -/
def Acc.ren (ids : List Nat) : Acc → Acc
  | .pure => .pure
  | .reads i => .reads (ids.getD i 0)
  | .writes i => .writes (ids.getD i 0)
  | .news i => .news (ids.getD i 0)
  | .grows k n => .grows (k.map fun i => ids.getD i 0) (ids.getD n 0)
  | .calls n b => .calls n b
  | .any => .any
def Acc.under (n : Nat) : Acc → Bool
  | .reads i | .writes i | .news i => decide (i < n)
  | .grows none i => decide (i < n)
  | .grows (some k) i => decide (k < n) && decide (i < n)
  | .calls _ _ => false
  | _ => true

theorem getD_inj {ids : List Nat} (h : ids.Nodup) {i j : Nat} (hi : i < ids.length) (hj : j < ids.length) : (ids.getD i 0 == ids.getD j 0) = (i == j) := by
  rw [List.getD_eq_getElem?_getD, List.getD_eq_getElem?_getD, List.getElem?_eq_getElem hi, List.getElem?_eq_getElem hj]
  simp only [Option.getD_some]
  by_cases e : i = j
  · subst e; simp
  · have hne : ids[i] ≠ ids[j] := by
      rcases Nat.lt_or_gt_of_ne e with hlt | hgt
      · exact List.pairwise_iff_getElem.1 h i j hi hj hlt
      · exact Ne.symm (List.pairwise_iff_getElem.1 h j i hj hi hgt)
    rw [beq_eq_false_iff_ne.2 hne, beq_eq_false_iff_ne.2 e]

theorem clash_ren {ids : List Nat} (h : ids.Nodup) {a b : Acc} (ha : a.under ids.length = true) (hb : b.under ids.length = true) : clash (a.ren ids) (b.ren ids) = clash a b := by
  have key : ∀ {i j : Nat}, i < ids.length → j < ids.length → (ids.getD i 0 == ids.getD j 0) = (i == j) := fun hi hj => getD_inj h hi hj
  have keyo : ∀ {i j : Nat}, i < ids.length → j < ids.length → (some (ids.getD i 0) == some (ids.getD j 0)) = (some i == some j) := fun {i j} hi hj => key hi hj
  have keyn : ∀ {i j : Nat}, ((none : Option Nat) == some (ids.getD j 0)) = ((none : Option Nat) == some j) := fun {i j} => rfl
  rcases a with _ | i | i | i | ⟨_ | k, i⟩ | ⟨m, c⟩ | _ <;> rcases b with _ | j | j | j | ⟨_ | l, j⟩ | ⟨m', c'⟩ | _ <;> (try rfl) <;> (try (first | (cases ha; done) | (cases hb; done))) <;> simp only [Acc.under, Bool.and_eq_true, decide_eq_true_eq] at ha hb <;> simp only [Acc.ren, clash, Option.map_some, Option.map_none]
  all_goals first
    | exact key ha hb
    | (rw [key ha hb]; rfl)
    | (rw [key hb ha]; rfl)
    | (rw [keyo hb.1 ha, key ha hb.2])
    | (rw [keyo ha.1 hb, key hb ha.2])

theorem drawOk_ren {ops : Array Oper} (ids : List Nat) (h : ids.Nodup) (l : List Acc) (hl : l.all (Acc.under ids.length) = true) (hd : drawOk ops l = true) : drawOk ops (l.map (Acc.ren ids)) = true := by
  unfold drawOk at hd ⊢
  simp only [List.length_map, List.all_eq_true, List.mem_range] at hd ⊢
  intro i hi k hk
  have := hd i hi k hk
  unfold freeAt at this ⊢
  have g : ∀ n : Nat, (l.map (Acc.ren ids)).getD n .any = (l.getD n .any).ren ids := by
    intro n
    rw [List.getD_eq_getElem?_getD, List.getD_eq_getElem?_getD, List.getElem?_map]
    cases l[n]? <;> rfl
  have u : ∀ n : Nat, (l.getD n .any).under ids.length = true := by
    intro n
    rw [List.getD_eq_getElem?_getD]
    cases hn : l[n]? with
    | none => rfl
    | some a => exact List.all_eq_true.1 hl a (List.mem_of_getElem? hn)
  rw [g, g, clash_ren h (u k) (u i)]
  exact this


theorem sortOf_ev (ds : List Data) (tok : Tok) (hds : smallD ds) (v : Vl) (sort : List UInt8) (t1 t2 : Tok) (σ : Sto) (hv : smallV v) :
    CallW Tryz.prog EV 24 [.sl (rowsD ds) tok, .lit (.string (bs sort)), aggV v t1 t2] σ fun r σ' => r = .ret (.lit (.bool (ofV ds sort v))) ∧ Ext σ σ' :=
  of_ev_ ds tok hds _ v sort t1 t2 σ (Nat.lt_succ_self _) hv

set_option maxRecDepth 100000 in
theorem Of_ev (ds : List Data) (tok : Tok) (hds : smallD ds) (v : Vl) (sort : List UInt8) (t1 t2 : Tok) (σ : Sto) (hv : smallV v) :
    CallW Tryz.prog EV 12 [.sl (rowsD ds) tok, .lit (.string (bs sort)), aggV v t1 t2] σ fun r σ' => r = .ret (.lit (.bool (ofV ds sort v))) ∧ Ext σ σ' := by
  have hof := sortOf_ev ds tok hds v sort t1 t2
  obtain ⟨k, b, d, t, n, f⟩ := v
  unfold aggV at hof ⊢
  refine CallW.start (fn := Tryz.f12) (M := []) rfl rfl rfl rfl (by simp) fun tm hlen hss => ?_
  have h0 := hss 0 _ rfl
  have h1 := hss 1 _ rfl
  have h2 := hss 2 _ rfl
  clear hss
  simp at hlen
  refine CW.hide fun R0 hR0 => ?_
  generalize ofV ds sort (.mk k b d t n f) = res at *
  refine CW.seqK fun K hK => CW.region ?_
  simp (maxDischargeDepth := 16) [symB, List.length_set, andThen, hlen, h2]
  refine hK _ _ ?_; clear hK K
  refine CW.seqK fun K hK => CW.region ?_
  simp (maxDischargeDepth := 16) [symB, List.length_set, andThen, hlen, h0, h1]
  refine (hof _ hv).mono ?_
  rintro r σ2 ⟨rfl, hx⟩
  simp (maxDischargeDepth := 16) [symB, List.length_set, andThen, hlen, retK]
  refine hK _ _ ?_
  refine CW.ret (hR0 _ _ _ ⟨.lit (.bool res), ?_, rfl, hx.of_push⟩)
  simp (maxDischargeDepth := 16) [resultsA, omap, res_tmp, slot_eq, slot_ne, hlen]

/-- a row of which some constructor bears a name -/
def hasCon (name : List UInt8) (row : List AV) : Bool := match row with | [_, .sl cs _] => cs.any (named name) | _ => false
theorem hasCon_D (name : List UInt8) (d : Data) : hasCon name (rowD d) = (rowsC d.2).any (named name) := rfl

set_option maxRecDepth 100000 in
theorem ncon_ev (a : AV) (ha : a.one = true) (cs : List Con) (name : List UInt8) (id : Nat) (σ : Sto) (hcs : cs.length ≤ 1000000) (ho : σ[id]? = some (.cells [.lit (.string (bs name))] 9)) :
    CallW Tryz.prog EV 90 [.agg [a, .sl (rowsC cs) .no], .ptr id 0] σ fun r σ' => r = .ret (.lit (.bool ((rowsC cs).any (named name)))) ∧ Ext σ σ' := by
  refine CallW.start (fn := Tryz.f90) (M := []) rfl rfl rfl rfl (by simp) fun tm hlen hss => ?_
  have h0 := hss 0 _ rfl
  have h1 := hss 1 _ rfl
  clear hss
  simp at hlen
  refine CW.hide fun R0 hR0 => ?_
  refine CW.seqK fun K hK => CW.region ?_
  simp (maxDischargeDepth := 16) [symB, List.length_set, andThen, hlen, h0]
  refine hK _ _ ?_; clear hK K
  have hid := (List.getElem?_eq_some_iff.1 ho).1
  have ho2 : (σ ++ [AObj.cells [a, .sl (rowsC cs) .no] 28])[id]? = some (.cells [.lit (.string (bs name))] 9) := by rw [List.getElem?_append_left hid]; exact ho
  refine CW.seqK fun K hK => CW.region ?_
  simp (maxDischargeDepth := 16) [symB, List.length_set, andThen, hlen, h1]
  refine (hasCon_ev (rowsC cs) .no 92 [.ptr id 0] (named name) _ (by rw [rowsC_len]; omega) (rowsC_two _) ?_).mono ?_
  · intro σ3 row hrow hx3
    obtain ⟨c, hc, rfl⟩ := List.mem_map.1 hrow
    rw [named_C]
    exact ncon1_ev c.1 _ rfl name id σ3 (hx3.get ho2)
  rintro r σ3 ⟨rfl, hext3⟩
  simp (maxDischargeDepth := 16) [symB, List.length_set, andThen, hlen, retK]
  refine hK _ _ ?_
  refine CW.ret (hR0 _ _ _ ⟨.lit (.bool ((rowsC cs).any (named name))), ?_, rfl, hext3.of_push⟩)
  simp (maxDischargeDepth := 16) [resultsA, omap, res_tmp, slot_eq, slot_ne, hlen]

/-- is a word a constructor's name? -/
def conB (ds : List Data) (s : List UInt8) : Bool := (rowsD ds).any (hasCon s)

set_option maxRecDepth 100000 in
theorem nodeCon_ev (ds : List Data) (tok tk : Tok) (hds : smallD ds) (w : List UInt8) (kids : List (List AV)) (row : Bool) (at_ : Int) (s : List UInt8) (σ : Sto) :
    CallW Tryz.prog EV 58 [.agg [.lit (.string (bs w)), .sl kids tk, .lit (.bool row), .lit (.int .i64 at_), .sl (rowsD ds) tok], .lit (.string (bs s))] σ fun r σ' => r = .ret (.lit (.bool (conB ds s))) ∧ Ext σ σ' := by
  refine CallW.start (fn := Tryz.f58) (M := []) rfl rfl rfl rfl (by simp) fun tm hlen hss => ?_
  have h0 := hss 0 _ rfl
  have h1 := hss 1 _ rfl
  clear hss
  simp at hlen
  refine CW.hide fun R0 hR0 => ?_
  refine CW.seqK fun K hK => CW.region ?_
  simp (maxDischargeDepth := 16) [symB, List.length_set, andThen, hlen, h0, h1]
  refine hK _ _ ?_; clear hK K
  have ho2 : (σ ++ [AObj.cells [.lit (.string (bs w)), .sl kids tk, .lit (.bool row), .lit (.int .i64 at_), .sl (rowsD ds) tok] 66, AObj.cells [.lit (.string (bs s))] 9])[σ.length + 1]? = some (.cells [.lit (.string (bs s))] 9) := by rw [List.getElem?_append_right (by omega)]; simp
  refine CW.seqK fun K hK => CW.region ?_
  simp (maxDischargeDepth := 16) [symB, List.length_set, andThen, hlen]
  refine (hasData_ev (rowsD ds) tok 90 [.ptr (σ.length + 1) 0] (hasCon s) _ (by rw [rowsD_len]; have := hds.1; omega) (rowsD_two _) ?_).mono ?_
  · intro σ3 row hrow hx3
    obtain ⟨d, hd, rfl⟩ := List.mem_map.1 hrow
    rw [hasCon_D]
    exact ncon_ev _ rfl d.2 s (σ.length + 1) σ3 ((hds.2 d hd).1) (hx3.get ho2)
  rintro r σ3 ⟨rfl, hext3⟩
  simp (maxDischargeDepth := 16) [symB, List.length_set, andThen, hlen, retK]
  refine hK _ _ ?_
  refine CW.ret (hR0 _ _ _ ⟨.lit (.bool (conB ds s)), ?_, rfl, hext3.of_push⟩)
  simp (maxDischargeDepth := 16) [resultsA, omap, res_tmp, slot_eq, slot_ne, hlen, conB]

def bTrue : List UInt8 := [116, 114, 117, 101]
def bFalse : List UInt8 := [102, 97, 108, 115, 101]
def zeroV : Vl := .mk 0 false [] false [] []
/-- the value of a word; is there one? -/
def wordV (s : List UInt8) : Vl × Bool :=
  match numOf s with
  | some (b, d) => (.mk 1 b d false [] [], decide (s.length ≤ 400))
  | none => if s = bTrue ∨ s = bFalse then (.mk 2 false [] (s == bTrue) [] [], true) else (zeroV, false)

set_option maxRecDepth 100000 in
set_option maxHeartbeats 1000000 in
theorem word_ev (ds : List Data) (tok tk : Tok) (w : List UInt8) (kids : List (List AV)) (row : Bool) (at_ : Int) (σ : Sto) (hw : w.length ≤ 1000000) :
    CallW Tryz.prog EV 57 [.agg [.lit (.string (bs w)), .sl kids tk, .lit (.bool row), .lit (.int .i64 at_), .sl (rowsD ds) tok]] σ fun r σ' => (∃ t1 t2, r = .ret (.tup [aggV (wordV w).1 t1 t2, .lit (.bool (wordV w).2)])) ∧ Ext σ σ' := by
  refine CallW.start (fn := Tryz.f57) (M := []) rfl rfl rfl rfl (by simp) fun tm hlen hss => ?_
  have h0 := hss 0 _ rfl
  clear hss
  simp at hlen
  refine CW.hide fun R0 hR0 => ?_
  refine CW.seqK fun K hK => CW.region ?_
  simp (maxDischargeDepth := 16) [symB, List.length_set, andThen, hlen, h0]
  refine hK _ _ ?_; clear hK K
  obtain ⟨nodec, hnc⟩ : ∃ c : List AV, c = [.lit (.string (bs w)), .sl kids tk, .lit (.bool row), .lit (.int .i64 at_), .sl (rowsD ds) tok] := ⟨_, rfl⟩
  obtain ⟨zc, hzc⟩ : ∃ c : List AV, c = [.lit (.int .u8 0), .lit (.bool false), .sl [] .full, .lit (.bool false), .lit (.string ⟨#[]⟩), .sl [] .full] := ⟨_, rfl⟩
  rw [← hnc, ← hzc]
  have hnd : (σ ++ [AObj.cells nodec 66, AObj.cells zc 37])[σ.length]? = some (.cells nodec 66) := by simp
  have hvl : (σ ++ [AObj.cells nodec 66, AObj.cells zc 37])[σ.length + 1]? = some (.cells zc 37) := by rw [List.getElem?_append_right (by omega)]; simp
  have hxA : Ext σ (σ ++ [AObj.cells nodec 66, AObj.cells zc 37]) := ⟨_, rfl⟩
  generalize (σ ++ [AObj.cells nodec 66, AObj.cells zc 37]) = σA at *
  subst hnc; subst hzc
  refine CW.seqK fun K hK => CW.region ?_
  simp (maxDischargeDepth := 16) [symB, List.length_set, andThen, hlen, hnd]
  refine (numParse_ev w _ hw).mono ?_
  rintro r σ2 hr
  unfold ParseR at hr
  obtain ⟨hr, hx2⟩ := hr
  have hnd2 := hx2.get hnd
  have hvl2 := hx2.get hvl
  have hxx2 := hxA.trans hx2
  have hst : ∀ x : AObj, Ext σ (σ2.set (σ.length + 1) x) := fun x => hxx2.set (by omega)
  cases hno : numOf w with
  | some q =>
    obtain ⟨b, d⟩ := q
    rw [hno] at hr
    dsimp only at hr
    obtain ⟨t, rfl⟩ := hr
    simp (maxDischargeDepth := 16) [symB, List.length_set, andThen, hlen, retK]
    refine hK _ _ ?_; clear hK K
    have hnd3 : (σ2 ++ [AObj.cells [.lit (.bool b), .sl (d32 d) t] 34])[σ.length]? = some (.cells [.lit (.string (bs w)), .sl kids tk, .lit (.bool row), .lit (.int .i64 at_), .sl (rowsD ds) tok] 66) := by rw [List.getElem?_append_left (List.getElem?_eq_some_iff.1 hnd2).1]; exact hnd2
    have hvl3 : (σ2 ++ [AObj.cells [.lit (.bool b), .sl (d32 d) t] 34])[σ.length + 1]? = some (.cells [.lit (.int .u8 0), .lit (.bool false), .sl [] .full, .lit (.bool false), .lit (.string ⟨#[]⟩), .sl [] .full] 37) := by rw [List.getElem?_append_left (List.getElem?_eq_some_iff.1 hvl2).1]; exact hvl2
    have hnm3 : (σ2 ++ [AObj.cells [.lit (.bool b), .sl (d32 d) t] 34])[σ2.length]? = some (.cells [.lit (.bool b), .sl (d32 d) t] 34) := by simp
    have hxx3 : Ext σ (σ2 ++ [AObj.cells [.lit (.bool b), .sl (d32 d) t] 34]) := hxx2.push _
    have hnl : σ.length + 1 < σ2.length := (List.getElem?_eq_some_iff.1 hvl2).1
    have hl3 : σ.length + 1 < (σ2 ++ [AObj.cells [.lit (.bool b), .sl (d32 d) t] 34]).length := by simp; omega
    generalize (σ2 ++ [AObj.cells [.lit (.bool b), .sl (d32 d) t] 34]) = σ3 at *
    refine CW.seqK fun K hK => CW.block ?_
    refine CW.seqK fun K hK => CW.region ?_
    simp (maxDischargeDepth := 16) [symB, List.length_set, andThen, hlen]
    refine hK _ _ ?_; clear hK K
    refine CW.cond (t := true) (by simp (maxDischargeDepth := 16) [evx_tmp, slot_eq, slot_ne, hlen]) ?_
    refine CW.seqK fun K2 hK2 => CW.draw (by kernel_rfl) ?_
    simp (maxDischargeDepth := 16) [symB, List.length_set, andThen, hlen, hnd3, hvl3, hnm3, bsz]
    refine ⟨drawOk_ren [σ.length, σ.length + 1, σ2.length] (by simp; omega) [.reads 2, .pure, .pure, .pure, .reads 0, .pure, .pure, .writes 1, .pure] (by kernel_rfl) (by kernel_rfl), hK2 _ _ ?_⟩
    refine CW.ret ?_
    simp only [andThen, outOf]
    have hwv : wordV w = (.mk 1 b d false [] [], decide (w.length ≤ 400)) := by unfold wordV; rw [hno]
    refine hR0 _ _ _ ⟨.tup [aggV (wordV w).1 t .full, .lit (.bool (wordV w).2)], ?_, ⟨t, .full, rfl⟩, hxx3.set (by omega)⟩
    rw [hwv]
    simp (maxDischargeDepth := 16) [resultsA, omap, res_tmp, res_cell, slot_eq, slot_ne, hlen, hl3, partA, aggT, aggV, rowsV, bs]
    omega
  | none =>
    rw [hno] at hr
    dsimp only at hr
    subst hr
    simp (maxDischargeDepth := 16) [symB, List.length_set, andThen, hlen, retK]
    refine hK _ _ ?_; clear hK K
    have hnd3 : (σ2 ++ [AObj.cells [.lit (.bool false), .sl [] .full] 34])[σ.length]? = some (.cells [.lit (.string (bs w)), .sl kids tk, .lit (.bool row), .lit (.int .i64 at_), .sl (rowsD ds) tok] 66) := by rw [List.getElem?_append_left (List.getElem?_eq_some_iff.1 hnd2).1]; exact hnd2
    have hvl3 : (σ2 ++ [AObj.cells [.lit (.bool false), .sl [] .full] 34])[σ.length + 1]? = some (.cells [.lit (.int .u8 0), .lit (.bool false), .sl [] .full, .lit (.bool false), .lit (.string ⟨#[]⟩), .sl [] .full] 37) := by rw [List.getElem?_append_left (List.getElem?_eq_some_iff.1 hvl2).1]; exact hvl2
    have hxx3 : Ext σ (σ2 ++ [AObj.cells [.lit (.bool false), .sl [] .full] 34]) := hxx2.push _
    have hnl : σ.length + 1 < σ2.length := (List.getElem?_eq_some_iff.1 hvl2).1
    have hl3 : σ.length + 1 < (σ2 ++ [AObj.cells [.lit (.bool false), .sl [] .full] 34]).length := by simp; omega
    generalize (σ2 ++ [AObj.cells [.lit (.bool false), .sl [] .full] 34]) = σ3 at *
    have hbt : (⟨#[116, 114, 117, 101]⟩ : ByteArray).toList = bTrue := bs_list bTrue
    have hbf : (⟨#[102, 97, 108, 115, 101]⟩ : ByteArray).toList = bFalse := bs_list bFalse
    refine CW.seqK fun K hK => CW.block ?_
    refine CW.seqK fun K hK => CW.region ?_
    simp (maxDischargeDepth := 16) [symB, List.length_set, andThen, hlen]
    refine hK _ _ ?_; clear hK K
    refine CW.cond (t := false) (by simp (maxDischargeDepth := 16) [evx_tmp, slot_eq, slot_ne, hlen]) ?_
    refine CW.seqK fun K2 hK2 => ?_
    refine CW.seqK fun K3 hK3 => CW.region ?_
    have yes : w = bTrue ∨ w = bFalse → ∀ tm : List AV, tm.length = 37 → slot tm 1 = .ptr σ.length 0 → slot tm 2 = .ptr (σ.length + 1) 0 → slot tm 22 = .lit (.bool true) → K2 tm σ3 := by
      intro hyes tm hlen h1 h2 h22
      refine hK2 _ _ ?_
      refine CW.cond (t := true) (by simp (maxDischargeDepth := 16) [evx_tmp, slot_eq, slot_ne, hlen, h22]) ?_
      refine CW.seqK fun K4 hK4 => CW.region ?_
      simp (maxDischargeDepth := 16) [symB, List.length_set, andThen, hlen, h1, h2, hnd3, hvl3, bs_list, hbt]
      refine hK4 _ _ ?_
      refine CW.ret ?_
      simp only [andThen, outOf]
      have hwv : wordV w = (.mk 2 false [] (w == bTrue) [] [], true) := by unfold wordV; rw [hno]; dsimp only; rw [if_pos hyes]
      refine hR0 _ _ _ ⟨.tup [aggV (wordV w).1 .full .full, .lit (.bool (wordV w).2)], ?_, ⟨.full, .full, rfl⟩, hxx3.set (by omega)⟩
      rw [hwv]
      simp (maxDischargeDepth := 16) [resultsA, omap, res_tmp, res_cell, slot_eq, slot_ne, hlen, h2, hl3, partA, aggT, aggV, rowsV, bs, d32]
    by_cases hwt : w = bTrue
    · simp (maxDischargeDepth := 16) [symB, List.length_set, andThen, hlen, hnd3, bs_list, hbt, hwt]
      refine hK3 _ _ ?_
      refine CW.cond (t := true) (by simp (maxDischargeDepth := 16) [evx_tmp, slot_eq, slot_ne, hlen]) ?_
      refine CW.skip ?_
      simp only [andThen]
      exact yes (.inl hwt) _ (by simp [hlen]) (by simp (maxDischargeDepth := 16) [slot_eq, slot_ne, hlen]) (by simp (maxDischargeDepth := 16) [slot_eq, slot_ne, hlen]) (by simp (maxDischargeDepth := 16) [slot_eq, slot_ne, hlen])
    · simp (maxDischargeDepth := 16) [symB, List.length_set, andThen, hlen, hnd3, bs_list, hbt, hwt]
      refine hK3 _ _ ?_
      refine CW.cond (t := false) (by simp (maxDischargeDepth := 16) [evx_tmp, slot_eq, slot_ne, hlen, hwt]) ?_
      refine CW.region ?_
      rcases Classical.em (w = bFalse) with hwf | hwf
      · simp (maxDischargeDepth := 16) [symB, List.length_set, andThen, hlen, hnd3, bs_list, hbf, hwf]
        exact yes (.inr hwf) _ (by simp [hlen]) (by simp (maxDischargeDepth := 16) [slot_eq, slot_ne, hlen]) (by simp (maxDischargeDepth := 16) [slot_eq, slot_ne, hlen]) (by simp (maxDischargeDepth := 16) [slot_eq, slot_ne, hlen])
      · simp (maxDischargeDepth := 16) [symB, List.length_set, andThen, hlen, hnd3, bs_list, hbf, hwf]
        refine hK2 _ _ ?_
        refine CW.cond (t := false) (by simp (maxDischargeDepth := 16) [evx_tmp, slot_eq, slot_ne, hlen, hwf]) ?_
        refine CW.skip ?_
        simp only [andThen, outOf]
        refine hK _ _ ?_
        refine CW.seqK fun K4 hK4 => CW.region ?_
        simp (maxDischargeDepth := 16) [symB, List.length_set, andThen, hlen, hvl3]
        refine hK4 _ _ ?_
        have hwv : wordV w = (zeroV, false) := by unfold wordV; rw [hno]; dsimp only; rw [if_neg (by simp [hwt, hwf])]
        refine CW.ret (hR0 _ _ _ ⟨.tup [aggV (wordV w).1 .full .full, .lit (.bool (wordV w).2)], ?_, ⟨.full, .full, rfl⟩, hxx3.set (by omega)⟩)
        rw [hwv]
        simp (maxDischargeDepth := 16) [resultsA, omap, res_tmp, res_cell, slot_eq, slot_ne, hlen, hl3, partA, aggT, aggV, rowsV, bs, d32, zeroV]

end Go.Proofs.YtcjjmejmpdhikaaGreatDoor
