/-
  EV: value: what a tree stands for.
-/
import Derived.Test.YtcjjmejmpdhikaaGreatDoorEvNode
namespace Go.Proofs.YtcjjmejmpdhikaaGreatDoor
set_option linter.unusedSimpArgs false
set_option linter.unusedVariables false
open Go.RowKit

mutual
/-- the value of a tree; is there one? -/
def valT (ds : List Data) : Tr → Vl × Bool
  | .mk w kids row _ =>
    if row = false then wordV w
    else match kids with
      | [] => (.mk 3 false [] false [] [], true)
      | k0 :: ks => if k0.row || !conB ds k0.word then (zeroV, false) else
          (match valTs ds ks with | some fs => (.mk 3 false [] false k0.word fs, true) | none => (zeroV, false))
def valTs (ds : List Data) : List Tr → Option (List Vl)
  | [] => some []
  | t :: l => match valT ds t with
    | (v, true) => (match valTs ds l with | some fs => some (v :: fs) | none => none)
    | (_, false) => none
end
mutual
def smallN : Tr → Prop
  | .mk w kids _ _ => w.length ≤ 1000000 ∧ kids.length ≤ 1000000 ∧ smallNs kids
def smallNs : List Tr → Prop
  | [] => True
  | t :: l => smallN t ∧ smallNs l
end
theorem smallNs_mem : ∀ {l : List Tr} {t : Tr}, smallNs l → t ∈ l → smallN t
  | a :: l, t, hs, h => by
    rcases List.mem_cons.1 h with rfl | h
    · exact hs.1
    · exact smallNs_mem hs.2 h

theorem valT_eq (ds : List Data) (w : List UInt8) (kids : List Tr) (row : Bool) (a : Int) : valT ds (.mk w kids row a) = (if row = false then wordV w else match kids with
    | [] => (.mk 3 false [] false [] [], true)
    | k0 :: ks => if k0.row || !conB ds k0.word then (zeroV, false) else
      (match valTs ds ks with | some fs => (.mk 3 false [] false k0.word fs, true) | none => (zeroV, false))) := by cases kids <;> simp only [valT]

/-- a node, as it is handed on -/
def nodeC (t : Tr) (tk : Tok) (ds : List Data) (tok : Tok) : List AV := match t with | .mk w kids row a => [.lit (.string (bs w)), .sl (rowsOf kids) tk, .lit (.bool row), .lit (.int .i64 a), .sl (rowsD ds) tok]
def NodeR (ds : List Data) (t : Tr) (σ : Sto) (r : ARes) (σ' : Sto) : Prop := (∃ t1 t2, r = .ret (.tup [aggV (valT ds t).1 t1 t2, .lit (.bool (valT ds t).2)])) ∧ Ext σ σ'

def base (σ : Sto) (nodec c : List AV) : Sto := σ ++ [AObj.cells nodec 66, AObj.cells c 37]
theorem base_len (σ : Sto) (n c : List AV) : (base σ n c).length = σ.length + 2 := by simp [base]
theorem base_node (σ : Sto) (n c : List AV) : (base σ n c)[σ.length]? = some (.cells n 66) := by simp [base]
theorem base_val (σ : Sto) (n c : List AV) : (base σ n c)[σ.length + 1]? = some (.cells c 37) := by unfold base; rw [List.getElem?_append_right (by omega)]; simp
theorem base_set (σ : Sto) (n c c' : List AV) : (base σ n c).set (σ.length + 1) (.cells c' 37) = base σ n c' := by unfold base; rw [List.set_append_right _ _ (by omega)]; simp
theorem base_ext (σ : Sto) (n c : List AV) : Ext σ (base σ n c) := ⟨_, rfl⟩
theorem base_store {σ σ1 : Sto} {n c c' : List AV} (h : Ext (base σ n c) σ1) : Ext (base σ n c') (σ1.set (σ.length + 1) (.cells c' 37)) := by
  obtain ⟨g, rfl⟩ := h
  refine ⟨g, ?_⟩
  rw [List.set_append_left _ _ (by rw [base_len]; omega), base_set]

theorem TokAt.other {b b' σ : Sto} {m : Nat} {e : TypeId} {t : Tok} {v : Nat} {x : AObj} (h : TokAt b σ m e t) (hl : b'.length = b.length) (hv : v < b.length) : TokAt b' (σ.set v x) m e t := by
  rcases h with h | ⟨id, h1, h2, h3⟩
  · exact .inl h
  · exact .inr ⟨id, h1, by omega, by rw [List.getElem?_set_ne (by omega)]; exact h3⟩

def vcell (k : Nat) (name : List UInt8) (fs : List Vl) (tt : Tok) : List AV := [.lit (.int .u8 k), .lit (.bool false), .sl [] .full, .lit (.bool false), .lit (.string (bs name)), .sl (rowsV fs) tt]

set_option maxRecDepth 100000 in
set_option maxHeartbeats 2000000 in
theorem value_loop (ds : List Data) (tok tk : Tok) (w name : List UInt8) (kids : List Tr) (k0 : Tr) (ks : List Tr) (hkids : kids = k0 :: ks) (row : Bool) (a : Int) (hkl : kids.length ≤ 1000000)
    (ih : ∀ (t : Tr) (σ : Sto), t ∈ ks → CallW Tryz.prog EV 29 [.agg (nodeC t .no ds tok)] σ (NodeR ds t σ))
    (tm : List AV) (σ σ1 : Sto) (R0 : AExit → List AV → Sto → Prop) (hlen : tm.length = 76) (h1 : slot tm 1 = .ptr σ.length 0) (h2 : slot tm 2 = .ptr (σ.length + 1) 0)
    (hb : Ext (base σ (nodeC (.mk w kids row a) tk ds tok) (vcell 3 name [] .full)) σ1)
    (hR0 : ∀ (v : Vl) (ok : Bool) (t1 t2 : Tok) (tm : List AV) (σ1 : Sto), (v, ok) = (match valTs ds ks with | some fs => (Vl.mk 3 false [] false name fs, true) | none => (zeroV, false)) → tm.length = 76 → slot tm 2 = .ptr (σ.length + 1) 0 → slot tm 3 = .lit (.bool ok) → (∀ c, aggV v t1 t2 = .agg c → σ1[σ.length + 1]? = some (.cells c 37)) → Ext σ σ1 → R0 .ret tm σ1) :
    CW Tryz.prog EV [] (tailC 6 (Tryz.f29.body.getD .skip)) tm σ1 R0 := by
  have hnode := hb.get (base_node _ _ _)
  unfold nodeC at hnode
  have hrl : (rowsOf kids).length = ks.length + 1 := by rw [hkids, rowsOf_length]; simp
  have hdr : (rowsOf kids).drop 1 = rowsOf ks := by rw [hkids, rowsOf]; rfl
  have hle1 : (1 : Int) ≤ (ks.length : Int) + 1 := by omega
  have hrh := rowsOf_head kids
  have htk : (rowsOf kids).take (rowsOf kids).length = rowsOf kids := List.take_length
  have htk2 : (rowsOf kids).take (ks.length + 1) = rowsOf kids := by rw [← hrl]; exact htk
  have htn : ((ks.length : Int) + 1).toNat = ks.length + 1 := by omega
  have hkl2 : ks.length ≤ 1000000 := by rw [hkids] at hkl; simp at hkl; omega
  refine CW.seqK fun K hK => ?_
  refine CW.seqK fun K2 hK2 => CW.region ?_
  simp (maxDischargeDepth := 16) [symB, List.length_set, andThen, hlen, h1, hnode, hrl, hle1, hrh, htn, htk2, hdr, rowsOf_length]
  refine hK2 _ _ ?_; clear hK2 K2
  refine CW.block ?_
  refine CW.hide fun R hR => ?_
  refine CW.loopI (fun r tm σ1 => ∃ (i : Nat) (fs : List Vl) (tt : Tok), r = ks.length - i ∧ i ≤ ks.length ∧ fs.length = i ∧ (match valTs ds (ks.drop i) with | some gs => some (fs ++ gs) | none => none) = valTs ds ks ∧ tm.length = 76 ∧ slot tm 1 = .ptr σ.length 0 ∧ slot tm 2 = .ptr (σ.length + 1) 0 ∧ slot tm 51 = .sl (rowsOf ks) (sliceTok tk ((ks.length : Int) + 1) 1 (ks.length + 1)) ∧ slot tm 52 = .lit (.int .i64 ks.length) ∧ slot tm 53 = .lit (.int .i64 i) ∧ Ext (base σ (nodeC (.mk w kids row a) tk ds tok) (vcell 3 name fs tt)) σ1 ∧ TokAt (base σ (nodeC (.mk w kids row a) tk ds tok) (vcell 3 name fs tt)) σ1 (i * 6) 37 tt) ?_ _ _ _
    ⟨0, [], .full, rfl, by omega, rfl, by simp; cases valTs ds ks <;> rfl, by simp [hlen], by simp (maxDischargeDepth := 16) [slot_ne, h1], by simp (maxDischargeDepth := 16) [slot_ne, h2], by simp (maxDischargeDepth := 16) [slot_eq, slot_ne, hlen], by simp (maxDischargeDepth := 16) [slot_ne, slot_eq, hlen], by simp (maxDischargeDepth := 16) [slot_eq, hlen], hb, .inl ⟨rfl, rfl⟩⟩
  clear h1 h2 hlen hb hnode tm σ1
  rintro r tm σ1 ⟨i, fs, tt, rfl, hi, hfl, hval, hlen, h1, h2, h51, h52, h53, hext, htok⟩
  have hnode := hext.get (base_node _ _ _)
  have hvc := hext.get (base_val _ _ _)
  unfold nodeC at hnode
  unfold vcell at hvc
  refine CW.hide fun R2 hR2 => ?_
  refine CW.seqK fun K4 hK4 => CW.region ?_
  by_cases hlt : i < ks.length
  · have hlt' : (i : Int) < ks.length := by omega
    simp (maxDischargeDepth := 16) [symB, List.length_set, andThen, hlen, h52, h53, hlt', hlt]
    refine hK4 _ _ ?_
    refine CW.seqK fun K3 hK3 => ?_
    refine CW.cond (t := true) (by simp (maxDischargeDepth := 16) [evx_tmp, slot_eq, slot_ne, hlen]) ?_
    refine CW.skip ?_
    simp only [andThen]
    refine hK3 _ _ ?_
    have hg := rowsOf_get (List.getElem?_eq_getElem hlt)
    have hmem := List.getElem_mem hlt
    rw [List.drop_eq_getElem_cons hlt, valTs] at hval
    generalize ks[i] = x at *
    have hc := ih x
    obtain ⟨xw, xk, xr, xa⟩ := x
    simp only [Tr.word, Tr.kids, Tr.row, Tr.at_, bs_def] at hg
    unfold nodeC at hc
    have hwk : IntKind.i64.wrap ((i : Int) + 1) = ((i + 1 : Nat) : Int) := wrap_succ (by omega)
    refine CW.seqK fun K5 hK5 => CW.block ?_
    refine CW.seqK fun K hK => CW.region ?_
    simp (maxDischargeDepth := 16) [symB, List.length_set, andThen, hlen, h51, h53, hg]
    refine hK _ _ ?_; clear hK K
    have hx2 : Ext (base σ (nodeC (.mk w kids row a) tk ds tok) (vcell 3 name fs tt)) (σ1 ++ [AObj.cells [.lit (.string (bs xw)), .sl (rowsOf xk) .no, .lit (.bool xr), .lit (.int .i64 xa)] 64]) := hext.push _
    have hxt : (σ1 ++ [AObj.cells [.lit (.string (bs xw)), .sl (rowsOf xk) .no, .lit (.bool xr), .lit (.int .i64 xa)] 64])[σ1.length]? = some (.cells [.lit (.string (bs xw)), .sl (rowsOf xk) .no, .lit (.bool xr), .lit (.int .i64 xa)] 64) := by simp
    have htok2 := htok.ext (Ext.push (Ext.refl σ1) [AObj.cells [.lit (.string (bs xw)), .sl (rowsOf xk) .no, .lit (.bool xr), .lit (.int .i64 xa)] 64])
    generalize (σ1 ++ [AObj.cells [.lit (.string (bs xw)), .sl (rowsOf xk) .no, .lit (.bool xr), .lit (.int .i64 xa)] 64]) = σ2 at *
    have hnode2 := hx2.get (base_node _ _ _)
    unfold nodeC at hnode2
    refine CW.seqK fun K6 hK6 => CW.region ?_
    simp (maxDischargeDepth := 16) [symB, List.length_set, andThen, hlen, h1, hxt, hnode2]
    refine (hc σ2 hmem).mono ?_
    rintro r σ3 ⟨⟨u1, u2, rfl⟩, hx3⟩
    generalize hvx : valT ds (.mk xw xk xr xa) = vx at *
    obtain ⟨v, okx⟩ := vx
    dsimp only
    obtain ⟨vk, vb, vd, vt, vn, vf⟩ := v
    unfold aggV
    have hxx3 := hx2.trans hx3
    have htok3 := htok2.ext hx3
    simp (maxDischargeDepth := 16) [symB, List.length_set, retK, andThen, hlen]
    refine hK6 _ _ ?_; clear hK6 K6
    have hx4 : Ext (base σ (nodeC (.mk w kids row a) tk ds tok) (vcell 3 name fs tt)) (σ3 ++ [AObj.cells [.lit (.int .u8 vk), .lit (.bool vb), .sl (d32 vd) u1, .lit (.bool vt), .lit (.string (bs vn)), .sl (rowsV vf) u2] 37]) := hxx3.push _
    have hvv4 : (σ3 ++ [AObj.cells [.lit (.int .u8 vk), .lit (.bool vb), .sl (d32 vd) u1, .lit (.bool vt), .lit (.string (bs vn)), .sl (rowsV vf) u2] 37])[σ3.length]? = some (.cells [.lit (.int .u8 vk), .lit (.bool vb), .sl (d32 vd) u1, .lit (.bool vt), .lit (.string (bs vn)), .sl (rowsV vf) u2] 37) := by simp
    have htok4 := htok3.ext (Ext.push (Ext.refl σ3) [AObj.cells [.lit (.int .u8 vk), .lit (.bool vb), .sl (d32 vd) u1, .lit (.bool vt), .lit (.string (bs vn)), .sl (rowsV vf) u2] 37])
    generalize (σ3 ++ [AObj.cells [.lit (.int .u8 vk), .lit (.bool vb), .sl (d32 vd) u1, .lit (.bool vt), .lit (.string (bs vn)), .sl (rowsV vf) u2] 37]) = σ4 at *
    have hvc4 := hx4.get (base_val _ _ _)
    unfold vcell at hvc4
    have hl4 : σ.length + 1 < σ4.length := (List.getElem?_eq_some_iff.1 hvc4).1
    refine CW.reset (fun tm => tm.length = 76 ∧ slot tm 1 = .ptr σ.length 0 ∧ slot tm 2 = .ptr (σ.length + 1) 0 ∧ slot tm 6 = .ptr σ3.length 0 ∧ slot tm 7 = .lit (.bool okx) ∧ slot tm 51 = .sl (rowsOf ks) (sliceTok tk ((ks.length : Int) + 1) 1 (ks.length + 1)) ∧ slot tm 52 = .lit (.int .i64 ks.length) ∧ slot tm 53 = .lit (.int .i64 i)) ⟨by simp [hlen], by simp (maxDischargeDepth := 16) [slot_ne, h1], by simp (maxDischargeDepth := 16) [slot_ne, h2], by simp (maxDischargeDepth := 16) [slot_eq, slot_ne, hlen], by simp (maxDischargeDepth := 16) [slot_eq, slot_ne, hlen], by simp (maxDischargeDepth := 16) [slot_ne, h51], by simp (maxDischargeDepth := 16) [slot_ne, h52], by simp (maxDischargeDepth := 16) [slot_ne, h53]⟩ ?_
    clear h1 h2 h51 h52 h53 hlen hK4 K4 tm
    rintro tm ⟨hlen, h1, h2, h6, h7, h51, h52, h53⟩
    refine CW.seqK fun K6 hK6 => ?_
    refine CW.seqK fun K hK => CW.region ?_
    simp (maxDischargeDepth := 16) [symB, List.length_set, andThen, hlen, h7]
    refine hK _ _ ?_; clear hK K
    cases okx with
    | false =>
      refine CW.cond (t := true) (by simp (maxDischargeDepth := 16) [evx_tmp, slot_eq, slot_ne, hlen]) ?_
      refine CW.seqK fun K7 hK7 => CW.region ?_
      simp (maxDischargeDepth := 16) [symB, List.length_set, andThen, hlen, h2, hvc4]
      refine hK7 _ _ ?_
      refine CW.ret ?_
      simp only [andThen, outOf]
      refine hR2 _ _ _ (hR _ _ _ (hR0 zeroV false .full .full _ _ ?_ (by simp [hlen]) (by simp (maxDischargeDepth := 16) [slot_ne, h2]) (by simp (maxDischargeDepth := 16) [slot_eq, slot_ne, hlen]) ?_ (((base_ext _ _ _).trans hx4).set (by omega))))
      · rw [← hval]
      · intro c hcc
        unfold aggV zeroV at hcc
        cases hcc
        rw [List.getElem?_set_self hl4]
        rfl
    | true =>
      refine CW.cond (t := false) (by simp (maxDischargeDepth := 16) [evx_tmp, slot_eq, slot_ne, hlen]) ?_
      refine CW.skip ?_
      simp only [andThen]
      refine hK6 _ _ ?_
      dsimp only at hval
      obtain ⟨t', σ5, acc, hext5, htok5, hap⟩ := append_at (P := Tryz.prog) (M := []) (σ := σ4) (es := rowsV fs) (tok := tt) (tk := .full) (fs := [[.lit (.int .u8 vk), .lit (.bool vb), .sl (d32 vd) u1, .lit (.bool vt), .lit (.string (bs vn)), .sl (rowsV vf) u2]]) (t := 35) Tryz.underlying35 szOf_37 bytesOf_37 zeroOf_37 rfl
        (by rw [rowsV_len, hfl]; exact htok4) hx4 (rowsV_head _) rfl (by simp) (by rw [rowsV_len, hfl]; simp; omega) (by rw [rowsV_len, hfl]; simp; omega)
      have hvc5 := hext5.get (base_val _ _ _)
      unfold vcell at hvc5
      refine CW.region ?_
      simp (maxDischargeDepth := 16) [symB, List.length_set, andThen, outOf, hlen, h2, h6, hvc4, hvv4, hap, hvc5]
      refine hK5 _ _ ?_
      refine CW.region ?_
      simp (maxDischargeDepth := 16) [symB, List.length_set, andThen, hlen, h53, hwk]
      have hrows : rowsV fs ++ [[AV.lit (.int .u8 vk), .lit (.bool vb), .sl (d32 vd) .no, .lit (.bool vt), .lit (.string (bs vn)), .sl (rowsV vf) .no]] = rowsV (fs ++ [.mk vk vb vd vt vn vf]) := by rw [rowsV_append]; rfl
      have hst := base_store (c' := vcell 3 name (fs ++ [.mk vk vb vd vt vn vf]) t') hext5
      refine hR2 _ _ _ ⟨ks.length - (i + 1), by omega, i + 1, fs ++ [.mk vk vb vd vt vn vf], t', rfl, hlt, by simp [hfl], ?_, by simp [hlen], by simp (maxDischargeDepth := 16) [slot_ne, h1], by simp (maxDischargeDepth := 16) [slot_ne, h2], by simp (maxDischargeDepth := 16) [slot_ne, h51], by simp (maxDischargeDepth := 16) [slot_ne, h52], by simp (maxDischargeDepth := 16) [slot_eq, hlen], ?_, ?_⟩
      · rw [← hval]
        cases valTs ds (ks.drop (i + 1)) with
        | none => rfl
        | some gs => simp
      · rw [hrows]; exact hst
      · rw [rowsV_len, hfl] at htok5
        exact htok5.other (by rw [base_len, base_len]) (by rw [base_len]; omega)
  · have hlt' : ¬ (i : Int) < ks.length := by omega
    have hil : i = ks.length := by omega
    simp (maxDischargeDepth := 16) [symB, List.length_set, andThen, hlen, h52, h53, hlt', hlt]
    refine hK4 _ _ ?_
    refine CW.seqK fun K3 hK3 => ?_
    refine CW.cond (t := false) (by simp (maxDischargeDepth := 16) [evx_tmp, slot_eq, slot_ne, hlen, hlt]) ?_
    refine CW.exit ?_
    simp only [andThen]
    refine hR2 _ _ _ (hR _ _ _ ?_)
    simp only [outOf, if_true, andThen]
    refine hK _ _ ?_
    have hl1 := (List.getElem?_eq_some_iff.1 hvc).1
    refine CW.seqK fun K hK => CW.region ?_
    simp (maxDischargeDepth := 16) [symB, List.length_set, andThen, hlen, h2, hvc]
    refine hK _ _ ?_; clear hK K
    rw [hil, List.drop_length] at hval
    refine CW.ret (hR0 (.mk 3 false [] false name fs) true .full tt _ _ ?_ (by simp [hlen]) (by simp (maxDischargeDepth := 16) [slot_ne, h2]) (by simp (maxDischargeDepth := 16) [slot_eq, slot_ne, hlen]) ?_ (((base_ext _ _ _).trans hext).set (by omega)))
    · rw [← hval]; simp [valTs]
    · intro c hcc
      unfold aggV at hcc
      cases hcc
      rw [List.getElem?_set_self hl1]
      rfl

set_option maxRecDepth 100000 in
set_option maxHeartbeats 2000000 in
theorem value_ev (ds : List Data) (tok : Tok) (hds : smallD ds) (N : Nat) : ∀ (t : Tr) (tk : Tok) (σ : Sto), SizeOf.sizeOf t < N → smallN t → CallW Tryz.prog EV 29 [.agg (nodeC t tk ds tok)] σ (NodeR ds t σ) := by
  induction N with
  | zero => intro t tk σ h; omega
  | succ N ih =>
    intro t tk σ hN hsm
    obtain ⟨w, kids, row, a⟩ := t
    obtain ⟨hw, hkl, hsk⟩ := hsm
    unfold nodeC
    refine CallW.start (fn := Tryz.f29) (M := []) rfl rfl rfl rfl (by simp) fun tm hlen hss => ?_
    have h0 := hss 0 _ rfl
    clear hss
    simp at hlen
    refine CW.hide fun R0 hR0 => ?_
    have done : ∀ (v : Vl) (ok : Bool) (t1 t2 : Tok) (tm : List AV) (σ1 : Sto), (v, ok) = valT ds (.mk w kids row a) → tm.length = 76 → slot tm 2 = .ptr (σ.length + 1) 0 → slot tm 3 = .lit (.bool ok) → (∀ c, aggV v t1 t2 = .agg c → σ1[σ.length + 1]? = some (.cells c 37)) → Ext σ σ1 → R0 .ret tm σ1 := by
      intro v ok t1 t2 tm σ1 hv hlen h2 h3 hc hx
      refine hR0 _ _ _ ⟨.tup [aggV v t1 t2, .lit (.bool ok)], ?_, ⟨t1, t2, by rw [← hv]⟩, hx⟩
      obtain ⟨k, b, d, t, n, f⟩ := v
      have hc := hc _ rfl
      simp (maxDischargeDepth := 16) [resultsA, omap, res_tmp, res_cell, h2, h3, hc, partA, aggT, aggV]
    clear hR0
    have hvT := valT_eq ds w kids row a
    generalize valT ds (.mk w kids row a) = res at *
    refine CW.seqK fun K hK => CW.region ?_
    simp (maxDischargeDepth := 16) [symB, List.length_set, andThen, hlen, h0]
    refine hK _ _ ?_; clear hK K
    have hbas : (σ ++ [AObj.cells [.lit (.string (bs w)), .sl (rowsOf kids) tk, .lit (.bool row), .lit (.int .i64 a), .sl (rowsD ds) tok] 66, AObj.cells [.lit (.int .u8 0), .lit (.bool false), .sl [] .full, .lit (.bool false), .lit (.string ⟨#[]⟩), .sl [] .full] 37]) = base σ (nodeC (.mk w kids row a) tk ds tok) (vcell 0 [] [] .full) := rfl
    rw [hbas]
    have hnode := base_node σ (nodeC (.mk w kids row a) tk ds tok) (vcell 0 [] [] .full)
    have hvc := base_val σ (nodeC (.mk w kids row a) tk ds tok) (vcell 0 [] [] .full)
    have hbl := base_len σ (nodeC (.mk w kids row a) tk ds tok) (vcell 0 [] [] .full)
    have hsetb := base_set σ (nodeC (.mk w kids row a) tk ds tok) (vcell 0 [] [] .full)
    have hexb := base_ext σ (nodeC (.mk w kids row a) tk ds tok) (vcell 0 [] [] .full)
    have hrefl : Ext (base σ (nodeC (.mk w kids row a) tk ds tok) (vcell 0 [] [] .full)) (base σ (nodeC (.mk w kids row a) tk ds tok) (vcell 0 [] [] .full)) := .refl _
    generalize hσA : base σ (nodeC (.mk w kids row a) tk ds tok) (vcell 0 [] [] .full) = σA at *
    unfold nodeC at hnode
    unfold vcell at hvc
    refine CW.reset (fun tm => tm.length = 76 ∧ slot tm 1 = .ptr σ.length 0 ∧ slot tm 2 = .ptr (σ.length + 1) 0) ⟨by simp [hlen], by simp (maxDischargeDepth := 16) [slot_eq, slot_ne, hlen], by simp (maxDischargeDepth := 16) [slot_eq, slot_ne, hlen]⟩ ?_
    clear h0 hlen tm
    rintro tm ⟨hlen, h1, h2⟩
    refine CW.seqK fun K hK => ?_
    refine CW.seqK fun K hK => CW.region ?_
    simp (maxDischargeDepth := 16) [symB, List.length_set, andThen, hlen, h1, hnode]
    refine hK _ _ ?_; clear hK K
    cases row with
    | false =>
      simp only [if_true] at hvT
      refine CW.cond (t := true) (by simp (maxDischargeDepth := 16) [evx_tmp, slot_eq, slot_ne, hlen]) ?_
      refine CW.seqK fun K2 hK2 => CW.region ?_
      simp (maxDischargeDepth := 16) [symB, List.length_set, andThen, hlen, h1, hnode]
      refine (word_ev ds tok tk w (rowsOf kids) false a σA hw).mono ?_
      rintro r σ2 ⟨⟨u1, u2, rfl⟩, hx2⟩
      rw [← hvT]
      obtain ⟨v, ok⟩ := res
      dsimp only
      have hvc2 := hx2.get hvc
      have hlt2 := (List.getElem?_eq_some_iff.1 hvc2).1
      obtain ⟨vk, vb, vd, vt, vn, vf⟩ := v
      unfold aggV
      simp (maxDischargeDepth := 16) [symB, List.length_set, andThen, hlen, retK, h2, hvc2]
      refine hK2 _ _ ?_
      refine CW.ret ?_
      simp only [andThen]
      refine done _ ok u1 u2 _ _ rfl (by simp [hlen]) (by simp (maxDischargeDepth := 16) [slot_ne, h2]) (by simp (maxDischargeDepth := 16) [slot_eq, slot_ne, hlen]) ?_ ((hexb.trans hx2).set (by omega))
      intro c hcc
      unfold aggV at hcc
      cases hcc
      exact List.getElem?_set_self hlt2
    | true =>
      simp only [Bool.true_eq_false, if_false] at hvT
      refine CW.cond (t := false) (by simp (maxDischargeDepth := 16) [evx_tmp, slot_eq, slot_ne, hlen]) ?_
      refine CW.skip ?_
      simp only [andThen]
      refine hK _ _ ?_; clear hK K
      have hvc3 : [AV.lit (.int .u8 3), .lit (.bool false), .sl [] .full, .lit (.bool false), .lit (.string ⟨#[]⟩), .sl [] .full] = vcell 3 [] [] .full := rfl
      have hltA : σ.length + 1 < σA.length := by omega
      refine CW.seqK fun K hK => CW.region ?_
      simp (maxDischargeDepth := 16) [symB, List.length_set, andThen, hlen, h2, hvc]
      refine hK _ _ ?_; clear hK K
      have hob3 : ∀ x : AObj, (σA.set (σ.length + 1) x)[σ.length]? = some (.cells [.lit (.string (bs w)), .sl (rowsOf kids) tk, .lit (.bool true), .lit (.int .i64 a), .sl (rowsD ds) tok] 66) := fun x => by rw [List.getElem?_set_ne (by omega)]; exact hnode
      have hov3 : ∀ x : AObj, (σA.set (σ.length + 1) x)[σ.length + 1]? = some x := fun x => List.getElem?_set_self hltA
      have hxB : Ext σ (base σ (nodeC (.mk w kids true a) tk ds tok) (vcell 3 [] [] .full)) := base_ext _ _ _
      have hbB : σA.set (σ.length + 1) (.cells [AV.lit (.int .u8 3), .lit (.bool false), .sl [] .full, .lit (.bool false), .lit (.string (bs [])), .sl (rowsV []) .full] 37) = base σ (nodeC (.mk w kids true a) tk ds tok) (vcell 3 [] [] .full) := hsetb (vcell 3 [] [] .full)
      have hnB := base_node σ (nodeC (.mk w kids true a) tk ds tok) (vcell 3 [] [] .full)
      have hvB := base_val σ (nodeC (.mk w kids true a) tk ds tok) (vcell 3 [] [] .full)
      have hlB := base_len σ (nodeC (.mk w kids true a) tk ds tok) (vcell 3 [] [] .full)
      have hreflB : Ext (base σ (nodeC (.mk w kids true a) tk ds tok) (vcell 3 [] [] .full)) (base σ (nodeC (.mk w kids true a) tk ds tok) (vcell 3 [] [] .full)) := .refl _
      rw [hbB]
      generalize hσB : base σ (nodeC (.mk w kids true a) tk ds tok) (vcell 3 [] [] .full) = σB at *
      unfold nodeC at hnB
      unfold vcell at hvB
      have hltB : σ.length + 1 < σB.length := by omega
      refine CW.seqK fun K hK => ?_
      cases kids with
      | nil =>
        dsimp only at hvT
        have hr0 : (rowsOf []).length = 0 := rfl
        refine CW.seqK fun K hK => CW.region ?_
        simp (maxDischargeDepth := 16) [symB, List.length_set, andThen, hlen, h1, hnB, hr0]
        refine hK _ _ ?_; clear hK K
        refine CW.cond (t := true) (by simp (maxDischargeDepth := 16) [evx_tmp, slot_eq, slot_ne, hlen]) ?_
        refine CW.seqK fun K2 hK2 => CW.region ?_
        simp (maxDischargeDepth := 16) [symB, List.length_set, andThen, hlen, h2, hvB]
        refine hK2 _ _ ?_
        refine CW.ret ?_
        simp only [andThen]
        refine done (.mk 3 false [] false [] []) true .full .full _ _ hvT.symm (by simp [hlen]) (by simp (maxDischargeDepth := 16) [slot_ne, h2]) (by simp (maxDischargeDepth := 16) [slot_eq, slot_ne, hlen]) ?_ (hxB.set (by omega))
        intro c hcc
        unfold aggV at hcc
        cases hcc
        rw [List.getElem?_set_self hltB]
        rfl
      | cons k0 ks =>
        dsimp only at hvT
        have hr0 : (rowsOf (k0 :: ks)).length = ks.length + 1 := by rw [rowsOf_length]; rfl
        have hr1 : ¬ (ks.length : Int) + 1 = 0 := by omega
        have hg0 := rowsOf_get (l := k0 :: ks) (i := 0) (t := k0) rfl
        simp only [bs_def] at hg0
        refine CW.seqK fun K hK => CW.region ?_
        simp (maxDischargeDepth := 16) [symB, List.length_set, andThen, hlen, h1, hnB, hr0, hr1]
        refine hK _ _ ?_; clear hK K
        refine CW.cond (t := false) (by simp (maxDischargeDepth := 16) [evx_tmp, slot_eq, slot_ne, hlen, hr1]) ?_
        refine CW.skip ?_
        simp only [andThen]
        refine hK _ _ ?_; clear hK K
        refine CW.reset (fun tm => tm.length = 76 ∧ slot tm 1 = .ptr σ.length 0 ∧ slot tm 2 = .ptr (σ.length + 1) 0) ⟨by simp [hlen], by simp (maxDischargeDepth := 16) [slot_ne, h1], by simp (maxDischargeDepth := 16) [slot_ne, h2]⟩ ?_
        clear h1 h2 hlen tm
        rintro tm ⟨hlen, h1, h2⟩
        refine CW.seqK fun K hK => ?_
        have bad : res = (zeroV, false) → ∀ (tm : List AV) (σ1 : Sto), tm.length = 76 → slot tm 2 = .ptr (σ.length + 1) 0 → slot tm 39 = .lit (.bool true) → Ext σB σ1 → CW Tryz.prog EV [] (sndC (.seq .skip (match tailC 4 (Tryz.f29.body.getD .skip) with | .seq (.seq _ c) _ => c | _ => .skip))) tm σ1 (andThen K R0) := by
          intro hr tm σ1 hlen h2 h39 hx
          have hvc1 := hx.get hvB
          have hlt1 := (List.getElem?_eq_some_iff.1 hvc1).1
          refine CW.cond (t := true) (by rw [evx_tmp, h39]) ?_
          refine CW.seqK fun K2 hK2 => CW.region ?_
          simp (maxDischargeDepth := 16) [symB, List.length_set, andThen, hlen, h2, hvc1]
          refine hK2 _ _ ?_
          refine CW.ret ?_
          simp only [andThen]
          refine done zeroV false .full .full _ _ hr.symm (by simp [hlen]) (by simp (maxDischargeDepth := 16) [slot_ne, h2]) (by simp (maxDischargeDepth := 16) [slot_eq, slot_ne, hlen]) ?_ ((hxB.trans hx).set (by omega))
          intro c hcc
          unfold aggV zeroV at hcc
          cases hcc
          rw [List.getElem?_set_self hlt1]
          rfl
        refine CW.seqK fun K2 hK2 => CW.draw (by kernel_rfl) ?_
        obtain ⟨kw, kk, kr, ka⟩ := k0
        simp only [Tr.word, Tr.kids, Tr.row, Tr.at_] at hg0 hvT
        cases kr with
        | true =>
          simp only [Bool.true_or, if_true] at hvT
          simp (maxDischargeDepth := 16) [symB, List.length_set, andThen, hlen, h1, hnB, hg0]
          refine ⟨by kernel_rfl, hK2 _ _ ?_⟩
          exact bad hvT _ _ (by simp [hlen]) (by simp (maxDischargeDepth := 16) [slot_ne, h2]) (by simp (maxDischargeDepth := 16) [slot_eq, slot_ne, hlen]) hreflB
        | false =>
          simp only [Bool.false_or] at hvT
          simp (maxDischargeDepth := 16) [symB, List.length_set, andThen, hlen, h1, hnB, hg0]
          refine (nodeCon_ev ds tok tk hds w (rowsOf (.mk kw kk false ka :: ks)) true a kw σB).mono ?_
          rintro r σ3 ⟨rfl, hx3⟩
          cases hcb : conB ds kw with
          | false =>
            rw [hcb] at hvT
            simp only [Bool.not_false, if_true] at hvT
            simp (maxDischargeDepth := 16) [symB, List.length_set, retK, andThen, hlen, extB_of hx3]
            refine ⟨by kernel_rfl, hK2 _ _ ?_⟩
            exact bad hvT _ _ (by simp [hlen]) (by simp (maxDischargeDepth := 16) [slot_ne, h2]) (by simp (maxDischargeDepth := 16) [slot_eq, slot_ne, hlen]) hx3
          | true =>
            rw [hcb] at hvT
            simp only [Bool.not_true, Bool.false_eq_true, if_false] at hvT
            simp (maxDischargeDepth := 16) [symB, List.length_set, retK, andThen, hlen, extB_of hx3]
            refine ⟨by kernel_rfl, hK2 _ _ ?_⟩
            refine CW.cond (t := false) (by simp (maxDischargeDepth := 16) [evx_tmp, slot_eq, slot_ne, hlen]) ?_
            refine CW.skip ?_
            simp only [andThen]
            refine hK _ _ ?_
            clear bad
            have hn3 := hx3.get hnB
            have hv3 := hx3.get hvB
            refine CW.seqK fun K hK => CW.region ?_
            simp (maxDischargeDepth := 16) [symB, List.length_set, andThen, hlen, h1, h2, hn3, hv3, hg0]
            refine hK _ _ ?_; clear hK K
            have hst : Ext (base σ (nodeC (.mk w (.mk kw kk false ka :: ks) true a) tk ds tok) (vcell 3 kw [] .full)) (σ3.set (σ.length + 1) (.cells (vcell 3 kw [] .full) 37)) := base_store (c := vcell 3 [] [] .full) (by rw [hσB]; exact hx3)
            refine value_loop ds tok tk w kw (.mk kw kk false ka :: ks) (.mk kw kk false ka) ks rfl true a hkl (fun t σ ht => ih t .no σ (by have := List.sizeOf_lt_of_mem ht; simp at hN; omega) (smallNs_mem hsk.2 ht)) _ σ _ R0 (by simp [hlen]) (by simp (maxDischargeDepth := 16) [slot_ne, h1]) (by simp (maxDischargeDepth := 16) [slot_ne, h2]) hst ?_
            intro v ok t1 t2 tm σ1 hv hlen h2 h3 hc hx
            exact done v ok t1 t2 tm σ1 (by rw [hv, hvT]) hlen h2 h3 hc hx

end Go.Proofs.YtcjjmejmpdhikaaGreatDoor

namespace Go.Proofs.YtcjjmejmpdhikaaGreatDoor
set_option linter.unusedSimpArgs false
set_option linter.unusedVariables false
open Go.RowKit

set_option maxRecDepth 100000 in
set_option maxHeartbeats 1000000 in
theorem sameLimbs_ev (l : List Nat) (ta tb : Tok) (σ : Sto) (hl : l.length ≤ 1000000000) : CallW Tryz.prog EV 59 [.sl (d32 l) ta, .sl (d32 l) tb] σ fun r σ' => r = .ret (.lit (.bool true)) ∧ σ' = σ := by
  refine CallW.start (fn := Tryz.f59) (M := []) rfl rfl rfl rfl (by simp) fun tm hlen hs => ?_
  have h0 := hs 0 _ rfl
  have h1 := hs 1 _ rfl
  clear hs
  simp at hlen
  refine CW.hide fun R0 hR0 => ?_
  refine CW.seqK fun K hK => CW.region ?_
  simp (maxDischargeDepth := 16) [symB, List.length_set, andThen, hlen, h0]
  refine hK _ _ ?_; clear hK K
  refine CW.seqK fun K hK => ?_
  refine CW.seqK fun K hK => CW.region ?_
  simp (maxDischargeDepth := 16) [symB, List.length_set, andThen, hlen, h0, h1, d32_len]
  refine hK _ _ ?_; clear hK K
  refine CW.cond (t := false) (by simp (maxDischargeDepth := 16) [evx_tmp, slot_eq, slot_ne, hlen]) ?_
  refine CW.skip ?_
  simp only [andThen]
  refine hK _ _ ?_; clear hK K
  refine CW.seqK fun K hK => ?_
  refine CW.seqK fun K hK => CW.region ?_
  simp (maxDischargeDepth := 16) [symB, List.length_set, andThen, hlen]
  refine hK _ _ ?_; clear hK K
  refine CW.block ?_
  refine CW.hide fun R hR => ?_
  refine CW.loopI (fun r tm σ1 => ∃ i, r = l.length - i ∧ i ≤ l.length ∧ tm.length = 26 ∧ slot tm 0 = .sl (d32 l) ta ∧ slot tm 1 = .sl (d32 l) tb ∧ slot tm 5 = .lit (.int .i64 i) ∧ σ1 = σ) ?_ _ _ _
    ⟨0, rfl, by omega, by simp [hlen], by simp (maxDischargeDepth := 16) [slot_ne, h0], by simp (maxDischargeDepth := 16) [slot_ne, h1], by simp (maxDischargeDepth := 16) [slot_eq, hlen], rfl⟩
  clear h0 h1 hlen tm
  rintro r tm σ1 ⟨i, rfl, hi, hlen, h0, h1, h5, rfl⟩
  refine CW.hide fun R2 hR2 => ?_
  refine CW.seqK fun K3 hK3 => ?_
  refine CW.seqK fun K4 hK4 => CW.region ?_
  by_cases hlt : i < l.length
  · have hlt' : (i : Int) < l.length := by omega
    simp (maxDischargeDepth := 16) [symB, List.length_set, andThen, hlen, h0, h5, d32_len, hlt', hlt]
    refine hK4 _ _ ?_
    refine CW.cond (t := true) (by simp (maxDischargeDepth := 16) [evx_tmp, slot_eq, slot_ne, hlen]) ?_
    refine CW.skip ?_
    simp only [andThen]
    refine hK3 _ _ ?_
    have hg := d32_get hlt
    have hwk : IntKind.i64.wrap ((i : Int) + 1) = ((i + 1 : Nat) : Int) := wrap_succ (by omega)
    generalize l[i] = x at *
    refine CW.seqK fun K5 hK5 => CW.block ?_
    refine CW.seqK fun K6 hK6 => CW.draw (by kernel_rfl) ?_
    simp (maxDischargeDepth := 16) [symB, List.length_set, andThen, hlen, h0, h1, h5, hg]
    refine ⟨by kernel_rfl, hK6 _ _ ?_⟩
    refine CW.cond (t := false) (by simp (maxDischargeDepth := 16) [evx_tmp, slot_eq, slot_ne, hlen]) ?_
    refine CW.skip ?_
    simp only [andThen, outOf]
    refine hK5 _ _ ?_
    refine CW.region ?_
    simp (maxDischargeDepth := 16) [symB, List.length_set, andThen, hlen, h5, hwk]
    exact hR2 _ _ _ ⟨l.length - (i + 1), by omega, i + 1, rfl, hlt, by simp [hlen], by simp (maxDischargeDepth := 16) [slot_ne, h0], by simp (maxDischargeDepth := 16) [slot_ne, h1], by simp (maxDischargeDepth := 16) [slot_eq, hlen], rfl⟩
  · have hlt' : ¬ (i : Int) < l.length := by omega
    simp (maxDischargeDepth := 16) [symB, List.length_set, andThen, hlen, h0, h5, d32_len, hlt', hlt]
    refine hK4 _ _ ?_
    refine CW.cond (t := false) (by simp (maxDischargeDepth := 16) [evx_tmp, slot_eq, slot_ne, hlen, hlt]) ?_
    refine CW.exit ?_
    simp only [andThen]
    refine hR2 _ _ _ (hR _ _ _ ?_)
    simp only [outOf, if_true, andThen]
    refine hK _ _ ?_
    refine CW.seqK fun K hK => CW.region ?_
    simp (maxDischargeDepth := 16) [symB, List.length_set, andThen, hlen]
    refine hK _ _ ?_; clear hK K
    refine CW.ret (hR0 _ _ _ ⟨.lit (.bool true), ?_, rfl, rfl⟩)
    simp (maxDischargeDepth := 16) [resultsA, omap, res_tmp, slot_eq, slot_ne, hlen]

set_option maxRecDepth 100000 in
theorem sameInt_ev (b : Bool) (l : List Nat) (ta tb : Tok) (σ : Sto) (hl : l.length ≤ 1000000000) : CallW Tryz.prog EV 30 [.agg [.lit (.bool b), .sl (d32 l) ta], .agg [.lit (.bool b), .sl (d32 l) tb]] σ fun r σ' => r = .ret (.lit (.bool true)) ∧ Ext σ σ' := by
  refine CallW.start (fn := Tryz.f30) (M := []) rfl rfl rfl rfl (by simp) fun tm hlen hs => ?_
  have h0 := hs 0 _ rfl
  have h1 := hs 1 _ rfl
  clear hs
  simp at hlen
  refine CW.hide fun R0 hR0 => ?_
  refine CW.seqK fun K hK => CW.region ?_
  simp (maxDischargeDepth := 16) [symB, List.length_set, andThen, hlen, h0, h1]
  refine hK _ _ ?_; clear hK K
  have ha : (σ ++ [AObj.cells [.lit (.bool b), .sl (d32 l) ta] 34, AObj.cells [.lit (.bool b), .sl (d32 l) tb] 34])[σ.length]? = some (.cells [.lit (.bool b), .sl (d32 l) ta] 34) := by simp
  have hb : (σ ++ [AObj.cells [.lit (.bool b), .sl (d32 l) ta] 34, AObj.cells [.lit (.bool b), .sl (d32 l) tb] 34])[σ.length + 1]? = some (.cells [.lit (.bool b), .sl (d32 l) tb] 34) := by rw [List.getElem?_append_right (by omega)]; simp
  have hx : Ext σ (σ ++ [AObj.cells [.lit (.bool b), .sl (d32 l) ta] 34, AObj.cells [.lit (.bool b), .sl (d32 l) tb] 34]) := ⟨_, rfl⟩
  generalize (σ ++ [AObj.cells [.lit (.bool b), .sl (d32 l) ta] 34, AObj.cells [.lit (.bool b), .sl (d32 l) tb] 34]) = σA at *
  refine CW.seqK fun K hK => CW.region ?_
  simp (maxDischargeDepth := 16) [symB, List.length_set, andThen, hlen, ha, hb]
  refine (sameLimbs_ev l ta tb _ hl).mono ?_
  rintro r σ2 ⟨rfl, rfl⟩
  simp (maxDischargeDepth := 16) [symB, List.length_set, andThen, hlen, retK]
  refine hK _ _ ?_
  refine CW.ret (hR0 _ _ _ ⟨.lit (.bool true), ?_, rfl, hx⟩)
  simp (maxDischargeDepth := 16) [resultsA, omap, res_tmp, slot_eq, slot_ne, hlen]

set_option maxRecDepth 100000 in
set_option maxHeartbeats 1000000 in
theorem same_ev (N : Nat) : (∀ (v : Vl) (ta tb ta2 tb2 : Tok) (σ : Sto), SizeOf.sizeOf v < N → smallV v → CallW Tryz.prog EV 15 [aggV v ta ta2, aggV v tb tb2] σ fun r σ' => r = .ret (.lit (.bool true)) ∧ Ext σ σ') ∧
    (∀ (f : List Vl) (ta tb : Tok) (σ : Sto), SizeOf.sizeOf f < N → f.length ≤ 1000000 → smallVs f → CallW Tryz.prog EV 31 [.sl (rowsV f) ta, .sl (rowsV f) tb] σ fun r σ' => r = .ret (.lit (.bool true)) ∧ Ext σ σ') := by
  induction N with
  | zero => exact ⟨fun v _ _ _ _ _ h => by omega, fun f _ _ _ h => by omega⟩
  | succ N ih =>
    constructor
    · intro v ta tb ta2 tb2 σ hN hsv
      obtain ⟨k, b, d, t, n, f⟩ := v
      obtain ⟨hd, hfl, hsf⟩ := hsv
      unfold aggV
      refine CallW.start (fn := Tryz.f15) (M := []) rfl rfl rfl rfl (by simp) fun tm hlen hs => ?_
      have h0 := hs 0 _ rfl
      have h1 := hs 1 _ rfl
      clear hs
      simp at hlen
      refine CW.hide fun R0 hR0 => ?_
      refine CW.seqK fun K hK => CW.region ?_
      simp (maxDischargeDepth := 16) [symB, List.length_set, andThen, hlen, h0, h1]
      refine hK _ _ ?_; clear hK K
      have ha : (σ ++ [AObj.cells [.lit (.int .u8 k), .lit (.bool b), .sl (d32 d) ta, .lit (.bool t), .lit (.string (bs n)), .sl (rowsV f) ta2] 37, AObj.cells [.lit (.int .u8 k), .lit (.bool b), .sl (d32 d) tb, .lit (.bool t), .lit (.string (bs n)), .sl (rowsV f) tb2] 37])[σ.length]? = some (.cells [.lit (.int .u8 k), .lit (.bool b), .sl (d32 d) ta, .lit (.bool t), .lit (.string (bs n)), .sl (rowsV f) ta2] 37) := by simp
      have hb : (σ ++ [AObj.cells [.lit (.int .u8 k), .lit (.bool b), .sl (d32 d) ta, .lit (.bool t), .lit (.string (bs n)), .sl (rowsV f) ta2] 37, AObj.cells [.lit (.int .u8 k), .lit (.bool b), .sl (d32 d) tb, .lit (.bool t), .lit (.string (bs n)), .sl (rowsV f) tb2] 37])[σ.length + 1]? = some (.cells [.lit (.int .u8 k), .lit (.bool b), .sl (d32 d) tb, .lit (.bool t), .lit (.string (bs n)), .sl (rowsV f) tb2] 37) := by rw [List.getElem?_append_right (by omega)]; simp
      have hx : Ext σ (σ ++ [AObj.cells [.lit (.int .u8 k), .lit (.bool b), .sl (d32 d) ta, .lit (.bool t), .lit (.string (bs n)), .sl (rowsV f) ta2] 37, AObj.cells [.lit (.int .u8 k), .lit (.bool b), .sl (d32 d) tb, .lit (.bool t), .lit (.string (bs n)), .sl (rowsV f) tb2] 37]) := ⟨_, rfl⟩
      generalize (σ ++ [AObj.cells [.lit (.int .u8 k), .lit (.bool b), .sl (d32 d) ta, .lit (.bool t), .lit (.string (bs n)), .sl (rowsV f) ta2] 37, AObj.cells [.lit (.int .u8 k), .lit (.bool b), .sl (d32 d) tb, .lit (.bool t), .lit (.string (bs n)), .sl (rowsV f) tb2] 37]) = σA at *
      refine CW.seqK fun K hK => CW.region ?_
      simp (maxDischargeDepth := 16) [symB, List.length_set, andThen, hlen, ha, hb]
      refine (sameInt_ev b d ta tb _ (by omega)).mono ?_
      rintro r σ2 ⟨rfl, hx2⟩
      have ha2 := hx2.get ha
      have hb2 := hx2.get hb
      simp (maxDischargeDepth := 16) [symB, List.length_set, andThen, hlen, retK, ha2, hb2, bs_list]
      refine (ih.2 f ta2 tb2 σ2 (by simp at hN; omega) hfl hsf).mono ?_
      rintro r σ3 ⟨rfl, hx3⟩
      simp (maxDischargeDepth := 16) [symB, List.length_set, andThen, hlen, retK]
      refine hK _ _ ?_
      refine CW.ret (hR0 _ _ _ ⟨.lit (.bool true), ?_, rfl, (hx.trans hx2).trans hx3⟩)
      simp (maxDischargeDepth := 16) [resultsA, omap, res_tmp, slot_eq, slot_ne, hlen]
    · intro f ta tb σ hN hfl hsf
      refine CallW.start (fn := Tryz.f31) (M := []) rfl rfl rfl rfl (by simp) fun tm hlen hs => ?_
      have h0 := hs 0 _ rfl
      have h1 := hs 1 _ rfl
      clear hs
      simp at hlen
      refine CW.hide fun R0 hR0 => ?_
      refine CW.seqK fun K hK => CW.region ?_
      simp (maxDischargeDepth := 16) [symB, List.length_set, andThen, hlen, h0]
      refine hK _ _ ?_; clear hK K
      refine CW.seqK fun K hK => ?_
      refine CW.seqK fun K hK => CW.region ?_
      simp (maxDischargeDepth := 16) [symB, List.length_set, andThen, hlen, h0, h1, rowsV_len]
      refine hK _ _ ?_; clear hK K
      refine CW.cond (t := false) (by simp (maxDischargeDepth := 16) [evx_tmp, slot_eq, slot_ne, hlen]) ?_
      refine CW.skip ?_
      simp only [andThen]
      refine hK _ _ ?_; clear hK K
      refine CW.seqK fun K hK => ?_
      refine CW.seqK fun K hK => CW.region ?_
      simp (maxDischargeDepth := 16) [symB, List.length_set, andThen, hlen]
      refine hK _ _ ?_; clear hK K
      refine CW.block ?_
      refine CW.hide fun R hR => ?_
      refine CW.loopI (fun r tm σ1 => ∃ i, r = f.length - i ∧ i ≤ f.length ∧ tm.length = 27 ∧ slot tm 0 = .sl (rowsV f) ta ∧ slot tm 1 = .sl (rowsV f) tb ∧ slot tm 5 = .lit (.int .i64 i) ∧ Ext σ σ1) ?_ _ _ _
        ⟨0, rfl, by omega, by simp [hlen], by simp (maxDischargeDepth := 16) [slot_ne, h0], by simp (maxDischargeDepth := 16) [slot_ne, h1], by simp (maxDischargeDepth := 16) [slot_eq, hlen], .refl _⟩
      clear h0 h1 hlen tm
      rintro r tm σ1 ⟨i, rfl, hi, hlen, h0, h1, h5, hext⟩
      refine CW.hide fun R2 hR2 => ?_
      refine CW.seqK fun K3 hK3 => ?_
      refine CW.seqK fun K4 hK4 => CW.region ?_
      by_cases hlt : i < f.length
      · have hlt' : (i : Int) < f.length := by omega
        simp (maxDischargeDepth := 16) [symB, List.length_set, andThen, hlen, h0, h5, rowsV_len, hlt', hlt]
        refine hK4 _ _ ?_
        refine CW.cond (t := true) (by simp (maxDischargeDepth := 16) [evx_tmp, slot_eq, slot_ne, hlen]) ?_
        refine CW.skip ?_
        simp only [andThen]
        refine hK3 _ _ ?_
        have hg := rowsV_get hlt
        have hmem := List.getElem_mem hlt
        have hwk : IntKind.i64.wrap ((i : Int) + 1) = ((i + 1 : Nat) : Int) := wrap_succ (by omega)
        generalize f[i] = x at *
        have hc := ih.1 x .no .no .no .no σ1 (by have := List.sizeOf_lt_of_mem hmem; omega) (smallVs_mem hsf hmem)
        obtain ⟨xk, xb, xd, xt, xn, xf⟩ := x
        rw [rowV] at hg
        unfold aggV at hc
        refine CW.seqK fun K5 hK5 => CW.block ?_
        refine CW.seqK fun K6 hK6 => CW.draw (by kernel_rfl) ?_
        simp (maxDischargeDepth := 16) [symB, List.length_set, andThen, hlen, h0, h1, h5, hg]
        refine hc.mono ?_
        rintro r σ2 ⟨rfl, hx2⟩
        simp (maxDischargeDepth := 16) [symB, List.length_set, retK, andThen, hlen, extB_of hx2]
        refine ⟨by kernel_rfl, hK6 _ _ ?_⟩
        refine CW.cond (t := false) (by simp (maxDischargeDepth := 16) [evx_tmp, slot_eq, slot_ne, hlen]) ?_
        refine CW.skip ?_
        simp only [andThen, outOf]
        refine hK5 _ _ ?_
        refine CW.region ?_
        simp (maxDischargeDepth := 16) [symB, List.length_set, andThen, hlen, h5, hwk]
        exact hR2 _ _ _ ⟨f.length - (i + 1), by omega, i + 1, rfl, hlt, by simp [hlen], by simp (maxDischargeDepth := 16) [slot_ne, h0], by simp (maxDischargeDepth := 16) [slot_ne, h1], by simp (maxDischargeDepth := 16) [slot_eq, hlen], hext.trans hx2⟩
      · have hlt' : ¬ (i : Int) < f.length := by omega
        simp (maxDischargeDepth := 16) [symB, List.length_set, andThen, hlen, h0, h5, rowsV_len, hlt', hlt]
        refine hK4 _ _ ?_
        refine CW.cond (t := false) (by simp (maxDischargeDepth := 16) [evx_tmp, slot_eq, slot_ne, hlen, hlt]) ?_
        refine CW.exit ?_
        simp only [andThen]
        refine hR2 _ _ _ (hR _ _ _ ?_)
        simp only [outOf, if_true, andThen]
        refine hK _ _ ?_
        refine CW.seqK fun K hK => CW.region ?_
        simp (maxDischargeDepth := 16) [symB, List.length_set, andThen, hlen]
        refine hK _ _ ?_; clear hK K
        refine CW.ret (hR0 _ _ _ ⟨.lit (.bool true), ?_, rfl, hext⟩)
        simp (maxDischargeDepth := 16) [resultsA, omap, res_tmp, slot_eq, slot_ne, hlen]

end Go.Proofs.YtcjjmejmpdhikaaGreatDoor

namespace Go.Proofs.YtcjjmejmpdhikaaGreatDoor
set_option linter.unusedSimpArgs false
set_option linter.unusedVariables false
open Go.RowKit

def joinW : List (List UInt8) → List UInt8
  | [] => []
  | [w] => w
  | w :: v :: l => w ++ 32 :: joinW (v :: l)
def sumL : List (List UInt8) → Nat
  | [] => 0
  | w :: l => w.length + sumL l
theorem joinW_snoc : ∀ (l : List (List UInt8)) (w : List UInt8), l ≠ [] → joinW (l ++ [w]) = joinW l ++ 32 :: w
  | [], w, h => absurd rfl h
  | [v], w, _ => rfl
  | v :: u :: l, w, _ => by
    have ih := joinW_snoc (u :: l) w (by simp)
    simp only [List.cons_append] at ih ⊢
    rw [joinW, joinW, ih]
    simp
theorem joinW_len : ∀ (l : List (List UInt8)), (joinW l).length ≤ sumL l + l.length
  | [] => by simp [joinW]
  | [w] => by simp [joinW, sumL]
  | w :: v :: l => by
    have := joinW_len (v :: l)
    rw [joinW]
    simp only [sumL, List.length_cons, List.length_append] at this ⊢; omega
theorem sumL_take (l : List (List UInt8)) {i : Nat} {w : List UInt8} (h : l[i]? = some w) : sumL (l.take (i + 1)) = sumL (l.take i) + w.length := by
  induction l generalizing i with
  | nil => simp at h
  | cons a l ih =>
    cases i with
    | zero => simp at h; subst h; simp [sumL]
    | succ i => rw [List.take_succ_cons, List.take_succ_cons, sumL, sumL, ih (by simpa using h)]; omega
theorem sumL_le (l : List (List UInt8)) (i : Nat) : sumL (l.take i) ≤ sumL l := by
  induction l generalizing i with
  | nil => simp
  | cons a l ih =>
    cases i with
    | zero => simp [sumL]
    | succ i => rw [List.take_succ_cons, sumL, sumL]; have := ih i; omega
theorem strR_head (l : List (List UInt8)) : (strR l).head?.all (·.length == 1) = true := by cases l <;> rfl

set_option maxRecDepth 100000 in
set_option maxHeartbeats 2000000 in
theorem join_ev (l : List (List UInt8)) (tok : Tok) (σ : Sto) (h0 : l ≠ []) (hl : l.length ≤ 1000000) (hs : sumL l ≤ 1000000000) : CallW Tryz.prog EV 27 [.sl (strR l) tok, .lit (.string (bs [32]))] σ fun r σ' => r = .ret (.lit (.string (bs (joinW l)))) ∧ Ext σ σ' := by
  refine CallW.start (fn := Tryz.f27) (M := []) rfl rfl rfl rfl (by simp) fun tm hlen hss => ?_
  have g0 := hss 0 _ rfl
  have g1 := hss 1 _ rfl
  clear hss
  simp at hlen
  refine CW.hide fun R0 hR0 => ?_
  have hsep : (bs [32]).size = 1 := bsz [32]
  refine CW.seqK fun K hK => CW.region ?_
  simp (maxDischargeDepth := 16) [symB, List.length_set, andThen, hlen, g0]
  refine hK _ _ ?_; clear hK K
  cases l with
  | nil => exact absurd rfl h0
  | cons w l =>
  cases l with
  | nil =>
    have hr1 : (strR [w]).length = 1 := rfl
    have hg := strR_get (l := [w]) (i := 0) (by simp)
    simp only [List.getElem_cons_zero] at hg
    refine CW.seqK fun K hK => ?_
    refine CW.seqK fun K hK => CW.region ?_
    simp (maxDischargeDepth := 16) [symB, List.length_set, andThen, hlen, g0, hr1]
    refine hK _ _ ?_; clear hK K
    refine CW.block ?_
    refine CW.seqK fun K hK => CW.region ?_
    simp (maxDischargeDepth := 16) [symB, List.length_set, andThen, hlen]
    refine hK _ _ ?_; clear hK K
    refine CW.cond (t := false) (by simp (maxDischargeDepth := 16) [evx_tmp, slot_eq, slot_ne, hlen]) ?_
    refine CW.seqK fun K hK => CW.region ?_
    simp (maxDischargeDepth := 16) [symB, List.length_set, andThen, hlen]
    refine hK _ _ ?_; clear hK K
    refine CW.cond (t := true) (by simp (maxDischargeDepth := 16) [evx_tmp, slot_eq, slot_ne, hlen]) ?_
    refine CW.seqK fun K2 hK2 => CW.region ?_
    simp (maxDischargeDepth := 16) [symB, List.length_set, andThen, hlen, g0, hg]
    refine hK2 _ _ ?_
    refine CW.ret ?_
    simp only [andThen, outOf]
    refine hR0 _ _ _ ⟨.lit (.string (bs w)), ?_, rfl, .refl _⟩
    simp (maxDischargeDepth := 16) [resultsA, omap, res_tmp, slot_eq, slot_ne, hlen]
  | cons v l =>
    obtain ⟨m, hm⟩ : ∃ m, m = l.length + 1 := ⟨_, rfl⟩
    have hrl : (strR (w :: v :: l)).length = m + 1 := by rw [strR_len, hm]; rfl
    have hall : (w :: v :: l).length = m + 1 := by rw [hm]; rfl
    generalize hL : (w :: v :: l) = L at *
    have hg0 : (strR L)[0]? = some [.lit (.string (bs w))] := by rw [← hL]; rfl
    have hL1 : L.take 1 = [w] := by rw [← hL]; rfl
    have hwl : w.length ≤ sumL L := by rw [← hL, sumL]; omega
    have hjne : joinW L ≠ [] := by rw [← hL, joinW]; simp
    have hdrop : (strR L).drop 1 = strR (L.drop 1) := by rw [← hL]; rfl
    clear hL
    have hm1 : 1 ≤ m := by omega
    have e0 : ¬ ((m : Int) + 1 = 0) := by omega
    have e1 : ¬ ((m : Int) + 1 = 1) := by omega
    have e1n : ¬ m = 0 := by omega
    have b0 : (((m : Int) + 1) == 0) = false := by simpa using e0
    have b1 : (((m : Int) + 1) == 1) = false := by simpa using e1
    refine CW.seqK fun K hK => ?_
    refine CW.seqK fun K hK => CW.region ?_
    simp (maxDischargeDepth := 16) [symB, List.length_set, andThen, hlen, g0, hrl]
    refine hK _ _ ?_; clear hK K
    refine CW.block ?_
    refine CW.seqK fun K hK => CW.region ?_
    simp (maxDischargeDepth := 16) [symB, List.length_set, andThen, hlen, e0, b0]
    refine hK _ _ ?_; clear hK K
    refine CW.cond (t := false) (by simp (maxDischargeDepth := 16) [evx_tmp, slot_eq, slot_ne, hlen, e0, b0]) ?_
    refine CW.seqK fun K hK => CW.region ?_
    simp (maxDischargeDepth := 16) [symB, List.length_set, andThen, hlen, e1, b1, e1n]
    refine hK _ _ ?_; clear hK K
    refine CW.cond (t := false) (by simp (maxDischargeDepth := 16) [evx_tmp, slot_eq, slot_ne, hlen, e1, b1, e1n]) ?_
    refine CW.skip ?_
    simp only [andThen, outOf]
    refine hK _ _ ?_; clear hK K
    refine CW.seqK fun K hK => CW.region ?_
    simp (maxDischargeDepth := 16) [symB, List.length_set, andThen, hlen]
    refine hK _ _ ?_; clear hK K
    refine CW.seqK fun K hK => ?_
    refine CW.seqK fun K hK => CW.region ?_
    simp (maxDischargeDepth := 16) [symB, List.length_set, andThen, hlen, g1, hsep]
    refine hK _ _ ?_; clear hK K
    refine CW.cond (t := true) (by simp (maxDischargeDepth := 16) [evx_tmp, slot_eq, slot_ne, hlen]) ?_
    refine CW.seqK fun K2 hK2 => ?_
    have hwm : IntKind.i64.wrap (m : Int) = (m : Int) := IntWalk.i64_in _ ⟨by omega, by omega⟩
    obtain ⟨Q, hQ, hQ2⟩ : ∃ Q : Int, IntKind.i64.wrap ((9223372036854775807 : Int) / (m : Int)) = Q ∧ 2 ≤ Q := by
      refine ⟨_, rfl, ?_⟩
      have h1 : (9223372036854775807 : Int) / (m : Int) ≤ 9223372036854775807 := Int.ediv_le_self _ (by omega)
      have h2 : 2 ≤ (9223372036854775807 : Int) / (m : Int) := by rw [Int.le_ediv_iff_mul_le (by omega)]; omega
      rw [IntWalk.i64_in _ ⟨by omega, by omega⟩]; exact h2
    have hQt : IntKind.i64.wrap ((9223372036854775807 : Int).tdiv (m : Int)) = Q := by rw [Int.tdiv_eq_ediv_of_nonneg (by omega)]; exact hQ
    have hm0 : ¬ (m : Int) = 0 := by omega
    have hQn : ¬ Q ≤ 1 := by omega
    refine CW.seqK fun K3 hK3 => CW.region ?_
    simp (maxDischargeDepth := 16) [symB, List.length_set, andThen, hlen, g0, g1, hsep, hrl, hwm, hQ, hQt, hm0, e1n, hQn]
    refine hK3 _ _ ?_
    refine CW.cond (t := false) (by simp (maxDischargeDepth := 16) [evx_tmp, slot_eq, slot_ne, hlen]) ?_
    refine CW.skip ?_
    simp only [andThen]
    refine hK2 _ _ ?_
    refine CW.region ?_
    simp (maxDischargeDepth := 16) [symB, List.length_set, andThen, hlen, g0, g1, hsep, hrl, hwm]
    refine hK _ _ ?_
    refine CW.reset (fun tm => tm.length = 75 ∧ slot tm 0 = .sl (strR L) tok ∧ slot tm 1 = .lit (.string (bs [32])) ∧ slot tm 5 = .lit (.int .i64 m)) ⟨by simp [hlen], by simp (maxDischargeDepth := 16) [slot_ne, g0], by simp (maxDischargeDepth := 16) [slot_ne, g1], by simp (maxDischargeDepth := 16) [slot_eq, slot_ne, hlen]⟩ ?_
    clear hK3 K3 hK2 K2 hK K g0 g1 hlen tm hQ hQ2 hQt hQn Q
    rintro tm ⟨hlen, g0, g1, g5⟩
    refine CW.seqK fun K hK => ?_
    refine CW.seqK fun K hK => CW.region ?_
    simp (maxDischargeDepth := 16) [symB, List.length_set, andThen, hlen, g0, hrl]
    refine hK _ _ ?_; clear hK K
    refine CW.block ?_
    refine CW.hide fun R hR => ?_
    refine CW.loopI (fun r tm σ1 => ∃ i, r = (m + 1) - i ∧ i ≤ m + 1 ∧ tm.length = 75 ∧ slot tm 0 = .sl (strR L) tok ∧ slot tm 1 = .lit (.string (bs [32])) ∧ slot tm 5 = .lit (.int .i64 ((m + sumL (L.take i) : Nat) : Int)) ∧ slot tm 39 = .sl (strR L) tok ∧ slot tm 40 = .lit (.int .i64 ((m : Int) + 1)) ∧ slot tm 41 = .lit (.int .i64 i) ∧ σ1 = σ) ?_ _ _ _
      ⟨0, rfl, by omega, by simp [hlen], by simp (maxDischargeDepth := 16) [slot_ne, g0], by simp (maxDischargeDepth := 16) [slot_ne, g1], by simp (maxDischargeDepth := 16) [slot_ne, g5, sumL], by simp (maxDischargeDepth := 16) [slot_eq, slot_ne, hlen, g0], by simp (maxDischargeDepth := 16) [slot_eq, slot_ne, hlen], by simp (maxDischargeDepth := 16) [slot_eq, hlen], rfl⟩
    clear g0 g1 g5 hlen tm
    rintro r tm σ1 ⟨i, rfl, hi, hlen, g0, g1, g5, g39, g40, g41, rfl⟩
    refine CW.hide fun R2 hR2 => ?_
    refine CW.seqK fun K4 hK4 => CW.region ?_
    by_cases hlt : i < m + 1
    · have hlt' : (i : Int) < (m : Int) + 1 := by omega
      simp (maxDischargeDepth := 16) [symB, List.length_set, andThen, hlen, g40, g41, hlt', hlt]
      refine hK4 _ _ ?_
      refine CW.seqK fun K3 hK3 => ?_
      refine CW.cond (t := true) (by simp (maxDischargeDepth := 16) [evx_tmp, slot_eq, slot_ne, hlen, hlt']) ?_
      refine CW.skip ?_
      simp only [andThen]
      refine hK3 _ _ ?_
      have hil : i < L.length := by omega
      have hg := strR_get hil
      have hst := sumL_take L (List.getElem?_eq_getElem hil)
      generalize L[i] = u at *
      have hul : sumL (L.take (i + 1)) ≤ sumL L := sumL_le L _
      obtain ⟨s, hs1⟩ : ∃ s, s = m + sumL (L.take i) := ⟨_, rfl⟩
      rw [← hs1] at g5
      have hsb : s + u.length ≤ 2000000000 := by omega
      have hwk : IntKind.i64.wrap ((i : Int) + 1) = ((i + 1 : Nat) : Int) := wrap_succ (by omega)
      have hw1 : IntKind.i64.wrap ((9223372036854775807 : Int) - (s : Int)) = (9223372036854775807 : Int) - (s : Int) := IntWalk.i64_in _ ⟨by omega, by omega⟩
      have hw2 : ¬ (9223372036854775807 : Int) - (s : Int) < (u.length : Int) := by omega
      have hw3 : IntKind.i64.wrap ((s : Int) + (u.length : Int)) = ((s + u.length : Nat) : Int) := by rw [IntWalk.i64_in _ ⟨by omega, by omega⟩]; omega
      refine CW.seqK fun K5 hK5 => CW.block ?_
      refine CW.seqK fun K hK => CW.region ?_
      simp (maxDischargeDepth := 16) [symB, List.length_set, andThen, hlen, g39, g41, hg]
      refine hK _ _ ?_; clear hK K
      refine CW.seqK fun K6 hK6 => ?_
      refine CW.seqK fun K hK => CW.region ?_
      simp (maxDischargeDepth := 16) [symB, List.length_set, andThen, hlen, g5, bsz, hw1, hw2]
      refine hK _ _ ?_; clear hK K
      refine CW.cond (t := false) (by simp (maxDischargeDepth := 16) [evx_tmp, slot_eq, slot_ne, hlen, hw2]) ?_
      refine CW.skip ?_
      simp only [andThen]
      refine hK6 _ _ ?_
      refine CW.region ?_
      simp (maxDischargeDepth := 16) [symB, List.length_set, andThen, outOf, hlen, g5, bsz, hw3]
      refine hK5 _ _ ?_
      refine CW.region ?_
      simp (maxDischargeDepth := 16) [symB, List.length_set, andThen, hlen, g41, hwk]
      refine hR2 _ _ _ ⟨(m + 1) - (i + 1), by omega, i + 1, rfl, by omega, by simp [hlen], by simp (maxDischargeDepth := 16) [slot_ne, g0], by simp (maxDischargeDepth := 16) [slot_ne, g1], ?_, by simp (maxDischargeDepth := 16) [slot_ne, g39], by simp (maxDischargeDepth := 16) [slot_ne, g40], by simp (maxDischargeDepth := 16) [slot_eq, hlen], rfl⟩
      rw [hst, ← Nat.add_assoc, ← hs1]
      simp (maxDischargeDepth := 16) [slot_eq, slot_ne, hlen]
    · have hlt' : ¬ (i : Int) < (m : Int) + 1 := by omega
      have him : i = m + 1 := by omega
      have hsL : sumL (L.take i) = sumL L := by rw [him, List.take_of_length_le (by omega)]
      rw [hsL] at g5
      simp (maxDischargeDepth := 16) [symB, List.length_set, andThen, hlen, g40, g41, hlt', hlt]
      refine hK4 _ _ ?_
      refine CW.seqK fun K3 hK3 => ?_
      refine CW.cond (t := false) (by simp (maxDischargeDepth := 16) [evx_tmp, slot_eq, slot_ne, hlen, hlt']) ?_
      refine CW.exit ?_
      simp only [andThen]
      refine hR2 _ _ _ (hR _ _ _ ?_)
      simp only [outOf, if_true, andThen]
      refine hK _ _ ?_
      clear hK3 K3 hR2 R2 hR R hK K hK4 K4
      refine CW.reset (fun tm => tm.length = 75 ∧ slot tm 0 = .sl (strR L) tok ∧ slot tm 1 = .lit (.string (bs [32])) ∧ slot tm 5 = .lit (.int .i64 ((m + sumL L : Nat) : Int))) ⟨by simp [hlen], by simp (maxDischargeDepth := 16) [slot_ne, g0], by simp (maxDischargeDepth := 16) [slot_ne, g1], by simp (maxDischargeDepth := 16) [slot_ne, g5]⟩ ?_
      clear g0 g1 g5 g39 g40 g41 hlen tm
      rintro tm ⟨hlen, g0, g1, g5⟩
      refine CW.seqK fun K hK => CW.region ?_
      simp (maxDischargeDepth := 16) [symB, List.length_set, andThen, hlen]
      refine hK _ _ ?_; clear hK K
      have hbx : Ext σ1 (σ1 ++ [AObj.cells [.lit (.pointer none), .sl [] .full] 97]) := ⟨_, rfl⟩
      have hbo : (σ1 ++ [AObj.cells [.lit (.pointer none), .sl [] .full] 97])[σ1.length]? = some (.cells [.lit (.pointer none), .sl [] .full] 97) := by simp
      generalize (σ1 ++ [AObj.cells [.lit (.pointer none), .sl [] .full] 97]) = σ2 at *
      refine CW.seqK fun K hK => CW.region ?_
      generalize hn : m + sumL L = nn at *
      simp (maxDischargeDepth := 16) [symB, List.length_set, andThen, hlen, g5]
      refine (grow_ev (Nat.le_refl _) hbo hbx (n := nn) (by omega)).mono ?_
      rintro r σ3 ⟨rfl, hb3, hx3⟩
      simp (maxDischargeDepth := 16) [symB, List.length_set, andThen, hlen, retK]
      refine hK _ _ ?_; clear hK K
      refine CW.seqK fun K hK => CW.region ?_
      simp (maxDischargeDepth := 16) [symB, List.length_set, andThen, hlen, g0, hg0]
      refine (writeString_ev hb3 hx3 (bs w) (by rw [bsz]; simp only [List.length_nil]; omega)).mono ?_
      rintro r σ4 ⟨⟨v0, rfl⟩, hb4, hx4⟩
      simp (maxDischargeDepth := 16) [symB, List.length_set, andThen, hlen, retK]
      refine hK _ _ ?_; clear hK K
      have hb5 : BldAt σ1 σ4 σ1.length (joinW (L.take 1)) := by rw [hL1, joinW]; simpa [bs] using hb4
      clear hb4 hb3 hx3 σ3
      have hdl : (strR (L.drop 1)).length = m := by rw [strR_len, List.length_drop, hall]; rfl
      refine CW.reset (fun tm => tm.length = 75 ∧ slot tm 0 = .sl (strR L) tok ∧ slot tm 1 = .lit (.string (bs [32])) ∧ slot tm 8 = .ptr σ1.length 0) ⟨by simp [hlen], by simp (maxDischargeDepth := 16) [slot_ne, g0], by simp (maxDischargeDepth := 16) [slot_ne, g1], by simp (maxDischargeDepth := 16) [slot_ne, slot_eq, hlen]⟩ ?_
      clear g0 g1 g5 hlen tm
      rintro tm ⟨hlen, g0, g1, g8⟩
      refine CW.seqK fun K hK => ?_
      obtain ⟨L1, hL1e⟩ : ∃ L1, L1 = L.drop 1 := ⟨_, rfl⟩
      rw [← hL1e] at hdl hdrop
      have hdrop' : (strR L).tail = strR L1 := by rw [← List.drop_one, hdrop]
      have htk : (strR L).take ((m : Int) + 1).toNat = strR L := List.take_of_length_le (by omega)
      have h1m : (1 : Int) ≤ (m : Int) + 1 := by omega
      have htk' : (strR L).take (m + 1) = strR L := List.take_of_length_le (by omega)
      have hhd := strR_head L
      have hhd2 : ∀ k, k = 1 → (strR L).head?.all (·.length == k) = true := by rintro k rfl; exact hhd
      obtain ⟨tk2, htk2⟩ : ∃ tk2, tk2 = sliceTok tok ((m : Int) + 1) 1 (m + 1) := ⟨_, rfl⟩
      refine CW.seqK fun K hK => CW.region ?_
      simp (maxDischargeDepth := 16) [symB, List.length_set, andThen, hlen, g0, hrl, hdrop, hdrop', hdl, h1m, htk, hhd, hhd2, ← htk2]
      refine hK _ _ ?_; clear hK K
      refine CW.block ?_
      refine CW.hide fun R hR => ?_
      refine CW.loopI (fun r tm σ => ∃ i, r = m - i ∧ i ≤ m ∧ tm.length = 75 ∧ slot tm 1 = .lit (.string (bs [32])) ∧ slot tm 8 = .ptr σ1.length 0 ∧ slot tm 63 = .sl (strR L1) tk2 ∧ slot tm 64 = .lit (.int .i64 (m : Int)) ∧ slot tm 65 = .lit (.int .i64 i) ∧ BldAt σ1 σ σ1.length (joinW (L.take (i + 1))) ∧ Ext σ1 σ) ?_ _ _ _
        ⟨0, rfl, by omega, by simp [hlen], by simp (maxDischargeDepth := 16) [slot_ne, g1], by simp (maxDischargeDepth := 16) [slot_ne, g8], by simp (maxDischargeDepth := 16) [slot_eq, slot_ne, hlen, g0, htk', hdrop'], by simp (maxDischargeDepth := 16) [slot_eq, slot_ne, hlen], by simp (maxDischargeDepth := 16) [slot_eq, hlen], hb5, hx4⟩
      clear g0 g1 g8 hlen tm hb5 hx4 σ4
      rintro r tm σ ⟨i, rfl, hi, hlen, g1, g8, g63, g64, g65, hb, hx⟩
      refine CW.hide fun R2 hR2 => ?_
      refine CW.seqK fun K4 hK4 => CW.region ?_
      by_cases hlt : i < m
      · have hlt' : (i : Int) < (m : Int) := by omega
        simp (maxDischargeDepth := 16) [symB, List.length_set, andThen, hlen, g64, g65, hlt', hlt]
        refine hK4 _ _ ?_
        refine CW.seqK fun K3 hK3 => ?_
        refine CW.cond (t := true) (by simp (maxDischargeDepth := 16) [evx_tmp, slot_eq, slot_ne, hlen, hlt']) ?_
        refine CW.skip ?_
        simp only [andThen]
        refine hK3 _ _ ?_
        have hil : i < L1.length := by rw [hL1e, List.length_drop]; omega
        have hg := strR_get hil
        have hlk := joinW_len (L.take (i + 1))
        have hlk2 := sumL_le L (i + 1)
        have hlk3 : (L.take (i + 1)).length ≤ m + 1 := by rw [List.length_take]; omega
        have hgl : L[i + 1]? = some L1[i] := by subst hL1e; rw [List.getElem_drop, List.getElem?_eq_getElem (by omega)]; congr 2; omega
        have hst := sumL_take L (i := i + 1) (w := L1[i]) hgl
        have hst2 := sumL_le L (i + 1 + 1)
        have hjs : joinW (L.take (i + 1)) ++ [32] ++ L1[i] = joinW (L.take (i + 1 + 1)) := by
          rw [List.take_add_one (i := i + 1), hgl, Option.toList_some, joinW_snoc _ _ (by rw [Ne, List.take_eq_nil_iff]; rintro (h | h); (· omega); exact h0 h)]
          simp only [List.append_assoc, List.singleton_append]
        generalize L1[i] = u at *
        have hwk : IntKind.i64.wrap ((i : Int) + 1) = ((i + 1 : Nat) : Int) := wrap_succ (by omega)
        refine CW.seqK fun K5 hK5 => CW.block ?_
        refine CW.seqK fun K hK => CW.region ?_
        simp (maxDischargeDepth := 16) [symB, List.length_set, andThen, hlen, g63, g65, hg]
        refine hK _ _ ?_; clear hK K
        refine CW.seqK fun K6 hK6 => CW.region ?_
        simp (maxDischargeDepth := 16) [symB, List.length_set, andThen, outOf, hlen, g8, g1]
        refine (writeString_ev hb hx (bs [32]) (by rw [bsz]; simp; omega)).mono ?_
        rintro r σ5 ⟨⟨v5, rfl⟩, hb6, hx6⟩
        simp (maxDischargeDepth := 16) [symB, List.length_set, andThen, hlen, retK]
        refine hK6 _ _ ?_
        refine CW.region ?_
        simp (maxDischargeDepth := 16) [symB, List.length_set, andThen, outOf, hlen, g8]
        refine (writeString_ev hb6 hx6 (bs u) (by rw [bsz]; simp; omega)).mono ?_
        rintro r σ6 ⟨⟨v6, rfl⟩, hb7, hx7⟩
        simp (maxDischargeDepth := 16) [symB, List.length_set, andThen, hlen, retK]
        refine hK5 _ _ ?_
        refine CW.region ?_
        simp (maxDischargeDepth := 16) [symB, List.length_set, andThen, hlen, g65, hwk]
        refine hR2 _ _ _ ⟨m - (i + 1), by omega, i + 1, rfl, by omega, by simp [hlen], by simp (maxDischargeDepth := 16) [slot_ne, g1], by simp (maxDischargeDepth := 16) [slot_ne, g8], by simp (maxDischargeDepth := 16) [slot_ne, g63], by simp (maxDischargeDepth := 16) [slot_ne, g64], by simp (maxDischargeDepth := 16) [slot_eq, hlen], ?_, hx7⟩
        rw [← hjs]
        simpa [bs] using hb7
      · have hlt' : ¬ (i : Int) < (m : Int) := by omega
        have him : i + 1 = m + 1 := by omega
        rw [him, ← hall, List.take_length] at hb
        simp (maxDischargeDepth := 16) [symB, List.length_set, andThen, hlen, g64, g65, hlt', hlt]
        refine hK4 _ _ ?_
        refine CW.seqK fun K3 hK3 => ?_
        refine CW.cond (t := false) (by simp (maxDischargeDepth := 16) [evx_tmp, slot_eq, slot_ne, hlen, hlt']) ?_
        refine CW.exit ?_
        simp only [andThen]
        refine hR2 _ _ _ (hR _ _ _ ?_)
        simp only [outOf, if_true, andThen]
        refine hK _ _ ?_
        have hlj := joinW_len L
        refine CW.seqK fun K5 hK5 => CW.region ?_
        simp (maxDischargeDepth := 16) [symB, List.length_set, andThen, hlen, g8]
        refine (string_ev hb hx hjne (by omega)).mono ?_
        rintro r σ5 ⟨rfl, hb6, hx6⟩
        simp (maxDischargeDepth := 16) [symB, List.length_set, andThen, hlen, retK]
        refine hK5 _ _ ?_
        refine CW.ret ?_
        refine hR0 _ _ _ ⟨_, by simp (maxDischargeDepth := 16) [resultsA, omap, res_tmp, slot_eq, slot_ne, hlen]; rfl, rfl, hx6⟩

end Go.Proofs.YtcjjmejmpdhikaaGreatDoor

namespace Go.Proofs.YtcjjmejmpdhikaaGreatDoor
set_option linter.unusedSimpArgs false
set_option linter.unusedVariables false
open Go.RowKit

def boolB (b : Bool) : List UInt8 := if b then bTrue else bFalse

set_option maxRecDepth 100000 in
theorem fmtBool0_ev (b : Bool) (σ : Sto) : CallW Tryz.prog EV 49 [.lit (.bool b)] σ fun r σ' => r = .ret (.lit (.string (bs (boolB b)))) ∧ σ' = σ := by
  refine CallW.start (fn := Tryz.f49) (M := []) rfl rfl rfl rfl (by simp) fun tm hlen hs => ?_
  have h0 := hs 0 _ rfl
  clear hs
  simp at hlen
  refine CW.hide fun R0 hR0 => ?_
  refine CW.seqK fun K hK => CW.region ?_
  simp (maxDischargeDepth := 16) [symB, List.length_set, andThen, hlen, h0]
  refine hK _ _ ?_; clear hK K
  refine CW.seqK fun K hK => ?_
  refine CW.seqK fun K hK => CW.region ?_
  simp (maxDischargeDepth := 16) [symB, List.length_set, andThen, hlen, h0]
  refine hK _ _ ?_; clear hK K
  cases b with
  | true =>
    refine CW.cond (t := true) (by simp (maxDischargeDepth := 16) [evx_tmp, slot_eq, slot_ne, hlen]) ?_
    refine CW.seqK fun K hK => CW.region ?_
    simp (maxDischargeDepth := 16) [symB, List.length_set, andThen, hlen]
    refine hK _ _ ?_; clear hK K
    refine CW.ret (hR0 _ _ _ ⟨.lit (.string (bs bTrue)), ?_, rfl, rfl⟩)
    simp (maxDischargeDepth := 16) [resultsA, omap, res_tmp, slot_eq, slot_ne, hlen]
    rfl
  | false =>
    refine CW.cond (t := false) (by simp (maxDischargeDepth := 16) [evx_tmp, slot_eq, slot_ne, hlen]) ?_
    refine CW.skip ?_
    simp only [andThen]
    refine hK _ _ ?_; clear hK K
    refine CW.seqK fun K hK => CW.region ?_
    simp (maxDischargeDepth := 16) [symB, List.length_set, andThen, hlen]
    refine hK _ _ ?_; clear hK K
    refine CW.ret (hR0 _ _ _ ⟨.lit (.string (bs bFalse)), ?_, rfl, rfl⟩)
    simp (maxDischargeDepth := 16) [resultsA, omap, res_tmp, slot_eq, slot_ne, hlen]
    rfl

set_option maxRecDepth 100000 in
theorem fmtBool_ev (b : Bool) (σ : Sto) : CallW Tryz.prog EV 26 [.lit (.bool b)] σ fun r σ' => r = .ret (.lit (.string (bs (boolB b)))) ∧ σ' = σ := by
  refine CallW.start (fn := Tryz.f26) (M := []) rfl rfl rfl rfl (by simp) fun tm hlen hs => ?_
  have h0 := hs 0 _ rfl
  clear hs
  simp at hlen
  refine CW.hide fun R0 hR0 => ?_
  refine CW.seqK fun K hK => CW.region ?_
  simp (maxDischargeDepth := 16) [symB, List.length_set, andThen, hlen, h0]
  refine hK _ _ ?_; clear hK K
  refine CW.seqK fun K hK => CW.region ?_
  simp (maxDischargeDepth := 16) [symB, List.length_set, andThen, hlen, h0]
  refine (fmtBool0_ev b σ).mono ?_
  rintro r σ2 ⟨rfl, rfl⟩
  simp (maxDischargeDepth := 16) [symB, List.length_set, andThen, hlen, retK]
  refine hK _ _ ?_
  refine CW.ret (hR0 _ _ _ ⟨.lit (.string (bs (boolB b))), ?_, rfl, rfl⟩)
  simp (maxDischargeDepth := 16) [resultsA, omap, res_tmp, slot_eq, slot_ne, hlen]

mutual
/-- a value's text -/
def valText : Vl → List UInt8
  | .mk k b d t n f => if k = 1 then numText b d else if k = 2 then boolB t else if k = 3 then (if n = [] then [40, 41] else 40 :: joinW (n :: valTexts f) ++ [41]) else []
def valTexts : List Vl → List (List UInt8)
  | [] => []
  | v :: l => valText v :: valTexts l
end
mutual
/-- its numbers are right -/
def rightV : Vl → Prop
  | .mk k b d t n f => d.length ≤ 1000000 ∧ (k = 1 → RightI b d) ∧ rightVs f
def rightVs : List Vl → Prop
  | [] => True
  | v :: l => rightV v ∧ rightVs l
end
theorem rightVs_mem : ∀ {l : List Vl} {v : Vl}, rightVs l → v ∈ l → rightV v
  | a :: l, v, hs, h => by
    rcases List.mem_cons.1 h with rfl | h
    · exact hs.1
    · exact rightVs_mem hs.2 h
theorem valTexts_map (l : List Vl) : valTexts l = l.map valText := by
  induction l with
  | nil => rfl
  | cons v l ih => simp [valTexts, ih]
theorem sumL_mem {l : List (List UInt8)} {w : List UInt8} (h : w ∈ l) : w.length ≤ sumL l := by
  induction l with
  | nil => cases h
  | cons a l ih =>
    rw [sumL]
    rcases List.mem_cons.1 h with rfl | h
    · omega
    · have := ih h; omega
theorem joinW_len2 : ∀ (l : List (List UInt8)), sumL l + l.length ≤ (joinW l).length + 1
  | [] => by simp [joinW, sumL]
  | [w] => by simp [joinW, sumL]
  | w :: v :: l => by
    have := joinW_len2 (v :: l)
    rw [joinW]
    simp only [sumL, List.length_cons, List.length_append] at this ⊢; omega

/-- an append to a literal, or to what is the call's own -/
theorem append_atG {P : Program} {M : List TypeId} {σ0 σ : Sto} {es fs : List (List AV)} {tok tk : Tok} {t e k by_ : Nat} {z : Value} (ht : P.underlying t = some (.slice e)) (hk : szOf P e = some (k + 1)) (hb : bytesOf P e = some by_) (hz : ((P.info? e).bind fun x => x.zero) = some z) (hzk : z.cells.size = k + 1)
    (htok : tok = .full ∨ TokAt σ0 σ (es.length * (k + 1)) e tok) (hext : Ext σ0 σ) (h1 : es.head?.all (·.length == k + 1) = true) (h2 : fs.head?.all (·.length == k + 1) = true) (hf : fs.length ≠ 0) (hby : (es.length + fs.length) * by_ ≤ 140737488355328) (hle : es.length + fs.length ≤ 140737488355328) (hMt : M.contains t = false := by rfl) :
    ∃ t' σ' acc, Ext σ0 σ' ∧ TokAt σ0 σ' ((es.length + fs.length) * (k + 1)) e t' ∧ ∀ (tm : List AV) (ds : Option Tmp) (ty : TypeId) (po : String) (af : Array Edge) (gu : Option (Nat × Bool)) (x y : Operand), evx tm x = some (.sl es tok) → evx tm y = some (.sl fs tk) →
      evStep P M (evx tm) σ ⟨ds, .call ⟨.builtin .append, #[x, y], #[t, t]⟩, ty, po, af, gu⟩ = some (.val (.sl (es ++ stripRows fs) t') σ' acc) := by
  rcases htok with rfl | htok
  · have hlit : ∀ (tm : List AV) (ds : Option Tmp) (ty : TypeId) (po : String) (af : Array Edge) (gu : Option (Nat × Bool)) (x y : Operand), evx tm x = some (.sl es .full) → evLit P (evx tm) σ ⟨ds, .call ⟨.builtin .append, #[x, y], #[t, t]⟩, ty, po, af, gu⟩ = none := by
      intro tm ds ty po af gu x y hx
      unfold evLit
      simp [Op.operands, Call.operands, hx, conc, conc2]
    have hz' : ((P.info? e).bind (·.zero)).map (·.cells.size) = some (k + 1) := by rw [hz]; simp [hzk]
    refine ⟨.own σ.length, _, .news σ.length, hext.push _, TokAt.new hext, fun tm ds ty po af gu x y hx hy => ?_⟩
    unfold evStep
    rw [if_neg (by simp only [mutOp, hMt]; exact Bool.false_ne_true), hlit tm ds ty po af gu x y hx]
    simp only [evPure, evMem, if_true]
    unfold evAppend
    simp only [ht, hx, hy, hk, hb, hz']
    rw [if_pos ⟨trivial, h1, h2, hby, hle⟩, if_neg hf]
  · exact append_at ht hk hb hz hzk htok hext h1 h2 hf hby hle hMt

mutual
/-- a row that tells a value, whoever may append to its parts -/
def isRow : Vl → List AV → Prop
  | .mk k b d t n f, row => ∃ ta tk fs, row = [.lit (.int .u8 k), .lit (.bool b), .sl (d32 d) ta, .lit (.bool t), .lit (.string (bs n)), .sl fs tk] ∧ areRows f fs
def areRows : List Vl → List (List AV) → Prop
  | [], rows => rows = []
  | v :: l, rows => ∃ r rs, rows = r :: rs ∧ isRow v r ∧ areRows l rs
end
theorem areRows_len : ∀ {l : List Vl} {rows : List (List AV)}, areRows l rows → rows.length = l.length
  | [], rows, h => by rw [areRows] at h; subst h; rfl
  | v :: l, rows, h => by
    rw [areRows] at h
    obtain ⟨r, rs, rfl, _, h⟩ := h
    simp [areRows_len h]
theorem areRows_get : ∀ {l : List Vl} {rows : List (List AV)} {i : Nat} (_ : areRows l rows) (hi : i < l.length), ∃ row, rows[i]? = some row ∧ isRow l[i] row
  | [], rows, i, _, hi => by simp at hi
  | v :: l, rows, i, h, hi => by
    rw [areRows] at h
    obtain ⟨r, rs, rfl, h1, h⟩ := h
    cases i with
    | zero => exact ⟨r, rfl, h1⟩
    | succ i =>
      obtain ⟨row, h2, h3⟩ := areRows_get h (i := i) (by simpa using hi)
      exact ⟨row, by simpa using h2, by simpa using h3⟩
mutual
theorem isRow_row : ∀ v : Vl, isRow v (rowV v)
  | .mk k b d t n f => by rw [isRow, rowV]; exact ⟨_, _, _, rfl, areRows_rows f⟩
theorem areRows_rows : ∀ l : List Vl, areRows l (rowsV l)
  | [] => by rw [areRows, rowsV]
  | v :: l => by rw [areRows, rowsV]; exact ⟨_, _, rfl, isRow_row v, areRows_rows l⟩
end

set_option maxRecDepth 100000 in
set_option maxHeartbeats 2000000 in
theorem vtextR_ev (N : Nat) : ∀ (v : Vl) (row : List AV) (σ : Sto), isRow v row → SizeOf.sizeOf v < N → rightV v → (valText v).length ≤ 900000 →
    CallW Tryz.prog EV 13 [.agg row] σ fun r σ' => r = .ret (.lit (.string (bs (valText v)))) ∧ Ext σ σ' := by
  induction N with
  | zero => intro v row σ _ h; omega
  | succ N ih =>
    intro v row σ hrow hN hrv hvl
    obtain ⟨k, b, d, t, n, f⟩ := v
    rw [isRow] at hrow
    obtain ⟨t1, t2, rows, rfl, har⟩ := hrow
    have hrowl := areRows_len har
    obtain ⟨hdl, hri, hrf⟩ := hrv
    refine CallW.start (fn := Tryz.f13) (M := []) rfl rfl rfl rfl (by simp) fun tm hlen hss => ?_
    have h0 := hss 0 _ rfl
    clear hss
    simp at hlen
    refine CW.hide fun R0 hR0 => ?_
    have done : ∀ (tm : List AV) (σ1 : Sto), tm.length = 43 → slot tm 2 = .lit (.string (bs (valText (.mk k b d t n f)))) → Ext σ σ1 → R0 .ret tm σ1 := by
      intro tm σ1 hlen h2 hx
      refine hR0 _ _ _ ⟨.lit (.string (bs (valText (.mk k b d t n f)))), ?_, rfl, hx⟩
      simp (maxDischargeDepth := 16) [resultsA, omap, res_tmp, slot_eq, slot_ne, hlen, h2]
    clear hR0
    have hvt := valText.eq_1 k b d t n f
    generalize valText (.mk k b d t n f) = res at *
    refine CW.seqK fun K hK => CW.region ?_
    simp (maxDischargeDepth := 16) [symB, List.length_set, andThen, hlen, h0]
    refine hK _ _ ?_; clear hK K
    have hobA : (σ ++ [AObj.cells [.lit (.int .u8 k), .lit (.bool b), .sl (d32 d) t1, .lit (.bool t), .lit (.string (bs n)), .sl rows t2] 37])[σ.length]? = some (.cells [.lit (.int .u8 k), .lit (.bool b), .sl (d32 d) t1, .lit (.bool t), .lit (.string (bs n)), .sl rows t2] 37) := by simp
    have hxA : Ext σ (σ ++ [AObj.cells [.lit (.int .u8 k), .lit (.bool b), .sl (d32 d) t1, .lit (.bool t), .lit (.string (bs n)), .sl rows t2] 37]) := ⟨_, rfl⟩
    generalize (σ ++ [AObj.cells [.lit (.int .u8 k), .lit (.bool b), .sl (d32 d) t1, .lit (.bool t), .lit (.string (bs n)), .sl rows t2] 37]) = σA at *
    refine CW.reset (fun tm => tm.length = 43 ∧ slot tm 1 = .ptr σ.length 0) ⟨by simp [hlen], by simp (maxDischargeDepth := 16) [slot_eq, slot_ne, hlen]⟩ ?_
    clear h0 hlen tm
    rintro tm ⟨hlen, h1⟩
    refine CW.seqK fun K hK => ?_
    refine CW.seqK fun K hK => CW.region ?_
    simp (maxDischargeDepth := 16) [symB, List.length_set, andThen, hlen, h1, hobA]
    refine hK _ _ ?_; clear hK K
    refine CW.block ?_
    refine CW.hide fun R hR => ?_
    have out : ∀ (tm : List AV) (σ1 : Sto), R0 .ret tm σ1 → R .ret tm σ1 := fun tm σ1 h => hR _ _ _ h
    by_cases hk1 : k = 1
    · subst hk1
      simp only [if_true] at hvt
      refine CW.seqK fun K hK => CW.region ?_
      simp (maxDischargeDepth := 16) [symB, List.length_set, andThen, hlen]
      refine hK _ _ ?_; clear hK K
      refine CW.cond (t := true) (by simp (maxDischargeDepth := 16) [evx_tmp, slot_eq, slot_ne, hlen]) ?_
      refine CW.seqK fun K2 hK2 => CW.region ?_
      simp (maxDischargeDepth := 16) [symB, List.length_set, andThen, hlen, h1, hobA]
      refine (numText_ev b d t1 σA hdl (hri rfl)).mono ?_
      rintro r σ2 ⟨rfl, hx2⟩
      rw [← hvt]
      simp (maxDischargeDepth := 16) [symB, List.length_set, andThen, hlen, retK]
      refine hK2 _ _ ?_
      refine CW.ret (out _ _ (done _ _ (by simp [hlen]) (by simp (maxDischargeDepth := 16) [slot_eq, slot_ne, hlen]) (hxA.trans hx2)))
    · rw [if_neg hk1] at hvt
      have e1 : ¬ (k : Int) = 1 := by omega
      have b1 : ((k : Int) == 1) = false := by simpa using e1
      refine CW.seqK fun K hK => CW.region ?_
      simp (maxDischargeDepth := 16) [symB, List.length_set, andThen, hlen, e1, hk1, b1]
      refine hK _ _ ?_; clear hK K
      refine CW.cond (t := false) (by simp (maxDischargeDepth := 16) [evx_tmp, slot_eq, slot_ne, hlen]) ?_
      by_cases hk2 : k = 2
      · subst hk2
        simp only [if_true] at hvt
        refine CW.seqK fun K hK => CW.region ?_
        simp (maxDischargeDepth := 16) [symB, List.length_set, andThen, hlen]
        refine hK _ _ ?_; clear hK K
        refine CW.cond (t := true) (by simp (maxDischargeDepth := 16) [evx_tmp, slot_eq, slot_ne, hlen]) ?_
        refine CW.seqK fun K2 hK2 => CW.region ?_
        simp (maxDischargeDepth := 16) [symB, List.length_set, andThen, hlen, h1, hobA]
        refine (fmtBool_ev t σA).mono ?_
        rintro r σ2 ⟨rfl, rfl⟩
        rw [← hvt]
        simp (maxDischargeDepth := 16) [symB, List.length_set, andThen, hlen, retK]
        refine hK2 _ _ ?_
        refine CW.ret (out _ _ (done _ _ (by simp [hlen]) (by simp (maxDischargeDepth := 16) [slot_eq, slot_ne, hlen]) hxA))
      · rw [if_neg hk2] at hvt
        have e2 : ¬ (k : Int) = 2 := by omega
        have b2 : ((k : Int) == 2) = false := by simpa using e2
        refine CW.seqK fun K hK => CW.region ?_
        simp (maxDischargeDepth := 16) [symB, List.length_set, andThen, hlen, e2, hk2, b2]
        refine hK _ _ ?_; clear hK K
        refine CW.cond (t := false) (by simp (maxDischargeDepth := 16) [evx_tmp, slot_eq, slot_ne, hlen]) ?_
        by_cases hk3 : k = 3
        · subst hk3
          simp only [if_true] at hvt
          refine CW.seqK fun K hK => CW.region ?_
          simp (maxDischargeDepth := 16) [symB, List.length_set, andThen, hlen]
          refine hK _ _ ?_; clear hK K
          refine CW.cond (t := true) (by simp (maxDischargeDepth := 16) [evx_tmp, slot_eq, slot_ne, hlen]) ?_
          refine CW.seqK fun K2 hK2 => ?_
          by_cases hn : n = []
          · subst hn
            simp only [if_true] at hvt
            have hz0 : (⟨#[]⟩ : ByteArray).toList = [] := bs_list []
            refine CW.seqK fun K hK => CW.region ?_
            simp (maxDischargeDepth := 16) [symB, List.length_set, andThen, hlen, h1, hobA, bs_list, hz0]
            refine hK _ _ ?_; clear hK K
            refine CW.cond (t := true) (by simp (maxDischargeDepth := 16) [evx_tmp, slot_eq, slot_ne, hlen]) ?_
            refine CW.seqK fun K3 hK3 => CW.region ?_
            simp (maxDischargeDepth := 16) [symB, List.length_set, andThen, hlen]
            refine hK3 _ _ ?_
            refine CW.ret (out _ _ (done _ _ (by simp [hlen]) (by rw [hvt]; simp (maxDischargeDepth := 16) [slot_eq, slot_ne, hlen]; rfl) hxA))
          · rw [if_neg hn] at hvt
            have hz0 : (⟨#[]⟩ : ByteArray).toList = [] := bs_list []
            refine CW.seqK fun K hK => CW.region ?_
            simp (maxDischargeDepth := 16) [symB, List.length_set, andThen, hlen, h1, hobA, bs_list, hz0, hn]
            refine hK _ _ ?_; clear hK K
            refine CW.cond (t := false) (by simp (maxDischargeDepth := 16) [evx_tmp, slot_eq, slot_ne, hlen, hn]) ?_
            refine CW.skip ?_
            simp only [andThen]
            refine hK2 _ _ ?_; clear hK2 K2
            have hjl := joinW_len2 (n :: valTexts f)
            have hjl2 := joinW_len (n :: valTexts f)
            have hvl2 : (joinW (n :: valTexts f)).length + 2 ≤ 900000 := by rw [hvt] at hvl; simp at hvl; omega
            have hvtl : (n :: valTexts f).length = f.length + 1 := by simp [valTexts_map]
            rw [hvtl] at hjl hjl2
            have hfl : f.length ≤ 900000 := by omega
            refine CW.seqK fun K hK => CW.region ?_
            simp (maxDischargeDepth := 16) [symB, List.length_set, andThen, hlen, h1, hobA]
            refine hK _ _ ?_; clear hK K
            refine CW.seqK fun K2 hK2 => ?_
            refine CW.seqK fun K hK => CW.region ?_
            simp (maxDischargeDepth := 16) [symB, List.length_set, andThen, hlen, h1, hobA, hrowl]
            refine hK _ _ ?_; clear hK K
            refine CW.block ?_
            refine CW.hide fun R1 hR1 => ?_
            refine CW.loopI (fun r tm σ1 => ∃ (i : Nat) (tt : Tok), r = f.length - i ∧ i ≤ f.length ∧ tm.length = 43 ∧ slot tm 3 = .sl (strR (n :: valTexts (f.take i))) tt ∧ slot tm 27 = .sl rows t2 ∧ slot tm 28 = .lit (.int .i64 f.length) ∧ slot tm 29 = .lit (.int .i64 i) ∧ Ext σA σ1 ∧ (tt = .full ∨ TokAt σA σ1 (i + 1) 9 tt)) ?_ _ _ _
              ⟨0, .full, rfl, by omega, by simp [hlen], ?_, by simp (maxDischargeDepth := 16) [slot_eq, slot_ne, hlen], by simp (maxDischargeDepth := 16) [slot_ne, slot_eq, hlen], by simp (maxDischargeDepth := 16) [slot_eq, hlen], .refl _, .inl rfl⟩
            rotate_left
            · simp (maxDischargeDepth := 16) [slot_ne, slot_eq, hlen]; rfl
            clear h1 hlen tm
            rintro r tm σ1 ⟨i, tt, rfl, hi, hlen, h3, h27, h28, h29, hext, htok⟩
            refine CW.hide fun R2 hR2 => ?_
            refine CW.seqK fun K4 hK4 => CW.region ?_
            by_cases hlt : i < f.length
            · have hlt' : (i : Int) < f.length := by omega
              simp (maxDischargeDepth := 16) [symB, List.length_set, andThen, hlen, h28, h29, hlt', hlt]
              refine hK4 _ _ ?_
              refine CW.seqK fun K3 hK3 => ?_
              refine CW.cond (t := true) (by simp (maxDischargeDepth := 16) [evx_tmp, slot_eq, slot_ne, hlen, hlt']) ?_
              refine CW.skip ?_
              simp only [andThen]
              refine hK3 _ _ ?_
              obtain ⟨row, hg, hisr⟩ := areRows_get har hlt
              have hmem := List.getElem_mem hlt
              have htake : f.take (i + 1) = f.take i ++ [f[i]] := by rw [List.take_add_one, List.getElem?_eq_getElem hlt]; rfl
              generalize f[i] = x at *
              have hwk : IntKind.i64.wrap ((i : Int) + 1) = ((i + 1 : Nat) : Int) := wrap_succ (by omega)
              have hxl : (valText x).length ≤ 900000 := by
                have := sumL_mem (l := n :: valTexts f) (w := valText x) (by rw [valTexts_map]; exact List.mem_cons_of_mem _ (List.mem_map_of_mem hmem))
                omega
              have hc := fun σ => ih x row σ hisr (by have := List.sizeOf_lt_of_mem hmem; simp at hN; omega) (rightVs_mem hrf hmem) hxl
              have hesl : (strR (n :: valTexts (f.take i))).length = i + 1 := by rw [strR_len, valTexts_map]; simp; omega
              have hrows : strR (n :: valTexts (f.take i)) ++ [[AV.lit (.string (bs (valText x)))]] = strR (n :: valTexts (f.take (i + 1))) := by rw [htake, valTexts_map, valTexts_map]; simp [strR]
              generalize valText x = tx at *
              obtain ⟨xk, xb, xd, xt, xn, xf⟩ := x
              rw [isRow] at hisr
              obtain ⟨xa, xk', xr, rfl, _⟩ := hisr
              refine CW.seqK fun K5 hK5 => CW.block ?_
              refine CW.seqK fun K hK => CW.region ?_
              simp (maxDischargeDepth := 16) [symB, List.length_set, andThen, hlen, h27, h29, hg]
              refine hK _ _ ?_; clear hK K
              have hx2 : Ext σA (σ1 ++ [AObj.cells [.lit (.int .u8 xk), .lit (.bool xb), .sl (d32 xd) xa, .lit (.bool xt), .lit (.string (bs xn)), .sl xr xk'] 37]) := hext.push _
              have hxt : (σ1 ++ [AObj.cells [.lit (.int .u8 xk), .lit (.bool xb), .sl (d32 xd) xa, .lit (.bool xt), .lit (.string (bs xn)), .sl xr xk'] 37])[σ1.length]? = some (.cells [.lit (.int .u8 xk), .lit (.bool xb), .sl (d32 xd) xa, .lit (.bool xt), .lit (.string (bs xn)), .sl xr xk'] 37) := by simp
              have htok2 : tt = .full ∨ TokAt σA (σ1 ++ [AObj.cells [.lit (.int .u8 xk), .lit (.bool xb), .sl (d32 xd) xa, .lit (.bool xt), .lit (.string (bs xn)), .sl xr xk'] 37]) (i + 1) 9 tt := htok.imp id fun h => h.ext (Ext.push (Ext.refl σ1) _)
              generalize (σ1 ++ [AObj.cells [.lit (.int .u8 xk), .lit (.bool xb), .sl (d32 xd) xa, .lit (.bool xt), .lit (.string (bs xn)), .sl xr xk'] 37]) = σ2 at *
              refine CW.region ?_
              simp (maxDischargeDepth := 16) [symB, List.length_set, andThen, outOf, hlen, h3, hxt]
              refine (hc σ2).mono ?_
              rintro r σ3 ⟨rfl, hx3⟩
              have htok3 : tt = .full ∨ TokAt σA σ3 (i + 1) 9 tt := htok2.imp id fun h => h.ext hx3
              obtain ⟨t', σ5, acc, hext5, htok5, hap⟩ := append_atG (P := Tryz.prog) (M := []) (σ := σ3) (es := strR (n :: valTexts (f.take i))) (tok := tt) (tk := .full) (fs := [[.lit (.string (bs tx))]]) (t := 23) Tryz.underlying23 szOf_9 bytesOf_9 zeroOf_9 rfl
                (by rw [hesl]; simpa using htok3) (hx2.trans hx3) (strR_head _) rfl (by simp) (by rw [hesl]; simp; omega) (by rw [hesl]; simp; omega)
              simp (maxDischargeDepth := 16) [symB, List.length_set, retK, andThen, outOf, hlen, h3, hap]
              refine hK5 _ _ ?_
              refine CW.region ?_
              simp (maxDischargeDepth := 16) [symB, List.length_set, andThen, hlen, h29, hwk]
              rw [hesl] at htok5
              refine hR2 _ _ _ ⟨f.length - (i + 1), by omega, i + 1, t', rfl, hlt, by simp [hlen], ?_, by simp (maxDischargeDepth := 16) [slot_ne, h27], by simp (maxDischargeDepth := 16) [slot_ne, h28], by simp (maxDischargeDepth := 16) [slot_eq, hlen], hext5, .inr (by simpa using htok5)⟩
              rw [← hrows]
              simp (maxDischargeDepth := 16) [slot_eq, slot_ne, hlen]
            · have hlt' : ¬ (i : Int) < f.length := by omega
              have hil : i = f.length := by omega
              rw [hil, List.take_length] at h3
              simp (maxDischargeDepth := 16) [symB, List.length_set, andThen, hlen, h28, h29, hlt', hlt]
              refine hK4 _ _ ?_
              refine CW.seqK fun K3 hK3 => ?_
              refine CW.cond (t := false) (by simp (maxDischargeDepth := 16) [evx_tmp, slot_eq, slot_ne, hlen, hlt]) ?_
              refine CW.exit ?_
              simp only [andThen]
              refine hR2 _ _ _ (hR1 _ _ _ ?_)
              simp only [outOf, if_true, andThen]
              refine hK2 _ _ ?_
              refine CW.seqK fun K5 hK5 => CW.region ?_
              simp (maxDischargeDepth := 16) [symB, List.length_set, andThen, hlen, h3]
              refine (join_ev (n :: valTexts f) tt σ1 (by simp) (by rw [hvtl]; omega) (by omega)).mono ?_
              rintro r σ2 ⟨rfl, hx2⟩
              generalize hjw : joinW (n :: valTexts f) = jw at *
              have hz1 : (⟨#[40]⟩ : ByteArray).size + (bs jw).size ≤ 140737488355328 := by rw [bsz]; show 1 + _ ≤ _; omega
              have hz2 : (bs (40 :: jw)).size + (⟨#[41]⟩ : ByteArray).size ≤ 140737488355328 := by rw [bsz]; show _ + 1 ≤ _; simp; omega
              have happ1 : (⟨#[40]⟩ : ByteArray) ++ bs jw = bs (40 :: jw) := bs_app [40] jw
              have happ2 : bs (40 :: jw) ++ (⟨#[41]⟩ : ByteArray) = bs (40 :: jw ++ [41]) := bs_app (40 :: jw) [41]
              rw [← hvt] at happ2
              simp (maxDischargeDepth := 16) [symB, List.length_set, andThen, hlen, retK, hz1, happ1, hz2, happ2]
              refine hK5 _ _ ?_
              refine CW.ret (out _ _ (done _ _ (by simp [hlen]) (by simp (maxDischargeDepth := 16) [slot_eq, slot_ne, hlen]) ((hxA.trans hext).trans hx2)))
        · rw [if_neg hk3] at hvt
          have e3 : ¬ (k : Int) = 3 := by omega
          have b3 : ((k : Int) == 3) = false := by simpa using e3
          refine CW.seqK fun K hK => CW.region ?_
          simp (maxDischargeDepth := 16) [symB, List.length_set, andThen, hlen, e3, hk3, b3]
          refine hK _ _ ?_; clear hK K
          refine CW.cond (t := false) (by simp (maxDischargeDepth := 16) [evx_tmp, slot_eq, slot_ne, hlen]) ?_
          refine CW.skip ?_
          refine hR _ _ _ ?_
          simp only [outOf, andThen]
          refine hK _ _ ?_
          refine CW.seqK fun K hK => CW.region ?_
          simp (maxDischargeDepth := 16) [symB, List.length_set, andThen, hlen]
          refine hK _ _ ?_; clear hK K
          refine CW.ret (done _ _ (by simp [hlen]) (by rw [hvt]; simp (maxDischargeDepth := 16) [slot_eq, slot_ne, hlen]; rfl) hxA)

theorem vtext_ev (v : Vl) (t1 t2 : Tok) (σ : Sto) (hr : rightV v) (hl : (valText v).length ≤ 900000) :
    CallW Tryz.prog EV 13 [aggV v t1 t2] σ fun r σ' => r = .ret (.lit (.string (bs (valText v)))) ∧ Ext σ σ' := by
  obtain ⟨k, b, d, t, n, f⟩ := v
  exact vtextR_ev _ _ _ σ (by rw [isRow]; exact ⟨_, _, _, rfl, areRows_rows f⟩) (Nat.lt_succ_self _) hr hl

end Go.Proofs.YtcjjmejmpdhikaaGreatDoor
