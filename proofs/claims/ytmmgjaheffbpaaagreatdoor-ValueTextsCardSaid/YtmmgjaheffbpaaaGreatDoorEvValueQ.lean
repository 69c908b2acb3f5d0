/-
 EV: value: what a tree stands for.
-/
import Derived.Test.YtmmgjaheffbpaaaGreatDoorLent3Q
namespace Go.Proofs.YtmmgjaheffbpaaaGreatDoor
set_option maxRecDepth 100000
set_option maxHeartbeats 8000000
set_option linter.unusedSimpArgs false
set_option linter.unusedVariables false
set_option linter.unusedSectionVars false
section
open Go.RowKit
mutual
def valT (ds : List Data) : Tr → Vl × Bool
 | .mk w kids row _ =>
  if row = false then wordV w
  else match kids with
   | [] => (.mk 3 false [] false [] [], true)
   | k0 :: ks => if k0.row || !conB ds k0.word then (zeroV, false) else
       (match valTs ds ks with | some fs => (.mk 3 false [] false k0.word fs, true) | none => (zeroV, false))
def valTs (ds : List Data) : List Tr → Option (List Vl)
 | [] => some []
 | t :: l => match valT ds t with
  | (v, true) => (match valTs ds l with | some fs => some (v :: fs) | none => none)
  | (_, false) => none
end
mutual
def smallN : Tr → Prop
 | .mk w kids _ _ => w.length ≤ 1000000 ∧ kids.length ≤ 1000000 ∧ smallNs kids
def smallNs : List Tr → Prop
 | [] => True
 | t :: l => smallN t ∧ smallNs l
end
theorem smallNs_mem : ∀ {l : List Tr} {t : Tr}, smallNs l → t ∈ l → smallN t
 | a :: l, t, hs, h => by
  rcases List.mem_cons.1 h with rfl | h
  · exact hs.1
  · exact smallNs_mem hs.2 h
theorem valT_eq (ds : List Data) (w : List UInt8) (kids : List Tr) (row : Bool) (a : Int) : valT ds (.mk w kids row a) = (if row = false then wordV w else match kids with
    | [] => (.mk 3 false [] false [] [], true)
    | k0 :: ks => if k0.row || !conB ds k0.word then (zeroV, false) else
     (match valTs ds ks with | some fs => (.mk 3 false [] false k0.word fs, true) | none => (zeroV, false))) := by cases kids <;> simp only [valT]
def nodeC (t : Tr) (tk : Tok) (ds : List Data) (tok : Tok) : List AV := match t with | .mk w kids row a => [.lit (.string (bs w)), .sl (rowsOf kids) tk, .lit (.bool row), .lit (.int .i64 a), .sl (rowsD ds) tok]
def NodeR (ds : List Data) (t : Tr) (σ : Sto) (r : ARes) (σ' : Sto) : Prop := (∃ t1 t2, r = .ret (.tup [aggV (valT ds t).1 t1 t2, .lit (.bool (valT ds t).2)])) ∧ Ext σ σ'
def base (σ : Sto) (nodec c : List AV) : Sto := σ ++ [AObj.cells nodec 68, AObj.cells c 37]
theorem base_len (σ : Sto) (n c : List AV) : (base σ n c).length = σ.length + 2 := by simp [base]
theorem base_node (σ : Sto) (n c : List AV) : (base σ n c)[σ.length]? = some (.cells n 68) := by simp [base]
theorem base_val (σ : Sto) (n c : List AV) : (base σ n c)[σ.length + 1]? = some (.cells c 37) := by unfold base; rw [List.getElem?_append_right (by omega)]; simp
theorem base_set (σ : Sto) (n c c' : List AV) : (base σ n c).set (σ.length + 1) (.cells c' 37) = base σ n c' := by unfold base; rw [List.set_append_right _ _ (by omega)]; simp
theorem base_ext (σ : Sto) (n c : List AV) : Ext σ (base σ n c) := ⟨_, rfl⟩
theorem base_store {σ σ1 : Sto} {n c c' : List AV} (h : Ext (base σ n c) σ1) : Ext (base σ n c') (σ1.set (σ.length + 1) (.cells c' 37)) := by
 obtain ⟨g, rfl⟩ := h
 refine ⟨g, ?_⟩
 rw [List.set_append_left _ _ (by rw [base_len]; omega), base_set]
theorem TokAt.other {b b' σ : Sto} {m : Nat} {e : TypeId} {t : Tok} {v : Nat} {x : AObj} (h : TokAt b σ m e t) (hl : b'.length = b.length) (hv : v < b.length) : TokAt b' (σ.set v x) m e t := by
 rcases h with h | ⟨id, h1, h2, h3⟩
 · exact .inl h
 · exact .inr ⟨id, h1, by omega, by rw [List.getElem?_set_ne (by omega)]; exact h3⟩
def vcell (k : Nat) (name : List UInt8) (fs : List Vl) (tt : Tok) : List AV := [.lit (.int .u8 k), .lit (.bool false), .sl [] .full, .lit (.bool false), .lit (.string (bs name)), .sl (rowsV fs) tt]
theorem value_loop (ds : List Data) (tok tk : Tok) (w name : List UInt8) (kids : List Tr) (k0 : Tr) (ks : List Tr) (hkids : kids = k0 :: ks) (row : Bool) (a : Int) (hkl : kids.length ≤ 1000000)
    (ih : ∀ (t : Tr) (σ : Sto), t ∈ ks → CallW Tryz.prog EV 27 [.agg (nodeC t .no ds tok)] σ (NodeR ds t σ))
    (tm : List AV) (σ σ1 : Sto) (R0 : AExit → List AV → Sto → Prop) (hlen : tm.length = 76) (h1 : slot tm 1 = .ptr σ.length 0) (h2 : slot tm 2 = .ptr (σ.length + 1) 0)
    (hb : Ext (base σ (nodeC (.mk w kids row a) tk ds tok) (vcell 3 name [] .full)) σ1)
    (hR0 : ∀ (v : Vl) (ok : Bool) (t1 t2 : Tok) (tm : List AV) (σ1 : Sto), (v, ok) = (match valTs ds ks with | some fs => (Vl.mk 3 false [] false name fs, true) | none => (zeroV, false)) → tm.length = 76 → slot tm 2 = .ptr (σ.length + 1) 0 → slot tm 3 = .lit (.bool ok) → (∀ c, aggV v t1 t2 = .agg c → σ1[σ.length + 1]? = some (.cells c 37)) → Ext σ σ1 → R0 .ret tm σ1) :
    CW Tryz.prog EV [] (tailC 6 (Tryz.f27.body.getD .skip)) tm σ1 R0 := by
 have hnode := hb.get (base_node _ _ _)
 unfold nodeC at hnode
 have hrl : (rowsOf kids).length = ks.length + 1 := by rw [hkids, rowsOf_length]; simp
 have hdr : (rowsOf kids).drop 1 = rowsOf ks := by rw [hkids, rowsOf]; rfl
 have hle1 : (1 : Int) ≤ (ks.length : Int) + 1 := by omega
 have hrh := rowsOf_head kids
 have htk : (rowsOf kids).take (rowsOf kids).length = rowsOf kids := List.take_length
 have htk2 : (rowsOf kids).take (ks.length + 1) = rowsOf kids := by rw [← hrl]; exact htk
 have htn : ((ks.length : Int) + 1).toNat = ks.length + 1 := by omega
 have hkl2 : ks.length ≤ 1000000 := by rw [hkids] at hkl; simp at hkl; omega
 refine CW.seqK fun K hK => ?_
 refine CW.seqK fun K2 hK2 => CW.region ?_
 simp (maxDischargeDepth := 16) [symB, List.length_set, andThen, hlen, h1, hnode, hrl, hle1, hrh, htn, htk2, hdr, rowsOf_length]
 refine hK2 _ _ ?_; clear hK2 K2
 refine CW.block ?_
 refine CW.hide fun R hR => ?_
 refine CW.loopI (fun r tm σ1 => ∃ (i : Nat) (fs : List Vl) (tt : Tok), r = ks.length - i ∧ i ≤ ks.length ∧ fs.length = i ∧ (match valTs ds (ks.drop i) with | some gs => some (fs ++ gs) | none => none) = valTs ds ks ∧ tm.length = 76 ∧ slot tm 1 = .ptr σ.length 0 ∧ slot tm 2 = .ptr (σ.length + 1) 0 ∧ slot tm 51 = .sl (rowsOf ks) (sliceTok tk ((ks.length : Int) + 1) 1 (ks.length + 1)) ∧ slot tm 52 = .lit (.int .i64 ks.length) ∧ slot tm 53 = .lit (.int .i64 i) ∧ Ext (base σ (nodeC (.mk w kids row a) tk ds tok) (vcell 3 name fs tt)) σ1 ∧ TokAt (base σ (nodeC (.mk w kids row a) tk ds tok) (vcell 3 name fs tt)) σ1 (i * 6) 37 tt) ?_ _ _ _
  ⟨0, [], .full, rfl, by omega, rfl, by simp; cases valTs ds ks <;> rfl, by simp [hlen], by simp (maxDischargeDepth := 16) [slot_ne, h1], by simp (maxDischargeDepth := 16) [slot_ne, h2], by simp (maxDischargeDepth := 16) [slot_eq, slot_ne, hlen], by simp (maxDischargeDepth := 16) [slot_ne, slot_eq, hlen], by simp (maxDischargeDepth := 16) [slot_eq, hlen], hb, .inl ⟨rfl, rfl⟩⟩
 clear h1 h2 hlen hb hnode tm σ1
 rintro r tm σ1 ⟨i, fs, tt, rfl, hi, hfl, hval, hlen, h1, h2, h51, h52, h53, hext, htok⟩
 have hnode := hext.get (base_node _ _ _)
 have hvc := hext.get (base_val _ _ _)
 unfold nodeC at hnode
 unfold vcell at hvc
 refine CW.hide fun R2 hR2 => ?_
 refine CW.seqK fun K4 hK4 => CW.region ?_
 by_cases hlt : i < ks.length
 · have hlt' : (i : Int) < ks.length := by omega
   simp (maxDischargeDepth := 16) [symB, List.length_set, andThen, hlen, h52, h53, hlt', hlt]
   refine hK4 _ _ ?_
   refine CW.seqK fun K3 hK3 => ?_
   refine CW.cond (t := true) (by simp (maxDischargeDepth := 16) [zT, slot_eq, slot_ne, hlen]) ?_
   refine CW.skip ?_
   simp only [andThen]
   refine hK3 _ _ ?_
   have hg := rowsOf_get (List.getElem?_eq_getElem hlt)
   have hmem := List.getElem_mem hlt
   rw [List.drop_eq_getElem_cons hlt, valTs] at hval
   generalize ks[i] = x at *
   have hc := ih x
   obtain ⟨xw, xk, xr, xa⟩ := x
   simp only [Tr.word, Tr.kids, Tr.row, Tr.at_, bs_def] at hg
   unfold nodeC at hc
   have hwk : IntKind.i64.wrap ((i : Int) + 1) = ((i + 1 : Nat) : Int) := wrap_succ (by omega)
   refine CW.seqK fun K5 hK5 => CW.block ?_
   refine CW.seqK fun K hK => CW.region ?_
   simp (maxDischargeDepth := 16) [symB, List.length_set, andThen, hlen, h51, h53, hg]
   refine hK _ _ ?_; clear hK K
   have hx2 : Ext (base σ (nodeC (.mk w kids row a) tk ds tok) (vcell 3 name fs tt)) (σ1 ++ [AObj.cells [.lit (.string (bs xw)), .sl (rowsOf xk) .no, .lit (.bool xr), .lit (.int .i64 xa)] 66]) := hext.push _
   have hxt : (σ1 ++ [AObj.cells [.lit (.string (bs xw)), .sl (rowsOf xk) .no, .lit (.bool xr), .lit (.int .i64 xa)] 66])[σ1.length]? = some (.cells [.lit (.string (bs xw)), .sl (rowsOf xk) .no, .lit (.bool xr), .lit (.int .i64 xa)] 66) := by simp
   have htok2 := htok.ext (Ext.push (Ext.refl σ1) [AObj.cells [.lit (.string (bs xw)), .sl (rowsOf xk) .no, .lit (.bool xr), .lit (.int .i64 xa)] 66])
   generalize (σ1 ++ [AObj.cells [.lit (.string (bs xw)), .sl (rowsOf xk) .no, .lit (.bool xr), .lit (.int .i64 xa)] 66]) = σ2 at *
   have hnode2 := hx2.get (base_node _ _ _)
   unfold nodeC at hnode2
   refine CW.seqK fun K6 hK6 => CW.region ?_
   simp (maxDischargeDepth := 16) [symB, List.length_set, andThen, hlen, h1, hxt, hnode2]
   refine (hc σ2 hmem).mono ?_
   rintro r σ3 ⟨⟨u1, u2, rfl⟩, hx3⟩
   generalize hvx : valT ds (.mk xw xk xr xa) = vx at *
   obtain ⟨v, okx⟩ := vx
   dsimp only
   obtain ⟨vk, vb, vd, vt, vn, vf⟩ := v
   unfold aggV
   have hxx3 := hx2.trans hx3
   have htok3 := htok2.ext hx3
   simp (maxDischargeDepth := 16) [symB, List.length_set, retK, andThen, hlen]
   refine hK6 _ _ ?_; clear hK6 K6
   have hx4 : Ext (base σ (nodeC (.mk w kids row a) tk ds tok) (vcell 3 name fs tt)) (σ3 ++ [AObj.cells [.lit (.int .u8 vk), .lit (.bool vb), .sl (d32 vd) u1, .lit (.bool vt), .lit (.string (bs vn)), .sl (rowsV vf) u2] 37]) := hxx3.push _
   have hvv4 : (σ3 ++ [AObj.cells [.lit (.int .u8 vk), .lit (.bool vb), .sl (d32 vd) u1, .lit (.bool vt), .lit (.string (bs vn)), .sl (rowsV vf) u2] 37])[σ3.length]? = some (.cells [.lit (.int .u8 vk), .lit (.bool vb), .sl (d32 vd) u1, .lit (.bool vt), .lit (.string (bs vn)), .sl (rowsV vf) u2] 37) := by simp
   have htok4 := htok3.ext (Ext.push (Ext.refl σ3) [AObj.cells [.lit (.int .u8 vk), .lit (.bool vb), .sl (d32 vd) u1, .lit (.bool vt), .lit (.string (bs vn)), .sl (rowsV vf) u2] 37])
   generalize (σ3 ++ [AObj.cells [.lit (.int .u8 vk), .lit (.bool vb), .sl (d32 vd) u1, .lit (.bool vt), .lit (.string (bs vn)), .sl (rowsV vf) u2] 37]) = σ4 at *
   have hvc4 := hx4.get (base_val _ _ _)
   unfold vcell at hvc4
   have hl4 : σ.length + 1 < σ4.length := (List.getElem?_eq_some_iff.1 hvc4).1
   refine CW.reset (fun tm => tm.length = 76 ∧ slot tm 1 = .ptr σ.length 0 ∧ slot tm 2 = .ptr (σ.length + 1) 0 ∧ slot tm 6 = .ptr σ3.length 0 ∧ slot tm 7 = .lit (.bool okx) ∧ slot tm 51 = .sl (rowsOf ks) (sliceTok tk ((ks.length : Int) + 1) 1 (ks.length + 1)) ∧ slot tm 52 = .lit (.int .i64 ks.length) ∧ slot tm 53 = .lit (.int .i64 i)) ⟨by simp [hlen], by simp (maxDischargeDepth := 16) [slot_ne, h1], by simp (maxDischargeDepth := 16) [slot_ne, h2], by simp (maxDischargeDepth := 16) [slot_eq, slot_ne, hlen], by simp (maxDischargeDepth := 16) [slot_eq, slot_ne, hlen], by simp (maxDischargeDepth := 16) [slot_ne, h51], by simp (maxDischargeDepth := 16) [slot_ne, h52], by simp (maxDischargeDepth := 16) [slot_ne, h53]⟩ ?_
   clear h1 h2 h51 h52 h53 hlen hK4 K4 tm
   rintro tm ⟨hlen, h1, h2, h6, h7, h51, h52, h53⟩
   refine CW.seqK fun K6 hK6 => ?_
   refine CW.seqK fun K hK => CW.region ?_
   simp (maxDischargeDepth := 16) [symB, List.length_set, andThen, hlen, h7]
   refine hK _ _ ?_; clear hK K
   cases okx with
   | false =>
    refine CW.cond (t := true) (by simp (maxDischargeDepth := 16) [zT, slot_eq, slot_ne, hlen]) ?_
    refine CW.seqK fun K7 hK7 => CW.region ?_
    simp (maxDischargeDepth := 16) [symB, List.length_set, andThen, hlen, h2, hvc4]
    refine hK7 _ _ ?_
    refine CW.ret ?_
    simp only [andThen, outOf]
    refine hR2 _ _ _ (hR _ _ _ (hR0 zeroV false .full .full _ _ ?_ (by simp [hlen]) (by simp (maxDischargeDepth := 16) [slot_ne, h2]) (by simp (maxDischargeDepth := 16) [slot_eq, slot_ne, hlen]) ?_ (((base_ext _ _ _).trans hx4).set (by omega))))
    · rw [← hval]
    · intro c hcc
      unfold aggV zeroV at hcc
      cases hcc
      rw [List.getElem?_set_self hl4]
      rfl
   | true =>
    refine CW.cond (t := false) (by simp (maxDischargeDepth := 16) [zT, slot_eq, slot_ne, hlen]) ?_
    refine CW.skip ?_
    simp only [andThen]
    refine hK6 _ _ ?_
    dsimp only at hval
    obtain ⟨t', σ5, acc, hext5, htok5, hap⟩ := append_at (P := Tryz.prog) (M := []) (σ := σ4) (es := rowsV fs) (tok := tt) (tk := .full) (fs := [[.lit (.int .u8 vk), .lit (.bool vb), .sl (d32 vd) u1, .lit (.bool vt), .lit (.string (bs vn)), .sl (rowsV vf) u2]]) (t := 35) Tryz.underlying35 szOf_37 bytesOf_37 zeroOf_37 rfl
     (by rw [rowsV_len, hfl]; exact htok4) hx4 (rowsV_head _) rfl (by simp) (by rw [rowsV_len, hfl]; simp; omega) (by rw [rowsV_len, hfl]; simp; omega)
    have hvc5 := hext5.get (base_val _ _ _)
    unfold vcell at hvc5
    refine CW.region ?_
    simp (maxDischargeDepth := 16) [symB, List.length_set, andThen, outOf, hlen, h2, h6, hvc4, hvv4, hap, hvc5]
    refine hK5 _ _ ?_
    refine CW.region ?_
    simp (maxDischargeDepth := 16) [symB, List.length_set, andThen, hlen, h53, hwk]
    have hrows : rowsV fs ++ [[AV.lit (.int .u8 vk), .lit (.bool vb), .sl (d32 vd) .no, .lit (.bool vt), .lit (.string (bs vn)), .sl (rowsV vf) .no]] = rowsV (fs ++ [.mk vk vb vd vt vn vf]) := by rw [rowsV_append]; rfl
    have hst := base_store (c' := vcell 3 name (fs ++ [.mk vk vb vd vt vn vf]) t') hext5
    refine hR2 _ _ _ ⟨ks.length - (i + 1), by omega, i + 1, fs ++ [.mk vk vb vd vt vn vf], t', rfl, hlt, by simp [hfl], ?_, by simp [hlen], by simp (maxDischargeDepth := 16) [slot_ne, h1], by simp (maxDischargeDepth := 16) [slot_ne, h2], by simp (maxDischargeDepth := 16) [slot_ne, h51], by simp (maxDischargeDepth := 16) [slot_ne, h52], by simp (maxDischargeDepth := 16) [slot_eq, hlen], ?_, ?_⟩
    · rw [← hval]
      cases valTs ds (ks.drop (i + 1)) with
      | none => rfl
      | some gs => simp
    · rw [hrows]; exact hst
    · rw [rowsV_len, hfl] at htok5
      exact htok5.other (by rw [base_len, base_len]) (by rw [base_len]; omega)
 · have hlt' : ¬ (i : Int) < ks.length := by omega
   have hil : i = ks.length := by omega
   simp (maxDischargeDepth := 16) [symB, List.length_set, andThen, hlen, h52, h53, hlt', hlt]
   refine hK4 _ _ ?_
   refine CW.seqK fun K3 hK3 => ?_
   refine CW.cond (t := false) (by simp (maxDischargeDepth := 16) [zT, slot_eq, slot_ne, hlen, hlt]) ?_
   refine CW.exit ?_
   simp only [andThen]
   refine hR2 _ _ _ (hR _ _ _ ?_)
   simp only [outOf, if_true, andThen]
   refine hK _ _ ?_
   have hl1 := (List.getElem?_eq_some_iff.1 hvc).1
   refine CW.seqK fun K hK => CW.region ?_
   simp (maxDischargeDepth := 16) [symB, List.length_set, andThen, hlen, h2, hvc]
   refine hK _ _ ?_; clear hK K
   rw [hil, List.drop_length] at hval
   refine CW.ret (hR0 (.mk 3 false [] false name fs) true .full tt _ _ ?_ (by simp [hlen]) (by simp (maxDischargeDepth := 16) [slot_ne, h2]) (by simp (maxDischargeDepth := 16) [slot_eq, slot_ne, hlen]) ?_ (((base_ext _ _ _).trans hext).set (by omega)))
   · rw [← hval]; simp [valTs]
   · intro c hcc
     unfold aggV at hcc
     cases hcc
     rw [List.getElem?_set_self hl1]
     rfl
theorem value_ev (ds : List Data) (tok : Tok) (hds : smallD ds) (N : Nat) : ∀ (t : Tr) (tk : Tok) (σ : Sto), SizeOf.sizeOf t < N → smallN t → CallW Tryz.prog EV 27 [.agg (nodeC t tk ds tok)] σ (NodeR ds t σ) := by
 induction N with
 | zero => intro t tk σ h; omega
 | succ N ih =>
  intro t tk σ hN hsm
  obtain ⟨w, kids, row, a⟩ := t
  obtain ⟨hw, hkl, hsk⟩ := hsm
  unfold nodeC
  refine CallW.start (fn := Tryz.f27) (M := []) rfl rfl rfl rfl (by simp) fun tm hlen hss => ?_
  have h0 := hss 0 _ rfl
  clear hss
  simp at hlen
  refine CW.hide fun R0 hR0 => ?_
  have done : ∀ (v : Vl) (ok : Bool) (t1 t2 : Tok) (tm : List AV) (σ1 : Sto), (v, ok) = valT ds (.mk w kids row a) → tm.length = 76 → slot tm 2 = .ptr (σ.length + 1) 0 → slot tm 3 = .lit (.bool ok) → (∀ c, aggV v t1 t2 = .agg c → σ1[σ.length + 1]? = some (.cells c 37)) → Ext σ σ1 → R0 .ret tm σ1 := by
   intro v ok t1 t2 tm σ1 hv hlen h2 h3 hc hx
   refine hR0 _ _ _ ⟨.tup [aggV v t1 t2, .lit (.bool ok)], ?_, ⟨t1, t2, by rw [← hv]⟩, hx⟩
   obtain ⟨k, b, d, t, n, f⟩ := v
   have hc := hc _ rfl
   simp (maxDischargeDepth := 16) [zA, omap, zB, zC, h2, h3, hc, partA, aggT, aggV]
  clear hR0
  have hvT := valT_eq ds w kids row a
  generalize valT ds (.mk w kids row a) = res at *
  refine CW.seqK fun K hK => CW.region ?_
  simp (maxDischargeDepth := 16) [symB, List.length_set, andThen, hlen, h0]
  refine hK _ _ ?_; clear hK K
  have hbas : (σ ++ [AObj.cells [.lit (.string (bs w)), .sl (rowsOf kids) tk, .lit (.bool row), .lit (.int .i64 a), .sl (rowsD ds) tok] 68, AObj.cells [.lit (.int .u8 0), .lit (.bool false), .sl [] .full, .lit (.bool false), .lit (.string ⟨#[]⟩), .sl [] .full] 37]) = base σ (nodeC (.mk w kids row a) tk ds tok) (vcell 0 [] [] .full) := rfl
  rw [hbas]
  have hnode := base_node σ (nodeC (.mk w kids row a) tk ds tok) (vcell 0 [] [] .full)
  have hvc := base_val σ (nodeC (.mk w kids row a) tk ds tok) (vcell 0 [] [] .full)
  have hbl := base_len σ (nodeC (.mk w kids row a) tk ds tok) (vcell 0 [] [] .full)
  have hsetb := base_set σ (nodeC (.mk w kids row a) tk ds tok) (vcell 0 [] [] .full)
  have hexb := base_ext σ (nodeC (.mk w kids row a) tk ds tok) (vcell 0 [] [] .full)
  have hrefl : Ext (base σ (nodeC (.mk w kids row a) tk ds tok) (vcell 0 [] [] .full)) (base σ (nodeC (.mk w kids row a) tk ds tok) (vcell 0 [] [] .full)) := .refl _
  generalize hσA : base σ (nodeC (.mk w kids row a) tk ds tok) (vcell 0 [] [] .full) = σA at *
  unfold nodeC at hnode
  unfold vcell at hvc
  refine CW.reset (fun tm => tm.length = 76 ∧ slot tm 1 = .ptr σ.length 0 ∧ slot tm 2 = .ptr (σ.length + 1) 0) ⟨by simp [hlen], by simp (maxDischargeDepth := 16) [slot_eq, slot_ne, hlen], by simp (maxDischargeDepth := 16) [slot_eq, slot_ne, hlen]⟩ ?_
  clear h0 hlen tm
  rintro tm ⟨hlen, h1, h2⟩
  refine CW.seqK fun K hK => ?_
  refine CW.seqK fun K hK => CW.region ?_
  simp (maxDischargeDepth := 16) [symB, List.length_set, andThen, hlen, h1, hnode]
  refine hK _ _ ?_; clear hK K
  cases row with
  | false =>
   simp only [if_true] at hvT
   refine CW.cond (t := true) (by simp (maxDischargeDepth := 16) [zT, slot_eq, slot_ne, hlen]) ?_
   refine CW.seqK fun K2 hK2 => CW.region ?_
   simp (maxDischargeDepth := 16) [symB, List.length_set, andThen, hlen, h1, hnode]
   refine (word_ev ds tok tk w (rowsOf kids) false a σA hw).mono ?_
   rintro r σ2 ⟨⟨u1, u2, rfl⟩, hx2⟩
   rw [← hvT]
   obtain ⟨v, ok⟩ := res
   dsimp only
   have hvc2 := hx2.get hvc
   have hlt2 := (List.getElem?_eq_some_iff.1 hvc2).1
   obtain ⟨vk, vb, vd, vt, vn, vf⟩ := v
   unfold aggV
   simp (maxDischargeDepth := 16) [symB, List.length_set, andThen, hlen, retK, h2, hvc2]
   refine hK2 _ _ ?_
   refine CW.ret ?_
   simp only [andThen]
   refine done _ ok u1 u2 _ _ rfl (by simp [hlen]) (by simp (maxDischargeDepth := 16) [slot_ne, h2]) (by simp (maxDischargeDepth := 16) [slot_eq, slot_ne, hlen]) ?_ ((hexb.trans hx2).set (by omega))
   intro c hcc
   unfold aggV at hcc
   cases hcc
   exact List.getElem?_set_self hlt2
  | true =>
   simp only [Bool.true_eq_false, if_false] at hvT
   refine CW.cond (t := false) (by simp (maxDischargeDepth := 16) [zT, slot_eq, slot_ne, hlen]) ?_
   refine CW.skip ?_
   simp only [andThen]
   refine hK _ _ ?_; clear hK K
   have hvc3 : [AV.lit (.int .u8 3), .lit (.bool false), .sl [] .full, .lit (.bool false), .lit (.string ⟨#[]⟩), .sl [] .full] = vcell 3 [] [] .full := rfl
   have hltA : σ.length + 1 < σA.length := by omega
   refine CW.seqK fun K hK => CW.region ?_
   simp (maxDischargeDepth := 16) [symB, List.length_set, andThen, hlen, h2, hvc]
   refine hK _ _ ?_; clear hK K
   have hob3 : ∀ x : AObj, (σA.set (σ.length + 1) x)[σ.length]? = some (.cells [.lit (.string (bs w)), .sl (rowsOf kids) tk, .lit (.bool true), .lit (.int .i64 a), .sl (rowsD ds) tok] 68) := fun x => by rw [List.getElem?_set_ne (by omega)]; exact hnode
   have hov3 : ∀ x : AObj, (σA.set (σ.length + 1) x)[σ.length + 1]? = some x := fun x => List.getElem?_set_self hltA
   have hxB : Ext σ (base σ (nodeC (.mk w kids true a) tk ds tok) (vcell 3 [] [] .full)) := base_ext _ _ _
   have hbB : σA.set (σ.length + 1) (.cells [AV.lit (.int .u8 3), .lit (.bool false), .sl [] .full, .lit (.bool false), .lit (.string (bs [])), .sl (rowsV []) .full] 37) = base σ (nodeC (.mk w kids true a) tk ds tok) (vcell 3 [] [] .full) := hsetb (vcell 3 [] [] .full)
   have hnB := base_node σ (nodeC (.mk w kids true a) tk ds tok) (vcell 3 [] [] .full)
   have hvB := base_val σ (nodeC (.mk w kids true a) tk ds tok) (vcell 3 [] [] .full)
   have hlB := base_len σ (nodeC (.mk w kids true a) tk ds tok) (vcell 3 [] [] .full)
   have hreflB : Ext (base σ (nodeC (.mk w kids true a) tk ds tok) (vcell 3 [] [] .full)) (base σ (nodeC (.mk w kids true a) tk ds tok) (vcell 3 [] [] .full)) := .refl _
   rw [hbB]
   generalize hσB : base σ (nodeC (.mk w kids true a) tk ds tok) (vcell 3 [] [] .full) = σB at *
   unfold nodeC at hnB
   unfold vcell at hvB
   have hltB : σ.length + 1 < σB.length := by omega
   refine CW.seqK fun K hK => ?_
   cases kids with
   | nil =>
    dsimp only at hvT
    have hr0 : (rowsOf []).length = 0 := rfl
    refine CW.seqK fun K hK => CW.region ?_
    simp (maxDischargeDepth := 16) [symB, List.length_set, andThen, hlen, h1, hnB, hr0]
    refine hK _ _ ?_; clear hK K
    refine CW.cond (t := true) (by simp (maxDischargeDepth := 16) [zT, slot_eq, slot_ne, hlen]) ?_
    refine CW.seqK fun K2 hK2 => CW.region ?_
    simp (maxDischargeDepth := 16) [symB, List.length_set, andThen, hlen, h2, hvB]
    refine hK2 _ _ ?_
    refine CW.ret ?_
    simp only [andThen]
    refine done (.mk 3 false [] false [] []) true .full .full _ _ hvT.symm (by simp [hlen]) (by simp (maxDischargeDepth := 16) [slot_ne, h2]) (by simp (maxDischargeDepth := 16) [slot_eq, slot_ne, hlen]) ?_ (hxB.set (by omega))
    intro c hcc
    unfold aggV at hcc
    cases hcc
    rw [List.getElem?_set_self hltB]
    rfl
   | cons k0 ks =>
    dsimp only at hvT
    have hr0 : (rowsOf (k0 :: ks)).length = ks.length + 1 := by rw [rowsOf_length]; rfl
    have hr1 : ¬ (ks.length : Int) + 1 = 0 := by omega
    have hg0 := rowsOf_get (l := k0 :: ks) (i := 0) (t := k0) rfl
    simp only [bs_def] at hg0
    refine CW.seqK fun K hK => CW.region ?_
    simp (maxDischargeDepth := 16) [symB, List.length_set, andThen, hlen, h1, hnB, hr0, hr1]
    refine hK _ _ ?_; clear hK K
    refine CW.cond (t := false) (by simp (maxDischargeDepth := 16) [zT, slot_eq, slot_ne, hlen, hr1]) ?_
    refine CW.skip ?_
    simp only [andThen]
    refine hK _ _ ?_; clear hK K
    refine CW.reset (fun tm => tm.length = 76 ∧ slot tm 1 = .ptr σ.length 0 ∧ slot tm 2 = .ptr (σ.length + 1) 0) ⟨by simp [hlen], by simp (maxDischargeDepth := 16) [slot_ne, h1], by simp (maxDischargeDepth := 16) [slot_ne, h2]⟩ ?_
    clear h1 h2 hlen tm
    rintro tm ⟨hlen, h1, h2⟩
    refine CW.seqK fun K hK => ?_
    have bad : res = (zeroV, false) → ∀ (tm : List AV) (σ1 : Sto), tm.length = 76 → slot tm 2 = .ptr (σ.length + 1) 0 → slot tm 39 = .lit (.bool true) → Ext σB σ1 → CW Tryz.prog EV [] (sndC (.seq .skip (match tailC 4 (Tryz.f27.body.getD .skip) with | .seq (.seq _ c) _ => c | _ => .skip))) tm σ1 (andThen K R0) := by
     intro hr tm σ1 hlen h2 h39 hx
     have hvc1 := hx.get hvB
     have hlt1 := (List.getElem?_eq_some_iff.1 hvc1).1
     refine CW.cond (t := true) (by rw [zT, h39]) ?_
     refine CW.seqK fun K2 hK2 => CW.region ?_
     simp (maxDischargeDepth := 16) [symB, List.length_set, andThen, hlen, h2, hvc1]
     refine hK2 _ _ ?_
     refine CW.ret ?_
     simp only [andThen]
     refine done zeroV false .full .full _ _ hr.symm (by simp [hlen]) (by simp (maxDischargeDepth := 16) [slot_ne, h2]) (by simp (maxDischargeDepth := 16) [slot_eq, slot_ne, hlen]) ?_ ((hxB.trans hx).set (by omega))
     intro c hcc
     unfold aggV zeroV at hcc
     cases hcc
     rw [List.getElem?_set_self hlt1]
     rfl
    refine CW.seqK fun K2 hK2 => CW.draw (by kernel_rfl) ?_
    obtain ⟨kw, kk, kr, ka⟩ := k0
    simp only [Tr.word, Tr.kids, Tr.row, Tr.at_] at hg0 hvT
    cases kr with
    | true =>
     simp only [Bool.true_or, if_true] at hvT
     simp (maxDischargeDepth := 16) [symB, List.length_set, andThen, hlen, h1, hnB, hg0]
     refine ⟨by kernel_rfl, hK2 _ _ ?_⟩
     exact bad hvT _ _ (by simp [hlen]) (by simp (maxDischargeDepth := 16) [slot_ne, h2]) (by simp (maxDischargeDepth := 16) [slot_eq, slot_ne, hlen]) hreflB
    | false =>
     simp only [Bool.false_or] at hvT
     simp (maxDischargeDepth := 16) [symB, List.length_set, andThen, hlen, h1, hnB, hg0]
     refine (nodeCon_ev ds tok tk hds w (rowsOf (.mk kw kk false ka :: ks)) true a kw σB).mono ?_
     rintro r σ3 ⟨rfl, hx3⟩
     cases hcb : conB ds kw with
     | false =>
      rw [hcb] at hvT
      simp only [Bool.not_false, if_true] at hvT
      simp (maxDischargeDepth := 16) [symB, List.length_set, retK, andThen, hlen, accEV (f := 51) rfl, extB_of hx3]
      refine ⟨by kernel_rfl, hK2 _ _ ?_⟩
      exact bad hvT _ _ (by simp [hlen]) (by simp (maxDischargeDepth := 16) [slot_ne, h2]) (by simp (maxDischargeDepth := 16) [slot_eq, slot_ne, hlen]) hx3
     | true =>
      rw [hcb] at hvT
      simp only [Bool.not_true, Bool.false_eq_true, if_false] at hvT
      simp (maxDischargeDepth := 16) [symB, List.length_set, retK, andThen, hlen, accEV (f := 51) rfl, extB_of hx3]
      refine ⟨by kernel_rfl, hK2 _ _ ?_⟩
      refine CW.cond (t := false) (by simp (maxDischargeDepth := 16) [zT, slot_eq, slot_ne, hlen]) ?_
      refine CW.skip ?_
      simp only [andThen]
      refine hK _ _ ?_
      clear bad
      have hn3 := hx3.get hnB
      have hv3 := hx3.get hvB
      refine CW.seqK fun K hK => CW.region ?_
      simp (maxDischargeDepth := 16) [symB, List.length_set, andThen, hlen, h1, h2, hn3, hv3, hg0]
      refine hK _ _ ?_; clear hK K
      have hst : Ext (base σ (nodeC (.mk w (.mk kw kk false ka :: ks) true a) tk ds tok) (vcell 3 kw [] .full)) (σ3.set (σ.length + 1) (.cells (vcell 3 kw [] .full) 37)) := base_store (c := vcell 3 [] [] .full) (by rw [hσB]; exact hx3)
      refine value_loop ds tok tk w kw (.mk kw kk false ka :: ks) (.mk kw kk false ka) ks rfl true a hkl (fun t σ ht => ih t .no σ (by have := List.sizeOf_lt_of_mem ht; simp at hN; omega) (smallNs_mem hsk.2 ht)) _ σ _ R0 (by simp [hlen]) (by simp (maxDischargeDepth := 16) [slot_ne, h1]) (by simp (maxDischargeDepth := 16) [slot_ne, h2]) hst ?_
      intro v ok t1 t2 tm σ1 hv hlen h2 h3 hc hx
      exact done v ok t1 t2 tm σ1 (by rw [hv, hvT]) hlen h2 h3 hc hx
end
section
open Go.RowKit
theorem sameLimbs_ev (l : List Nat) (ta tb : Tok) (σ : Sto) (hl : l.length ≤ 1000000000) : CallW Tryz.prog EV 60 [.sl (d32 l) ta, .sl (d32 l) tb] σ fun r σ' => r = .ret (.lit (.bool true)) ∧ σ' = σ := by
 refine CallW.start (fn := Tryz.f60) (M := []) rfl rfl rfl rfl (by simp) fun tm hlen hs => ?_
 have h0 := hs 0 _ rfl
 have h1 := hs 1 _ rfl
 clear hs
 simp at hlen
 refine CW.hide fun R0 hR0 => ?_
 refine CW.seqK fun K hK => CW.region ?_
 simp (maxDischargeDepth := 16) [symB, List.length_set, andThen, hlen, h0]
 refine hK _ _ ?_; clear hK K
 refine CW.seqK fun K hK => ?_
 refine CW.seqK fun K hK => CW.region ?_
 simp (maxDischargeDepth := 16) [symB, List.length_set, andThen, hlen, h0, h1, d32_len]
 refine hK _ _ ?_; clear hK K
 refine CW.cond (t := false) (by simp (maxDischargeDepth := 16) [zT, slot_eq, slot_ne, hlen]) ?_
 refine CW.skip ?_
 simp only [andThen]
 refine hK _ _ ?_; clear hK K
 refine CW.seqK fun K hK => ?_
 refine CW.seqK fun K hK => CW.region ?_
 simp (maxDischargeDepth := 16) [symB, List.length_set, andThen, hlen]
 refine hK _ _ ?_; clear hK K
 refine CW.block ?_
 refine CW.hide fun R hR => ?_
 refine CW.loopI (fun r tm σ1 => ∃ i, r = l.length - i ∧ i ≤ l.length ∧ tm.length = 26 ∧ slot tm 0 = .sl (d32 l) ta ∧ slot tm 1 = .sl (d32 l) tb ∧ slot tm 5 = .lit (.int .i64 i) ∧ σ1 = σ) ?_ _ _ _
  ⟨0, rfl, by omega, by simp [hlen], by simp (maxDischargeDepth := 16) [slot_ne, h0], by simp (maxDischargeDepth := 16) [slot_ne, h1], by simp (maxDischargeDepth := 16) [slot_eq, hlen], rfl⟩
 clear h0 h1 hlen tm
 rintro r tm σ1 ⟨i, rfl, hi, hlen, h0, h1, h5, rfl⟩
 refine CW.hide fun R2 hR2 => ?_
 refine CW.seqK fun K3 hK3 => ?_
 refine CW.seqK fun K4 hK4 => CW.region ?_
 by_cases hlt : i < l.length
 · have hlt' : (i : Int) < l.length := by omega
   simp (maxDischargeDepth := 16) [symB, List.length_set, andThen, hlen, h0, h5, d32_len, hlt', hlt]
   refine hK4 _ _ ?_
   refine CW.cond (t := true) (by simp (maxDischargeDepth := 16) [zT, slot_eq, slot_ne, hlen]) ?_
   refine CW.skip ?_
   simp only [andThen]
   refine hK3 _ _ ?_
   have hg := d32_get hlt
   have hwk : IntKind.i64.wrap ((i : Int) + 1) = ((i + 1 : Nat) : Int) := wrap_succ (by omega)
   generalize l[i] = x at *
   refine CW.seqK fun K5 hK5 => CW.block ?_
   refine CW.seqK fun K6 hK6 => CW.draw (by kernel_rfl) ?_
   simp (maxDischargeDepth := 16) [symB, List.length_set, andThen, hlen, h0, h1, h5, hg]
   refine ⟨by kernel_rfl, hK6 _ _ ?_⟩
   refine CW.cond (t := false) (by simp (maxDischargeDepth := 16) [zT, slot_eq, slot_ne, hlen]) ?_
   refine CW.skip ?_
   simp only [andThen, outOf]
   refine hK5 _ _ ?_
   refine CW.region ?_
   simp (maxDischargeDepth := 16) [symB, List.length_set, andThen, hlen, h5, hwk]
   exact hR2 _ _ _ ⟨l.length - (i + 1), by omega, i + 1, rfl, hlt, by simp [hlen], by simp (maxDischargeDepth := 16) [slot_ne, h0], by simp (maxDischargeDepth := 16) [slot_ne, h1], by simp (maxDischargeDepth := 16) [slot_eq, hlen], rfl⟩
 · have hlt' : ¬ (i : Int) < l.length := by omega
   simp (maxDischargeDepth := 16) [symB, List.length_set, andThen, hlen, h0, h5, d32_len, hlt', hlt]
   refine hK4 _ _ ?_
   refine CW.cond (t := false) (by simp (maxDischargeDepth := 16) [zT, slot_eq, slot_ne, hlen, hlt]) ?_
   refine CW.exit ?_
   simp only [andThen]
   refine hR2 _ _ _ (hR _ _ _ ?_)
   simp only [outOf, if_true, andThen]
   refine hK _ _ ?_
   refine CW.seqK fun K hK => CW.region ?_
   simp (maxDischargeDepth := 16) [symB, List.length_set, andThen, hlen]
   refine hK _ _ ?_; clear hK K
   refine CW.ret (hR0 _ _ _ ⟨.lit (.bool true), ?_, rfl, rfl⟩)
   simp (maxDischargeDepth := 16) [zA, omap, zB, slot_eq, slot_ne, hlen]
theorem sameInt_ev (b : Bool) (l : List Nat) (ta tb : Tok) (σ : Sto) (hl : l.length ≤ 1000000000) : CallW Tryz.prog EV 32 [.agg [.lit (.bool b), .sl (d32 l) ta], .agg [.lit (.bool b), .sl (d32 l) tb]] σ fun r σ' => r = .ret (.lit (.bool true)) ∧ Ext σ σ' := by
 refine CallW.start (fn := Tryz.f32) (M := []) rfl rfl rfl rfl (by simp) fun tm hlen hs => ?_
 have h0 := hs 0 _ rfl
 have h1 := hs 1 _ rfl
 clear hs
 simp at hlen
 refine CW.hide fun R0 hR0 => ?_
 refine CW.seqK fun K hK => CW.region ?_
 simp (maxDischargeDepth := 16) [symB, List.length_set, andThen, hlen, h0, h1]
 refine hK _ _ ?_; clear hK K
 have ha : (σ ++ [AObj.cells [.lit (.bool b), .sl (d32 l) ta] 34, AObj.cells [.lit (.bool b), .sl (d32 l) tb] 34])[σ.length]? = some (.cells [.lit (.bool b), .sl (d32 l) ta] 34) := by simp
 have hb : (σ ++ [AObj.cells [.lit (.bool b), .sl (d32 l) ta] 34, AObj.cells [.lit (.bool b), .sl (d32 l) tb] 34])[σ.length + 1]? = some (.cells [.lit (.bool b), .sl (d32 l) tb] 34) := by rw [List.getElem?_append_right (by omega)]; simp
 have hx : Ext σ (σ ++ [AObj.cells [.lit (.bool b), .sl (d32 l) ta] 34, AObj.cells [.lit (.bool b), .sl (d32 l) tb] 34]) := ⟨_, rfl⟩
 generalize (σ ++ [AObj.cells [.lit (.bool b), .sl (d32 l) ta] 34, AObj.cells [.lit (.bool b), .sl (d32 l) tb] 34]) = σA at *
 refine CW.seqK fun K hK => CW.region ?_
 simp (maxDischargeDepth := 16) [symB, List.length_set, andThen, hlen, ha, hb]
 refine (sameLimbs_ev l ta tb _ hl).mono ?_
 rintro r σ2 ⟨rfl, rfl⟩
 simp (maxDischargeDepth := 16) [symB, List.length_set, andThen, hlen, retK]
 refine hK _ _ ?_
 refine CW.ret (hR0 _ _ _ ⟨.lit (.bool true), ?_, rfl, hx⟩)
 simp (maxDischargeDepth := 16) [zA, omap, zB, slot_eq, slot_ne, hlen]
theorem same_ev (N : Nat) : (∀ (v : Vl) (ta tb ta2 tb2 : Tok) (σ : Sto), SizeOf.sizeOf v < N → smallV v → CallW Tryz.prog EV 14 [aggV v ta ta2, aggV v tb tb2] σ fun r σ' => r = .ret (.lit (.bool true)) ∧ Ext σ σ') ∧
    (∀ (f : List Vl) (ta tb : Tok) (σ : Sto), SizeOf.sizeOf f < N → f.length ≤ 1000000 → smallVs f → CallW Tryz.prog EV 33 [.sl (rowsV f) ta, .sl (rowsV f) tb] σ fun r σ' => r = .ret (.lit (.bool true)) ∧ Ext σ σ') := by
 induction N with
 | zero => exact ⟨fun v _ _ _ _ _ h => by omega, fun f _ _ _ h => by omega⟩
 | succ N ih =>
  constructor
  · intro v ta tb ta2 tb2 σ hN hsv
    obtain ⟨k, b, d, t, n, f⟩ := v
    obtain ⟨hd, hfl, hsf⟩ := hsv
    unfold aggV
    refine CallW.start (fn := Tryz.f14) (M := []) rfl rfl rfl rfl (by simp) fun tm hlen hs => ?_
    have h0 := hs 0 _ rfl
    have h1 := hs 1 _ rfl
    clear hs
    simp at hlen
    refine CW.hide fun R0 hR0 => ?_
    refine CW.seqK fun K hK => CW.region ?_
    simp (maxDischargeDepth := 16) [symB, List.length_set, andThen, hlen, h0, h1]
    refine hK _ _ ?_; clear hK K
    have ha : (σ ++ [AObj.cells [.lit (.int .u8 k), .lit (.bool b), .sl (d32 d) ta, .lit (.bool t), .lit (.string (bs n)), .sl (rowsV f) ta2] 37, AObj.cells [.lit (.int .u8 k), .lit (.bool b), .sl (d32 d) tb, .lit (.bool t), .lit (.string (bs n)), .sl (rowsV f) tb2] 37])[σ.length]? = some (.cells [.lit (.int .u8 k), .lit (.bool b), .sl (d32 d) ta, .lit (.bool t), .lit (.string (bs n)), .sl (rowsV f) ta2] 37) := by simp
    have hb : (σ ++ [AObj.cells [.lit (.int .u8 k), .lit (.bool b), .sl (d32 d) ta, .lit (.bool t), .lit (.string (bs n)), .sl (rowsV f) ta2] 37, AObj.cells [.lit (.int .u8 k), .lit (.bool b), .sl (d32 d) tb, .lit (.bool t), .lit (.string (bs n)), .sl (rowsV f) tb2] 37])[σ.length + 1]? = some (.cells [.lit (.int .u8 k), .lit (.bool b), .sl (d32 d) tb, .lit (.bool t), .lit (.string (bs n)), .sl (rowsV f) tb2] 37) := by rw [List.getElem?_append_right (by omega)]; simp
    have hx : Ext σ (σ ++ [AObj.cells [.lit (.int .u8 k), .lit (.bool b), .sl (d32 d) ta, .lit (.bool t), .lit (.string (bs n)), .sl (rowsV f) ta2] 37, AObj.cells [.lit (.int .u8 k), .lit (.bool b), .sl (d32 d) tb, .lit (.bool t), .lit (.string (bs n)), .sl (rowsV f) tb2] 37]) := ⟨_, rfl⟩
    generalize (σ ++ [AObj.cells [.lit (.int .u8 k), .lit (.bool b), .sl (d32 d) ta, .lit (.bool t), .lit (.string (bs n)), .sl (rowsV f) ta2] 37, AObj.cells [.lit (.int .u8 k), .lit (.bool b), .sl (d32 d) tb, .lit (.bool t), .lit (.string (bs n)), .sl (rowsV f) tb2] 37]) = σA at *
    refine CW.seqK fun K hK => CW.region ?_
    simp (maxDischargeDepth := 16) [symB, List.length_set, andThen, hlen, ha, hb]
    refine (sameInt_ev b d ta tb _ (by omega)).mono ?_
    rintro r σ2 ⟨rfl, hx2⟩
    have ha2 := hx2.get ha
    have hb2 := hx2.get hb
    simp (maxDischargeDepth := 16) [symB, List.length_set, andThen, hlen, retK, ha2, hb2, bs_list]
    refine (ih.2 f ta2 tb2 σ2 (by simp at hN; omega) hfl hsf).mono ?_
    rintro r σ3 ⟨rfl, hx3⟩
    simp (maxDischargeDepth := 16) [symB, List.length_set, andThen, hlen, retK]
    refine hK _ _ ?_
    refine CW.ret (hR0 _ _ _ ⟨.lit (.bool true), ?_, rfl, (hx.trans hx2).trans hx3⟩)
    simp (maxDischargeDepth := 16) [zA, omap, zB, slot_eq, slot_ne, hlen]
  · intro f ta tb σ hN hfl hsf
    refine CallW.start (fn := Tryz.f33) (M := []) rfl rfl rfl rfl (by simp) fun tm hlen hs => ?_
    have h0 := hs 0 _ rfl
    have h1 := hs 1 _ rfl
    clear hs
    simp at hlen
    refine CW.hide fun R0 hR0 => ?_
    refine CW.seqK fun K hK => CW.region ?_
    simp (maxDischargeDepth := 16) [symB, List.length_set, andThen, hlen, h0]
    refine hK _ _ ?_; clear hK K
    refine CW.seqK fun K hK => ?_
    refine CW.seqK fun K hK => CW.region ?_
    simp (maxDischargeDepth := 16) [symB, List.length_set, andThen, hlen, h0, h1, rowsV_len]
    refine hK _ _ ?_; clear hK K
    refine CW.cond (t := false) (by simp (maxDischargeDepth := 16) [zT, slot_eq, slot_ne, hlen]) ?_
    refine CW.skip ?_
    simp only [andThen]
    refine hK _ _ ?_; clear hK K
    refine CW.seqK fun K hK => ?_
    refine CW.seqK fun K hK => CW.region ?_
    simp (maxDischargeDepth := 16) [symB, List.length_set, andThen, hlen]
    refine hK _ _ ?_; clear hK K
    refine CW.block ?_
    refine CW.hide fun R hR => ?_
    refine CW.loopI (fun r tm σ1 => ∃ i, r = f.length - i ∧ i ≤ f.length ∧ tm.length = 27 ∧ slot tm 0 = .sl (rowsV f) ta ∧ slot tm 1 = .sl (rowsV f) tb ∧ slot tm 5 = .lit (.int .i64 i) ∧ Ext σ σ1) ?_ _ _ _
     ⟨0, rfl, by omega, by simp [hlen], by simp (maxDischargeDepth := 16) [slot_ne, h0], by simp (maxDischargeDepth := 16) [slot_ne, h1], by simp (maxDischargeDepth := 16) [slot_eq, hlen], .refl _⟩
    clear h0 h1 hlen tm
    rintro r tm σ1 ⟨i, rfl, hi, hlen, h0, h1, h5, hext⟩
    refine CW.hide fun R2 hR2 => ?_
    refine CW.seqK fun K3 hK3 => ?_
    refine CW.seqK fun K4 hK4 => CW.region ?_
    by_cases hlt : i < f.length
    · have hlt' : (i : Int) < f.length := by omega
      simp (maxDischargeDepth := 16) [symB, List.length_set, andThen, hlen, h0, h5, rowsV_len, hlt', hlt]
      refine hK4 _ _ ?_
      refine CW.cond (t := true) (by simp (maxDischargeDepth := 16) [zT, slot_eq, slot_ne, hlen]) ?_
      refine CW.skip ?_
      simp only [andThen]
      refine hK3 _ _ ?_
      have hg := rowsV_get hlt
      have hmem := List.getElem_mem hlt
      have hwk : IntKind.i64.wrap ((i : Int) + 1) = ((i + 1 : Nat) : Int) := wrap_succ (by omega)
      generalize f[i] = x at *
      have hc := ih.1 x .no .no .no .no σ1 (by have := List.sizeOf_lt_of_mem hmem; omega) (smallVs_mem hsf hmem)
      obtain ⟨xk, xb, xd, xt, xn, xf⟩ := x
      rw [rowV] at hg
      unfold aggV at hc
      refine CW.seqK fun K5 hK5 => CW.block ?_
      refine CW.seqK fun K6 hK6 => CW.draw (by kernel_rfl) ?_
      simp (maxDischargeDepth := 16) [symB, List.length_set, andThen, hlen, h0, h1, h5, hg]
      refine hc.mono ?_
      rintro r σ2 ⟨rfl, hx2⟩
      simp (maxDischargeDepth := 16) [symB, List.length_set, retK, andThen, hlen, accEV (f := 14) rfl, extB_of hx2]
      refine ⟨by kernel_rfl, hK6 _ _ ?_⟩
      refine CW.cond (t := false) (by simp (maxDischargeDepth := 16) [zT, slot_eq, slot_ne, hlen]) ?_
      refine CW.skip ?_
      simp only [andThen, outOf]
      refine hK5 _ _ ?_
      refine CW.region ?_
      simp (maxDischargeDepth := 16) [symB, List.length_set, andThen, hlen, h5, hwk]
      exact hR2 _ _ _ ⟨f.length - (i + 1), by omega, i + 1, rfl, hlt, by simp [hlen], by simp (maxDischargeDepth := 16) [slot_ne, h0], by simp (maxDischargeDepth := 16) [slot_ne, h1], by simp (maxDischargeDepth := 16) [slot_eq, hlen], hext.trans hx2⟩
    · have hlt' : ¬ (i : Int) < f.length := by omega
      simp (maxDischargeDepth := 16) [symB, List.length_set, andThen, hlen, h0, h5, rowsV_len, hlt', hlt]
      refine hK4 _ _ ?_
      refine CW.cond (t := false) (by simp (maxDischargeDepth := 16) [zT, slot_eq, slot_ne, hlen, hlt]) ?_
      refine CW.exit ?_
      simp only [andThen]
      refine hR2 _ _ _ (hR _ _ _ ?_)
      simp only [outOf, if_true, andThen]
      refine hK _ _ ?_
      refine CW.seqK fun K hK => CW.region ?_
      simp (maxDischargeDepth := 16) [symB, List.length_set, andThen, hlen]
      refine hK _ _ ?_; clear hK K
      refine CW.ret (hR0 _ _ _ ⟨.lit (.bool true), ?_, rfl, hext⟩)
      simp (maxDischargeDepth := 16) [zA, omap, zB, slot_eq, slot_ne, hlen]
end
end Go.Proofs.YtmmgjaheffbpaaaGreatDoor
