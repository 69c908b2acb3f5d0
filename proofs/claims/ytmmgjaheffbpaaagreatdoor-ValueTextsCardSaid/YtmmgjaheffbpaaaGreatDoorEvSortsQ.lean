/-
 EV: model: con, data, fields of sorts.
-/
import Derived.Test.YtmmgjaheffbpaaaGreatDoorEvIdxQ
namespace Go.Proofs.YtmmgjaheffbpaaaGreatDoor
set_option maxRecDepth 100000
set_option maxHeartbeats 8000000
set_option linter.unusedSimpArgs false
set_option linter.unusedVariables false
set_option linter.unusedSectionVars false
section
open Go.RowKit
def smallD (ds : List Data) : Prop := ds.length ≤ 1000000 ∧ ∀ d ∈ ds, d.2.length ≤ 1000000 ∧ ∀ c ∈ d.2, c.2.length ≤ 1000000
def conM (name : List UInt8) : List Data → Option (Nat × Nat)
 | [] => none
 | d :: l => match fidx (named name) (rowsC d.2) with | some j => some (0, j) | none => (conM name l).map fun q => (q.1 + 1, q.2)
def conAV (name : List UInt8) (ds : List Data) : AV := match conM name ds with
 | some (a, b) => .tup [.agg [.lit (.int .i64 a), .lit (.int .i64 b)], .lit (.bool true)]
 | none => .tup [.agg [.lit (.int .i64 0), .lit (.int .i64 0)], .lit (.bool false)]
theorem con_ev (ds : List Data) (tok : Tok) (name : List UInt8) (σ : Sto) (hs : smallD ds) : CallW Tryz.prog EV 85 [.sl (rowsD ds) tok, .lit (.string (bs name))] σ fun r σ' => r = .ret (conAV name ds) ∧ Ext σ σ' := by
 refine CallW.start (fn := Tryz.f85) (M := []) rfl rfl rfl rfl (by simp) fun tm hlen hss => ?_
 have h0 := hss 0 _ rfl
 have h1 := hss 1 _ rfl
 clear hss
 simp at hlen
 refine CW.hide fun R0 hR0 => ?_
 refine CW.seqK fun K hK => CW.region ?_
 simp (maxDischargeDepth := 16) [symB, List.length_set, andThen, hlen, h0, h1]
 refine hK _ _ ?_; clear hK K
 have hn0 : (σ ++ [AObj.cells [.lit (.string (bs name))] 9, AObj.cells [.lit (.int .i64 0), .lit (.int .i64 0)] 143])[σ.length]? = some (.cells [.lit (.string (bs name))] 9) := by simp
 have hp0 : (σ ++ [AObj.cells [.lit (.string (bs name))] 9, AObj.cells [.lit (.int .i64 0), .lit (.int .i64 0)] 143])[σ.length + 1]? = some (.cells [.lit (.int .i64 0), .lit (.int .i64 0)] 143) := by rw [List.getElem?_append_right (by omega)]; simp
 have he0 : Ext σ (σ ++ [AObj.cells [.lit (.string (bs name))] 9, AObj.cells [.lit (.int .i64 0), .lit (.int .i64 0)] 143]) := ⟨_, rfl⟩
 generalize hσA : (σ ++ [AObj.cells [.lit (.string (bs name))] 9, AObj.cells [.lit (.int .i64 0), .lit (.int .i64 0)] 143]) = σA at *
 refine CW.seqK fun K hK => ?_
 refine CW.seqK fun K2 hK2 => CW.region ?_
 simp (maxDischargeDepth := 16) [symB, List.length_set, andThen, hlen, h0, rowsD_len]
 refine hK2 _ _ ?_; clear hK2 K2
 refine CW.block ?_
 refine CW.hide fun R hR => ?_
 refine CW.loopI (fun r tm σ1 => ∃ i, r = ds.length - i ∧ i ≤ ds.length ∧ (conM name (ds.drop i)).map (fun q => (q.1 + i, q.2)) = conM name ds ∧ tm.length = 27 ∧ slot tm 3 = .ptr σ.length 0 ∧ slot tm 4 = .ptr (σ.length + 1) 0 ∧ slot tm 9 = .sl (rowsD ds) tok ∧ slot tm 10 = .lit (.int .i64 ds.length) ∧ slot tm 11 = .lit (.int .i64 i) ∧ Ext σA σ1) ?_ _ _ _
  ⟨0, rfl, by omega, by simp, by simp [hlen], by simp (maxDischargeDepth := 16) [slot_eq, slot_ne, hlen], by simp (maxDischargeDepth := 16) [slot_eq, slot_ne, hlen], by simp (maxDischargeDepth := 16) [slot_ne, slot_eq, hlen, h0], by simp (maxDischargeDepth := 16) [slot_ne, slot_eq, hlen], by simp (maxDischargeDepth := 16) [slot_eq, hlen], .refl _⟩
 clear h0 h1 hlen tm
 rintro r tm σ1 ⟨i, rfl, hi, hcm, hlen, h3, h4, h9, h10, h11, hext⟩
 have hn1 := hext.get hn0
 have hp1 := hext.get hp0
 refine CW.hide fun R2 hR2 => ?_
 refine CW.seqK fun K4 hK4 => CW.region ?_
 by_cases hlt : i < ds.length
 · have hlt' : (i : Int) < ds.length := by omega
   simp (maxDischargeDepth := 16) [symB, List.length_set, andThen, hlen, h10, h11, hlt', hlt]
   refine hK4 _ _ ?_
   refine CW.seqK fun K3 hK3 => ?_
   refine CW.cond (t := true) (by simp (maxDischargeDepth := 16) [zT, slot_eq, slot_ne, hlen]) ?_
   refine CW.skip ?_
   simp only [andThen]
   refine hK3 _ _ ?_
   have hg := rowsD_get hlt
   have hmem := List.getElem_mem hlt
   rw [List.drop_eq_getElem_cons hlt, conM] at hcm
   generalize ds[i] = d at *
   have hdl := (hs.2 d hmem).1
   have hwk : IntKind.i64.wrap ((i : Int) + 1) = ((i + 1 : Nat) : Int) := wrap_succ (by have := hs.1; omega)
   refine CW.seqK fun K5 hK5 => CW.block ?_
   refine CW.seqK fun K hK => CW.region ?_
   simp (maxDischargeDepth := 16) [symB, List.length_set, andThen, hlen, h9, h11, hg]
   refine hK _ _ ?_; clear hK K
   have hn2 : (σ1 ++ [AObj.cells [.lit (.string (bs d.1)), .sl (rowsC d.2) .no] 28])[σ.length]? = some (.cells [.lit (.string (bs name))] 9) := by rw [List.getElem?_append_left (List.getElem?_eq_some_iff.1 hn1).1]; exact hn1
   have hp2 : (σ1 ++ [AObj.cells [.lit (.string (bs d.1)), .sl (rowsC d.2) .no] 28])[σ.length + 1]? = some (.cells [.lit (.int .i64 0), .lit (.int .i64 0)] 143) := by rw [List.getElem?_append_left (List.getElem?_eq_some_iff.1 hp1).1]; exact hp1
   have hx2 : Ext σA (σ1 ++ [AObj.cells [.lit (.string (bs d.1)), .sl (rowsC d.2) .no] 28]) := hext.push _
   have hd2 : (σ1 ++ [AObj.cells [.lit (.string (bs d.1)), .sl (rowsC d.2) .no] 28])[σ1.length]? = some (.cells [.lit (.string (bs d.1)), .sl (rowsC d.2) .no] 28) := by simp
   generalize (σ1 ++ [AObj.cells [.lit (.string (bs d.1)), .sl (rowsC d.2) .no] 28]) = σ2 at *
   refine CW.seqK fun K6 hK6 => CW.region ?_
   simp (maxDischargeDepth := 16) [symB, List.length_set, andThen, hlen, h3, hd2]
   refine (idxCon_ev (rowsC d.2) .no 107 [.ptr σ.length 0] (named name) σ2 (by rw [rowsC_len]; omega) (rowsC_two _) ?_).mono ?_
   · intro σ3 row hrow hx3
     obtain ⟨c, hc, rfl⟩ := List.mem_map.1 hrow
     rw [named_C]
     exact con1_ev c.1 _ rfl name σ.length σ3 (hx3.get hn2)
   rintro r σ3 ⟨rfl, hext3⟩
   have hp3 := hext3.get hp2
   have hx3 := hx2.trans hext3
   have hlt3 := (List.getElem?_eq_some_iff.1 hp3).1
   unfold idxI
   cases hfi : fidx (named name) (rowsC d.2) with
   | some j =>
    rw [hfi] at hcm
    dsimp only at hcm
    simp (maxDischargeDepth := 16) [symB, List.length_set, andThen, hlen, retK]
    refine hK6 _ _ ?_; clear hK6 K6
    refine CW.seqK fun K6 hK6 => CW.region ?_
    simp (maxDischargeDepth := 16) [symB, List.length_set, andThen, hlen]
    refine hK6 _ _ ?_; clear hK6 K6
    refine CW.cond (t := true) (by simp (maxDischargeDepth := 16) [zT, slot_eq, slot_ne, hlen]) ?_
    refine CW.seqK fun K6 hK6 => CW.region ?_
    simp (maxDischargeDepth := 16) [symB, List.length_set, andThen, hlen, h4, hp3]
    refine hK6 _ _ ?_; clear hK6 K6
    refine CW.ret ?_
    simp only [andThen, outOf]
    have hq : conM name ds = some (i, j) := by rw [← hcm]; simp
    refine hR2 _ _ _ (hR _ _ _ (hR0 _ _ _ ⟨conAV name ds, ?_, rfl, (he0.trans hx3).set (by omega)⟩))
    unfold conAV
    rw [hq]
    simp (maxDischargeDepth := 16) [zA, omap, zB, zC, slot_eq, slot_ne, hlen, h4, hlt3, partA, aggT]
   | none =>
    rw [hfi] at hcm
    dsimp only at hcm
    simp (maxDischargeDepth := 16) [symB, List.length_set, andThen, hlen, retK]
    refine hK6 _ _ ?_; clear hK6 K6
    refine CW.seqK fun K6 hK6 => CW.region ?_
    simp (maxDischargeDepth := 16) [symB, List.length_set, andThen, hlen]
    refine hK6 _ _ ?_; clear hK6 K6
    refine CW.cond (t := false) (by simp (maxDischargeDepth := 16) [zT, slot_eq, slot_ne, hlen]) ?_
    refine CW.skip ?_
    simp only [andThen, outOf]
    refine hK5 _ _ ?_
    refine CW.region ?_
    simp (maxDischargeDepth := 16) [symB, List.length_set, andThen, hlen, h11, hwk]
    refine hR2 _ _ _ ⟨ds.length - (i + 1), by omega, i + 1, rfl, hlt, ?_, by simp [hlen], by simp (maxDischargeDepth := 16) [slot_ne, h3], by simp (maxDischargeDepth := 16) [slot_ne, h4], by simp (maxDischargeDepth := 16) [slot_ne, h9], by simp (maxDischargeDepth := 16) [slot_ne, h10], by simp (maxDischargeDepth := 16) [slot_eq, hlen], hx3⟩
    rw [← hcm]
    cases conM name (ds.drop (i + 1)) with
    | none => rfl
    | some q => simp; omega
 · have hlt' : ¬ (i : Int) < ds.length := by omega
   have hil : i = ds.length := by omega
   subst hil
   simp (maxDischargeDepth := 16) [symB, List.length_set, andThen, hlen, h10, h11]
   refine hK4 _ _ ?_
   refine CW.seqK fun K3 hK3 => ?_
   refine CW.cond (t := false) (by simp (maxDischargeDepth := 16) [zT, slot_eq, slot_ne, hlen]) ?_
   refine CW.exit ?_
   simp only [andThen]
   refine hR2 _ _ _ (hR _ _ _ ?_)
   simp only [outOf, if_true, andThen]
   refine hK _ _ ?_
   have hlt1 := (List.getElem?_eq_some_iff.1 hp1).1
   refine CW.seqK fun K hK => CW.region ?_
   simp (maxDischargeDepth := 16) [symB, List.length_set, andThen, hlen, h4, hp1]
   refine hK _ _ ?_; clear hK K
   have hq : conM name ds = none := by rw [← hcm, List.drop_length]; rfl
   refine CW.ret (hR0 _ _ _ ⟨conAV name ds, ?_, rfl, (he0.trans hext).set (by omega)⟩)
   unfold conAV
   rw [hq]
   simp (maxDischargeDepth := 16) [zA, omap, zB, zC, slot_eq, slot_ne, hlen, h4, hlt1, partA, aggT]
def bInt : List UInt8 := [105, 110, 116]
def bBool : List UInt8 := [98, 111, 111, 108]
def dataM (sort : List UInt8) (ds : List Data) : Bool := sort != bInt && (sort != bBool && (rowsD ds).any (named sort))
theorem data_ev (ds : List Data) (tok : Tok) (sort : List UInt8) (σ : Sto) (hs : smallD ds) : CallW Tryz.prog EV 86 [.sl (rowsD ds) tok, .lit (.string (bs sort))] σ fun r σ' => r = .ret (.lit (.bool (dataM sort ds))) ∧ Ext σ σ' := by
 refine CallW.start (fn := Tryz.f86) (M := []) rfl rfl rfl rfl (by simp) fun tm hlen hss => ?_
 have h0 := hss 0 _ rfl
 have h1 := hss 1 _ rfl
 clear hss
 simp at hlen
 refine CW.hide fun R0 hR0 => ?_
 refine CW.seqK fun K hK => CW.region ?_
 simp (maxDischargeDepth := 16) [symB, List.length_set, andThen, hlen, h0, h1]
 refine hK _ _ ?_; clear hK K
 have hb1 : (⟨#[105, 110, 116]⟩ : ByteArray).toList = bInt := bs_list bInt
 have hb2 : (⟨#[98, 111, 111, 108]⟩ : ByteArray).toList = bBool := bs_list bBool
 refine CW.seqK fun K hK => CW.region ?_
 by_cases hi : sort = bInt
 · have hx : dataM sort ds = false := by simp [dataM, hi]
   simp (maxDischargeDepth := 16) [symB, List.length_set, andThen, hlen, h0, bs_list, hb1, hb2, hi]
   refine hK _ _ ?_
   refine CW.ret (hR0 _ _ _ ⟨.lit (.bool false), ?_, by rw [hx], ⟨_, rfl⟩⟩)
   simp (maxDischargeDepth := 16) [zA, omap, zB, slot_eq, slot_ne, hlen]
 · by_cases hb : sort = bBool
   · have hx : dataM sort ds = false := by simp [dataM, hb]
     have hib : ¬ bBool = bInt := by decide
     simp (maxDischargeDepth := 16) [symB, List.length_set, andThen, hlen, h0, bs_list, hb1, hb2, hb, hib]
     refine hK _ _ ?_
     refine CW.ret (hR0 _ _ _ ⟨.lit (.bool false), ?_, by rw [hx], ⟨_, rfl⟩⟩)
     simp (maxDischargeDepth := 16) [zA, omap, zB, slot_eq, slot_ne, hlen]
   · have hx : dataM sort ds = (rowsD ds).any (named sort) := by unfold dataM; rw [show (sort != bInt) = true from bne_iff_ne.2 hi, show (sort != bBool) = true from bne_iff_ne.2 hb]; rfl
     simp (maxDischargeDepth := 16) [symB, List.length_set, andThen, hlen, h0, bs_list, hb1, hb2, hi, hb]
     refine (hasSorts_ev (rowsD ds) tok 109 [.ptr σ.length 0] (named sort) _ (by rw [rowsD_len]; have := hs.1; omega) (rowsD_two _) ?_).mono ?_
     · intro σ3 row hrow hx3
       obtain ⟨c, hc, rfl⟩ := List.mem_map.1 hrow
       rw [named_D]
       exact data1_ev c.1 _ rfl sort σ.length σ3 (hx3.get (by simp))
     rintro r σ3 ⟨rfl, hext3⟩
     rw [← hx]
     simp (maxDischargeDepth := 16) [symB, List.length_set, andThen, hlen, retK, hi, hb]
     refine hK _ _ ?_
     refine CW.ret (hR0 _ _ _ ⟨.lit (.bool (dataM sort ds)), ?_, rfl, hext3.of_push⟩)
     simp (maxDischargeDepth := 16) [zA, omap, zB, slot_eq, slot_ne, hlen]
theorem fields_ev (ds : List Data) (tok : Tok) (a b : Nat) (d : Data) (c : Con) (ha : ds[a]? = some d) (hb : d.2[b]? = some c) (σ : Sto) : CallW Tryz.prog EV 87 [.sl (rowsD ds) tok, .agg [.lit (.int .i64 a), .lit (.int .i64 b)]] σ fun r σ' => r = .ret (.sl (strR c.2) .no) ∧ Ext σ σ' := by
 refine CallW.start (fn := Tryz.f87) (M := []) rfl rfl rfl rfl (by simp) fun tm hlen hss => ?_
 have h0 := hss 0 _ rfl
 have h1 := hss 1 _ rfl
 clear hss
 simp at hlen
 refine CW.hide fun R0 hR0 => ?_
 refine CW.seqK fun K hK => CW.region ?_
 simp (maxDischargeDepth := 16) [symB, List.length_set, andThen, hlen, h0, h1]
 refine hK _ _ ?_; clear hK K
 have hg : (rowsD ds)[a]? = some [.lit (.string (bs d.1)), .sl (rowsC d.2) .no] := by unfold rowsD; rw [List.getElem?_map, ha]; rfl
 have hg2 : (rowsC d.2)[b]? = some [.lit (.string (bs c.1)), .sl (strR c.2) .no] := by unfold rowsC; rw [List.getElem?_map, hb]; rfl
 refine CW.seqK fun K hK => CW.draw (by kernel_rfl) ?_
 simp (maxDischargeDepth := 16) [symB, List.length_set, andThen, hlen, h0, hg, hg2]
 refine ⟨by kernel_rfl, hK _ _ ?_⟩
 refine CW.ret (hR0 _ _ _ ⟨.sl (strR c.2) .no, ?_, rfl, ⟨_, rfl⟩⟩)
 simp (maxDischargeDepth := 16) [zA, omap, zB, slot_eq, slot_ne, hlen]
end
section
open Go.RowKit
mutual
def ofV (ds : List Data) (sort : List UInt8) : Vl → Bool
 | .mk k b d t n f =>
  noneB k b d t n f &&
  (if k = 1 then sort == bInt && rightIB b d
  else if k = 2 then sort == bBool
  else if k = 3 then
   dataM sort ds && (if n = [] then f.length == 0 else
    match conM n ds with
    | none => false
    | some (a, c) =>
     match ds[a]? with
     | none => false
     | some dd => dd.1 == sort && (match dd.2[c]? with | none => false | some cc => cc.2.length == f.length && ofVs ds cc.2 f))
  else false)
def ofVs (ds : List Data) : List (List UInt8) → List Vl → Bool
 | s :: ss, v :: l => ofV ds s v && ofVs ds ss l
 | _, _ => true
end
def aggV (v : Vl) (t1 t2 : Tok) : AV := match v with | .mk k b d t n f => .agg [.lit (.int .u8 k), .lit (.bool b), .sl (d32 d) t1, .lit (.bool t), .lit (.string (bs n)), .sl (rowsV f) t2]
mutual
def smallV : Vl → Prop
 | .mk k b d t n f => d.length ≤ 1000000 ∧ f.length ≤ 1000000 ∧ smallVs f
def smallVs : List Vl → Prop
 | [] => True
 | v :: l => smallV v ∧ smallVs l
end
theorem conM_ok {name : List UInt8} : ∀ {ds : List Data} {a c : Nat}, conM name ds = some (a, c) → ∃ d cc, ds[a]? = some d ∧ d.2[c]? = some cc
 | [], a, c, h => by simp [conM] at h
 | d :: l, a, c, h => by
  rw [conM] at h
  split at h
  · rename_i j hj
    cases h
    have hl := fidx_lt hj
    rw [rowsC_len] at hl
    exact ⟨d, d.2[c], rfl, List.getElem?_eq_getElem hl⟩
  · obtain ⟨⟨a', c'⟩, hq, he⟩ := Option.map_eq_some_iff.1 h
    cases he
    obtain ⟨d', cc, h1, h2⟩ := conM_ok hq
    exact ⟨d', cc, by simpa using h1, h2⟩
theorem ofVs_drop (ds : List Data) : ∀ {ss : List (List UInt8)} {l : List Vl} {i : Nat} {s : List UInt8} {v : Vl}, ss[i]? = some s → l[i]? = some v → ofVs ds (ss.drop i) (l.drop i) = (ofV ds s v && ofVs ds (ss.drop (i + 1)) (l.drop (i + 1)))
 | [], l, i, s, v, h, _ => by simp at h
 | s0 :: ss, [], i, s, v, _, h => by simp at h
 | s0 :: ss, v0 :: l, 0, s, v, h, h2 => by simp at h h2; subst h; subst h2; simp [ofVs]
 | s0 :: ss, v0 :: l, i + 1, s, v, h, h2 => by simpa using ofVs_drop ds (i := i) (by simpa using h) (by simpa using h2)
def nrm : Acc → Acc
 | .reads _ => .reads 0
 | .calls _ _ => .calls 1 fun _ => true
 | a => a
def okA (N : Nat) : Acc → Prop
 | .pure => True
 | .reads a => a < N
 | .calls n K => N ≤ n ∧ ∀ a, K a = true
 | _ => False
theorem clash_nrm {N : Nat} {a b : Acc} (ha : okA N a) (hb : okA N b) : clash a b = clash (nrm a) (nrm b) := by
 cases a <;> cases b <;> simp only [okA] at ha hb <;> first | rfl | (simp [clash, nrm, ha, hb]; done) | (simp [clash, nrm, ha.2]; omega) | (simp [clash, nrm, hb.2]; done)
theorem drawOk_rc {ops : Array Oper} {accs : List Acc} (N : Nat) (h : ∀ x ∈ accs, okA N x) (hd : drawOk ops (accs.map nrm) = true) : drawOk ops accs = true := by
 unfold drawOk at hd ⊢
 simp only [List.length_map, List.all_eq_true, List.mem_range] at hd ⊢
 intro i hi k hk
 have := hd i hi k hk
 unfold freeAt at this ⊢
 have g : ∀ n : Nat, (accs.map nrm).getD n .any = nrm (accs.getD n .any) := by
  intro n
  rw [List.getD_eq_getElem?_getD, List.getD_eq_getElem?_getD, List.getElem?_map]
  cases accs[n]? <;> rfl
 have u : ∀ n : Nat, n < accs.length → okA N (accs.getD n .any) := by
  intro n hn
  rw [List.getD_eq_getElem?_getD, List.getElem?_eq_getElem hn]
  exact h _ (List.getElem_mem hn)
 rw [g, g, ← clash_nrm (u k (by omega)) (u i hi)] at this
 exact this
def sndC : Code → Code
 | .seq _ b => b
 | c => c
def tailC : Nat → Code → Code
 | 0, c => c
 | n + 1, c => tailC n (sndC c)
theorem smallVs_mem : ∀ {l : List Vl} {v : Vl}, smallVs l → v ∈ l → smallV v
 | a :: l, v, hs, h => by
  rcases List.mem_cons.1 h with rfl | h
  · exact hs.1
  · exact smallVs_mem hs.2 h
theorem of_loop (ds : List Data) (tok : Tok) (b : Bool) (d : List Nat) (t : Bool) (n : List UInt8) (f : List Vl) (t1 t2 : Tok) (hfl : f.length ≤ 1000000)
    (ih : ∀ (s : List UInt8) (v : Vl) (σ : Sto), v ∈ f → CallW Tryz.prog EV 52 [.sl (rowsD ds) tok, .lit (.string (bs s)), aggV v .no .no] σ fun r σ' => r = .ret (.lit (.bool (ofV ds s v))) ∧ Ext σ σ')
    (pa pb : Nat) (dd : Data) (cc : Con) (hda : ds[pa]? = some dd) (hdc : dd.2[pb]? = some cc) (hle : cc.2.length = f.length) (res : Bool) (hofV : res = ofVs ds cc.2 f) (ia ip : Nat) (tm : List AV) (σ6 : Sto) (R0 : AExit → List AV → Sto → Prop) (σ : Sto)
    (hlen : tm.length = 89) (h0 : slot tm 0 = .sl (rowsD ds) tok) (h5 : slot tm 5 = .ptr ia 0) (h7 : slot tm 7 = .ptr ip 0)
    (hob6 : σ6[ia]? = some (.cells [.lit (.int .u8 (3 : Nat)), .lit (.bool b), .sl (d32 d) t1, .lit (.bool t), .lit (.string (bs n)), .sl (rowsV f) t2] 37)) (hpl6 : σ6[ip]? = some (.cells [.lit (.int .i64 pa), .lit (.int .i64 pb)] 143)) (hxx6 : Ext σ σ6)
    (done : ∀ (c : Bool) (tm : List AV) (σ1 : Sto), c = res → tm.length = 89 → slot tm 6 = .lit (.bool c) → Ext σ σ1 → R0 .ret tm σ1) : CW Tryz.prog EV [] (tailC 5 (Tryz.f52.body.getD .skip)) tm σ6 R0 := by
 refine CW.seqK fun K hK => ?_
 refine CW.seqK fun K2 hK2 => CW.region ?_
 simp (maxDischargeDepth := 16) [symB, List.length_set, andThen, hlen, h0, h7, hpl6]
 refine (fields_ev ds tok pa pb dd cc hda hdc σ6).mono ?_
 rintro r σ7 ⟨rfl, hx7⟩
 have hob7 := hx7.get hob6
 simp (maxDischargeDepth := 16) [symB, List.length_set, retK, andThen, hlen, strR_len, hle]
 refine hK2 _ _ ?_; clear hK2 K2
 refine CW.block ?_
 refine CW.hide fun R hR => ?_
 refine CW.loopI (fun r tm σ1 => ∃ i, r = f.length - i ∧ i ≤ f.length ∧ ofVs ds (cc.2.drop i) (f.drop i) = res ∧ tm.length = 89 ∧ slot tm 0 = .sl (rowsD ds) tok ∧ slot tm 5 = .ptr ia 0 ∧ slot tm 72 = .sl (strR cc.2) .no ∧ slot tm 73 = .lit (.int .i64 f.length) ∧ slot tm 74 = .lit (.int .i64 i) ∧ Ext σ7 σ1) ?_ _ _ _
  ⟨0, rfl, by omega, by rw [hofV]; rfl, by simp [hlen], by simp (maxDischargeDepth := 16) [slot_ne, h0], by simp (maxDischargeDepth := 16) [slot_ne, h5], by simp (maxDischargeDepth := 16) [slot_eq, slot_ne, hlen], by simp (maxDischargeDepth := 16) [slot_ne, slot_eq, hlen], by simp (maxDischargeDepth := 16) [slot_eq, hlen], .refl _⟩
 clear h0 h5 h7 hlen tm
 rintro r tm σ1 ⟨i, rfl, hi, hof, hlen, h0, h5, h72, h73, h74, hext⟩
 have hob1 := hext.get hob7
 refine CW.hide fun R2 hR2 => ?_
 refine CW.seqK fun K4 hK4 => CW.region ?_
 by_cases hlt : i < f.length
 · have hlt' : (i : Int) < f.length := by omega
   simp (maxDischargeDepth := 16) [symB, List.length_set, andThen, hlen, h73, h74, hlt', hlt]
   refine hK4 _ _ ?_
   refine CW.seqK fun K3 hK3 => ?_
   refine CW.cond (t := true) (by simp (maxDischargeDepth := 16) [zT, slot_eq, slot_ne, hlen]) ?_
   refine CW.skip ?_
   simp only [andThen]
   refine hK3 _ _ ?_
   have hsl : i < cc.2.length := by omega
   have hgs := strR_get hsl
   have hgs2 := List.getElem?_eq_getElem hsl
   generalize cc.2[i] = s at *
   have hgf := rowsV_get hlt
   have hgf2 := List.getElem?_eq_getElem hlt
   have hmem := List.getElem_mem hlt
   generalize f[i] = v at *
   rw [ofVs_drop ds hgs2 hgf2] at hof
   have hwk : IntKind.i64.wrap ((i : Int) + 1) = ((i + 1 : Nat) : Int) := wrap_succ (by omega)
   obtain ⟨k', b', d', tt', n', f'⟩ := v
   rw [rowV] at hgf
   have hc := ih s _ σ1 hmem
   unfold aggV at hc
   refine CW.seqK fun K5 hK5 => CW.block ?_
   refine CW.seqK fun K hK => CW.region ?_
   simp (maxDischargeDepth := 16) [symB, List.length_set, andThen, hlen, h72, h74, hgs]
   refine hK _ _ ?_; clear hK K
   refine CW.seqK fun K6 hK6 => CW.region ?_
   simp (maxDischargeDepth := 16) [symB, List.length_set, andThen, hlen, h0, h5, hob1, hgf]
   refine hc.mono ?_
   rintro r σ2 ⟨rfl, hext2⟩
   generalize ofV ds s (.mk k' b' d' tt' n' f') = bb at *
   cases bb with
   | false =>
    simp (maxDischargeDepth := 16) [symB, List.length_set, andThen, hlen, retK]
    refine hK6 _ _ ?_
    refine CW.cond (t := true) (by simp (maxDischargeDepth := 16) [zT, slot_eq, slot_ne, hlen]) ?_
    refine CW.seqK fun K7 hK7 => CW.region ?_
    simp (maxDischargeDepth := 16) [symB, List.length_set, andThen, hlen]
    refine hK7 _ _ ?_
    refine CW.ret ?_
    simp only [andThen, outOf]
    exact hR2 _ _ _ (hR _ _ _ (done false _ _ (by rw [← hof]; rfl) (by simp [hlen]) (by simp (maxDischargeDepth := 16) [slot_eq, slot_ne, hlen]) ((hxx6.trans hx7).trans (hext.trans hext2))))
   | true =>
    rw [Bool.true_and] at hof
    simp (maxDischargeDepth := 16) [symB, List.length_set, andThen, hlen, retK]
    refine hK6 _ _ ?_
    refine CW.cond (t := false) (by simp (maxDischargeDepth := 16) [zT, slot_eq, slot_ne, hlen]) ?_
    refine CW.skip ?_
    simp only [andThen, outOf]
    refine hK5 _ _ ?_
    refine CW.region ?_
    simp (maxDischargeDepth := 16) [symB, List.length_set, andThen, hlen, h74, hwk]
    exact hR2 _ _ _ ⟨f.length - (i + 1), by omega, i + 1, rfl, hlt, hof, by simp [hlen], by simp (maxDischargeDepth := 16) [slot_ne, h0], by simp (maxDischargeDepth := 16) [slot_ne, h5], by simp (maxDischargeDepth := 16) [slot_ne, h72], by simp (maxDischargeDepth := 16) [slot_ne, h73], by simp (maxDischargeDepth := 16) [slot_eq, hlen], hext.trans hext2⟩
 · have hlt' : ¬ (i : Int) < f.length := by omega
   have hil : i = f.length := by omega
   subst hil
   simp (maxDischargeDepth := 16) [symB, List.length_set, andThen, hlen, h73, h74]
   refine hK4 _ _ ?_
   refine CW.seqK fun K3 hK3 => ?_
   refine CW.cond (t := false) (by simp (maxDischargeDepth := 16) [zT, slot_eq, slot_ne, hlen]) ?_
   refine CW.exit ?_
   simp only [andThen]
   refine hR2 _ _ _ (hR _ _ _ ?_)
   simp only [outOf, if_true, andThen]
   refine hK _ _ ?_
   refine CW.seqK fun K hK => CW.region ?_
   simp (maxDischargeDepth := 16) [symB, List.length_set, andThen, hlen]
   refine hK _ _ ?_; clear hK K
   refine CW.ret ?_
   refine done true _ _ ?_ (by simp [hlen]) (by simp (maxDischargeDepth := 16) [slot_eq, slot_ne, hlen]) ((hxx6.trans hx7).trans hext)
   rw [← hof, List.drop_length]
   cases cc.2.drop f.length <;> rfl
theorem of_tail (ds : List Data) (tok : Tok) (hds : smallD ds) (b : Bool) (d : List Nat) (t : Bool) (n : List UInt8) (f : List Vl) (t1 t2 : Tok) (sort : List UInt8) (hdl : d.length ≤ 1000000) (hfl : f.length ≤ 1000000) (hsf : smallVs f)
    (ih : ∀ (s : List UInt8) (v : Vl) (σ : Sto), v ∈ f → CallW Tryz.prog EV 52 [.sl (rowsD ds) tok, .lit (.string (bs s)), aggV v .no .no] σ fun r σ' => r = .ret (.lit (.bool (ofV ds s v))) ∧ Ext σ σ')
    (res : Bool) (hofV : res = (dataM sort ds && (if n = [] then f.length == 0 else
            match conM n ds with
            | none => false
            | some (a, c) =>
             match ds[a]? with
             | none => false
             | some dd => dd.1 == sort && (match dd.2[c]? with | none => false | some cc => cc.2.length == f.length && ofVs ds cc.2 f)))) (ia : Nat) (σ : Sto) (tm : List AV) (σ2 : Sto) (R0 : AExit → List AV → Sto → Prop)
    (hlen : tm.length = 89) (h0 : slot tm 0 = .sl (rowsD ds) tok) (h1 : slot tm 1 = .lit (.string (bs sort))) (h5 : slot tm 5 = .ptr ia 0)
    (hob2 : σ2[ia]? = some (.cells [.lit (.int .u8 (3 : Nat)), .lit (.bool b), .sl (d32 d) t1, .lit (.bool t), .lit (.string (bs n)), .sl (rowsV f) t2] 37)) (hxA : Ext σ σ2)
    (done1 : ∀ (tm : List AV) (σ1 : Sto), tm.length = 89 → slot tm 6 = .lit (.bool res) → Ext σ σ1 → R0 .ret tm σ1) : CW Tryz.prog EV [] (tailC 3 (Tryz.f52.body.getD .skip)) tm σ2 R0 := by
 have done : ∀ (c : Bool) (tm : List AV) (σ1 : Sto), c = res → tm.length = 89 → slot tm 6 = .lit (.bool c) → Ext σ σ1 → R0 .ret tm σ1 := fun c tm σ1 hc hl h6 hx => done1 tm σ1 hl (by rw [← hc]; exact h6) hx
 have hF1 : dataM sort ds = false → res = false := fun h => by rw [hofV, h]; rfl
 have hF2 : dataM sort ds = true → n = [] → res = (f.length == 0) := fun h h2 => by rw [hofV, h, if_pos h2]; rfl
 have hF3 : dataM sort ds = true → ¬ n = [] → conM n ds = none → res = false := fun h h2 h3 => by rw [hofV, h, if_neg h2, h3]; rfl
 have hF4 : ∀ a c dd cc, dataM sort ds = true → ¬ n = [] → conM n ds = some (a, c) → ds[a]? = some dd → dd.2[c]? = some cc → res = (dd.1 == sort && (cc.2.length == f.length && ofVs ds cc.2 f)) := fun a c dd cc h h2 h3 h4 h5 => by rw [hofV, h, if_neg h2, h3]; dsimp only; rw [h4]; dsimp only; rw [h5]; rfl
 clear hofV
 obtain ⟨pa, pb, ok, hcv, hok⟩ : ∃ (pa pb : Nat) (ok : Bool), conAV n ds = .tup [.agg [.lit (.int .i64 pa), .lit (.int .i64 pb)], .lit (.bool ok)] ∧ (match conM n ds with | some (a, c) => pa = a ∧ pb = c ∧ ok = true | none => ok = false) := by
  unfold conAV
  cases conM n ds with
  | none => exact ⟨0, 0, false, rfl, rfl⟩
  | some q => exact ⟨q.1, q.2, true, rfl, rfl, rfl, rfl⟩
 refine CW.seqK fun K2 hK2 => CW.region ?_
 simp (maxDischargeDepth := 16) [symB, List.length_set, andThen, hlen, h0, h5, hob2]
 refine (con_ev ds tok n σ2 hds).mono ?_
 rintro r σ3 ⟨rfl, hx3⟩
 have hob3 := hx3.get hob2
 rw [hcv]
 simp (maxDischargeDepth := 16) [symB, List.length_set, andThen, hlen, retK]
 refine hK2 _ _ ?_; clear hK2 K2
 obtain ⟨ip, hip⟩ : ∃ ip : Nat, List.length σ3 = ip := ⟨_, rfl⟩
 have hob4 : (σ3 ++ [AObj.cells [.lit (.int .i64 pa), .lit (.int .i64 pb)] 143])[ia]? = some (.cells [.lit (.int .u8 (3 : Nat)), .lit (.bool b), .sl (d32 d) t1, .lit (.bool t), .lit (.string (bs n)), .sl (rowsV f) t2] 37) := by rw [List.getElem?_append_left (List.getElem?_eq_some_iff.1 hob3).1]; exact hob3
 have hpl4 : (σ3 ++ [AObj.cells [.lit (.int .i64 pa), .lit (.int .i64 pb)] 143])[ip]? = some (.cells [.lit (.int .i64 pa), .lit (.int .i64 pb)] 143) := by rw [← hip]; simp
 have hx4 : Ext σ (σ3 ++ [AObj.cells [.lit (.int .i64 pa), .lit (.int .i64 pb)] 143]) := (hxA.trans hx3).push _
 generalize (σ3 ++ [AObj.cells [.lit (.int .i64 pa), .lit (.int .i64 pb)] 143]) = σ4 at *
 refine CW.reset (fun tm => tm.length = 89 ∧ slot tm 0 = .sl (rowsD ds) tok ∧ slot tm 1 = .lit (.string (bs sort)) ∧ slot tm 5 = .ptr ia 0 ∧ slot tm 7 = .ptr ip 0 ∧ slot tm 8 = .lit (.bool ok)) ⟨by simp [hlen], by simp (maxDischargeDepth := 16) [slot_ne, h0], by simp (maxDischargeDepth := 16) [slot_ne, h1], by simp (maxDischargeDepth := 16) [slot_ne, h5], by simp (maxDischargeDepth := 16) [slot_eq, slot_ne, hlen, hip], by simp (maxDischargeDepth := 16) [slot_eq, slot_ne, hlen]⟩ ?_
 clear h0 h1 h5 hlen tm
 rintro tm ⟨hlen, h0, h1, h5, h7, h8⟩
 refine CW.seqK fun K3 hK3 => CW.block ?_
 refine CW.seqK fun K4 hK4 => CW.region ?_
 simp (maxDischargeDepth := 16) [symB, List.length_set, andThen, hlen, h0, h1]
 refine (data_ev ds tok sort σ4 hds).mono ?_
 rintro r σ5 ⟨rfl, hx5⟩
 have hob5 := hx5.get hob4
 have hpl5 := hx5.get hpl4
 have hxx5 := hx4.trans hx5
 cases hdm : dataM sort ds with
 | false =>
  simp (maxDischargeDepth := 16) [symB, List.length_set, andThen, hlen, retK]
  refine hK4 _ _ ?_
  refine CW.cond (t := true) (by simp (maxDischargeDepth := 16) [zT, slot_eq, slot_ne, hlen]) ?_
  refine CW.seqK fun K5 hK5 => CW.region ?_
  simp (maxDischargeDepth := 16) [symB, List.length_set, andThen, hlen]
  refine hK5 _ _ ?_
  refine CW.ret ?_
  simp only [andThen, outOf]
  exact done false _ _ (hF1 hdm).symm (by simp [hlen]) (by simp (maxDischargeDepth := 16) [slot_eq, slot_ne, hlen]) hxx5
 | true =>
  simp (maxDischargeDepth := 16) [symB, List.length_set, andThen, hlen, retK]
  refine hK4 _ _ ?_
  refine CW.cond (t := false) (by simp (maxDischargeDepth := 16) [zT, slot_eq, slot_ne, hlen]) ?_
  refine CW.seqK fun K5 hK5 => CW.region ?_
  have hz0 : (⟨#[]⟩ : ByteArray).toList = [] := bs_list []
  by_cases hn : n = []
  · have hG2 := hF2 hdm hn
    subst hn
    simp (maxDischargeDepth := 16) [symB, List.length_set, andThen, hlen, h5, hob5, bs_list, hz0]
    refine hK5 _ _ ?_
    refine CW.cond (t := true) (by simp (maxDischargeDepth := 16) [zT, slot_eq, slot_ne, hlen]) ?_
    refine CW.seqK fun K6 hK6 => CW.region ?_
    have hb0 := ieq f.length 0
    simp (maxDischargeDepth := 16) [symB, List.length_set, andThen, hlen, h5, hob5, rowsV_len]
    refine hK6 _ _ ?_
    refine CW.ret ?_
    simp only [andThen, outOf]
    refine done (f.length == 0) _ _ hG2.symm (by simp [hlen]) ?_ hxx5
    simp (maxDischargeDepth := 16) [slot_eq, slot_ne, hlen]
    exact hb0
  · simp (maxDischargeDepth := 16) [symB, List.length_set, andThen, hlen, h5, hob5, bs_list, hz0, hn]
    refine hK5 _ _ ?_
    refine CW.cond (t := false) (by simp (maxDischargeDepth := 16) [zT, slot_eq, slot_ne, hlen, hn]) ?_
    refine CW.seqK fun K6 hK6 => ?_
    have bad : res = false → ∀ (tm : List AV) (σ6 : Sto), Ext σ σ6 → tm.length = 89 → slot tm 51 = .lit (.bool true) → K6 tm σ6 := by
     intro hr tm σ6 hx6 hlen h51
     refine hK6 _ _ ?_
     refine CW.cond (t := true) (by simp (maxDischargeDepth := 16) [zT, slot_eq, slot_ne, hlen, h51]) ?_
     refine CW.seqK fun K7 hK7 => CW.region ?_
     simp (maxDischargeDepth := 16) [symB, List.length_set, andThen, hlen]
     refine hK7 _ _ ?_
     refine CW.ret ?_
     simp only [andThen, outOf]
     exact done false _ _ hr.symm (by simp [hlen]) (by simp (maxDischargeDepth := 16) [slot_eq, slot_ne, hlen]) hx6
    refine CW.seqK fun K7 hK7 => CW.region ?_
    simp (maxDischargeDepth := 16) [symB, List.length_set, andThen, hlen, h8]
    refine hK7 _ _ ?_
    cases hcm : conM n ds with
    | none =>
     rw [hcm] at hok
     dsimp only at hok
     subst hok
     refine CW.cond (t := true) (by simp (maxDischargeDepth := 16) [zT, slot_eq, slot_ne, hlen]) ?_
     refine CW.skip ?_
     simp only [andThen]
     exact bad (hF3 hdm hn hcm) _ _ hxx5 (by simp [hlen]) (by simp (maxDischargeDepth := 16) [slot_eq, slot_ne, hlen])
    | some q =>
     obtain ⟨a, c⟩ := q
     rw [hcm] at hok
     dsimp only at hok
     obtain ⟨rfl, rfl, rfl⟩ := hok
     obtain ⟨dd, cc, hda, hdc⟩ := conM_ok hcm
     have hF5 := hF4 _ _ _ _ hdm hn hcm hda hdc
     clear hF1 hF2 hF3 hF4
     have hgd : (rowsD ds)[pa]? = some [.lit (.string (bs dd.1)), .sl (rowsC dd.2) .no] := by unfold rowsD; rw [List.getElem?_map, hda]; rfl
     refine CW.cond (t := false) (by simp (maxDischargeDepth := 16) [zT, slot_eq, slot_ne, hlen]) ?_
     refine CW.seqK fun K8 hK8 => CW.region ?_
     by_cases hso : dd.1 = sort
     · simp (maxDischargeDepth := 16) [symB, List.length_set, andThen, hlen, h0, h1, h7, hpl5, hgd, bs_list, hso]
       refine hK8 _ _ ?_
       refine CW.cond (t := false) (by simp (maxDischargeDepth := 16) [zT, slot_eq, slot_ne, hlen, hso]) ?_
       refine CW.reset (fun tm => tm.length = 89 ∧ slot tm 0 = .sl (rowsD ds) tok ∧ slot tm 5 = .ptr ia 0 ∧ slot tm 7 = .ptr ip 0) ⟨by simp [hlen], by simp (maxDischargeDepth := 16) [slot_ne, h0], by simp (maxDischargeDepth := 16) [slot_ne, h5], by simp (maxDischargeDepth := 16) [slot_ne, h7]⟩ ?_
       clear h0 h1 h5 h7 h8 hlen tm
       rintro tm ⟨hlen, h0, h5, h7⟩
       refine CW.draw (by kernel_rfl) ?_
       simp (maxDischargeDepth := 16) [symB, List.length_set, andThen, hlen, h0, h7, hpl5]
       refine (fields_ev ds tok pa pb dd cc hda hdc σ5).mono ?_
       rintro r σ6 ⟨rfl, hx6⟩
       have hob6 := hx6.get hob5
       have hpl6 := hx6.get hpl5
       have hxx6 := hxx5.trans hx6
       have hfl2 := (hds.2 dd (List.mem_of_getElem? hda)).2 cc (List.mem_of_getElem? hdc)
       by_cases hle : cc.2.length = f.length
       · have hofV : res = ofVs ds cc.2 f := by rw [hF5, hso, hle]; simp
         have hli : (cc.2.length : Int) = (f.length : Int) := by omega
         have hia5 := (List.getElem?_eq_some_iff.1 hob5).1
         have hip5 := (List.getElem?_eq_some_iff.1 hpl5).1
         simp (maxDischargeDepth := 16) [symB, List.length_set, retK, andThen, hlen, h5, hob6, strR_len, rowsV_len, hle, accEV (f := 87) rfl, extB_of hx6]
         refine ⟨drawOk_rc σ5.length (by simp [okA, hia5, hip5]) (by kernel_rfl), ?_⟩
         refine hK6 _ _ ?_
         refine CW.cond (t := false) (by simp (maxDischargeDepth := 16) [zT, slot_eq, slot_ne, hlen]) ?_
         refine CW.skip ?_
         simp only [andThen, outOf]
         refine hK3 _ _ ?_
         exact of_loop ds tok b d t n f t1 t2 hfl ih pa pb dd cc hda hdc hle res hofV ia ip _ σ6 R0 σ (by simp [hlen]) (by simp (maxDischargeDepth := 16) [slot_ne, h0]) (by simp (maxDischargeDepth := 16) [slot_ne, h5]) (by simp (maxDischargeDepth := 16) [slot_ne, h7]) hob6 hpl6 hxx6 done
       · have hlb : (cc.2.length == f.length) = false := by simpa using hle
         have hofV : res = false := by rw [hF5, hlb]; simp
         have hli : ¬ (cc.2.length : Int) = (f.length : Int) := by omega
         have hia5 := (List.getElem?_eq_some_iff.1 hob5).1
         have hip5 := (List.getElem?_eq_some_iff.1 hpl5).1
         simp (maxDischargeDepth := 16) [symB, List.length_set, retK, andThen, hlen, h5, hob6, strR_len, rowsV_len, hle, hli, accEV (f := 87) rfl, extB_of hx6]
         refine ⟨drawOk_rc σ5.length (by simp [okA, hia5, hip5]) (by kernel_rfl), ?_⟩
         exact bad hofV _ _ hxx6 (by simp [hlen]) (by simp (maxDischargeDepth := 16) [slot_eq, slot_ne, hlen, hle, hli])
     · have hbb : (dd.1 == sort) = false := by simpa using hso
       have hofV : res = false := by rw [hF5, hbb]; rfl
       simp (maxDischargeDepth := 16) [symB, List.length_set, andThen, hlen, h0, h1, h7, hpl5, hgd, bs_list, hso]
       refine hK8 _ _ ?_
       refine CW.cond (t := true) (by simp (maxDischargeDepth := 16) [zT, slot_eq, slot_ne, hlen, hso]) ?_
       refine CW.skip ?_
       simp only [andThen]
       exact bad hofV _ _ hxx5 (by simp [hlen]) (by simp (maxDischargeDepth := 16) [slot_eq, slot_ne, hlen, hso])
theorem of_ev_ (ds : List Data) (tok : Tok) (hds : smallD ds) (N : Nat) : ∀ (v : Vl) (sort : List UInt8) (t1 t2 : Tok) (σ : Sto), SizeOf.sizeOf v < N → smallV v →
    CallW Tryz.prog EV 52 [.sl (rowsD ds) tok, .lit (.string (bs sort)), aggV v t1 t2] σ fun r σ' => r = .ret (.lit (.bool (ofV ds sort v))) ∧ Ext σ σ' := by
 induction N with
 | zero => intro v sort t1 t2 σ h; omega
 | succ N ih =>
  intro v sort t1 t2 σ hN hsv
  obtain ⟨k, b, d, t, n, f⟩ := v
  obtain ⟨hdl, hfl, hsf⟩ := hsv
  unfold aggV
  refine CallW.start (fn := Tryz.f52) (M := []) rfl rfl rfl rfl (by simp) fun tm hlen hss => ?_
  have h0 := hss 0 _ rfl
  have h1 := hss 1 _ rfl
  have h2 := hss 2 _ rfl
  clear hss
  simp at hlen
  refine CW.hide fun R0 hR0 => ?_
  have done : ∀ (c : Bool) (tm : List AV) (σ1 : Sto), c = ofV ds sort (.mk k b d t n f) → tm.length = 89 → slot tm 6 = .lit (.bool c) → Ext σ σ1 → R0 .ret tm σ1 := by
   intro c tm σ1 hc hlen h6 hx
   subst hc
   refine hR0 _ _ _ ⟨.lit (.bool (ofV ds sort (.mk k b d t n f))), ?_, rfl, hx⟩
   simp (maxDischargeDepth := 16) [zA, omap, zB, slot_eq, slot_ne, hlen, h6]
  clear hR0
  have hofV := ofV.eq_1 ds sort k b d t n f
  generalize ofV ds sort (.mk k b d t n f) = res at *
  refine CW.seqK fun K hK => CW.region ?_
  simp (maxDischargeDepth := 16) [symB, List.length_set, andThen, hlen, h2]
  refine hK _ _ ?_; clear hK K
  have hobA : (σ ++ [AObj.cells [.lit (.int .u8 k), .lit (.bool b), .sl (d32 d) t1, .lit (.bool t), .lit (.string (bs n)), .sl (rowsV f) t2] 37])[σ.length]? = some (.cells [.lit (.int .u8 k), .lit (.bool b), .sl (d32 d) t1, .lit (.bool t), .lit (.string (bs n)), .sl (rowsV f) t2] 37) := by simp
  have hxA : Ext σ (σ ++ [AObj.cells [.lit (.int .u8 k), .lit (.bool b), .sl (d32 d) t1, .lit (.bool t), .lit (.string (bs n)), .sl (rowsV f) t2] 37]) := ⟨_, rfl⟩
  generalize (σ ++ [AObj.cells [.lit (.int .u8 k), .lit (.bool b), .sl (d32 d) t1, .lit (.bool t), .lit (.string (bs n)), .sl (rowsV f) t2] 37]) = σA at *
  refine CW.reset (fun tm => tm.length = 89 ∧ slot tm 0 = .sl (rowsD ds) tok ∧ slot tm 1 = .lit (.string (bs sort)) ∧ slot tm 5 = .ptr σ.length 0) ⟨by simp [hlen], by simp (maxDischargeDepth := 16) [slot_ne, h0], by simp (maxDischargeDepth := 16) [slot_ne, h1], by simp (maxDischargeDepth := 16) [slot_eq, slot_ne, hlen]⟩ ?_
  clear h0 h1 h2 hlen tm
  rintro tm ⟨hlen, h0, h1, h5⟩
  refine CW.seqK fun K hK => ?_
  refine CW.seqK fun K2 hK2 => CW.region ?_
  simp (maxDischargeDepth := 16) [symB, List.length_set, andThen, hlen, h5, hobA]
  refine (none_ev k b d t n f t1 t2 σA).mono ?_
  rintro r σ2 ⟨rfl, hx2⟩
  cases hno : noneB k b d t n f with
  | false =>
   rw [hno] at hofV
   simp (maxDischargeDepth := 16) [symB, List.length_set, andThen, hlen, retK]
   refine hK2 _ _ ?_
   refine CW.cond (t := true) (by simp (maxDischargeDepth := 16) [zT, slot_eq, slot_ne, hlen]) ?_
   refine CW.seqK fun K hK => CW.region ?_
   simp (maxDischargeDepth := 16) [symB, List.length_set, andThen, hlen]
   refine hK _ _ ?_; clear hK K
   refine CW.ret ?_
   simp only [andThen]
   exact done false _ _ (by rw [hofV]; rfl) (by simp [hlen]) (by simp (maxDischargeDepth := 16) [slot_eq, slot_ne, hlen]) (hxA.trans hx2)
  | true =>
   rw [hno] at hofV
   simp only [Bool.true_and] at hofV
   have hob2 := hx2.get hobA
   simp (maxDischargeDepth := 16) [symB, List.length_set, andThen, hlen, retK]
   refine hK2 _ _ ?_
   refine CW.cond (t := false) (by simp (maxDischargeDepth := 16) [zT, slot_eq, slot_ne, hlen]) ?_
   refine CW.skip ?_
   simp only [andThen]
   refine hK _ _ ?_; clear hK K hK2 K2
   refine CW.seqK fun K hK => ?_
   refine CW.seqK fun K hK => CW.region ?_
   simp (maxDischargeDepth := 16) [symB, List.length_set, andThen, hlen, h5, hob2]
   refine hK _ _ ?_; clear hK K
   refine CW.block ?_
   refine CW.seqK fun K2 hK2 => CW.region ?_
   have tail : ∀ tm : List AV, k = 3 → tm.length = 89 → slot tm 0 = .sl (rowsD ds) tok → slot tm 1 = .lit (.string (bs sort)) → slot tm 5 = .ptr σ.length 0 → K tm σ2 := by
    intro tm hk hlen h0 h1 h5
    refine hK _ _ ?_
    subst hk
    exact of_tail ds tok hds b d t n f t1 t2 sort hdl hfl hsf (fun s v σ hv => ih v s .no .no σ (by have := List.sizeOf_lt_of_mem hv; simp at hN; omega) (smallVs_mem hsf hv)) res (by rw [hofV]; simp) σ.length σ tm σ2 R0 hlen h0 h1 h5 hob2 (hxA.trans hx2) (fun tm σ1 hl h6 hx => done res tm σ1 rfl hl h6 hx)
   by_cases hk1 : k = 1
   · subst hk1
     simp only [if_true] at hofV
     have hb1 : (⟨#[105, 110, 116]⟩ : ByteArray).toList = bInt := bs_list bInt
     simp (maxDischargeDepth := 16) [symB, List.length_set, andThen, hlen]
     refine hK2 _ _ ?_
     refine CW.cond (t := true) (by simp (maxDischargeDepth := 16) [zT, slot_eq, slot_ne, hlen]) ?_
     refine CW.seqK fun K3 hK3 => CW.region ?_
     by_cases hs : sort = bInt
     · simp (maxDischargeDepth := 16) [symB, List.length_set, andThen, hlen, h1, h5, hob2, bs_list, hb1, hs]
       refine (numRight_ev b d t1 σ2 (by omega)).mono ?_
       rintro r σ3 ⟨rfl, hx3⟩
       simp (maxDischargeDepth := 16) [symB, List.length_set, andThen, hlen, retK]
       refine hK3 _ _ ?_
       refine CW.ret ?_
       simp only [andThen, outOf]
       exact done (rightIB b d) _ _ (by rw [hofV, hs]; simp) (by simp [hlen]) (by simp (maxDischargeDepth := 16) [slot_eq, slot_ne, hlen]) ((hxA.trans hx2).trans hx3)
     · simp (maxDischargeDepth := 16) [symB, List.length_set, andThen, hlen, h1, h5, hob2, bs_list, hb1, hs]
       refine hK3 _ _ ?_
       refine CW.ret ?_
       simp only [andThen, outOf]
       exact done false _ _ (by rw [hofV]; simp [hs]) (by simp [hlen]) (by simp (maxDischargeDepth := 16) [slot_eq, slot_ne, hlen]) (hxA.trans hx2)
   · have e1 : ((k : Int) == 1) = false := by simp; omega
     have e1' : ¬ (k : Int) = 1 := by omega
     rw [if_neg hk1] at hofV
     simp (maxDischargeDepth := 16) [symB, List.length_set, andThen, hlen, e1]
     refine hK2 _ _ ?_
     refine CW.cond (t := false) (by simp (maxDischargeDepth := 16) [zT, slot_eq, slot_ne, hlen]) ?_
     refine CW.seqK fun K3 hK3 => CW.region ?_
     by_cases hk2 : k = 2
     · subst hk2
       simp only [if_true] at hofV
       have hb2 : (⟨#[98, 111, 111, 108]⟩ : ByteArray).toList = bBool := bs_list bBool
       simp (maxDischargeDepth := 16) [symB, List.length_set, andThen, hlen]
       refine hK3 _ _ ?_
       refine CW.cond (t := true) (by simp (maxDischargeDepth := 16) [zT, slot_eq, slot_ne, hlen]) ?_
       refine CW.seqK fun K4 hK4 => CW.region ?_
       simp (maxDischargeDepth := 16) [symB, List.length_set, andThen, hlen, h1, bs_list, hb2]
       refine hK4 _ _ ?_
       refine CW.ret ?_
       simp only [andThen, outOf]
       exact done (sort == bBool) _ _ (by rw [hofV]) (by simp [hlen]) (by simp (maxDischargeDepth := 16) [slot_eq, slot_ne, hlen]) (hxA.trans hx2)
     · have e2 : ((k : Int) == 2) = false := by simp; omega
       rw [if_neg hk2] at hofV
       simp (maxDischargeDepth := 16) [symB, List.length_set, andThen, hlen, e2]
       refine hK3 _ _ ?_
       refine CW.cond (t := false) (by simp (maxDischargeDepth := 16) [zT, slot_eq, slot_ne, hlen]) ?_
       refine CW.seqK fun K4 hK4 => CW.region ?_
       by_cases hk3 : k = 3
       · subst hk3
         simp (maxDischargeDepth := 16) [symB, List.length_set, andThen, hlen]
         refine hK4 _ _ ?_
         refine CW.cond (t := true) (by simp (maxDischargeDepth := 16) [zT, slot_eq, slot_ne, hlen]) ?_
         refine CW.skip ?_
         simp only [andThen, outOf]
         exact tail _ rfl (by simp [hlen]) (by simp (maxDischargeDepth := 16) [slot_ne, h0]) (by simp (maxDischargeDepth := 16) [slot_ne, h1]) (by simp (maxDischargeDepth := 16) [slot_ne, h5])
       · have e3 : ((k : Int) == 3) = false := by simp; omega
         rw [if_neg hk3] at hofV
         simp (maxDischargeDepth := 16) [symB, List.length_set, andThen, hlen, e3]
         refine hK4 _ _ ?_
         refine CW.cond (t := false) (by simp (maxDischargeDepth := 16) [zT, slot_eq, slot_ne, hlen]) ?_
         refine CW.seqK fun K5 hK5 => CW.region ?_
         simp (maxDischargeDepth := 16) [symB, List.length_set, andThen, hlen]
         refine hK5 _ _ ?_
         refine CW.ret ?_
         simp only [andThen, outOf]
         exact done false _ _ hofV.symm (by simp [hlen]) (by simp (maxDischargeDepth := 16) [slot_eq, slot_ne, hlen]) (hxA.trans hx2)
end
end Go.Proofs.YtmmgjaheffbpaaaGreatDoor
