/-
  EV: value.Parse.
-/
import Derived.Test.YtcjjmejmpdhikaaGreatDoorValLaw
namespace Go.Proofs.YtcjjmejmpdhikaaGreatDoor
set_option linter.unusedSimpArgs false
set_option linter.unusedVariables false
open Go.RowKit

theorem lexParse_ev (s : List UInt8) (σ : Sto) (hs : s.length ≤ 140737488355328) : CallW Tryz.prog EV 28 [.lit (.string (bs s))] σ fun r σ' => r = .ret (.tup [.sl (rowsOf (parseT s).1) .no, .lit (.int .i64 (parseT s).2.1), .lit (.int .i64 (parseT s).2.2)]) ∧ σ' = σ := by
  refine CallW.prim (g := primParse) rfl (σ' := σ) (r := .ret (.tup [.sl (rowsOf (parseT s).1) .no, .lit (.int .i64 (parseT s).2.1), .lit (.int .i64 (parseT s).2.2)])) ?_ ⟨rfl, rfl⟩
  unfold primParse
  dsimp only
  rw [if_pos (by rw [bsz]; unfold maxLen; omega)]
  rfl

set_option maxRecDepth 100000 in
set_option maxHeartbeats 2000000 in
theorem vparse_ev (ds : List Data) (tok : Tok) (hds : smallD ds) (sort s : List UInt8) (σ : Sto) (hs : s.length ≤ 1000000) : CallW Tryz.prog EV 14 [.sl (rowsD ds) tok, .lit (.string (bs sort)), .lit (.string (bs s))] σ fun r σ' => (∃ t1 t2, r = .ret (.tup [aggV (parseV ds sort s).1 t1 t2, .lit (.bool (parseV ds sort s).2)])) ∧ Ext σ σ' := by
  refine CallW.start (fn := Tryz.f14) (M := []) rfl rfl rfl rfl (by simp) fun tm hlen hss => ?_
  have h0 := hss 0 _ rfl
  have h1 := hss 1 _ rfl
  have h2 := hss 2 _ rfl
  clear hss
  simp at hlen
  refine CW.hide fun R0 hR0 => ?_
  have done : ∀ (v : Vl) (ok : Bool) (t1 t2 : Tok) (tm : List AV) (σ1 : Sto), (v, ok) = parseV ds sort s → tm.length = 47 → slot tm 6 = .ptr σ.length 0 → slot tm 7 = .lit (.bool ok) → (∀ c, aggV v t1 t2 = .agg c → σ1[σ.length]? = some (.cells c 37)) → Ext σ σ1 → R0 .ret tm σ1 := by
    intro v ok t1 t2 tm σ1 hv hlen h6 h7 hc hx
    refine hR0 _ _ _ ⟨.tup [aggV v t1 t2, .lit (.bool ok)], ?_, ⟨t1, t2, by rw [← hv]⟩, hx⟩
    obtain ⟨k, b, d, t, n, f⟩ := v
    have hc := hc _ rfl
    simp (maxDischargeDepth := 16) [resultsA, omap, res_tmp, res_cell, h6, h7, hc, partA, aggT, aggV]
  clear hR0
  refine CW.seqK fun K hK => CW.region ?_
  simp (maxDischargeDepth := 16) [symB, List.length_set, andThen, hlen, h0]
  refine hK _ _ ?_; clear hK K
  have hx0 : Ext σ (σ ++ [AObj.cells [.lit (.int .u8 0), .lit (.bool false), .sl [] .full, .lit (.bool false), .lit (.string ⟨#[]⟩), .sl [] .full] 37]) := ⟨_, rfl⟩
  have ho0 : (σ ++ [AObj.cells [.lit (.int .u8 0), .lit (.bool false), .sl [] .full, .lit (.bool false), .lit (.string ⟨#[]⟩), .sl [] .full] 37])[σ.length]? = some (.cells [.lit (.int .u8 0), .lit (.bool false), .sl [] .full, .lit (.bool false), .lit (.string ⟨#[]⟩), .sl [] .full] 37) := by simp
  generalize (σ ++ [AObj.cells [.lit (.int .u8 0), .lit (.bool false), .sl [] .full, .lit (.bool false), .lit (.string ⟨#[]⟩), .sl [] .full] 37]) = σA at *
  refine CW.reset (fun tm => tm.length = 47 ∧ slot tm 0 = .sl (rowsD ds) tok ∧ slot tm 1 = .lit (.string (bs sort)) ∧ slot tm 2 = .lit (.string (bs s)) ∧ slot tm 6 = .ptr σ.length 0) ⟨by simp [hlen], by simp (maxDischargeDepth := 16) [slot_ne, h0], by simp (maxDischargeDepth := 16) [slot_ne, h1], by simp (maxDischargeDepth := 16) [slot_ne, h2], by simp (maxDischargeDepth := 16) [slot_eq, slot_ne, hlen]⟩ ?_
  clear h0 h1 h2 hlen tm
  rintro tm ⟨hlen, h0, h1, h2, h6⟩
  have hbad1 : ¬ (parseT s).2.2 = 0 → parseV ds sort s = (zeroV, false) := fun h => by unfold parseV; rw [if_neg h]
  have hbad2 : (parseT s).2.2 = 0 → (parseT s).1.length ≠ 1 → parseV ds sort s = (zeroV, false) := fun h h2 => by
    unfold parseV
    rw [if_pos h]
    split
    · rename_i t ht
      rw [ht] at h2; exact absurd rfl h2
    · rfl
  have hbad3 : ∀ t, (parseT s).2.2 = 0 → (parseT s).1 = [t] → ((valT ds t).2 && ofV ds sort (valT ds t).1) = false → parseV ds sort s = (zeroV, false) := fun t h h2 h3 => by
    unfold parseV
    rw [if_pos h, h2]
    dsimp only
    rw [h3]; rfl
  have hgood : ∀ t, (parseT s).2.2 = 0 → (parseT s).1 = [t] → (valT ds t).2 = true → ofV ds sort (valT ds t).1 = true → parseV ds sort s = ((valT ds t).1, true) := fun t h h2 h3 h4 => parseV_of h h2 h3 h4
  have hsm : ∀ t, (parseT s).2.2 = 0 → (parseT s).1 = [t] → smallN t ∧ ((valT ds t).2 = true → smallV (valT ds t).1) := fun t h h2 => by
    obtain ⟨hwf, htl, hsl⟩ := parse_small h h2
    obtain ⟨a, b⟩ := valT_law ds _ t 0 (Nat.lt_succ_self _) hwf (by omega)
    exact ⟨a, fun h => (b h).2.2⟩
  generalize parseV ds sort s = res at *
  refine CW.seqK fun K hK => CW.region ?_
  simp (maxDischargeDepth := 16) [symB, List.length_set, andThen, hlen, h2]
  refine (lexParse_ev s σA (by omega)).mono ?_
  rintro r σA ⟨rfl, rfl⟩
  generalize (parseT s).2.1 = pe at *
  generalize (parseT s).2.2 = e at *
  generalize (parseT s).1 = ts at *
  simp (maxDischargeDepth := 16) [symB, List.length_set, andThen, hlen, retK]
  refine hK _ _ ?_; clear hK K
  refine CW.reset (fun tm => tm.length = 47 ∧ slot tm 0 = .sl (rowsD ds) tok ∧ slot tm 1 = .lit (.string (bs sort)) ∧ slot tm 6 = .ptr σ.length 0 ∧ slot tm 8 = .sl (rowsOf ts) .no ∧ slot tm 10 = .lit (.int .i64 e)) ⟨by simp [hlen], by simp (maxDischargeDepth := 16) [slot_ne, h0], by simp (maxDischargeDepth := 16) [slot_ne, h1], by simp (maxDischargeDepth := 16) [slot_ne, h6], by simp (maxDischargeDepth := 16) [slot_eq, slot_ne, hlen], by simp (maxDischargeDepth := 16) [slot_eq, slot_ne, hlen]⟩ ?_
  clear h0 h1 h2 h6 hlen tm
  rintro tm ⟨hlen, h0, h1, h6, h8, h10⟩
  have hzero : ∀ σ2 : Sto, Ext σA σ2 → ∃ c, c = [AV.lit (.int .u8 0), .lit (.bool false), .sl [] .full, .lit (.bool false), .lit (.string ⟨#[]⟩), .sl [] .full] ∧ σ2[σ.length]? = some (.cells c 37) := fun σ2 hx => ⟨_, rfl, hx.get ho0⟩
  have bad : ∀ (b : Bool) (tm : List AV) (σ2 : Sto) (K : List AV → Sto → Prop), b = true → res = (zeroV, false) → tm.length = 47 → slot tm 6 = .ptr σ.length 0 → slot tm 25 = .lit (.bool true) → Ext σA σ2 → CW Tryz.prog EV [] (match Tryz.f14.body.getD .skip with | .seq _ (.seq _ (.seq (.seq _ x) _)) => x | _ => .skip) tm σ2 (andThen K R0) := by
    intro b tm σ2 K _ hr hlen h6 h25 hx
    have ho2 := hx.get ho0
    have hl2 := (List.getElem?_eq_some_iff.1 ho2).1
    refine CW.cond (t := true) (by simp (maxDischargeDepth := 16) [evx_tmp, slot_eq, slot_ne, hlen, h25]) ?_
    refine CW.seqK fun K2 hK2 => CW.region ?_
    simp (maxDischargeDepth := 16) [symB, List.length_set, andThen, hlen, h6, ho2]
    refine hK2 _ _ ?_
    refine CW.ret ?_
    simp only [andThen]
    refine done zeroV false .full .full _ _ hr.symm (by simp [hlen]) (by simp (maxDischargeDepth := 16) [slot_ne, h6]) (by simp (maxDischargeDepth := 16) [slot_eq, slot_ne, hlen]) ?_ ((hx0.trans hx).set (by omega))
    intro c hcc
    unfold aggV zeroV at hcc
    cases hcc
    rw [List.getElem?_set_self hl2]
    rfl
  refine CW.seqK fun K hK => ?_
  refine CW.seqK fun K2 hK2 => CW.region ?_
  by_cases he : e = 0
  · subst he
    by_cases hl1 : ts.length = 1
    · obtain ⟨t, rfl⟩ : ∃ t, ts = [t] := List.length_eq_one_iff.1 hl1
      have hrl : (rowsOf [t]).length = 1 := by rw [rowsOf_length]; rfl
      simp (maxDischargeDepth := 16) [symB, List.length_set, andThen, hlen, h10, h8, hrl]
      refine hK2 _ _ ?_
      refine CW.cond (t := false) (by simp (maxDischargeDepth := 16) [evx_tmp, slot_eq, slot_ne, hlen]) ?_
      refine CW.skip ?_
      simp only [andThen]
      refine hK _ _ ?_; clear hK K hK2 K2
      obtain ⟨hsn, hsv⟩ := hsm t rfl rfl
      have hb3 := hbad3 t rfl rfl
      have hgd := hgood t rfl rfl
      clear hbad1 hbad2 hbad3 hgood hsm
      have hg0 := rowsOf_get (l := [t]) (i := 0) (t := t) rfl
      have hval := value_ev ds tok hds _ t .no σA (Nat.lt_succ_self _) hsn
      unfold NodeR at hval
      generalize valT ds t = q at *
      obtain ⟨tw, tks, trw, tat⟩ := t
      simp only [Tr.word, Tr.kids, Tr.row, Tr.at_, bs_def] at hg0
      unfold nodeC at hval
      obtain ⟨v, ok⟩ := q
      dsimp only at hval hb3 hgd hsv
      refine CW.seqK fun K hK => CW.region ?_
      simp (maxDischargeDepth := 16) [symB, List.length_set, andThen, hlen, h0, h8, hg0]
      refine hval.mono ?_
      rintro r σ2 ⟨⟨u1, u2, rfl⟩, hx2⟩
      obtain ⟨vk, vb, vd, vt, vn, vf⟩ := v
      have hof := fun (t1 t2 : Tok) (σ : Sto) (h : ok = true) => Of_ev ds tok hds (.mk vk vb vd vt vn vf) sort t1 t2 σ (hsv h)
      unfold aggV at hof ⊢
      simp (maxDischargeDepth := 16) [symB, List.length_set, andThen, hlen, retK]
      refine hK _ _ ?_; clear hK K
      have hx3 : Ext σA (σ2 ++ [AObj.cells [.lit (.int .u8 vk), .lit (.bool vb), .sl (d32 vd) u1, .lit (.bool vt), .lit (.string (bs vn)), .sl (rowsV vf) u2] 37]) := hx2.push _
      have ho3 : (σ2 ++ [AObj.cells [.lit (.int .u8 vk), .lit (.bool vb), .sl (d32 vd) u1, .lit (.bool vt), .lit (.string (bs vn)), .sl (rowsV vf) u2] 37])[σ2.length]? = some (.cells [.lit (.int .u8 vk), .lit (.bool vb), .sl (d32 vd) u1, .lit (.bool vt), .lit (.string (bs vn)), .sl (rowsV vf) u2] 37) := by simp
      generalize (σ2 ++ [AObj.cells [.lit (.int .u8 vk), .lit (.bool vb), .sl (d32 vd) u1, .lit (.bool vt), .lit (.string (bs vn)), .sl (rowsV vf) u2] 37]) = σ3 at *
      refine CW.reset (fun tm => tm.length = 47 ∧ slot tm 0 = .sl (rowsD ds) tok ∧ slot tm 1 = .lit (.string (bs sort)) ∧ slot tm 6 = .ptr σ.length 0 ∧ slot tm 11 = .ptr σ2.length 0 ∧ slot tm 12 = .lit (.bool ok)) ⟨by simp [hlen], by simp (maxDischargeDepth := 16) [slot_ne, h0], by simp (maxDischargeDepth := 16) [slot_ne, h1], by simp (maxDischargeDepth := 16) [slot_ne, h6], by simp (maxDischargeDepth := 16) [slot_eq, slot_ne, hlen], by simp (maxDischargeDepth := 16) [slot_eq, slot_ne, hlen]⟩ ?_
      clear h0 h1 h6 h8 h10 hlen tm
      rintro tm ⟨hlen, h0, h1, h6, h11, h12⟩
      have bad2 : ∀ (tm : List AV) (σ2 : Sto) (K : List AV → Sto → Prop), res = (zeroV, false) → tm.length = 47 → slot tm 6 = .ptr σ.length 0 → slot tm 44 = .lit (.bool true) → Ext σA σ2 → CW Tryz.prog EV [] (match Tryz.f14.body.getD .skip with | .seq _ (.seq _ (.seq _ (.seq _ (.seq (.seq _ x) _)))) => x | _ => .skip) tm σ2 (andThen K R0) := by
        intro tm σ2 K hr hlen h6 h25 hx
        have ho2 := hx.get ho0
        have hl2 := (List.getElem?_eq_some_iff.1 ho2).1
        refine CW.cond (t := true) (by simp (maxDischargeDepth := 16) [evx_tmp, slot_eq, slot_ne, hlen, h25]) ?_
        refine CW.seqK fun K2 hK2 => CW.region ?_
        simp (maxDischargeDepth := 16) [symB, List.length_set, andThen, hlen, h6, ho2]
        refine hK2 _ _ ?_
        refine CW.ret ?_
        simp only [andThen]
        refine done zeroV false .full .full _ _ hr.symm (by simp [hlen]) (by simp (maxDischargeDepth := 16) [slot_ne, h6]) (by simp (maxDischargeDepth := 16) [slot_eq, slot_ne, hlen]) ?_ ((hx0.trans hx).set (by omega))
        intro c hcc
        unfold aggV zeroV at hcc
        cases hcc
        rw [List.getElem?_set_self hl2]
        rfl
      refine CW.seqK fun K hK => ?_
      refine CW.seqK fun K2 hK2 => CW.region ?_
      cases ok with
      | false =>
        simp (maxDischargeDepth := 16) [symB, List.length_set, andThen, hlen, h12]
        refine hK2 _ _ ?_
        exact bad2 _ _ K (hb3 rfl) (by simp [hlen]) (by simp (maxDischargeDepth := 16) [slot_ne, h6]) (by simp (maxDischargeDepth := 16) [slot_eq, slot_ne, hlen]) hx3
      | true =>
        simp (maxDischargeDepth := 16) [symB, List.length_set, andThen, hlen, h12, h0, h1, h11, ho3]
        refine (hof u1 u2 σ3 rfl).mono ?_
        rintro r σ4 ⟨rfl, hx4⟩
        cases hofv : ofV ds sort (.mk vk vb vd vt vn vf) with
        | false =>
          simp (maxDischargeDepth := 16) [symB, List.length_set, andThen, hlen, retK]
          refine hK2 _ _ ?_
          exact bad2 _ _ K (hb3 (by rw [hofv]; rfl)) (by simp [hlen]) (by simp (maxDischargeDepth := 16) [slot_ne, h6]) (by simp (maxDischargeDepth := 16) [slot_eq, slot_ne, hlen]) (hx3.trans hx4)
        | true =>
          have hgr := hgd rfl hofv
          simp (maxDischargeDepth := 16) [symB, List.length_set, andThen, hlen, retK]
          refine hK2 _ _ ?_
          refine CW.cond (t := false) (by simp (maxDischargeDepth := 16) [evx_tmp, slot_eq, slot_ne, hlen]) ?_
          refine CW.skip ?_
          simp only [andThen]
          refine hK _ _ ?_
          have ho4 := hx4.get ho3
          have hoz := (hx3.trans hx4).get ho0
          have hl4 := (List.getElem?_eq_some_iff.1 hoz).1
          refine CW.seqK fun K3 hK3 => CW.region ?_
          simp (maxDischargeDepth := 16) [symB, List.length_set, andThen, hlen, h11, h6, ho4, hoz]
          refine hK3 _ _ ?_
          refine CW.ret ?_
          refine done (.mk vk vb vd vt vn vf) true u1 u2 _ _ hgr.symm (by simp [hlen]) (by simp (maxDischargeDepth := 16) [slot_ne, h6]) (by simp (maxDischargeDepth := 16) [slot_eq, slot_ne, hlen]) ?_ (((hx0.trans hx3).trans hx4).set (by omega))
          intro c hcc
          unfold aggV at hcc
          cases hcc
          rw [List.getElem?_set_self hl4]
          try rfl
    · have hl2 : ¬ (ts.length : Int) = 1 := by omega
      simp (maxDischargeDepth := 16) [symB, List.length_set, andThen, hlen, h10, h8, rowsOf_length, hl1, hl2]
      refine hK2 _ _ ?_
      exact bad true _ _ K rfl (hbad2 rfl hl1) (by simp [hlen]) (by simp (maxDischargeDepth := 16) [slot_ne, h6]) (by simp (maxDischargeDepth := 16) [slot_eq, slot_ne, hlen, hl2]) (.refl _)
  · simp (maxDischargeDepth := 16) [symB, List.length_set, andThen, hlen, h10, he]
    refine hK2 _ _ ?_
    exact bad true _ _ K rfl (hbad1 he) (by simp [hlen]) (by simp (maxDischargeDepth := 16) [slot_ne, h6]) (by simp (maxDischargeDepth := 16) [slot_eq, slot_ne, hlen]) (.refl _)

end Go.Proofs.YtcjjmejmpdhikaaGreatDoor

namespace Go.Proofs.YtcjjmejmpdhikaaGreatDoor
set_option linter.unusedSimpArgs false
set_option linter.unusedVariables false
open Go.RowKit

/-- what came in: no part beyond all -/
def bndD (ds : List Data) : Prop := ds.length ≤ 140737488355328 ∧ ∀ d ∈ ds, d.1.length ≤ 140737488355328 ∧ d.2.length ≤ 140737488355328 ∧ ∀ c ∈ d.2, c.1.length ≤ 140737488355328 ∧ c.2.length ≤ 140737488355328

theorem eighth (n : Nat) (h : n ≤ 140737488355328) : ∃ q : Nat, q ≤ 17592186044416 ∧ IntKind.i64.wrap ((n : Int).tdiv 8) = (q : Int) ∧ IntKind.i64.wrap ((n : Int) / 8) = (q : Int) := by
  have h1 : (n : Int) / 8 = ((n / 8 : Nat) : Int) := by omega
  refine ⟨n / 8, by omega, ?_, ?_⟩
  · rw [Int.tdiv_eq_ediv_of_nonneg (by omega), h1]; exact IntWalk.i64_in _ ⟨by omega, by omega⟩
  · rw [h1]; exact IntWalk.i64_in _ ⟨by omega, by omega⟩

set_option maxRecDepth 100000 in
set_option maxHeartbeats 2000000 in
theorem datas_ev (ds : List Data) (tok : Tok) (hb : bndD ds) (σ : Sto) : CallW Tryz.prog EV 8 [.sl (rowsD ds) tok, .lit (.int .i64 300)] σ fun r σ' => ∃ n : Nat, r = .ret (.lit (.int .i64 n)) ∧ σ' = σ ∧ (n ≤ 300 → smallD ds) := by
  refine CallW.start (fn := Tryz.f8) (M := []) rfl rfl rfl rfl (by simp) fun tm hlen hs => ?_
  have h0 := hs 0 _ rfl
  have h1 := hs 1 _ rfl
  clear hs
  simp at hlen
  refine CW.hide fun R0 hR0 => ?_
  have hdl : (rowsD ds).length = ds.length := by simp [rowsD]
  refine CW.seqK fun K hK => CW.region ?_
  simp (maxDischargeDepth := 16) [symB, List.length_set, andThen, hlen, h0]
  refine hK _ _ ?_; clear hK K
  refine CW.seqK fun K hK => CW.region ?_
  simp (maxDischargeDepth := 16) [symB, List.length_set, andThen, hlen, h0]
  refine hK _ _ ?_; clear hK K
  refine CW.seqK fun K hK => ?_
  refine CW.seqK fun K hK => CW.region ?_
  simp (maxDischargeDepth := 16) [symB, List.length_set, andThen, hlen]
  refine hK _ _ ?_; clear hK K
  refine CW.block ?_
  refine CW.hide fun R hR => ?_
  refine CW.loopI (fun r tm σ1 => ∃ i n : Nat, r = ds.length - i ∧ i ≤ ds.length ∧ n ≤ 281474976710656 ∧ (n ≤ 300 → i ≤ n ∧ ∀ d ∈ ds.take i, d.2.length ≤ 300 ∧ ∀ c ∈ d.2, c.2.length ≤ 300) ∧ tm.length = 70 ∧ slot tm 0 = .sl (rowsD ds) tok ∧ slot tm 1 = .lit (.int .i64 300) ∧ slot tm 5 = .lit (.int .i64 n) ∧ slot tm 6 = .lit (.int .i64 i) ∧ σ1 = σ) ?_ _ _ _
    ⟨0, 0, rfl, by omega, by omega, fun _ => ⟨by omega, fun d hd => by simp at hd⟩, by simp [hlen], by simp (maxDischargeDepth := 16) [slot_ne, h0], by simp (maxDischargeDepth := 16) [slot_ne, h1], by simp (maxDischargeDepth := 16) [slot_eq, slot_ne, hlen], by simp (maxDischargeDepth := 16) [slot_eq, hlen], rfl⟩
  clear h0 h1 hlen tm
  rintro r tm σ1 ⟨i, n, rfl, hi, hn, hP, hlen, h0, h1, h5, h6, rfl⟩
  refine CW.hide fun R2 hR2 => ?_
  refine CW.seqK fun K3 hK3 => ?_
  refine CW.seqK fun K4 hK4 => CW.region ?_
  have stop : ∀ (tm : List AV), (n ≤ 300 → smallD ds) → tm.length = 70 → slot tm 5 = .lit (.int .i64 n) → R2 (.exit 0) tm σ1 := by
    intro tm hsm hlen h5
    refine hR2 _ _ _ (hR _ _ _ ?_)
    simp only [outOf, if_true, andThen]
    refine hK _ _ ?_
    refine CW.seqK fun K hK => CW.region ?_
    simp (maxDischargeDepth := 16) [symB, List.length_set, andThen, hlen, h5]
    refine hK _ _ ?_; clear hK K
    refine CW.ret (hR0 _ _ _ ⟨.lit (.int .i64 n), ?_, n, rfl, rfl, hsm⟩)
    simp (maxDischargeDepth := 16) [resultsA, omap, res_tmp, slot_eq, slot_ne, hlen]
  by_cases hlt : i < ds.length
  · have hlt' : (i : Int) < ds.length := by omega
    by_cases hn3 : n ≤ 300
    · have hn3' : (n : Int) ≤ 300 := by omega
      obtain ⟨hin, hpre⟩ := hP hn3
      simp (maxDischargeDepth := 16) [symB, List.length_set, andThen, hlen, h0, h1, h5, h6, hdl, hlt', hlt, hn3, hn3']
      refine hK4 _ _ ?_
      refine CW.cond (t := true) (by simp (maxDischargeDepth := 16) [evx_tmp, slot_eq, slot_ne, hlen]) ?_
      refine CW.skip ?_
      simp only [andThen]
      refine hK3 _ _ ?_
      have hg := rowsD_get hlt
      have hmem := List.getElem_mem hlt
      have htake : ds.take (i + 1) = ds.take i ++ [ds[i]] := by rw [List.take_add_one, List.getElem?_eq_getElem hlt]; rfl
      generalize ds[i] = d at *
      obtain ⟨hd1, hd2, hd3⟩ := hb.2 d hmem
      have hcl : (rowsC d.2).length = d.2.length := by simp [rowsC]
      have hwk : IntKind.i64.wrap ((i : Int) + 1) = ((i + 1 : Nat) : Int) := wrap_succ (by have := hb.1; omega)
      have hwn : IntKind.i64.wrap ((n : Int) + 1) = ((n + 1 : Nat) : Int) := wrap_succ (by omega)
      obtain ⟨q, hq1, hq2, hq3⟩ := eighth d.1.length hd1
      have hwq : IntKind.i64.wrap (((n + 1 : Nat) : Int) + (q : Int)) = ((n + 1 + q : Nat) : Int) := by rw [IntWalk.i64_in _ ⟨by omega, by omega⟩]; omega
      have hwq2 : IntKind.i64.wrap ((n : Int) + 1 + (q : Int)) = ((n + 1 + q : Nat) : Int) := by rw [IntWalk.i64_in _ ⟨by omega, by omega⟩]; omega
      refine CW.seqK fun K5 hK5 => CW.block ?_
      refine CW.seqK fun K hK => CW.region ?_
      simp (maxDischargeDepth := 16) [symB, List.length_set, andThen, hlen, h0, h5, h6, hg, hwn, bsz, hq2, hq3, hwq, hwq2]
      refine hK _ _ ?_; clear hK K
      refine CW.seqK fun K hK => CW.region ?_
      simp (maxDischargeDepth := 16) [symB, List.length_set, andThen, hlen]
      refine hK _ _ ?_; clear hK K
      refine CW.block ?_
      refine CW.hide fun R5 hR5 => ?_
      refine CW.loopI (fun r tm σ1' => ∃ j m : Nat, r = d.2.length - j ∧ j ≤ d.2.length ∧ m ≤ 281474976710656 ∧ (m ≤ 300 → i + 1 ≤ m ∧ j ≤ m ∧ ∀ c ∈ d.2.take j, c.2.length ≤ 300) ∧ tm.length = 70 ∧ slot tm 0 = .sl (rowsD ds) tok ∧ slot tm 1 = .lit (.int .i64 300) ∧ slot tm 5 = .lit (.int .i64 m) ∧ slot tm 6 = .lit (.int .i64 i) ∧ slot tm 7 = .lit (.int .i64 j) ∧ σ1' = σ1) ?_ _ _ _
        ⟨0, n + 1 + q, rfl, by omega, by omega, fun _ => ⟨by omega, by omega, fun d hd => by simp at hd⟩, by simp [hlen], by simp (maxDischargeDepth := 16) [slot_ne, h0], by simp (maxDischargeDepth := 16) [slot_ne, h1], by simp (maxDischargeDepth := 16) [slot_eq, slot_ne, hlen], by simp (maxDischargeDepth := 16) [slot_ne, h6], by simp (maxDischargeDepth := 16) [slot_eq, hlen], rfl⟩
      clear h0 h1 h5 h6 hlen tm stop
      rintro r tm σ2 ⟨j, m, rfl, hj, hm, hQ, hlen, h0, h1, h5, h6, h7, rfl⟩
      refine CW.hide fun R6 hR6 => ?_
      refine CW.seqK fun K6 hK6 => ?_
      refine CW.seqK fun K7 hK7 => CW.region ?_
      have stop2 : ∀ (tm : List AV), (m ≤ 300 → j = d.2.length) → tm.length = 70 → slot tm 0 = .sl (rowsD ds) tok → slot tm 1 = .lit (.int .i64 300) → slot tm 5 = .lit (.int .i64 m) → slot tm 6 = .lit (.int .i64 i) → R6 (.exit 2) tm σ2 := by
        intro tm hjl hlen h0 h1 h5 h6
        refine hR6 _ _ _ (hR5 _ _ _ ?_)
        simp only [outOf, if_true, andThen]
        refine hK5 _ _ ?_
        refine CW.region ?_
        simp (maxDischargeDepth := 16) [symB, List.length_set, andThen, hlen, h6, hwk]
        refine hR2 _ _ _ ⟨ds.length - (i + 1), by omega, i + 1, m, rfl, by omega, hm, ?_, by simp [hlen], by simp (maxDischargeDepth := 16) [slot_ne, h0], by simp (maxDischargeDepth := 16) [slot_ne, h1], by simp (maxDischargeDepth := 16) [slot_ne, h5], by simp (maxDischargeDepth := 16) [slot_eq, hlen], rfl⟩
        intro hm3
        obtain ⟨g1, g2, g3⟩ := hQ hm3
        have := hjl hm3
        subst this
        rw [List.take_length] at g3
        refine ⟨g1, ?_⟩
        rw [htake]
        intro e he
        rcases List.mem_append.1 he with he | he
        · exact hpre e he
        · simp at he; subst he; exact ⟨by omega, g3⟩
      by_cases hjt : j < d.2.length
      · have hjt' : (j : Int) < d.2.length := by omega
        by_cases hm3 : m ≤ 300
        · have hm3' : (m : Int) ≤ 300 := by omega
          obtain ⟨g1, g2, g3⟩ := hQ hm3
          simp (maxDischargeDepth := 16) [symB, List.length_set, andThen, hlen, h0, h1, h5, h6, h7, hg, hcl, hjt', hjt, hm3, hm3']
          refine hK7 _ _ ?_
          refine CW.cond (t := true) (by simp (maxDischargeDepth := 16) [evx_tmp, slot_eq, slot_ne, hlen]) ?_
          refine CW.skip ?_
          simp only [andThen]
          refine hK6 _ _ ?_
          have hgc := rowsC_get hjt
          have hmc := List.getElem_mem hjt
          have htc : d.2.take (j + 1) = d.2.take j ++ [d.2[j]] := by rw [List.take_add_one, List.getElem?_eq_getElem hjt]; rfl
          generalize d.2[j] = c at *
          obtain ⟨hc1, hc2⟩ := hd3 c hmc
          have hwj : IntKind.i64.wrap ((j : Int) + 1) = ((j + 1 : Nat) : Int) := wrap_succ (by omega)
          have hwm : IntKind.i64.wrap ((m : Int) + 1) = ((m + 1 : Nat) : Int) := wrap_succ (by omega)
          obtain ⟨p, hp1, hp2, hp3⟩ := eighth c.1.length hc1
          have hwp : IntKind.i64.wrap (((m + 1 : Nat) : Int) + (p : Int)) = ((m + 1 + p : Nat) : Int) := by rw [IntWalk.i64_in _ ⟨by omega, by omega⟩]; omega
          have hwp2 : IntKind.i64.wrap ((m : Int) + 1 + (p : Int)) = ((m + 1 + p : Nat) : Int) := by rw [IntWalk.i64_in _ ⟨by omega, by omega⟩]; omega
          have hwc : IntKind.i64.wrap (((m + 1 + p : Nat) : Int) + (c.2.length : Int)) = ((m + 1 + p + c.2.length : Nat) : Int) := by rw [IntWalk.i64_in _ ⟨by omega, by omega⟩]; omega
          have hwc2 : IntKind.i64.wrap ((m : Int) + 1 + (p : Int) + (c.2.length : Int)) = ((m + 1 + p + c.2.length : Nat) : Int) := by rw [IntWalk.i64_in _ ⟨by omega, by omega⟩]; omega
          refine CW.seqK fun K8 hK8 => CW.block ?_
          refine CW.draw (by kernel_rfl) ?_
          simp (maxDischargeDepth := 16) [symB, List.length_set, andThen, outOf, hlen, h0, h5, h6, h7, hg, hgc, hwm, bsz, hp2, hp3, hwp, hwp2, strR_len, hwc, hwc2]
          refine ⟨by kernel_rfl, ?_⟩
          refine hK8 _ _ ?_
          refine CW.region ?_
          simp (maxDischargeDepth := 16) [symB, List.length_set, andThen, hlen, h7, hwj]
          refine hR6 _ _ _ ⟨d.2.length - (j + 1), by omega, j + 1, m + 1 + p + c.2.length, rfl, by omega, by omega, ?_, by simp [hlen], by simp (maxDischargeDepth := 16) [slot_ne, h0], by simp (maxDischargeDepth := 16) [slot_ne, h1], by simp (maxDischargeDepth := 16) [slot_eq, slot_ne, hlen], by simp (maxDischargeDepth := 16) [slot_ne, h6], by simp (maxDischargeDepth := 16) [slot_eq, hlen], rfl⟩
          intro hx
          refine ⟨by omega, by omega, ?_⟩
          rw [htc]
          intro e he
          rcases List.mem_append.1 he with he | he
          · exact g3 e he
          · simp at he; subst he; omega
        · have hm3' : ¬ (m : Int) ≤ 300 := by omega
          simp (maxDischargeDepth := 16) [symB, List.length_set, andThen, hlen, h0, h1, h5, h6, h7, hg, hcl, hjt', hjt, hm3, hm3']
          refine hK7 _ _ ?_
          refine CW.cond (t := false) (by simp (maxDischargeDepth := 16) [evx_tmp, slot_eq, slot_ne, hlen]) ?_
          refine CW.exit ?_
          simp only [andThen]
          exact stop2 _ (fun h => absurd h hm3) (by simp [hlen]) (by simp (maxDischargeDepth := 16) [slot_ne, h0]) (by simp (maxDischargeDepth := 16) [slot_ne, h1]) (by simp (maxDischargeDepth := 16) [slot_ne, h5]) (by simp (maxDischargeDepth := 16) [slot_ne, h6])
      · have hjt' : ¬ (j : Int) < d.2.length := by omega
        simp (maxDischargeDepth := 16) [symB, List.length_set, andThen, hlen, h0, h1, h5, h6, h7, hg, hcl, hjt', hjt]
        refine hK7 _ _ ?_
        refine CW.cond (t := false) (by simp (maxDischargeDepth := 16) [evx_tmp, slot_eq, slot_ne, hlen]) ?_
        refine CW.exit ?_
        simp only [andThen]
        exact stop2 _ (fun h => by omega) (by simp [hlen]) (by simp (maxDischargeDepth := 16) [slot_ne, h0]) (by simp (maxDischargeDepth := 16) [slot_ne, h1]) (by simp (maxDischargeDepth := 16) [slot_ne, h5]) (by simp (maxDischargeDepth := 16) [slot_ne, h6])
    · have hn3' : ¬ (n : Int) ≤ 300 := by omega
      simp (maxDischargeDepth := 16) [symB, List.length_set, andThen, hlen, h0, h1, h5, h6, hdl, hlt', hlt, hn3, hn3']
      refine hK4 _ _ ?_
      refine CW.cond (t := false) (by simp (maxDischargeDepth := 16) [evx_tmp, slot_eq, slot_ne, hlen]) ?_
      refine CW.exit ?_
      simp only [andThen]
      exact stop _ (fun h => absurd h hn3) (by simp [hlen]) (by simp (maxDischargeDepth := 16) [slot_ne, h5])
  · have hlt' : ¬ (i : Int) < ds.length := by omega
    simp (maxDischargeDepth := 16) [symB, List.length_set, andThen, hlen, h0, h1, h5, h6, hdl, hlt', hlt]
    refine hK4 _ _ ?_
    refine CW.cond (t := false) (by simp (maxDischargeDepth := 16) [evx_tmp, slot_eq, slot_ne, hlen]) ?_
    refine CW.exit ?_
    simp only [andThen]
    refine stop _ (fun h => ?_) (by simp [hlen]) (by simp (maxDischargeDepth := 16) [slot_ne, h5])
    obtain ⟨g1, g2⟩ := hP h
    rw [show i = ds.length by omega, List.take_length] at g2
    exact ⟨by omega, fun d hd => ⟨by have := (g2 d hd).1; omega, fun c hc => by have := (g2 d hd).2 c hc; omega⟩⟩

end Go.Proofs.YtcjjmejmpdhikaaGreatDoor

namespace Go.Proofs.YtcjjmejmpdhikaaGreatDoor
set_option linter.unusedSimpArgs false
set_option linter.unusedVariables false
open Go.RowKit

set_option maxRecDepth 100000 in
theorem small5_ev (σ : Sto) : CallW Tryz.prog EV 32 [.lit (.int .u64 5), .lit (.bool false)] σ fun r σ' => (∃ t, r = .ret (.agg [.sl (d32 (normD [5])) t, .lit (.bool false)])) ∧ Ext σ σ' := by
  refine CallW.start (fn := Tryz.f32) (M := []) rfl rfl rfl rfl (by simp) fun tm hlen hs => ?_
  have h0 := hs 0 _ rfl
  have h1 := hs 1 _ rfl
  clear hs
  simp at hlen
  refine CW.hide fun R0 hR0 => ?_
  refine CW.seqK fun K hK => CW.region ?_
  simp (maxDischargeDepth := 16) [symB, List.length_set, andThen, hlen, h0]
  refine hK _ _ ?_; clear hK K
  have hob : (σ ++ [AObj.cells [.sl [] .full, .lit (.bool false)] 73])[σ.length]? = some (.cells [.sl [] .full, .lit (.bool false)] 73) := by simp
  have hx : Ext σ (σ ++ [AObj.cells [.sl [] .full, .lit (.bool false)] 73]) := ⟨_, rfl⟩
  generalize (σ ++ [AObj.cells [.sl [] .full, .lit (.bool false)] 73]) = σA at *
  refine CW.seqK fun K hK => CW.region ?_
  simp (maxDischargeDepth := 16) [symB, List.length_set, andThen, hlen]
  refine hK _ _ ?_; clear hK K
  refine CW.seqK fun K hK => CW.block ?_
  refine CW.hide fun R hR => ?_
  refine CW.loopI (fun r tm σ1 => tm.length = 19 ∧ slot tm 1 = .lit (.bool false) ∧ slot tm 4 = .ptr σ.length 0 ∧ Ext σA σ1 ∧ ((r = 1 ∧ slot tm 0 = .lit (.int .u64 5) ∧ slot tm 5 = .sl [] .full) ∨ (r = 0 ∧ slot tm 0 = .lit (.int .u64 0) ∧ ∃ t, slot tm 5 = .sl (d32 [5]) t))) ?_ 1 _ _
    ⟨by simp [hlen], by simp (maxDischargeDepth := 16) [slot_ne, h1], by simp (maxDischargeDepth := 16) [slot_eq, slot_ne, hlen], .refl _, .inl ⟨rfl, by simp (maxDischargeDepth := 16) [slot_ne, h0], by simp (maxDischargeDepth := 16) [slot_eq, slot_ne, hlen]⟩⟩
  clear h0 h1 hlen tm
  rintro r tm σ1 ⟨hlen, h1, h4, hx1, h⟩
  refine CW.hide fun R2 hR2 => ?_
  refine CW.seqK fun K3 hK3 => ?_
  refine CW.seqK fun K4 hK4 => CW.region ?_
  rcases h with ⟨rfl, h0, h5⟩ | ⟨rfl, h0, t, h5⟩
  · simp (maxDischargeDepth := 16) [symB, List.length_set, andThen, hlen, h0]
    refine hK4 _ _ ?_
    refine CW.cond (t := true) (by simp (maxDischargeDepth := 16) [evx_tmp, slot_eq, slot_ne, hlen]) ?_
    refine CW.skip ?_
    simp only [andThen]
    refine hK3 _ _ ?_
    obtain ⟨t', σ3, acc, hext3, htok3, hap⟩ := append_atG (P := Tryz.prog) (M := []) (σ0 := σA) (σ := σ1) (es := []) (tok := .full) (tk := .full) (fs := [[.lit (.int .u32 5)]]) (t := 32) Tryz.underlying32 szOf_115 bytesOf_115 zeroOf_115 rfl
      (.inl rfl) hx1 rfl rfl (by simp) (by simp) (by simp)
    have hw5 : IntKind.u64.wrap ((5 : Int).tmod 1000000000) = 5 := rfl
    have hw6 : IntKind.u32.wrap 5 = 5 := rfl
    have hw8 : IntKind.u64.wrap 0 = 0 := rfl
    have hw7 : IntKind.u64.wrap ((5 : Int).tdiv 1000000000) = 0 := rfl
    refine CW.seqK fun K5 hK5 => CW.block ?_
    refine CW.region ?_
    simp (maxDischargeDepth := 16) [symB, List.length_set, andThen, outOf, hlen, h0, h5, hw5, hw6, hap]
    refine hK5 _ _ ?_
    refine CW.region ?_
    simp (maxDischargeDepth := 16) [symB, List.length_set, andThen, outOf, hlen, h0, hw7]
    exact hR2 _ _ _ ⟨0, by omega, by simp [hlen], by simp (maxDischargeDepth := 16) [slot_ne, h1], by simp (maxDischargeDepth := 16) [slot_ne, h4], hext3, .inr ⟨rfl, by simp (maxDischargeDepth := 16) [slot_eq, slot_ne, hlen, hw8], t', by simp (maxDischargeDepth := 16) [slot_eq, slot_ne, hlen]; rfl⟩⟩
  · simp (maxDischargeDepth := 16) [symB, List.length_set, andThen, hlen, h0]
    refine hK4 _ _ ?_
    refine CW.cond (t := false) (by simp (maxDischargeDepth := 16) [evx_tmp, slot_eq, slot_ne, hlen]) ?_
    refine CW.exit ?_
    simp only [andThen]
    refine hR2 _ _ _ (hR _ _ _ ?_)
    simp only [outOf, if_true, andThen]
    refine hK _ _ ?_
    refine CW.seqK fun K5 hK5 => CW.region ?_
    simp (maxDischargeDepth := 16) [symB, List.length_set, andThen, outOf, hlen, h1, h5]
    refine (made_ev [5] false t σ1 (by simp) (by simp)).mono ?_
    rintro r σ2 ⟨u, rfl, hx2⟩
    generalize normD [5] = m at *
    have hob2 := hx2.get (hx1.get hob)
    have hl2 := (List.getElem?_eq_some_iff.1 hob2).1
    simp (maxDischargeDepth := 16) [symB, List.length_set, andThen, hlen, retK, h4, hob2]
    refine hK5 _ _ ?_
    refine CW.ret (hR0 _ _ _ ⟨.agg [.sl (d32 m) u, .lit (.bool false)], ?_, ⟨u, rfl⟩, ((hx.trans hx1).trans hx2).set (Nat.le_refl _)⟩)
    simp (maxDischargeDepth := 16) [resultsA, omap, res_cell, slot_eq, slot_ne, hlen, h4, hl2, partA, aggT]

set_option maxRecDepth 100000 in
theorem numOf5_ev (σ : Sto) : CallW Tryz.prog EV 16 [.lit (.int .i64 5)] σ fun r σ' => (∃ t, r = .ret (.agg [.lit (.bool false), .sl (d32 (normD [5])) t])) ∧ Ext σ σ' := by
  refine CallW.start (fn := Tryz.f16) (M := []) rfl rfl rfl rfl (by simp) fun tm hlen hs => ?_
  have h0 := hs 0 _ rfl
  clear hs
  simp at hlen
  refine CW.hide fun R0 hR0 => ?_
  refine CW.seqK fun K hK => CW.region ?_
  simp (maxDischargeDepth := 16) [symB, List.length_set, andThen, hlen, h0]
  refine hK _ _ ?_; clear hK K
  have hob : (σ ++ [AObj.cells [.lit (.bool false), .sl [] .full] 34])[σ.length]? = some (.cells [.lit (.bool false), .sl [] .full] 34) := by simp
  have hx : Ext σ (σ ++ [AObj.cells [.lit (.bool false), .sl [] .full] 34]) := ⟨_, rfl⟩
  generalize (σ ++ [AObj.cells [.lit (.bool false), .sl [] .full] 34]) = σA at *
  refine CW.seqK fun K hK => ?_
  refine CW.seqK fun K hK => CW.region ?_
  simp (maxDischargeDepth := 16) [symB, List.length_set, andThen, hlen, h0]
  refine hK _ _ ?_; clear hK K
  refine CW.cond (t := false) (by simp (maxDischargeDepth := 16) [evx_tmp, slot_eq, slot_ne, hlen]) ?_
  refine CW.skip ?_
  simp only [andThen]
  refine hK _ _ ?_; clear hK K
  have hw5 : IntKind.u64.wrap 5 = 5 := rfl
  refine CW.seqK fun K hK => CW.region ?_
  simp (maxDischargeDepth := 16) [symB, List.length_set, andThen, hlen, h0, hw5]
  refine (small5_ev σA).mono ?_
  rintro r σ2 ⟨⟨t, rfl⟩, hx2⟩
  generalize normD [5] = m at *
  simp (maxDischargeDepth := 16) [symB, List.length_set, andThen, hlen, retK]
  refine (out_ev m false t σ2).mono ?_
  rintro r σ3 ⟨rfl, hx3⟩
  have hob2 := hx3.get (hx2.get hob)
  have hl2 := (List.getElem?_eq_some_iff.1 hob2).1
  simp (maxDischargeDepth := 16) [symB, List.length_set, andThen, hlen, retK, hob2]
  refine hK _ _ ?_
  refine CW.ret (hR0 _ _ _ ⟨.agg [.lit (.bool false), .sl (d32 m) t], ?_, ⟨t, rfl⟩, ((hx.trans hx2).trans hx3).set (Nat.le_refl _)⟩)
  simp (maxDischargeDepth := 16) [resultsA, omap, res_cell, slot_eq, slot_ne, hlen, hl2, partA, aggT]

/-- how many values a row of values counts -/
inductive Sz : List (List AV) → Nat → Prop
  | nil : Sz [] 0
  | cons {k : Nat} {b t : Bool} {d : List (List AV)} {s : ByteArray} {fs l : List (List AV)} {ta tk : Tok} {n m : Nat} : Sz fs n → Sz l m → Sz ([.lit (.int .u8 k), .lit (.bool b), .sl d ta, .lit (.bool t), .lit (.string s), .sl fs tk] :: l) (1 + n + m)
theorem Sz.len {l : List (List AV)} {n : Nat} (h : Sz l n) : l.length ≤ n := by
  induction h with
  | nil => simp
  | cons _ _ _ ih => simp; omega

set_option maxRecDepth 100000 in
set_option maxHeartbeats 1000000 in
theorem size_ev (N : Nat) : ∀ (rows : List (List AV)) (n : Nat) (tok : Tok) (σ : Sto), Sz rows n → n < N → n ≤ 1000000 → CallW Tryz.prog EV 17 [.sl rows tok] σ fun r σ' => r = .ret (.lit (.int .i64 n)) ∧ Ext σ σ' := by
  induction N with
  | zero => intro rows n tok σ _ h; omega
  | succ N ih =>
    intro rows n tok σ hsz hN hn
    refine CallW.start (fn := Tryz.f17) (M := []) rfl rfl rfl rfl (by simp) fun tm hlen hs => ?_
    have h0 := hs 0 _ rfl
    clear hs
    simp at hlen
    refine CW.hide fun R0 hR0 => ?_
    have hln := hsz.len
    refine CW.seqK fun K hK => CW.region ?_
    simp (maxDischargeDepth := 16) [symB, List.length_set, andThen, hlen, h0]
    refine hK _ _ ?_; clear hK K
    refine CW.seqK fun K hK => CW.region ?_
    simp (maxDischargeDepth := 16) [symB, List.length_set, andThen, hlen, h0]
    refine hK _ _ ?_; clear hK K
    refine CW.seqK fun K hK => ?_
    refine CW.seqK fun K hK => CW.region ?_
    simp (maxDischargeDepth := 16) [symB, List.length_set, andThen, hlen, h0]
    refine hK _ _ ?_; clear hK K
    refine CW.block ?_
    refine CW.hide fun R hR => ?_
    refine CW.loopI (fun r tm σ1 => ∃ i m : Nat, r = rows.length - i ∧ i ≤ rows.length ∧ Sz (rows.drop i) m ∧ m ≤ n ∧ tm.length = 21 ∧ slot tm 3 = .lit (.int .i64 ((n - m + (rows.length - i) : Nat) : Int)) ∧ slot tm 8 = .sl rows tok ∧ slot tm 9 = .lit (.int .i64 rows.length) ∧ slot tm 10 = .lit (.int .i64 i) ∧ Ext σ σ1) ?_ _ _ _
      ⟨0, n, rfl, by omega, hsz, by omega, by simp [hlen], by simp (maxDischargeDepth := 16) [slot_eq, slot_ne, hlen], by simp (maxDischargeDepth := 16) [slot_eq, slot_ne, hlen], by simp (maxDischargeDepth := 16) [slot_eq, slot_ne, hlen], by simp (maxDischargeDepth := 16) [slot_eq, hlen], .refl _⟩
    clear h0 hlen tm
    rintro r tm σ1 ⟨i, m, rfl, hi, hsm, hmn, hlen, h3, h8, h9, h10, hext⟩
    refine CW.hide fun R2 hR2 => ?_
    refine CW.seqK fun K4 hK4 => CW.region ?_
    by_cases hlt : i < rows.length
    · have hlt' : (i : Int) < rows.length := by omega
      simp (maxDischargeDepth := 16) [symB, List.length_set, andThen, hlen, h9, h10, hlt', hlt]
      refine hK4 _ _ ?_
      refine CW.seqK fun K3 hK3 => ?_
      refine CW.cond (t := true) (by simp (maxDischargeDepth := 16) [evx_tmp, slot_eq, slot_ne, hlen, hlt']) ?_
      refine CW.skip ?_
      simp only [andThen]
      refine hK3 _ _ ?_
      have hgr := List.getElem?_eq_getElem hlt
      rw [List.drop_eq_getElem_cons hlt] at hsm
      generalize rows[i] = row at *
      generalize hdr : rows.drop (i + 1) = rest at *
      cases hsm with
      | @cons k b t d s fs _ ta tk f m' hf hm =>
        have hwk : IntKind.i64.wrap ((i : Int) + 1) = ((i + 1 : Nat) : Int) := wrap_succ (by omega)
        obtain ⟨s3, hs3⟩ : ∃ s3, s3 = n - (1 + f + m') + (rows.length - i) := ⟨_, rfl⟩
        rw [← hs3] at h3
        have hws : IntKind.i64.wrap ((s3 : Int) + (f : Int)) = ((s3 + f : Nat) : Int) := by rw [IntWalk.i64_in _ ⟨by omega, by omega⟩]; omega
        refine CW.seqK fun K5 hK5 => CW.block ?_
        refine CW.seqK fun K hK => CW.region ?_
        simp (maxDischargeDepth := 16) [symB, List.length_set, andThen, hlen, h8, h10, hgr]
        refine hK _ _ ?_; clear hK K
        have hx2 : Ext σ (σ1 ++ [AObj.cells [.lit (.int .u8 k), .lit (.bool b), .sl d ta, .lit (.bool t), .lit (.string s), .sl fs tk] 37]) := hext.push _
        have hxt : (σ1 ++ [AObj.cells [.lit (.int .u8 k), .lit (.bool b), .sl d ta, .lit (.bool t), .lit (.string s), .sl fs tk] 37])[σ1.length]? = some (.cells [.lit (.int .u8 k), .lit (.bool b), .sl d ta, .lit (.bool t), .lit (.string s), .sl fs tk] 37) := by simp
        generalize (σ1 ++ [AObj.cells [.lit (.int .u8 k), .lit (.bool b), .sl d ta, .lit (.bool t), .lit (.string s), .sl fs tk] 37]) = σ2 at *
        refine CW.region ?_
        simp (maxDischargeDepth := 16) [symB, List.length_set, andThen, outOf, hlen, h3, hxt]
        refine (ih fs f tk σ2 hf (by omega) (by omega)).mono ?_
        rintro r σ3 ⟨rfl, hx3⟩
        simp (maxDischargeDepth := 16) [symB, List.length_set, andThen, hlen, retK, hws]
        refine hK5 _ _ ?_
        refine CW.region ?_
        simp (maxDischargeDepth := 16) [symB, List.length_set, andThen, outOf, hlen, h10, hwk]
        refine hR2 _ _ _ ⟨rows.length - (i + 1), by omega, i + 1, m', rfl, by omega, by rw [hdr]; exact hm, by omega, by simp [hlen], ?_, by simp (maxDischargeDepth := 16) [slot_ne, h8], by simp (maxDischargeDepth := 16) [slot_ne, h9], by simp (maxDischargeDepth := 16) [slot_eq, hlen], hx2.trans hx3⟩
        rw [show n - m' + (rows.length - (i + 1)) = s3 + f by omega]
        simp (maxDischargeDepth := 16) [slot_eq, slot_ne, hlen]
    · have hlt' : ¬ (i : Int) < rows.length := by omega
      have hil : i = rows.length := by omega
      rw [List.drop_of_length_le (by omega)] at hsm
      cases hsm
      rw [show n - 0 + (rows.length - i) = n by omega] at h3
      simp (maxDischargeDepth := 16) [symB, List.length_set, andThen, hlen, h9, h10, hlt', hlt]
      refine hK4 _ _ ?_
      refine CW.seqK fun K3 hK3 => ?_
      refine CW.cond (t := false) (by simp (maxDischargeDepth := 16) [evx_tmp, slot_eq, slot_ne, hlen, hlt]) ?_
      refine CW.exit ?_
      simp only [andThen]
      refine hR2 _ _ _ (hR _ _ _ ?_)
      simp only [outOf, if_true, andThen]
      refine hK _ _ ?_
      refine CW.seqK fun K hK => CW.region ?_
      simp (maxDischargeDepth := 16) [symB, List.length_set, andThen, hlen, h3]
      refine hK _ _ ?_; clear hK K
      refine CW.ret (hR0 _ _ _ ⟨.lit (.int .i64 n), ?_, rfl, hext⟩)
      simp (maxDischargeDepth := 16) [resultsA, omap, res_tmp, slot_eq, slot_ne, hlen]

/-- (cons 5 nil) -/
def wakeV : Vl := .mk 3 false [] false [99, 111, 110, 115] [.mk 1 false [5] false [] [], .mk 3 false [] false [110, 105, 108] []]
def wakeT : List UInt8 := [40, 99, 111, 110, 115, 32, 53, 32, 40, 110, 105, 108, 41, 41]
/-- how it lies there -/
def wakeR (t : Tok) : List AV := [.lit (.int .u8 3), .lit (.bool false), .sl [] .full, .lit (.bool false), .lit (.string ⟨#[99, 111, 110, 115]⟩), .sl [[.lit (.int .u8 1), .lit (.bool false), .sl (d32 [5]) t, .lit (.bool false), .lit (.string ⟨#[]⟩), .sl [] .full], [.lit (.int .u8 3), .lit (.bool false), .sl [] .full, .lit (.bool false), .lit (.string ⟨#[110, 105, 108]⟩), .sl [] .full]] .full]
theorem wakeR_row (t : Tok) : isRow wakeV (wakeR t) := by
  unfold wakeV wakeR
  rw [isRow]
  refine ⟨.full, .full, _, rfl, ?_⟩
  rw [areRows]
  refine ⟨_, _, rfl, ?_, ?_⟩
  · rw [isRow]; exact ⟨t, .full, [], rfl, by rw [areRows]⟩
  · rw [areRows]
    refine ⟨_, _, rfl, ?_, by rw [areRows]⟩
    rw [isRow]; exact ⟨.full, .full, [], rfl, by rw [areRows]⟩
theorem wakeR_sz (t : Tok) : Sz [wakeR t, wakeR t] 6 := by
  have h1 : ∀ l m, Sz l m → Sz (wakeR t :: l) (1 + (1 + 0 + (1 + 0 + 0)) + m) := fun l m h => Sz.cons (k := 3) (Sz.cons (k := 1) .nil (Sz.cons (k := 3) .nil .nil)) h
  exact h1 _ _ (h1 _ _ .nil)
theorem dec5 : dec 5 = [53] := by rw [dec, dif_pos (by omega)]; rfl
theorem wake_text : valText wakeV = wakeT := by
  have h5 : valText (.mk 1 false [5] false [] []) = [53] := by
    rw [valText, if_pos rfl]
    show natText [5] = [53]
    unfold natText
    simp [dec5]
  have hn : valText (.mk 3 false [] false [110, 105, 108] []) = [40, 110, 105, 108, 41] := by
    rw [valText, if_neg (by omega), if_neg (by omega), if_pos rfl, if_neg (by simp)]; rfl
  unfold wakeV
  rw [valText, if_neg (by omega), if_neg (by omega), if_pos rfl, if_neg (by simp), valTexts, valTexts, valTexts, h5, hn]
  rfl
theorem norm5 : normD [5] = [5] := normD_right ⟨by simp [B9], rfl⟩
theorem wake_right : rightV wakeV := by
  unfold wakeV
  simp [rightV, rightVs, RightI, RightD, B9]
  rfl

set_option maxRecDepth 100000 in
theorem awake_ev (σ : Sto) : CallW Tryz.prog EV 6 [] σ fun r σ' => r = .ret (.lit (.bool true)) ∧ Ext σ σ' := by
  refine CallW.start (fn := Tryz.f6) (M := []) rfl rfl rfl rfl (by simp) fun tm hlen hs => ?_
  clear hs
  simp at hlen
  refine CW.hide fun R0 hR0 => ?_
  refine CW.seqK fun K hK => CW.region ?_
  simp (maxDischargeDepth := 16) [symB, List.length_set, andThen, hlen]
  refine hK _ _ ?_; clear hK K
  refine CW.seqK fun K hK => CW.region ?_
  simp (maxDischargeDepth := 16) [symB, List.length_set, andThen, hlen]
  refine (numOf5_ev σ).mono ?_
  rintro r σ2 ⟨⟨t, rfl⟩, hx2⟩
  rw [norm5]
  simp (maxDischargeDepth := 16) [symB, List.length_set, andThen, hlen, retK]
  refine hK _ _ ?_; clear hK K
  have hx3 : Ext σ (σ2 ++ [AObj.cells (wakeR t) 37]) := hx2.push _
  have ho3 : (σ2 ++ [AObj.cells (wakeR t) 37])[σ2.length]? = some (.cells (wakeR t) 37) := by simp
  refine CW.reset (fun tm => tm.length = 17 ∧ slot tm 1 = .ptr σ2.length 0) ⟨by simp [hlen], by simp (maxDischargeDepth := 16) [slot_eq, slot_ne, hlen]⟩ ?_
  clear hlen tm
  rintro tm ⟨hlen, h1⟩
  have hch : CW Tryz.prog EV [] (tailC 2 (Tryz.f6.body.getD .skip)) tm (σ2 ++ [AObj.cells (wakeR t) 37]) R0 := by
    generalize (σ2 ++ [AObj.cells (wakeR t) 37]) = σ3 at *
    have htx := fun σ => vtextR_ev _ wakeV (wakeR t) σ (wakeR_row t) (Nat.lt_succ_self _) wake_right (by rw [wake_text]; simp [wakeT])
    have hsz := fun σ => size_ev 7 [wakeR t, wakeR t] 6 .full σ (wakeR_sz t) (by omega) (by omega)
    rw [wake_text] at htx
    unfold wakeR at htx hsz ho3
    have hwt : (bs wakeT).toList = wakeT := bs_list _
    have hwt2 : (⟨#[40, 99, 111, 110, 115, 32, 53, 32, 40, 110, 105, 108, 41, 41]⟩ : ByteArray).toList = wakeT := bs_list wakeT
    refine CW.seqK fun K hK => CW.region ?_
    simp (maxDischargeDepth := 16) [symB, List.length_set, andThen, hlen, h1, ho3]
    refine (htx σ3).mono ?_
    rintro r σ4 ⟨rfl, hx4⟩
    have ho4 := hx4.get ho3
    simp (maxDischargeDepth := 16) [symB, List.length_set, andThen, hlen, retK, h1, ho4, hwt, hwt2]
    refine (hsz σ4).mono ?_
    rintro r σ5 ⟨rfl, hx5⟩
    simp (maxDischargeDepth := 16) [symB, List.length_set, andThen, hlen, retK]
    refine hK _ _ ?_
    refine CW.ret (hR0 _ _ _ ⟨.lit (.bool true), ?_, rfl, (hx3.trans hx4).trans hx5⟩)
    simp (maxDischargeDepth := 16) [resultsA, omap, res_tmp, slot_eq, slot_ne, hlen]
  exact hch

end Go.Proofs.YtcjjmejmpdhikaaGreatDoor

namespace Go.Proofs.YtcjjmejmpdhikaaGreatDoor
set_option linter.unusedSimpArgs false
set_option linter.unusedVariables false
open Go.RowKit

theorem parseV_no {ds : List Data} {sort s : List UInt8} (h : (parseV ds sort s).2 = false) : (parseV ds sort s).1 = zeroV := by
  unfold parseV at h ⊢
  split
  · rename_i he
    rw [if_pos he] at h
    split
    · rename_i t ht
      rw [ht] at h
      dsimp only at h
      split
      · rename_i hc
        rw [if_pos hc] at h; cases h
      · rfl
    · rfl
  · rfl

set_option maxRecDepth 100000 in
set_option maxHeartbeats 2000000 in
theorem parsed_tail (ds : List Data) (tok : Tok) (hds : smallD ds) (sort s : List UInt8) (σ : Sto) (hs : s.length ≤ 2000) (tm : List AV) (R0 : AExit → List AV → Sto → Prop)
    (hlen : tm.length = 53) (h0 : slot tm 0 = .sl (rowsD ds) tok) (h1 : slot tm 1 = .lit (.string (bs sort))) (h2 : slot tm 2 = .lit (.string (bs s)))
    (done : ∀ (tm : List AV) (σ1 : Sto), tm.length = 53 → slot tm 6 = .lit (.bool true) → Ext σ σ1 → R0 .ret tm σ1) :
    CW Tryz.prog EV [] (tailC 3 (Tryz.f5.body.getD .skip)) tm σ R0 := by
  have hno := parseV_no (ds := ds) (sort := sort) (s := s)
  have hlaw := parseV_law ds sort s (by omega)
  have hp := fun σ => vparse_ev ds tok hds sort s σ (by omega)
  have hp2 := fun (u : List UInt8) (h : u.length ≤ 1000000) σ => vparse_ev ds tok hds sort u σ h
  generalize hres : parseV ds sort s = res at *
  obtain ⟨v, ok⟩ := res
  dsimp only at hno hlaw hp
  have hof := fun (t1 t2 : Tok) (σ : Sto) (h : smallV v) => Of_ev ds tok hds v sort t1 t2 σ h
  have hsame := fun (h : smallV v) (ta tb ta2 tb2 : Tok) (σ : Sto) => (same_ev (SizeOf.sizeOf v + 1)).1 v ta tb ta2 tb2 σ (Nat.lt_succ_self _) h
  have htx := fun (t1 t2 : Tok) (σ : Sto) (h : rightV v) (h2 : (valText v).length ≤ 900000) => vtext_ev v t1 t2 σ h h2
  generalize valText v = vt at *
  generalize hov : ofV ds sort v = ov at *
  obtain ⟨vk, vb, vd, vtt, vn, vf⟩ := v
  refine CW.seqK fun K hK => CW.region ?_
  simp (maxDischargeDepth := 16) [symB, List.length_set, andThen, hlen, h0, h1, h2]
  refine (hp σ).mono ?_
  rintro r σ2 ⟨⟨u1, u2, rfl⟩, hx2⟩
  unfold aggV at hof hsame htx ⊢
  simp (maxDischargeDepth := 16) [symB, List.length_set, andThen, hlen, retK]
  refine hK _ _ ?_; clear hK K
  have hx3 : Ext σ (σ2 ++ [AObj.cells [.lit (.int .u8 vk), .lit (.bool vb), .sl (d32 vd) u1, .lit (.bool vtt), .lit (.string (bs vn)), .sl (rowsV vf) u2] 37]) := hx2.push _
  have ho3 : (σ2 ++ [AObj.cells [.lit (.int .u8 vk), .lit (.bool vb), .sl (d32 vd) u1, .lit (.bool vtt), .lit (.string (bs vn)), .sl (rowsV vf) u2] 37])[σ2.length]? = some (.cells [.lit (.int .u8 vk), .lit (.bool vb), .sl (d32 vd) u1, .lit (.bool vtt), .lit (.string (bs vn)), .sl (rowsV vf) u2] 37) := by simp
  generalize (σ2 ++ [AObj.cells [.lit (.int .u8 vk), .lit (.bool vb), .sl (d32 vd) u1, .lit (.bool vtt), .lit (.string (bs vn)), .sl (rowsV vf) u2] 37]) = σ3 at *
  generalize σ2.length = i7 at *
  refine CW.reset (fun tm => tm.length = 53 ∧ slot tm 0 = .sl (rowsD ds) tok ∧ slot tm 1 = .lit (.string (bs sort)) ∧ slot tm 7 = .ptr i7 0 ∧ slot tm 8 = .lit (.bool ok)) ⟨by simp [hlen], by simp (maxDischargeDepth := 16) [slot_ne, h0], by simp (maxDischargeDepth := 16) [slot_ne, h1], by simp (maxDischargeDepth := 16) [slot_eq, slot_ne, hlen], by simp (maxDischargeDepth := 16) [slot_eq, slot_ne, hlen]⟩ ?_
  clear h0 h1 h2 hlen tm hp
  rintro tm ⟨hlen, h0, h1, h7, h8⟩
  refine CW.seqK fun K hK => ?_
  refine CW.seqK fun K hK => CW.region ?_
  simp (maxDischargeDepth := 16) [symB, List.length_set, andThen, hlen, h8]
  refine hK _ _ ?_; clear hK K
  cases ok with
  | false =>
    have hz := hno rfl
    unfold zeroV at hz
    cases hz
    refine CW.cond (t := true) (by simp (maxDischargeDepth := 16) [evx_tmp, slot_eq, slot_ne, hlen]) ?_
    refine CW.seqK fun K2 hK2 => CW.region ?_
    have hz := hsame (by rw [smallV]; exact ⟨by simp, by simp, trivial⟩) u1 .full u2 .full σ3
    simp (maxDischargeDepth := 16) [symB, List.length_set, andThen, hlen, h7, ho3]
    refine hz.mono ?_
    rintro r σ4 ⟨rfl, hx4⟩
    simp (maxDischargeDepth := 16) [symB, List.length_set, andThen, hlen, retK]
    refine hK2 _ _ ?_
    refine CW.ret ?_
    simp only [andThen]
    exact done _ _ (by simp [hlen]) (by simp (maxDischargeDepth := 16) [slot_eq, slot_ne, hlen]) (hx3.trans hx4)
  | true =>
    obtain ⟨g1, g2, g3, rfl, g5⟩ := hlaw rfl
    refine CW.cond (t := false) (by simp (maxDischargeDepth := 16) [evx_tmp, slot_eq, slot_ne, hlen]) ?_
    refine CW.skip ?_
    simp only [andThen]
    refine hK _ _ ?_; clear hK K
    refine CW.seqK fun K hK => CW.region ?_
    simp (maxDischargeDepth := 16) [symB, List.length_set, andThen, hlen, h0, h1, h7, ho3]
    refine (htx u1 u2 σ3 g2 (by omega)).mono ?_
    rintro r σ4 ⟨rfl, hx4⟩
    simp (maxDischargeDepth := 16) [symB, List.length_set, andThen, hlen, retK]
    refine (hp2 vt (by omega) σ4).mono ?_
    rintro r σ5 ⟨⟨w1, w2, rfl⟩, hx5⟩
    rw [g5]
    dsimp only
    unfold aggV
    simp (maxDischargeDepth := 16) [symB, List.length_set, andThen, hlen, retK]
    refine hK _ _ ?_; clear hK K
    have ho6 := ((hx4.trans hx5).push [AObj.cells [.lit (.int .u8 vk), .lit (.bool vb), .sl (d32 vd) w1, .lit (.bool vtt), .lit (.string (bs vn)), .sl (rowsV vf) w2] 37]).get ho3
    have hx6 : Ext σ (σ5 ++ [AObj.cells [.lit (.int .u8 vk), .lit (.bool vb), .sl (d32 vd) w1, .lit (.bool vtt), .lit (.string (bs vn)), .sl (rowsV vf) w2] 37]) := (hx3.trans (hx4.trans hx5)).push _
    have hp6 : (σ5 ++ [AObj.cells [.lit (.int .u8 vk), .lit (.bool vb), .sl (d32 vd) w1, .lit (.bool vtt), .lit (.string (bs vn)), .sl (rowsV vf) w2] 37])[σ5.length]? = some (.cells [.lit (.int .u8 vk), .lit (.bool vb), .sl (d32 vd) w1, .lit (.bool vtt), .lit (.string (bs vn)), .sl (rowsV vf) w2] 37) := by simp
    generalize (σ5 ++ [AObj.cells [.lit (.int .u8 vk), .lit (.bool vb), .sl (d32 vd) w1, .lit (.bool vtt), .lit (.string (bs vn)), .sl (rowsV vf) w2] 37]) = σ6 at *
    generalize σ5.length = i9 at *
    refine CW.reset (fun tm => tm.length = 53 ∧ slot tm 0 = .sl (rowsD ds) tok ∧ slot tm 1 = .lit (.string (bs sort)) ∧ slot tm 7 = .ptr i7 0 ∧ slot tm 9 = .ptr i9 0 ∧ slot tm 10 = .lit (.bool true)) ⟨by simp [hlen], by simp (maxDischargeDepth := 16) [slot_ne, h0], by simp (maxDischargeDepth := 16) [slot_ne, h1], by simp (maxDischargeDepth := 16) [slot_ne, h7], by simp (maxDischargeDepth := 16) [slot_eq, slot_ne, hlen], by simp (maxDischargeDepth := 16) [slot_eq, slot_ne, hlen]⟩ ?_
    clear h0 h1 h7 h8 hlen tm
    rintro tm ⟨hlen, h0, h1, h7, h9, h10⟩
    refine CW.seqK fun K hK => CW.region ?_
    simp (maxDischargeDepth := 16) [symB, List.length_set, andThen, hlen, h0, h1, h7, ho6]
    refine (hof u1 u2 σ6 g3).mono ?_
    rintro r σ7 ⟨rfl, hx7⟩
    have ho7 := hx7.get ho6
    have hp7 := hx7.get hp6
    simp (maxDischargeDepth := 16) [symB, List.length_set, andThen, hlen, retK, h10, h7, h9, ho7, hp7]
    refine (hsame g3 u1 w1 u2 w2 σ7).mono ?_
    rintro r σ8 ⟨rfl, hx8⟩
    simp (maxDischargeDepth := 16) [symB, List.length_set, andThen, hlen, retK]
    refine hK _ _ ?_
    refine CW.ret ?_
    exact done _ _ (by simp [hlen]) (by simp (maxDischargeDepth := 16) [slot_eq, slot_ne, hlen]) ((hx6.trans hx7).trans hx8)

set_option maxRecDepth 100000 in
theorem valueParsed_ev (ds : List Data) (tok : Tok) (hb : bndD ds) (sort s : List UInt8) (σ : Sto) : CallW Tryz.prog EV 5 [.sl (rowsD ds) tok, .lit (.string (bs sort)), .lit (.string (bs s))] σ fun r σ' => r = .ret (.lit (.bool true)) ∧ Ext σ σ' := by
  refine CallW.start (fn := Tryz.f5) (M := []) rfl rfl rfl rfl (by simp) fun tm hlen hss => ?_
  have h0 := hss 0 _ rfl
  have h1 := hss 1 _ rfl
  have h2 := hss 2 _ rfl
  clear hss
  simp at hlen
  refine CW.hide fun R0 hR0 => ?_
  have done : ∀ (tm : List AV) (σ1 : Sto), tm.length = 53 → slot tm 6 = .lit (.bool true) → Ext σ σ1 → R0 .ret tm σ1 := by
    intro tm σ1 hlen h6 hx
    refine hR0 _ _ _ ⟨.lit (.bool true), ?_, rfl, hx⟩
    simp (maxDischargeDepth := 16) [resultsA, omap, res_tmp, slot_eq, slot_ne, hlen, h6]
  clear hR0
  refine CW.seqK fun K hK => CW.region ?_
  simp (maxDischargeDepth := 16) [symB, List.length_set, andThen, hlen, h0]
  refine hK _ _ ?_; clear hK K
  refine CW.seqK fun K hK => ?_
  refine CW.seqK fun K2 hK2 => CW.region ?_
  simp (maxDischargeDepth := 16) [symB, List.length_set, andThen, hlen]
  refine (awake_ev σ).mono ?_
  rintro r σ2 ⟨rfl, hx2⟩
  simp (maxDischargeDepth := 16) [symB, List.length_set, andThen, hlen, retK]
  refine hK2 _ _ ?_
  refine CW.cond (t := false) (by simp (maxDischargeDepth := 16) [evx_tmp, slot_eq, slot_ne, hlen]) ?_
  refine CW.skip ?_
  simp only [andThen]
  refine hK _ _ ?_; clear hK K hK2 K2
  refine CW.reset (fun tm => tm.length = 53 ∧ slot tm 0 = .sl (rowsD ds) tok ∧ slot tm 1 = .lit (.string (bs sort)) ∧ slot tm 2 = .lit (.string (bs s))) ⟨by simp [hlen], by simp (maxDischargeDepth := 16) [slot_ne, h0], by simp (maxDischargeDepth := 16) [slot_ne, h1], by simp (maxDischargeDepth := 16) [slot_ne, h2]⟩ ?_
  clear h0 h1 h2 hlen tm
  rintro tm ⟨hlen, h0, h1, h2⟩
  refine CW.seqK fun K hK => ?_
  refine CW.seqK fun K2 hK2 => CW.region ?_
  simp (maxDischargeDepth := 16) [symB, List.length_set, andThen, hlen, h0]
  refine (datas_ev ds tok hb σ2).mono ?_
  rintro r σ3 ⟨n, rfl, rfl, hsm⟩
  have early : ∀ tm : List AV, tm.length = 53 → slot tm 20 = .lit (.bool true) → K2 tm σ3 := by
    intro tm hlen h20
    refine hK2 _ _ ?_
    refine CW.cond (t := true) (by simp (maxDischargeDepth := 16) [evx_tmp, slot_eq, slot_ne, hlen, h20]) ?_
    refine CW.seqK fun K3 hK3 => CW.region ?_
    simp (maxDischargeDepth := 16) [symB, List.length_set, andThen, hlen]
    refine hK3 _ _ ?_
    refine CW.ret ?_
    simp only [andThen]
    exact done _ _ (by simp [hlen]) (by simp (maxDischargeDepth := 16) [slot_eq, slot_ne, hlen]) hx2
  by_cases hn : n ≤ 300
  · have hn' : ¬ (300 : Int) < (n : Int) := by omega
    have hn2 : ¬ 300 < n := by omega
    by_cases hl : s.length ≤ 2000
    · have hl' : ¬ (2000 : Int) < (s.length : Int) := by omega
      have hl2 : ¬ 2000 < s.length := by omega
      simp (maxDischargeDepth := 16) [symB, List.length_set, retK, andThen, hlen, h2, bsz, hn', hn2, hl', hl2]
      refine hK2 _ _ ?_
      refine CW.cond (t := false) (by simp (maxDischargeDepth := 16) [evx_tmp, slot_eq, slot_ne, hlen]) ?_
      refine CW.skip ?_
      simp only [andThen]
      refine hK _ _ ?_; clear hK K hK2 K2 early
      exact parsed_tail ds tok (hsm hn) sort s σ3 hl _ R0 (by simp [hlen]) (by simp (maxDischargeDepth := 16) [slot_ne, h0]) (by simp (maxDischargeDepth := 16) [slot_ne, h1]) (by simp (maxDischargeDepth := 16) [slot_ne, h2]) fun tm σ1 h h' hx => done tm σ1 h h' (hx2.trans hx)
    · have hl' : (2000 : Int) < (s.length : Int) := by omega
      have hl2 : 2000 < s.length := by omega
      simp (maxDischargeDepth := 16) [symB, List.length_set, retK, andThen, hlen, h2, bsz, hn', hn2, hl', hl2]
      exact early _ (by simp [hlen]) (by simp (maxDischargeDepth := 16) [slot_eq, slot_ne, hlen])
  · have hn' : (300 : Int) < (n : Int) := by omega
    have hn2 : 300 < n := by omega
    simp (maxDischargeDepth := 16) [symB, List.length_set, retK, andThen, hlen, h2, bsz, hn', hn2]
    exact early _ (by simp [hlen]) (by simp (maxDischargeDepth := 16) [slot_eq, slot_ne, hlen])

end Go.Proofs.YtcjjmejmpdhikaaGreatDoor
