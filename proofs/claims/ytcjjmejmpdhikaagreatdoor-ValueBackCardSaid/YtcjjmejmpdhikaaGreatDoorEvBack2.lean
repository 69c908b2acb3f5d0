/-
  EV: the statement's SameValue, at any two values.
-/
import Derived.Test.YtcjjmejmpdhikaaGreatDoorEvParsed
import Derived.Test.YtcjjmejmpdhikaaGreatDoorBackLaw
namespace Go.Proofs.YtcjjmejmpdhikaaGreatDoor
set_option linter.unusedSimpArgs false
set_option linter.unusedVariables false
open Go.RowKit

mutual
def eqV : Vl → Vl → Bool
  | .mk k b d t n f, .mk k' b' d' t' n' f' => k == k' && ((b == b' && d == d') && (t == t' && (n == n' && eqVs f f')))
def eqVs : List Vl → List Vl → Bool
  | [], [] => true
  | v :: l, w :: m => eqV v w && eqVs l m
  | _, _ => false
end
mutual
theorem eqV_iff : ∀ v w : Vl, eqV v w = true ↔ v = w
  | .mk k b d t n f, .mk k' b' d' t' n' f' => by
    have := eqVs_iff f f'
    rw [eqV]
    simp only [Bool.and_eq_true, beq_iff_eq, this, Vl.mk.injEq, and_assoc]
theorem eqVs_iff : ∀ l m : List Vl, eqVs l m = true ↔ l = m
  | [], [] => by simp [eqVs]
  | [], _ :: _ => by simp [eqVs]
  | _ :: _, [] => by simp [eqVs]
  | v :: l, w :: m => by
    have h1 := eqV_iff v w
    have h2 := eqVs_iff l m
    rw [eqVs]
    simp only [Bool.and_eq_true, h1, h2, List.cons.injEq]
end
theorem eqVs_len : ∀ {l m : List Vl}, l.length ≠ m.length → eqVs l m = false
  | [], [], h => absurd rfl h
  | [], _ :: _, _ => by simp [eqVs]
  | _ :: _, [], _ => by simp [eqVs]
  | v :: l, w :: m, h => by rw [eqVs, eqVs_len (l := l) (m := m) (by simpa using h), Bool.and_false]
theorem eqVs_drop : ∀ {l m : List Vl} {i : Nat} {v w : Vl}, l[i]? = some v → m[i]? = some w → eqVs (l.drop i) (m.drop i) = (eqV v w && eqVs (l.drop (i + 1)) (m.drop (i + 1)))
  | [], m, i, v, w, h, _ => by simp at h
  | a :: l, [], i, v, w, _, h => by simp at h
  | a :: l, b :: m, 0, v, w, h, h2 => by simp at h h2; subst h; subst h2; simp [eqVs]
  | a :: l, b :: m, i + 1, v, w, h, h2 => by simpa using eqVs_drop (i := i) (by simpa using h) (by simpa using h2)

set_option maxRecDepth 100000 in
set_option maxHeartbeats 1000000 in
theorem sameLimbs2_ev (l m : List Nat) (ta tb : Tok) (σ : Sto) (hl : l.length ≤ 1000000000) (hm : m.length ≤ 1000000000) : CallW Tryz.prog EV 59 [.sl (d32 l) ta, .sl (d32 m) tb] σ fun r σ' => r = .ret (.lit (.bool (l == m))) ∧ σ' = σ := by
  refine CallW.start (fn := Tryz.f59) (M := []) rfl rfl rfl rfl (by simp) fun tm hlen hs => ?_
  have h0 := hs 0 _ rfl
  have h1 := hs 1 _ rfl
  clear hs
  simp at hlen
  refine CW.hide fun R0 hR0 => ?_
  have done : ∀ (c : Bool) (tm : List AV), c = (l == m) → tm.length = 26 → slot tm 4 = .lit (.bool c) → R0 .ret tm σ := by
    intro c tm hc hlen h4
    subst hc
    refine hR0 _ _ _ ⟨.lit (.bool (l == m)), ?_, rfl, rfl⟩
    simp (maxDischargeDepth := 16) [resultsA, omap, res_tmp, slot_eq, slot_ne, hlen, h4]
  clear hR0
  refine CW.seqK fun K hK => CW.region ?_
  simp (maxDischargeDepth := 16) [symB, List.length_set, andThen, hlen, h0]
  refine hK _ _ ?_; clear hK K
  refine CW.seqK fun K hK => ?_
  by_cases hle : l.length = m.length
  · have hli : (l.length : Int) = (m.length : Int) := by omega
    refine CW.seqK fun K hK => CW.region ?_
    simp (maxDischargeDepth := 16) [symB, List.length_set, andThen, hlen, h0, h1, d32_len, hle]
    refine hK _ _ ?_; clear hK K
    refine CW.cond (t := false) (by simp (maxDischargeDepth := 16) [evx_tmp, slot_eq, slot_ne, hlen]) ?_
    refine CW.skip ?_
    simp only [andThen]
    refine hK _ _ ?_; clear hK K
    refine CW.seqK fun K hK => ?_
    refine CW.seqK fun K hK => CW.region ?_
    simp (maxDischargeDepth := 16) [symB, List.length_set, andThen, hlen]
    refine hK _ _ ?_; clear hK K
    refine CW.block ?_
    refine CW.hide fun R hR => ?_
    refine CW.loopI (fun r tm σ1 => ∃ i, r = l.length - i ∧ i ≤ l.length ∧ l.take i = m.take i ∧ tm.length = 26 ∧ slot tm 0 = .sl (d32 l) ta ∧ slot tm 1 = .sl (d32 m) tb ∧ slot tm 5 = .lit (.int .i64 i) ∧ σ1 = σ) ?_ _ _ _
      ⟨0, rfl, by omega, rfl, by simp [hlen], by simp (maxDischargeDepth := 16) [slot_ne, h0], by simp (maxDischargeDepth := 16) [slot_ne, h1], by simp (maxDischargeDepth := 16) [slot_eq, hlen], rfl⟩
    clear h0 h1 hlen tm
    rintro r tm σ1 ⟨i, rfl, hi, htk, hlen, h0, h1, h5, rfl⟩
    refine CW.hide fun R2 hR2 => ?_
    refine CW.seqK fun K3 hK3 => ?_
    refine CW.seqK fun K4 hK4 => CW.region ?_
    by_cases hlt : i < l.length
    · have hlt' : (i : Int) < l.length := by omega
      have hlt2 : i < m.length := by omega
      have hlt2' : (i : Int) < m.length := by omega
      simp (maxDischargeDepth := 16) [symB, List.length_set, andThen, hlen, h0, h5, d32_len, hlt', hlt, hlt2, hlt2', hle]
      refine hK4 _ _ ?_
      refine CW.cond (t := true) (by simp (maxDischargeDepth := 16) [evx_tmp, slot_eq, slot_ne, hlen]) ?_
      refine CW.skip ?_
      simp only [andThen]
      refine hK3 _ _ ?_
      have hg := d32_get hlt
      have hg2 := d32_get hlt2
      have hgl := List.getElem?_eq_getElem hlt
      have hgm := List.getElem?_eq_getElem hlt2
      have hwk : IntKind.i64.wrap ((i : Int) + 1) = ((i + 1 : Nat) : Int) := wrap_succ (by omega)
      generalize l[i] = x at *
      generalize m[i] = y at *
      refine CW.seqK fun K5 hK5 => CW.block ?_
      refine CW.seqK fun K6 hK6 => CW.draw (by kernel_rfl) ?_
      by_cases hxy : x = y
      · subst hxy
        simp (maxDischargeDepth := 16) [symB, List.length_set, andThen, hlen, h0, h1, h5, hg, hg2]
        refine ⟨by kernel_rfl, hK6 _ _ ?_⟩
        refine CW.cond (t := false) (by simp (maxDischargeDepth := 16) [evx_tmp, slot_eq, slot_ne, hlen]) ?_
        refine CW.skip ?_
        simp only [andThen, outOf]
        refine hK5 _ _ ?_
        refine CW.region ?_
        simp (maxDischargeDepth := 16) [symB, List.length_set, andThen, hlen, h5, hwk]
        exact hR2 _ _ _ ⟨l.length - (i + 1), by omega, i + 1, rfl, hlt, by rw [List.take_add_one, List.take_add_one, htk, hgl, hgm], by simp [hlen], by simp (maxDischargeDepth := 16) [slot_ne, h0], by simp (maxDischargeDepth := 16) [slot_ne, h1], by simp (maxDischargeDepth := 16) [slot_eq, hlen], rfl⟩
      · have hxy' : ¬ (x : Int) = (y : Int) := by omega
        simp (maxDischargeDepth := 16) [symB, List.length_set, andThen, hlen, h0, h1, h5, hg, hg2, hxy, hxy']
        refine ⟨by kernel_rfl, hK6 _ _ ?_⟩
        refine CW.cond (t := true) (by simp (maxDischargeDepth := 16) [evx_tmp, slot_eq, slot_ne, hlen, hxy, hxy']) ?_
        refine CW.seqK fun K7 hK7 => CW.region ?_
        simp (maxDischargeDepth := 16) [symB, List.length_set, andThen, hlen]
        refine hK7 _ _ ?_
        refine CW.ret ?_
        simp only [andThen, outOf]
        refine hR2 _ _ _ (hR _ _ _ (done false _ ?_ (by simp [hlen]) (by simp (maxDischargeDepth := 16) [slot_eq, slot_ne, hlen])))
        symm
        rw [beq_eq_false_iff_ne]
        intro e
        rw [e, hgm] at hgl
        exact hxy (Option.some.inj hgl).symm
    · have hlt' : ¬ (i : Int) < l.length := by omega
      have hlt2' : ¬ (i : Int) < m.length := by omega
      have hlt2 : ¬ i < m.length := by omega
      simp (maxDischargeDepth := 16) [symB, List.length_set, andThen, hlen, h0, h5, d32_len, hlt', hlt, hlt2, hlt2', hle]
      refine hK4 _ _ ?_
      refine CW.cond (t := false) (by simp (maxDischargeDepth := 16) [evx_tmp, slot_eq, slot_ne, hlen, hlt, hlt2, hle]) ?_
      refine CW.exit ?_
      simp only [andThen]
      refine hR2 _ _ _ (hR _ _ _ ?_)
      simp only [outOf, if_true, andThen]
      refine hK _ _ ?_
      refine CW.seqK fun K hK => CW.region ?_
      simp (maxDischargeDepth := 16) [symB, List.length_set, andThen, hlen]
      refine hK _ _ ?_; clear hK K
      refine CW.ret (done true _ ?_ (by simp [hlen]) (by simp (maxDischargeDepth := 16) [slot_eq, slot_ne, hlen]))
      rw [List.take_of_length_le (by omega), List.take_of_length_le (by omega)] at htk
      rw [htk]; simp
  · have hli : ¬ (l.length : Int) = (m.length : Int) := by omega
    refine CW.seqK fun K hK => CW.region ?_
    simp (maxDischargeDepth := 16) [symB, List.length_set, andThen, hlen, h0, h1, d32_len, hle, hli]
    refine hK _ _ ?_; clear hK K
    refine CW.cond (t := true) (by simp (maxDischargeDepth := 16) [evx_tmp, slot_eq, slot_ne, hlen, hle, hli]) ?_
    refine CW.seqK fun K7 hK7 => CW.region ?_
    simp (maxDischargeDepth := 16) [symB, List.length_set, andThen, hlen]
    refine hK7 _ _ ?_
    refine CW.ret ?_
    simp only [andThen]
    refine done false _ ?_ (by simp [hlen]) (by simp (maxDischargeDepth := 16) [slot_eq, slot_ne, hlen])
    symm
    rw [beq_eq_false_iff_ne]
    exact fun e => hle (by rw [e])

set_option maxRecDepth 100000 in
theorem sameInt2_ev (b c : Bool) (l m : List Nat) (ta tb : Tok) (σ : Sto) (hl : l.length ≤ 1000000000) (hm : m.length ≤ 1000000000) : CallW Tryz.prog EV 30 [.agg [.lit (.bool b), .sl (d32 l) ta], .agg [.lit (.bool c), .sl (d32 m) tb]] σ fun r σ' => r = .ret (.lit (.bool (b == c && l == m))) ∧ Ext σ σ' := by
  refine CallW.start (fn := Tryz.f30) (M := []) rfl rfl rfl rfl (by simp) fun tm hlen hs => ?_
  have h0 := hs 0 _ rfl
  have h1 := hs 1 _ rfl
  clear hs
  simp at hlen
  refine CW.hide fun R0 hR0 => ?_
  refine CW.seqK fun K hK => CW.region ?_
  simp (maxDischargeDepth := 16) [symB, List.length_set, andThen, hlen, h0, h1]
  refine hK _ _ ?_; clear hK K
  have ha : (σ ++ [AObj.cells [.lit (.bool b), .sl (d32 l) ta] 34, AObj.cells [.lit (.bool c), .sl (d32 m) tb] 34])[σ.length]? = some (.cells [.lit (.bool b), .sl (d32 l) ta] 34) := by simp
  have hb : (σ ++ [AObj.cells [.lit (.bool b), .sl (d32 l) ta] 34, AObj.cells [.lit (.bool c), .sl (d32 m) tb] 34])[σ.length + 1]? = some (.cells [.lit (.bool c), .sl (d32 m) tb] 34) := by rw [List.getElem?_append_right (by omega)]; simp
  have hx : Ext σ (σ ++ [AObj.cells [.lit (.bool b), .sl (d32 l) ta] 34, AObj.cells [.lit (.bool c), .sl (d32 m) tb] 34]) := ⟨_, rfl⟩
  generalize (σ ++ [AObj.cells [.lit (.bool b), .sl (d32 l) ta] 34, AObj.cells [.lit (.bool c), .sl (d32 m) tb] 34]) = σA at *
  refine CW.seqK fun K hK => CW.region ?_
  cases hbc : (b == c) with
  | true =>
    simp (maxDischargeDepth := 16) [symB, List.length_set, andThen, hlen, ha, hb, hbc]
    refine (sameLimbs2_ev l m ta tb _ hl hm).mono ?_
    rintro r σ2 ⟨rfl, rfl⟩
    generalize (l == m) = lm at *
    simp (maxDischargeDepth := 16) [symB, List.length_set, andThen, hlen, retK]
    refine hK _ _ ?_
    refine CW.ret (hR0 _ _ _ ⟨.lit (.bool lm), ?_, by rw [hbc, Bool.true_and], hx⟩)
    simp (maxDischargeDepth := 16) [resultsA, omap, res_tmp, slot_eq, slot_ne, hlen]
  | false =>
    simp (maxDischargeDepth := 16) [symB, List.length_set, andThen, hlen, ha, hb, hbc]
    refine hK _ _ ?_
    refine CW.ret (hR0 _ _ _ ⟨.lit (.bool false), ?_, by rw [hbc, Bool.false_and], hx⟩)
    simp (maxDischargeDepth := 16) [resultsA, omap, res_tmp, slot_eq, slot_ne, hlen]

set_option maxRecDepth 100000 in
set_option maxHeartbeats 2000000 in
theorem same2_ev (N : Nat) : (∀ (v w : Vl) (ta tb ta2 tb2 : Tok) (σ : Sto), SizeOf.sizeOf v < N → smallV v → smallV w → CallW Tryz.prog EV 15 [aggV v ta ta2, aggV w tb tb2] σ fun r σ' => r = .ret (.lit (.bool (eqV v w))) ∧ Ext σ σ') ∧
    (∀ (f g : List Vl) (ta tb : Tok) (σ : Sto), SizeOf.sizeOf f < N → f.length ≤ 1000000 → g.length ≤ 1000000 → smallVs f → smallVs g → CallW Tryz.prog EV 31 [.sl (rowsV f) ta, .sl (rowsV g) tb] σ fun r σ' => r = .ret (.lit (.bool (eqVs f g))) ∧ Ext σ σ') := by
  induction N with
  | zero => exact ⟨fun v _ _ _ _ _ _ h => by omega, fun f _ _ _ _ h => by omega⟩
  | succ N ih =>
    constructor
    · intro v w ta tb ta2 tb2 σ hN hsv hsw
      obtain ⟨k, b, d, t, n, f⟩ := v
      obtain ⟨k', b', d', t', n', f'⟩ := w
      obtain ⟨hd, hfl, hsf⟩ := hsv
      obtain ⟨hd', hfl', hsf'⟩ := hsw
      unfold aggV
      refine CallW.start (fn := Tryz.f15) (M := []) rfl rfl rfl rfl (by simp) fun tm hlen hs => ?_
      have h0 := hs 0 _ rfl
      have h1 := hs 1 _ rfl
      clear hs
      simp at hlen
      refine CW.hide fun R0 hR0 => ?_
      have heq := eqV.eq_1 k b d t n f k' b' d' t' n' f'
      generalize eqV (.mk k b d t n f) (.mk k' b' d' t' n' f') = res at *
      have done : ∀ (c : Bool) (tm : List AV) (σ1 : Sto), c = res → tm.length = 38 → slot tm 4 = .lit (.bool c) → Ext σ σ1 → R0 .ret tm σ1 := by
        intro c tm σ1 hc hlen h4 hx
        subst hc
        refine hR0 _ _ _ ⟨.lit (.bool c), ?_, rfl, hx⟩
        simp (maxDischargeDepth := 16) [resultsA, omap, res_tmp, slot_eq, slot_ne, hlen, h4]
      clear hR0
      refine CW.seqK fun K hK => CW.region ?_
      simp (maxDischargeDepth := 16) [symB, List.length_set, andThen, hlen, h0, h1]
      refine hK _ _ ?_; clear hK K
      have ha : (σ ++ [AObj.cells [.lit (.int .u8 k), .lit (.bool b), .sl (d32 d) ta, .lit (.bool t), .lit (.string (bs n)), .sl (rowsV f) ta2] 37, AObj.cells [.lit (.int .u8 k'), .lit (.bool b'), .sl (d32 d') tb, .lit (.bool t'), .lit (.string (bs n')), .sl (rowsV f') tb2] 37])[σ.length]? = some (.cells [.lit (.int .u8 k), .lit (.bool b), .sl (d32 d) ta, .lit (.bool t), .lit (.string (bs n)), .sl (rowsV f) ta2] 37) := by simp
      have hb : (σ ++ [AObj.cells [.lit (.int .u8 k), .lit (.bool b), .sl (d32 d) ta, .lit (.bool t), .lit (.string (bs n)), .sl (rowsV f) ta2] 37, AObj.cells [.lit (.int .u8 k'), .lit (.bool b'), .sl (d32 d') tb, .lit (.bool t'), .lit (.string (bs n')), .sl (rowsV f') tb2] 37])[σ.length + 1]? = some (.cells [.lit (.int .u8 k'), .lit (.bool b'), .sl (d32 d') tb, .lit (.bool t'), .lit (.string (bs n')), .sl (rowsV f') tb2] 37) := by rw [List.getElem?_append_right (by omega)]; simp
      have hx : Ext σ (σ ++ [AObj.cells [.lit (.int .u8 k), .lit (.bool b), .sl (d32 d) ta, .lit (.bool t), .lit (.string (bs n)), .sl (rowsV f) ta2] 37, AObj.cells [.lit (.int .u8 k'), .lit (.bool b'), .sl (d32 d') tb, .lit (.bool t'), .lit (.string (bs n')), .sl (rowsV f') tb2] 37]) := ⟨_, rfl⟩
      generalize (σ ++ [AObj.cells [.lit (.int .u8 k), .lit (.bool b), .sl (d32 d) ta, .lit (.bool t), .lit (.string (bs n)), .sl (rowsV f) ta2] 37, AObj.cells [.lit (.int .u8 k'), .lit (.bool b'), .sl (d32 d') tb, .lit (.bool t'), .lit (.string (bs n')), .sl (rowsV f') tb2] 37]) = σA at *
      refine CW.seqK fun K hK => CW.region ?_
      have fin : ∀ (c : Bool) (tm : List AV) (σ1 : Sto), c = res → tm.length = 38 → slot tm 4 = .lit (.bool c) → Ext σ σ1 → K tm σ1 := by
        intro c tm σ1 hc hl h4 hx
        refine hK _ _ ?_
        exact CW.ret (done c tm σ1 hc hl h4 hx)
      by_cases hk : k = k'
      · subst hk
        rw [show (k == k) = true by simp, Bool.true_and] at heq
        simp (maxDischargeDepth := 16) [symB, List.length_set, andThen, hlen, ha, hb]
        refine (sameInt2_ev b b' d d' ta tb _ (by omega) (by omega)).mono ?_
        rintro r σ2 ⟨rfl, hx2⟩
        have ha2 := hx2.get ha
        have hb2 := hx2.get hb
        generalize (b == b' && d == d') = bd at *
        cases bd with
        | false =>
          simp (maxDischargeDepth := 16) [symB, List.length_set, andThen, hlen, retK]
          exact fin false _ _ (by rw [heq]; rfl) (by simp [hlen]) (by simp (maxDischargeDepth := 16) [slot_eq, slot_ne, hlen]) (hx.trans hx2)
        | true =>
          rw [Bool.true_and] at heq
          cases htt : (t == t') with
          | false =>
            rw [htt] at heq
            simp (maxDischargeDepth := 16) [symB, List.length_set, andThen, hlen, retK, ha2, hb2, htt]
            exact fin false _ _ (by rw [heq]; rfl) (by simp [hlen]) (by simp (maxDischargeDepth := 16) [slot_eq, slot_ne, hlen]) (hx.trans hx2)
          | true =>
            rw [htt, Bool.true_and] at heq
            by_cases hn : n = n'
            · subst hn
              rw [show (n == n) = true by simp, Bool.true_and] at heq
              simp (maxDischargeDepth := 16) [symB, List.length_set, andThen, hlen, retK, ha2, hb2, htt, bs_list]
              refine (ih.2 f f' ta2 tb2 σ2 (by simp at hN; omega) hfl hfl' hsf hsf').mono ?_
              rintro r σ3 ⟨rfl, hx3⟩
              rw [← heq]
              simp (maxDischargeDepth := 16) [symB, List.length_set, andThen, hlen, retK]
              exact fin res _ _ rfl (by simp [hlen]) (by simp (maxDischargeDepth := 16) [slot_eq, slot_ne, hlen]) ((hx.trans hx2).trans hx3)
            · have hnb : (n == n') = false := by simpa using hn
              rw [hnb] at heq
              simp (maxDischargeDepth := 16) [symB, List.length_set, andThen, hlen, retK, ha2, hb2, htt, bs_list, hn, hnb]
              exact fin false _ _ (by rw [heq]; rfl) (by simp [hlen]) (by simp (maxDischargeDepth := 16) [slot_eq, slot_ne, hlen]) (hx.trans hx2)
      · have hkb : (k == k') = false := by simpa using hk
        have hki : ¬ (k : Int) = (k' : Int) := by omega
        have hkib : ((k : Int) == (k' : Int)) = false := by simpa using hki
        rw [hkb] at heq
        simp (maxDischargeDepth := 16) [symB, List.length_set, andThen, hlen, ha, hb, hk, hki, hkib]
        exact fin false _ _ (by rw [heq]; rfl) (by simp [hlen]) (by simp (maxDischargeDepth := 16) [slot_eq, slot_ne, hlen, hk, hki]) hx
    · intro f g ta tb σ hN hfl hgl hsf hsg
      refine CallW.start (fn := Tryz.f31) (M := []) rfl rfl rfl rfl (by simp) fun tm hlen hs => ?_
      have h0 := hs 0 _ rfl
      have h1 := hs 1 _ rfl
      clear hs
      simp at hlen
      refine CW.hide fun R0 hR0 => ?_
      have done : ∀ (c : Bool) (tm : List AV) (σ1 : Sto), c = eqVs f g → tm.length = 27 → slot tm 4 = .lit (.bool c) → Ext σ σ1 → R0 .ret tm σ1 := by
        intro c tm σ1 hc hlen h4 hx
        subst hc
        refine hR0 _ _ _ ⟨.lit (.bool (eqVs f g)), ?_, rfl, hx⟩
        simp (maxDischargeDepth := 16) [resultsA, omap, res_tmp, slot_eq, slot_ne, hlen, h4]
      clear hR0
      refine CW.seqK fun K hK => CW.region ?_
      simp (maxDischargeDepth := 16) [symB, List.length_set, andThen, hlen, h0]
      refine hK _ _ ?_; clear hK K
      refine CW.seqK fun K hK => ?_
      by_cases hle : f.length = g.length
      · have hli : (f.length : Int) = (g.length : Int) := by omega
        refine CW.seqK fun K hK => CW.region ?_
        simp (maxDischargeDepth := 16) [symB, List.length_set, andThen, hlen, h0, h1, rowsV_len, hle]
        refine hK _ _ ?_; clear hK K
        refine CW.cond (t := false) (by simp (maxDischargeDepth := 16) [evx_tmp, slot_eq, slot_ne, hlen]) ?_
        refine CW.skip ?_
        simp only [andThen]
        refine hK _ _ ?_; clear hK K
        refine CW.seqK fun K hK => ?_
        refine CW.seqK fun K hK => CW.region ?_
        simp (maxDischargeDepth := 16) [symB, List.length_set, andThen, hlen]
        refine hK _ _ ?_; clear hK K
        refine CW.block ?_
        refine CW.hide fun R hR => ?_
        refine CW.loopI (fun r tm σ1 => ∃ i, r = f.length - i ∧ i ≤ f.length ∧ eqVs (f.drop i) (g.drop i) = eqVs f g ∧ tm.length = 27 ∧ slot tm 0 = .sl (rowsV f) ta ∧ slot tm 1 = .sl (rowsV g) tb ∧ slot tm 5 = .lit (.int .i64 i) ∧ Ext σ σ1) ?_ _ _ _
          ⟨0, rfl, by omega, rfl, by simp [hlen], by simp (maxDischargeDepth := 16) [slot_ne, h0], by simp (maxDischargeDepth := 16) [slot_ne, h1], by simp (maxDischargeDepth := 16) [slot_eq, hlen], .refl _⟩
        clear h0 h1 hlen tm
        rintro r tm σ1 ⟨i, rfl, hi, hE, hlen, h0, h1, h5, hext⟩
        refine CW.hide fun R2 hR2 => ?_
        refine CW.seqK fun K3 hK3 => ?_
        refine CW.seqK fun K4 hK4 => CW.region ?_
        by_cases hlt : i < f.length
        · have hlt' : (i : Int) < f.length := by omega
          have hlt2 : i < g.length := by omega
          have hlt2' : (i : Int) < g.length := by omega
          simp (maxDischargeDepth := 16) [symB, List.length_set, andThen, hlen, h0, h5, rowsV_len, hlt', hlt, hlt2, hlt2', hle]
          refine hK4 _ _ ?_
          refine CW.cond (t := true) (by simp (maxDischargeDepth := 16) [evx_tmp, slot_eq, slot_ne, hlen]) ?_
          refine CW.skip ?_
          simp only [andThen]
          refine hK3 _ _ ?_
          have hg := rowsV_get hlt
          have hg2 := rowsV_get hlt2
          have hmem := List.getElem_mem hlt
          have hmem2 := List.getElem_mem hlt2
          rw [eqVs_drop (List.getElem?_eq_getElem hlt) (List.getElem?_eq_getElem hlt2)] at hE
          have hwk : IntKind.i64.wrap ((i : Int) + 1) = ((i + 1 : Nat) : Int) := wrap_succ (by omega)
          generalize f[i] = x at *
          generalize g[i] = y at *
          have hc := ih.1 x y .no .no .no .no σ1 (by have := List.sizeOf_lt_of_mem hmem; omega) (smallVs_mem hsf hmem) (smallVs_mem hsg hmem2)
          generalize eqV x y = exy at *
          obtain ⟨xk, xb, xd, xt, xn, xf⟩ := x
          obtain ⟨yk, yb, yd, yt, yn, yf⟩ := y
          rw [rowV] at hg hg2
          unfold aggV at hc
          refine CW.seqK fun K5 hK5 => CW.block ?_
          refine CW.seqK fun K6 hK6 => CW.draw (by kernel_rfl) ?_
          simp (maxDischargeDepth := 16) [symB, List.length_set, andThen, hlen, h0, h1, h5, hg, hg2]
          refine hc.mono ?_
          rintro r σ2 ⟨rfl, hx2⟩
          cases exy with
          | true =>
            rw [Bool.true_and] at hE
            simp (maxDischargeDepth := 16) [symB, List.length_set, retK, andThen, hlen, extB_of hx2]
            refine ⟨by kernel_rfl, hK6 _ _ ?_⟩
            refine CW.cond (t := false) (by simp (maxDischargeDepth := 16) [evx_tmp, slot_eq, slot_ne, hlen]) ?_
            refine CW.skip ?_
            simp only [andThen, outOf]
            refine hK5 _ _ ?_
            refine CW.region ?_
            simp (maxDischargeDepth := 16) [symB, List.length_set, andThen, hlen, h5, hwk]
            exact hR2 _ _ _ ⟨f.length - (i + 1), by omega, i + 1, rfl, hlt, hE, by simp [hlen], by simp (maxDischargeDepth := 16) [slot_ne, h0], by simp (maxDischargeDepth := 16) [slot_ne, h1], by simp (maxDischargeDepth := 16) [slot_eq, hlen], hext.trans hx2⟩
          | false =>
            rw [Bool.false_and] at hE
            simp (maxDischargeDepth := 16) [symB, List.length_set, retK, andThen, hlen, extB_of hx2]
            refine ⟨by kernel_rfl, hK6 _ _ ?_⟩
            refine CW.cond (t := true) (by simp (maxDischargeDepth := 16) [evx_tmp, slot_eq, slot_ne, hlen]) ?_
            refine CW.seqK fun K7 hK7 => CW.region ?_
            simp (maxDischargeDepth := 16) [symB, List.length_set, andThen, hlen]
            refine hK7 _ _ ?_
            refine CW.ret ?_
            simp only [andThen, outOf]
            exact hR2 _ _ _ (hR _ _ _ (done false _ _ hE (by simp [hlen]) (by simp (maxDischargeDepth := 16) [slot_eq, slot_ne, hlen]) (hext.trans hx2)))
        · have hlt' : ¬ (i : Int) < f.length := by omega
          have hlt2 : ¬ i < g.length := by omega
          have hlt2' : ¬ (i : Int) < g.length := by omega
          simp (maxDischargeDepth := 16) [symB, List.length_set, andThen, hlen, h0, h5, rowsV_len, hlt', hlt, hlt2, hlt2', hle]
          refine hK4 _ _ ?_
          refine CW.cond (t := false) (by simp (maxDischargeDepth := 16) [evx_tmp, slot_eq, slot_ne, hlen, hlt, hlt2, hle]) ?_
          refine CW.exit ?_
          simp only [andThen]
          refine hR2 _ _ _ (hR _ _ _ ?_)
          simp only [outOf, if_true, andThen]
          refine hK _ _ ?_
          refine CW.seqK fun K hK => CW.region ?_
          simp (maxDischargeDepth := 16) [symB, List.length_set, andThen, hlen]
          refine hK _ _ ?_; clear hK K
          rw [List.drop_of_length_le (by omega), List.drop_of_length_le (by omega)] at hE
          refine CW.ret (done true _ _ (by rw [← hE]; rfl) (by simp [hlen]) (by simp (maxDischargeDepth := 16) [slot_eq, slot_ne, hlen]) hext)
      · have hli : ¬ (f.length : Int) = (g.length : Int) := by omega
        refine CW.seqK fun K hK => CW.region ?_
        simp (maxDischargeDepth := 16) [symB, List.length_set, andThen, hlen, h0, h1, rowsV_len, hle, hli]
        refine hK _ _ ?_; clear hK K
        refine CW.cond (t := true) (by simp (maxDischargeDepth := 16) [evx_tmp, slot_eq, slot_ne, hlen, hle, hli]) ?_
        refine CW.seqK fun K7 hK7 => CW.region ?_
        simp (maxDischargeDepth := 16) [symB, List.length_set, andThen, hlen]
        refine hK7 _ _ ?_
        refine CW.ret ?_
        simp only [andThen]
        exact done false _ _ (eqVs_len hle).symm (by simp [hlen]) (by simp (maxDischargeDepth := 16) [slot_eq, slot_ne, hlen]) (.refl _)

end Go.Proofs.YtcjjmejmpdhikaaGreatDoor

namespace Go.Proofs.YtcjjmejmpdhikaaGreatDoor
set_option linter.unusedSimpArgs false
set_option linter.unusedVariables false
open Go.RowKit

def wch (b : UInt8) : Bool := (decide (97 ≤ b.toNat) && decide (b.toNat ≤ 122)) || (decide (48 ≤ b.toNat) && decide (b.toNat ≤ 57)) || b.toNat == 95

set_option maxRecDepth 100000 in
set_option maxHeartbeats 1000000 in
/-- what is told: where the answer is true, the text is a word -/
theorem word_guard (s : List UInt8) (σ : Sto) (hl : s.length ≤ 140737488355328) : CallW Tryz.prog EV 11 [.lit (.string (bs s))] σ fun r σ' => (∃ c : Bool, r = .ret (.lit (.bool c)) ∧ (c = true → s ≠ [] ∧ s.all wch = true ∧ s.length ≤ 100)) ∧ σ' = σ := by
  refine CallW.start (fn := Tryz.f11) (M := []) rfl rfl rfl rfl (by simp) fun tm hlen hs => ?_
  have h0 := hs 0 _ rfl
  clear hs
  simp at hlen
  refine CW.hide fun R0 hR0 => ?_
  have done : ∀ (c : Bool) (tm : List AV), (c = true → s ≠ [] ∧ s.all wch = true ∧ s.length ≤ 100) → tm.length = 60 → slot tm 2 = .lit (.bool c) → R0 .ret tm σ := by
    intro c tm hc hlen h2
    refine hR0 _ _ _ ⟨.lit (.bool c), ?_, ⟨c, rfl, hc⟩, rfl⟩
    simp (maxDischargeDepth := 16) [resultsA, omap, res_tmp, slot_eq, slot_ne, hlen, h2]
  clear hR0
  refine CW.seqK fun K hK => CW.region ?_
  simp (maxDischargeDepth := 16) [symB, List.length_set, andThen, hlen, h0]
  refine hK _ _ ?_; clear hK K
  refine CW.seqK fun K hK => ?_
  refine CW.seqK fun K hK => CW.region ?_
  simp (maxDischargeDepth := 16) [symB, List.length_set, andThen, hlen, h0]
  refine hK _ _ ?_; clear hK K
  refine CW.block ?_
  refine CW.hide fun R hR => ?_
  refine CW.loopI (fun r tm σ1 => ∃ i, r = s.length - i ∧ i ≤ s.length ∧ (s.take i).all wch = true ∧ tm.length = 60 ∧ slot tm 0 = .lit (.string (bs s)) ∧ slot tm 3 = .lit (.int .i64 i) ∧ σ1 = σ) ?_ _ _ _
    ⟨0, rfl, by omega, rfl, by simp [hlen], by simp (maxDischargeDepth := 16) [slot_ne, h0], by simp (maxDischargeDepth := 16) [slot_eq, hlen], rfl⟩
  clear h0 hlen tm
  rintro r tm σ1 ⟨i, rfl, hi, hw, hlen, h0, h3, rfl⟩
  refine CW.hide fun R2 hR2 => ?_
  refine CW.seqK fun K3 hK3 => ?_
  refine CW.seqK fun K4 hK4 => CW.region ?_
  by_cases hlt : i < s.length
  · have hlt' : (i : Int) < s.length := by omega
    simp (maxDischargeDepth := 16) [symB, List.length_set, andThen, hlen, h0, h3, bsz, hlt', hlt]
    refine hK4 _ _ ?_
    refine CW.cond (t := true) (by simp (maxDischargeDepth := 16) [evx_tmp, slot_eq, slot_ne, hlen]) ?_
    refine CW.skip ?_
    simp only [andThen]
    refine hK3 _ _ ?_
    have hg : (bs s)[i]? = some s[i] := by rw [bs_get, List.getElem?_eq_getElem hlt]
    have htk : s.take (i + 1) = s.take i ++ [s[i]] := by rw [List.take_add_one, List.getElem?_eq_getElem hlt]; rfl
    generalize s[i] = c at *
    have hwk : IntKind.i64.wrap ((i : Int) + 1) = ((i + 1 : Nat) : Int) := by rw [IntWalk.i64_in _ ⟨by omega, by omega⟩]; omega
    refine CW.seqK fun K5 hK5 => CW.block ?_
    refine CW.seqK fun K6 hK6 => CW.region ?_
    have good : wch c = true → ∀ tm : List AV, tm.length = 60 → slot tm 0 = .lit (.string (bs s)) → slot tm 3 = .lit (.int .i64 i) → slot tm 38 = .lit (.bool false) → K6 tm σ1 := by
      intro hc tm hlen h0 h3 h38
      refine hK6 _ _ ?_
      refine CW.cond (t := false) (by simp (maxDischargeDepth := 16) [evx_tmp, slot_eq, slot_ne, hlen, h38]) ?_
      refine CW.skip ?_
      simp only [andThen, outOf]
      refine hK5 _ _ ?_
      refine CW.region ?_
      simp (maxDischargeDepth := 16) [symB, List.length_set, andThen, hlen, h3, hwk]
      refine hR2 _ _ _ ⟨s.length - (i + 1), by omega, i + 1, rfl, hlt, ?_, by simp [hlen], by simp (maxDischargeDepth := 16) [slot_ne, h0], by simp (maxDischargeDepth := 16) [slot_eq, hlen], rfl⟩
      rw [htk, List.all_append, hw]
      simp [hc]
    have bad : ∀ tm : List AV, tm.length = 60 → slot tm 38 = .lit (.bool true) → K6 tm σ1 := by
      intro tm hlen h38
      refine hK6 _ _ ?_
      refine CW.cond (t := true) (by simp (maxDischargeDepth := 16) [evx_tmp, slot_eq, slot_ne, hlen, h38]) ?_
      refine CW.seqK fun K7 hK7 => CW.region ?_
      simp (maxDischargeDepth := 16) [symB, List.length_set, andThen, hlen]
      refine hK7 _ _ ?_
      refine CW.ret ?_
      simp only [andThen, outOf]
      exact hR2 _ _ _ (hR _ _ _ (done false _ (fun h => by cases h) (by simp [hlen]) (by simp (maxDischargeDepth := 16) [slot_eq, slot_ne, hlen])))
    by_cases c1 : 97 ≤ c.toNat ∧ c.toNat ≤ 122
    · have a1 : (97 : Int) ≤ (c.toNat : Int) := by omega
      have a2 : (c.toNat : Int) ≤ 122 := by omega
      simp (maxDischargeDepth := 16) [symB, List.length_set, andThen, hlen, h0, h3, hg, a1, a2, c1.1, c1.2]
      exact good (by simp [wch, c1.1, c1.2]) _ (by simp [hlen]) (by simp (maxDischargeDepth := 16) [slot_ne, h0]) (by simp (maxDischargeDepth := 16) [slot_ne, h3]) (by simp (maxDischargeDepth := 16) [slot_eq, slot_ne, hlen])
    · by_cases c2 : 97 ≤ c.toNat
      · have n2 : ¬ c.toNat ≤ 122 := fun h => c1 ⟨c2, h⟩
        have n3 : 48 ≤ c.toNat := by omega
        have n4 : ¬ c.toNat ≤ 57 := by omega
        have n5 : ¬ c.toNat = 95 := by omega
        have a1 : (97 : Int) ≤ (c.toNat : Int) := by omega
        have a2 : ¬ (c.toNat : Int) ≤ 122 := by omega
        have a3 : (48 : Int) ≤ (c.toNat : Int) := by omega
        have a4 : ¬ (c.toNat : Int) ≤ 57 := by omega
        have a5 : ¬ (c.toNat : Int) = 95 := by omega
        simp (maxDischargeDepth := 16) [symB, List.length_set, andThen, hlen, h0, h3, hg, a1, a2, a3, a4, a5, c2, n2, n3, n4, n5]
        exact bad _ (by simp [hlen]) (by simp (maxDischargeDepth := 16) [slot_eq, slot_ne, hlen, a1, a2, a3, a4, a5, c2, n2, n3, n4, n5])
      · have a1 : ¬ (97 : Int) ≤ (c.toNat : Int) := by omega
        by_cases c3 : 48 ≤ c.toNat
        · have a3 : (48 : Int) ≤ (c.toNat : Int) := by omega
          by_cases c4 : c.toNat ≤ 57
          · have a4 : (c.toNat : Int) ≤ 57 := by omega
            simp (maxDischargeDepth := 16) [symB, List.length_set, andThen, hlen, h0, h3, hg, a1, a3, a4, c2, c3, c4]
            exact good (by simp [wch, c3, c4]) _ (by simp [hlen]) (by simp (maxDischargeDepth := 16) [slot_ne, h0]) (by simp (maxDischargeDepth := 16) [slot_ne, h3]) (by simp (maxDischargeDepth := 16) [slot_eq, slot_ne, hlen])
          · have a4 : ¬ (c.toNat : Int) ≤ 57 := by omega
            by_cases c5 : c.toNat = 95
            · have a5 : (c.toNat : Int) = 95 := by omega
              simp (maxDischargeDepth := 16) [symB, List.length_set, andThen, hlen, h0, h3, hg, a1, a3, a4, a5, c2, c3, c4, c5]
              exact good (by simp [wch, c5]) _ (by simp [hlen]) (by simp (maxDischargeDepth := 16) [slot_ne, h0]) (by simp (maxDischargeDepth := 16) [slot_ne, h3]) (by simp (maxDischargeDepth := 16) [slot_eq, slot_ne, hlen])
            · have a5 : ¬ (c.toNat : Int) = 95 := by omega
              simp (maxDischargeDepth := 16) [symB, List.length_set, andThen, hlen, h0, h3, hg, a1, a3, a4, a5, c2, c3, c4, c5]
              exact bad _ (by simp [hlen]) (by simp (maxDischargeDepth := 16) [slot_eq, slot_ne, hlen, a1, a3, a4, a5, c2, c3, c4, c5])
        · have a3 : ¬ (48 : Int) ≤ (c.toNat : Int) := by omega
          have c5 : ¬ c.toNat = 95 := by omega
          have a5 : ¬ (c.toNat : Int) = 95 := by omega
          simp (maxDischargeDepth := 16) [symB, List.length_set, andThen, hlen, h0, h3, hg, a1, a3, a5, c2, c3, c5]
          exact bad _ (by simp [hlen]) (by simp (maxDischargeDepth := 16) [slot_eq, slot_ne, hlen, a1, a3, a5, c2, c3, c5])
  · have hlt' : ¬ (i : Int) < s.length := by omega
    rw [List.take_of_length_le (by omega)] at hw
    simp (maxDischargeDepth := 16) [symB, List.length_set, andThen, hlen, h0, h3, bsz, hlt', hlt]
    refine hK4 _ _ ?_
    refine CW.cond (t := false) (by simp (maxDischargeDepth := 16) [evx_tmp, slot_eq, slot_ne, hlen, hlt]) ?_
    refine CW.exit ?_
    simp only [andThen]
    refine hR2 _ _ _ (hR _ _ _ ?_)
    simp only [outOf, if_true, andThen]
    refine hK _ _ ?_
    refine CW.seqK fun K7 hK7 => CW.region ?_
    have fin : ∀ (c : Bool) (tm : List AV), (c = true → s ≠ [] ∧ s.all wch = true ∧ s.length ≤ 100) → tm.length = 60 → slot tm 2 = .lit (.bool c) → K7 tm σ1 := by
      intro c tm hc hl h2
      refine hK7 _ _ ?_
      exact CW.ret (done c tm hc hl h2)
    cases s with
    | nil =>
      simp (maxDischargeDepth := 16) [symB, List.length_set, andThen, hlen, h0, bsz]
      exact fin false _ (fun h => by cases h) (by simp [hlen]) (by simp (maxDischargeDepth := 16) [slot_eq, slot_ne, hlen])
    | cons x s =>
      have l1 : (0 : Int) < ((x :: s).length : Int) := by simp
      have l2 : 0 < (x :: s).length := by simp
      by_cases l3 : (x :: s).length ≤ 100
      · have l4 : ((x :: s).length : Int) ≤ 100 := by omega
        have fin2 : ∀ (c : Bool) (tm : List AV), tm.length = 60 → slot tm 2 = .lit (.bool c) → K7 tm σ1 := fun c tm => fin c tm fun _ => ⟨by simp, hw, l3⟩
        have hg0 : (bs (x :: s))[0]? = some x := by rw [bs_get]; rfl
        have hg1 : ∀ h, (bs (x :: s))[0]'h = x := fun h => rfl
        have ht1 : (bs (x :: s)).toList = x :: s := bs_list _
        have ht2 : (⟨#[116, 114, 117, 101]⟩ : ByteArray).toList = bTrue := bs_list bTrue
        have ht3 : (⟨#[102, 97, 108, 115, 101]⟩ : ByteArray).toList = bFalse := bs_list bFalse
        have hsz : (bs (x :: s)).size = (x :: s).length := bsz _
        generalize (x :: s) = u at *
        by_cases l5 : 97 ≤ x.toNat
        · have l6 : (97 : Int) ≤ (x.toNat : Int) := by omega
          have hne1 : ¬ bFalse = bTrue := by decide
          by_cases e1 : u = bTrue
          · have ht1 : (bs u).toList = bTrue := ht1.trans e1
            simp (maxDischargeDepth := 16) [symB, List.length_set, andThen, hlen, h0, hsz, l1, l2, l3, l4, hg0, hg1, l5, l6, ht1, ht2, ht3]
            exact fin2 false _ (by simp [hlen]) (by simp (maxDischargeDepth := 16) [slot_eq, slot_ne, hlen])
          · by_cases e2 : u = bFalse
            · have ht1 : (bs u).toList = bFalse := ht1.trans e2
              simp (maxDischargeDepth := 16) [symB, List.length_set, andThen, hlen, h0, hsz, l1, l2, l3, l4, hg0, hg1, l5, l6, ht1, ht2, ht3, hne1]
              exact fin2 false _ (by simp [hlen]) (by simp (maxDischargeDepth := 16) [slot_eq, slot_ne, hlen])
            · have ht4 : ¬ (bs u).toList = bTrue := by rw [ht1]; exact e1
              have ht5 : ¬ (bs u).toList = bFalse := by rw [ht1]; exact e2
              clear ht1
              simp (maxDischargeDepth := 16) [symB, List.length_set, andThen, hlen, h0, hsz, l1, l2, l3, l4, hg0, hg1, l5, l6, ht4, ht5, ht2, ht3, e1, e2]
              exact fin2 true _ (by simp [hlen]) (by simp (maxDischargeDepth := 16) [slot_eq, slot_ne, hlen, ht4, ht5])
        · have l6 : ¬ (97 : Int) ≤ (x.toNat : Int) := by omega
          simp (maxDischargeDepth := 16) [symB, List.length_set, andThen, hlen, h0, hsz, l1, l2, l3, l4, hg0, hg1, l5, l6]
          exact fin2 false _ (by simp [hlen]) (by simp (maxDischargeDepth := 16) [slot_eq, slot_ne, hlen, l5, l6])
      · have l4 : ¬ ((x :: s).length : Int) ≤ 100 := by omega
        have hsz : (bs (x :: s)).size = (x :: s).length := bsz _
        generalize (x :: s) = u at *
        simp (maxDischargeDepth := 16) [symB, List.length_set, andThen, hlen, h0, hsz, l1, l2, l3, l4]
        exact fin false _ (fun h => by cases h) (by simp [hlen]) (by simp (maxDischargeDepth := 16) [slot_eq, slot_ne, hlen, l3, l4])

end Go.Proofs.YtcjjmejmpdhikaaGreatDoor

namespace Go.Proofs.YtcjjmejmpdhikaaGreatDoor
set_option linter.unusedSimpArgs false
set_option linter.unusedVariables false
open Go.RowKit

mutual
/-- a value as it came in: no part beyond all -/
def bndV : Vl → Prop
  | .mk k b d t n f => d.length ≤ 140737488355328 ∧ n.length ≤ 140737488355328 ∧ f.length ≤ 140737488355328 ∧ bndVs f
def bndVs : List Vl → Prop
  | [] => True
  | v :: l => bndV v ∧ bndVs l
end
theorem bndVs_mem : ∀ {l : List Vl} {v : Vl}, bndVs l → v ∈ l → bndV v
  | a :: l, v, hs, h => by
    rw [bndVs] at hs
    rcases List.mem_cons.1 h with rfl | h
    · exact hs.1
    · exact bndVs_mem hs.2 h
theorem countVs_append (a b : List Vl) : countVs (a ++ b) = countVs a + countVs b := by
  induction a with
  | nil => simp [countVs]
  | cons v l ih => rw [List.cons_append, countVs, countVs, ih]; omega
theorem eighth2 (n : Nat) (h : n ≤ 140737488355328) : IntKind.i64.wrap ((n : Int).tdiv 8) = ((n / 8 : Nat) : Int) ∧ IntKind.i64.wrap ((n : Int) / 8) = ((n / 8 : Nat) : Int) := by
  have h1 : (n : Int) / 8 = ((n / 8 : Nat) : Int) := by omega
  refine ⟨?_, ?_⟩
  · rw [Int.tdiv_eq_ediv_of_nonneg (by omega), h1]; exact IntWalk.i64_in _ ⟨by omega, by omega⟩
  · rw [h1]; exact IntWalk.i64_in _ ⟨by omega, by omega⟩

set_option maxRecDepth 100000 in
set_option maxHeartbeats 2000000 in
theorem valueOf_ev (N : Nat) : ∀ (v : Vl) (most : Nat) (t1 t2 : Tok) (σ : Sto), SizeOf.sizeOf v < N → bndV v → most ≤ 300 → CallW Tryz.prog EV 23 [aggV v t1 t2, .lit (.int .i64 most)] σ fun r σ' => (∃ n : Nat, r = .ret (.lit (.int .i64 n)) ∧ 1 ≤ n ∧ n ≤ 281474976710656 + most ∧ (n ≤ most → countV v ≤ n)) ∧ Ext σ σ' := by
  induction N with
  | zero => intro v _ _ _ _ h; omega
  | succ N ih =>
    intro v most t1 t2 σ hN hb hmost
    have hcv : countV v = countV v := rfl
    obtain ⟨k, b, d, t, n, f⟩ := v
    obtain ⟨hd, hn, hf, hbf⟩ := hb
    have hcv : countV (.mk k b d t n f) = 1 + d.length + n.length / 8 + countVs f := by rw [countV]
    generalize countV (.mk k b d t n f) = cv at *
    unfold aggV
    refine CallW.start (fn := Tryz.f23) (M := []) rfl rfl rfl rfl (by simp) fun tm hlen hs => ?_
    have h0 := hs 0 _ rfl
    have h1 := hs 1 _ rfl
    clear hs
    simp at hlen
    refine CW.hide fun R0 hR0 => ?_
    refine CW.seqK fun K hK => CW.region ?_
    simp (maxDischargeDepth := 16) [symB, List.length_set, andThen, hlen, h0]
    refine hK _ _ ?_; clear hK K
    have ha : (σ ++ [AObj.cells [.lit (.int .u8 k), .lit (.bool b), .sl (d32 d) t1, .lit (.bool t), .lit (.string (bs n)), .sl (rowsV f) t2] 37])[σ.length]? = some (.cells [.lit (.int .u8 k), .lit (.bool b), .sl (d32 d) t1, .lit (.bool t), .lit (.string (bs n)), .sl (rowsV f) t2] 37) := by simp
    have hx : Ext σ (σ ++ [AObj.cells [.lit (.int .u8 k), .lit (.bool b), .sl (d32 d) t1, .lit (.bool t), .lit (.string (bs n)), .sl (rowsV f) t2] 37]) := ⟨_, rfl⟩
    generalize (σ ++ [AObj.cells [.lit (.int .u8 k), .lit (.bool b), .sl (d32 d) t1, .lit (.bool t), .lit (.string (bs n)), .sl (rowsV f) t2] 37]) = σA at *
    obtain ⟨hq1, hq2⟩ := eighth2 n.length hn
    have hq3 : n.length / 8 ≤ 17592186044416 := by omega
    generalize n.length / 8 = q at *
    have hw1 : IntKind.i64.wrap (1 + (d.length : Int)) = ((1 + d.length : Nat) : Int) := by rw [IntWalk.i64_in _ ⟨by omega, by omega⟩]; omega
    have hw2 : IntKind.i64.wrap (((1 + d.length : Nat) : Int) + (q : Int)) = ((1 + d.length + q : Nat) : Int) := by rw [IntWalk.i64_in _ ⟨by omega, by omega⟩]; omega
    have hw3 : IntKind.i64.wrap (1 + (d.length : Int) + (q : Int)) = ((1 + d.length + q : Nat) : Int) := by rw [IntWalk.i64_in _ ⟨by omega, by omega⟩]; omega
    refine CW.seqK fun K hK => CW.region ?_
    simp (maxDischargeDepth := 16) [symB, List.length_set, andThen, hlen, ha, d32_len, bsz, hq1, hq2, hw1, hw2, hw3]
    refine hK _ _ ?_; clear hK K
    refine CW.seqK fun K hK => ?_
    refine CW.seqK fun K hK => CW.region ?_
    simp (maxDischargeDepth := 16) [symB, List.length_set, andThen, hlen]
    refine hK _ _ ?_; clear hK K
    refine CW.block ?_
    refine CW.hide fun R hR => ?_
    refine CW.loopI (fun r tm σ1 => ∃ i m : Nat, r = f.length - i ∧ i ≤ f.length ∧ 1 ≤ m ∧ m ≤ 281474976710656 + most ∧ (m ≤ most → 1 + d.length + q + countVs (f.take i) ≤ m) ∧ tm.length = 41 ∧ slot tm 1 = .lit (.int .i64 most) ∧ slot tm 2 = .ptr σ.length 0 ∧ slot tm 5 = .lit (.int .i64 m) ∧ slot tm 6 = .lit (.int .i64 i) ∧ Ext σA σ1) ?_ _ _ _
      ⟨0, 1 + d.length + q, rfl, by omega, by omega, by omega, fun _ => by simp [countVs], by simp [hlen], by simp (maxDischargeDepth := 16) [slot_ne, h1], by simp (maxDischargeDepth := 16) [slot_eq, slot_ne, hlen], by simp (maxDischargeDepth := 16) [slot_eq, slot_ne, hlen], by simp (maxDischargeDepth := 16) [slot_eq, hlen], .refl _⟩
    clear h0 h1 hlen tm
    rintro r tm σ1 ⟨i, m, rfl, hi, hm1, hm2, hP, hlen, h1, h2, h5, h6, hext⟩
    have ha1 := hext.get ha
    refine CW.hide fun R2 hR2 => ?_
    refine CW.seqK fun K3 hK3 => ?_
    refine CW.seqK fun K4 hK4 => CW.region ?_
    have stop : ∀ (tm : List AV), (m ≤ most → cv ≤ m) → tm.length = 41 → slot tm 5 = .lit (.int .i64 m) → R2 (.exit 0) tm σ1 := by
      intro tm hsm hlen h5
      refine hR2 _ _ _ (hR _ _ _ ?_)
      simp only [outOf, if_true, andThen]
      refine hK _ _ ?_
      refine CW.seqK fun K hK => CW.region ?_
      simp (maxDischargeDepth := 16) [symB, List.length_set, andThen, hlen, h5]
      refine hK _ _ ?_; clear hK K
      refine CW.ret (hR0 _ _ _ ⟨.lit (.int .i64 m), ?_, ⟨m, rfl, hm1, hm2, hsm⟩, hx.trans hext⟩)
      simp (maxDischargeDepth := 16) [resultsA, omap, res_tmp, slot_eq, slot_ne, hlen]
    by_cases hlt : i < f.length
    · have hlt' : (i : Int) < f.length := by omega
      by_cases hmm : m ≤ most
      · have hmm' : (m : Int) ≤ most := by omega
        have hpre := hP hmm
        simp (maxDischargeDepth := 16) [symB, List.length_set, andThen, hlen, h1, h2, h5, h6, ha1, rowsV_len, hlt', hlt, hmm, hmm']
        refine hK4 _ _ ?_
        refine CW.cond (t := true) (by simp (maxDischargeDepth := 16) [evx_tmp, slot_eq, slot_ne, hlen]) ?_
        refine CW.skip ?_
        simp only [andThen]
        refine hK3 _ _ ?_
        have hg := rowsV_get hlt
        have hmem := List.getElem_mem hlt
        have htake : f.take (i + 1) = f.take i ++ [f[i]] := by rw [List.take_add_one, List.getElem?_eq_getElem hlt]; rfl
        generalize f[i] = x at *
        have hc := ih x (most - m) .no .no σ1 (by have := List.sizeOf_lt_of_mem hmem; simp at hN; omega) (bndVs_mem hbf hmem) (by omega)
        have htk2 : countVs (f.take (i + 1)) = countVs (f.take i) + countV x := by rw [htake, countVs_append]; simp [countVs]
        generalize countV x = cx at *
        obtain ⟨xk, xb, xd, xt, xn, xf⟩ := x
        rw [rowV] at hg
        unfold aggV at hc
        have hwk : IntKind.i64.wrap ((i : Int) + 1) = ((i + 1 : Nat) : Int) := by rw [IntWalk.i64_in _ ⟨by omega, by omega⟩]; omega
        have hwd : IntKind.i64.wrap ((most : Int) - (m : Int)) = ((most - m : Nat) : Int) := by rw [IntWalk.i64_in _ ⟨by omega, by omega⟩]; omega
        refine CW.seqK fun K5 hK5 => CW.block ?_
        refine CW.region ?_
        simp (maxDischargeDepth := 16) [symB, List.length_set, andThen, outOf, hlen, h1, h2, h5, h6, ha1, hg, hwd]
        refine hc.mono ?_
        rintro r σ2 ⟨⟨c, rfl, hc1, hc2, hc3⟩, hx2⟩
        have hwm : IntKind.i64.wrap ((m : Int) + (c : Int)) = ((m + c : Nat) : Int) := by rw [IntWalk.i64_in _ ⟨by omega, by omega⟩]; omega
        simp (maxDischargeDepth := 16) [symB, List.length_set, retK, andThen, outOf, hlen, hwm]
        refine hK5 _ _ ?_
        refine CW.region ?_
        simp (maxDischargeDepth := 16) [symB, List.length_set, andThen, hlen, h6, hwk]
        refine hR2 _ _ _ ⟨f.length - (i + 1), by omega, i + 1, m + c, rfl, by omega, by omega, by omega, ?_, by simp [hlen], by simp (maxDischargeDepth := 16) [slot_ne, h1], by simp (maxDischargeDepth := 16) [slot_ne, h2], by simp (maxDischargeDepth := 16) [slot_eq, slot_ne, hlen], by simp (maxDischargeDepth := 16) [slot_eq, hlen], hext.trans hx2⟩
        intro hle
        have := hc3 (by omega)
        omega
      · have hmm' : ¬ (m : Int) ≤ most := by omega
        simp (maxDischargeDepth := 16) [symB, List.length_set, andThen, hlen, h1, h2, h5, h6, ha1, rowsV_len, hlt', hlt, hmm, hmm']
        refine hK4 _ _ ?_
        refine CW.cond (t := false) (by simp (maxDischargeDepth := 16) [evx_tmp, slot_eq, slot_ne, hlen]) ?_
        refine CW.exit ?_
        simp only [andThen]
        exact stop _ (fun h => absurd h hmm) (by simp [hlen]) (by simp (maxDischargeDepth := 16) [slot_ne, h5])
    · have hlt' : ¬ (i : Int) < f.length := by omega
      simp (maxDischargeDepth := 16) [symB, List.length_set, andThen, hlen, h1, h2, h5, h6, ha1, rowsV_len, hlt', hlt]
      refine hK4 _ _ ?_
      refine CW.cond (t := false) (by simp (maxDischargeDepth := 16) [evx_tmp, slot_eq, slot_ne, hlen, hlt]) ?_
      refine CW.exit ?_
      simp only [andThen]
      refine stop _ (fun h => ?_) (by simp [hlen]) (by simp (maxDischargeDepth := 16) [slot_ne, h5])
      have := hP h
      rw [List.take_of_length_le (by omega)] at this
      omega

/-- a value's row, with any tokens -/
def rowT (x : Vl × Tok × Tok) : List AV := match x.1 with | .mk k b d t n f => [.lit (.int .u8 k), .lit (.bool b), .sl (d32 d) x.2.1, .lit (.bool t), .lit (.string (bs n)), .sl (rowsV f) x.2.2]

def rowsT (g : List (Vl × Tok × Tok)) : List (List AV) := g.map rowT
theorem rowsT_len (g : List (Vl × Tok × Tok)) : (rowsT g).length = g.length := List.length_map ..
theorem rowsT_get {g : List (Vl × Tok × Tok)} {i : Nat} (h : i < g.length) : (rowsT g)[i]? = some (rowT g[i]) := by unfold rowsT; rw [List.getElem?_map, List.getElem?_eq_getElem h]; rfl

set_option maxRecDepth 100000 in
set_option maxHeartbeats 2000000 in
theorem valuesOf_ev (g : List (Vl × Tok × Tok)) (tok : Tok) (σ : Sto) (hbf : bndVs (g.map (·.1))) (hf : g.length ≤ 1000) : CallW Tryz.prog EV 9 [.sl (rowsT g) tok, .lit (.int .i64 300)] σ fun r σ' => (∃ n : Nat, r = .ret (.lit (.int .i64 n)) ∧ (n ≤ 300 → countVs (g.map (·.1)) ≤ n)) ∧ Ext σ σ' := by
  refine CallW.start (fn := Tryz.f9) (M := []) rfl rfl rfl rfl (by simp) fun tm hlen hs => ?_
  have h0 := hs 0 _ rfl
  have h1 := hs 1 _ rfl
  clear hs
  simp at hlen
  refine CW.hide fun R0 hR0 => ?_
  refine CW.seqK fun K hK => CW.region ?_
  simp (maxDischargeDepth := 16) [symB, List.length_set, andThen, hlen]
  refine hK _ _ ?_; clear hK K
  refine CW.seqK fun K hK => CW.region ?_
  simp (maxDischargeDepth := 16) [symB, List.length_set, andThen, hlen]
  refine hK _ _ ?_; clear hK K
  refine CW.seqK fun K hK => ?_
  refine CW.seqK fun K hK => CW.region ?_
  simp (maxDischargeDepth := 16) [symB, List.length_set, andThen, hlen]
  refine hK _ _ ?_; clear hK K
  refine CW.block ?_
  refine CW.hide fun R hR => ?_
  refine CW.loopI (fun r tm σ1 => ∃ i m : Nat, r = g.length - i ∧ i ≤ g.length ∧ m ≤ 281474976710656 + 300 ∧ (m ≤ 300 → countVs ((g.take i).map (·.1)) ≤ m) ∧ tm.length = 29 ∧ slot tm 0 = .sl (rowsT g) tok ∧ slot tm 1 = .lit (.int .i64 300) ∧ slot tm 5 = .lit (.int .i64 m) ∧ slot tm 6 = .lit (.int .i64 i) ∧ Ext σ σ1) ?_ _ _ _
    ⟨0, 0, rfl, by omega, by omega, fun _ => by simp [countVs], by simp [hlen], by simp (maxDischargeDepth := 16) [slot_ne, h0], by simp (maxDischargeDepth := 16) [slot_ne, h1], by simp (maxDischargeDepth := 16) [slot_eq, slot_ne, hlen], by simp (maxDischargeDepth := 16) [slot_eq, hlen], .refl _⟩
  clear h0 h1 hlen tm
  rintro r tm σ1 ⟨i, m, rfl, hi, hm2, hP, hlen, h0, h1, h5, h6, hext⟩
  refine CW.hide fun R2 hR2 => ?_
  refine CW.seqK fun K3 hK3 => ?_
  refine CW.seqK fun K4 hK4 => CW.region ?_
  have stop : ∀ (tm : List AV), (m ≤ 300 → countVs (g.map (·.1)) ≤ m) → tm.length = 29 → slot tm 5 = .lit (.int .i64 m) → R2 (.exit 0) tm σ1 := by
    intro tm hsm hlen h5
    refine hR2 _ _ _ (hR _ _ _ ?_)
    simp only [outOf, if_true, andThen]
    refine hK _ _ ?_
    refine CW.seqK fun K hK => CW.region ?_
    simp (maxDischargeDepth := 16) [symB, List.length_set, andThen, hlen, h5]
    refine hK _ _ ?_; clear hK K
    refine CW.ret (hR0 _ _ _ ⟨.lit (.int .i64 m), ?_, ⟨m, rfl, hsm⟩, hext⟩)
    simp (maxDischargeDepth := 16) [resultsA, omap, res_tmp, slot_eq, slot_ne, hlen]
  by_cases hlt : i < g.length
  · have hlt' : (i : Int) < g.length := by omega
    by_cases hmm : m ≤ 300
    · have hmm' : (m : Int) ≤ 300 := by omega
      have hpre := hP hmm
      simp (maxDischargeDepth := 16) [symB, List.length_set, andThen, hlen, h0, h1, h5, h6, rowsT_len, hlt', hlt, hmm, hmm']
      refine hK4 _ _ ?_
      refine CW.cond (t := true) (by simp (maxDischargeDepth := 16) [evx_tmp, slot_eq, slot_ne, hlen]) ?_
      refine CW.skip ?_
      simp only [andThen]
      refine hK3 _ _ ?_
      have hg := rowsT_get hlt
      have hmem := List.getElem_mem hlt
      have htake : g.take (i + 1) = g.take i ++ [g[i]] := by rw [List.take_add_one, List.getElem?_eq_getElem hlt]; rfl
      generalize g[i] = y at *
      obtain ⟨x, ta, tb⟩ := y
      have hmem : x ∈ g.map (·.1) := List.mem_map.2 ⟨_, hmem, rfl⟩
      have hc := valueOf_ev (SizeOf.sizeOf x + 1) x (300 - m) ta tb σ1 (Nat.lt_succ_self _) (bndVs_mem hbf hmem) (by omega)
      have htk2 : countVs ((g.take (i + 1)).map (·.1)) = countVs ((g.take i).map (·.1)) + countV x := by rw [htake, List.map_append, countVs_append]; simp [countVs]
      generalize countV x = cx at *
      obtain ⟨xk, xb, xd, xt, xn, xf⟩ := x
      unfold rowT at hg
      dsimp only at hg
      unfold aggV at hc
      have hwk : IntKind.i64.wrap ((i : Int) + 1) = ((i + 1 : Nat) : Int) := by rw [IntWalk.i64_in _ ⟨by omega, by omega⟩]; omega
      have hwd : IntKind.i64.wrap (300 - (m : Int)) = ((300 - m : Nat) : Int) := by rw [IntWalk.i64_in _ ⟨by omega, by omega⟩]; omega
      refine CW.seqK fun K5 hK5 => CW.block ?_
      refine CW.region ?_
      simp (maxDischargeDepth := 16) [symB, List.length_set, andThen, outOf, hlen, h0, h1, h5, h6, hg, hwd]
      refine hc.mono ?_
      rintro r σ2 ⟨⟨c, rfl, hc1, hc2, hc3⟩, hx2⟩
      have hwm : IntKind.i64.wrap ((m : Int) + (c : Int)) = ((m + c : Nat) : Int) := by rw [IntWalk.i64_in _ ⟨by omega, by omega⟩]; omega
      simp (maxDischargeDepth := 16) [symB, List.length_set, retK, andThen, outOf, hlen, hwm]
      refine hK5 _ _ ?_
      refine CW.region ?_
      simp (maxDischargeDepth := 16) [symB, List.length_set, andThen, hlen, h6, hwk]
      refine hR2 _ _ _ ⟨g.length - (i + 1), by omega, i + 1, m + c, rfl, by omega, by omega, ?_, by simp [hlen], by simp (maxDischargeDepth := 16) [slot_ne, h0], by simp (maxDischargeDepth := 16) [slot_ne, h1], by simp (maxDischargeDepth := 16) [slot_eq, slot_ne, hlen], by simp (maxDischargeDepth := 16) [slot_eq, hlen], hext.trans hx2⟩
      intro hle
      have := hc3 (by omega)
      omega
    · have hmm' : ¬ (m : Int) ≤ 300 := by omega
      simp (maxDischargeDepth := 16) [symB, List.length_set, andThen, hlen, h0, h1, h5, h6, rowsT_len, hlt', hlt, hmm, hmm']
      refine hK4 _ _ ?_
      refine CW.cond (t := false) (by simp (maxDischargeDepth := 16) [evx_tmp, slot_eq, slot_ne, hlen]) ?_
      refine CW.exit ?_
      simp only [andThen]
      exact stop _ (fun h => absurd h hmm) (by simp [hlen]) (by simp (maxDischargeDepth := 16) [slot_ne, h5])
  · have hlt' : ¬ (i : Int) < g.length := by omega
    simp (maxDischargeDepth := 16) [symB, List.length_set, andThen, hlen, h0, h1, h5, h6, rowsT_len, hlt', hlt]
    refine hK4 _ _ ?_
    refine CW.cond (t := false) (by simp (maxDischargeDepth := 16) [evx_tmp, slot_eq, slot_ne, hlen, hlt]) ?_
    refine CW.exit ?_
    simp only [andThen]
    refine stop _ (fun h => ?_) (by simp [hlen]) (by simp (maxDischargeDepth := 16) [slot_ne, h5])
    have := hP h
    rw [List.take_of_length_le (by omega)] at this
    omega

theorem lowVs_snoc : ∀ (l : List Vl) (v : Vl), lowVs l → lowV v → lowVs (l ++ [v])
  | [], v, _, h => by rw [List.nil_append, lowVs]; exact ⟨h, by rw [lowVs]; trivial⟩
  | a :: l, v, h1, h2 => by
    rw [lowVs] at h1
    rw [List.cons_append, lowVs]
    exact ⟨h1.1, lowVs_snoc l v h1.2 h2⟩

set_option maxRecDepth 100000 in
set_option maxHeartbeats 2000000 in
theorem shallow_ev (N : Nat) : ∀ (v : Vl) (deep : Nat) (t1 t2 : Tok) (σ : Sto), SizeOf.sizeOf v < N → bndV v → deep ≤ 100 → CallW Tryz.prog EV 10 [aggV v t1 t2, .lit (.int .i64 deep)] σ fun r σ' => (∃ c : Bool, r = .ret (.lit (.bool c)) ∧ (c = true → lowV v)) ∧ Ext σ σ' := by
  induction N with
  | zero => intro v _ _ _ _ h; omega
  | succ N ih =>
    intro v deep t1 t2 σ hN hb hdeep
    obtain ⟨k, b, d, t, n, f⟩ := v
    obtain ⟨hd, hn, hf, hbf⟩ := hb
    have hlow : d.length ≤ 40 → lowVs f → lowV (.mk k b d t n f) := fun h1 h2 => by rw [lowV]; exact ⟨h1, h2⟩
    generalize lowV (.mk k b d t n f) = LV at *
    unfold aggV
    refine CallW.start (fn := Tryz.f10) (M := []) rfl rfl rfl rfl (by simp) fun tm hlen hs => ?_
    have h0 := hs 0 _ rfl
    have h1 := hs 1 _ rfl
    clear hs
    simp at hlen
    refine CW.hide fun R0 hR0 => ?_
    have done : ∀ (c : Bool) (tm : List AV) (σ1 : Sto), (c = true → LV) → tm.length = 31 → slot tm 4 = .lit (.bool c) → Ext σ σ1 → R0 .ret tm σ1 := by
      intro c tm σ1 hc hlen h4 hx
      refine hR0 _ _ _ ⟨.lit (.bool c), ?_, ⟨c, rfl, hc⟩, hx⟩
      simp (maxDischargeDepth := 16) [resultsA, omap, res_tmp, slot_eq, slot_ne, hlen, h4]
    clear hR0
    refine CW.seqK fun K hK => CW.region ?_
    simp (maxDischargeDepth := 16) [symB, List.length_set, andThen, hlen, h0]
    refine hK _ _ ?_; clear hK K
    have ha : (σ ++ [AObj.cells [.lit (.int .u8 k), .lit (.bool b), .sl (d32 d) t1, .lit (.bool t), .lit (.string (bs n)), .sl (rowsV f) t2] 37])[σ.length]? = some (.cells [.lit (.int .u8 k), .lit (.bool b), .sl (d32 d) t1, .lit (.bool t), .lit (.string (bs n)), .sl (rowsV f) t2] 37) := by simp
    have hx : Ext σ (σ ++ [AObj.cells [.lit (.int .u8 k), .lit (.bool b), .sl (d32 d) t1, .lit (.bool t), .lit (.string (bs n)), .sl (rowsV f) t2] 37]) := ⟨_, rfl⟩
    generalize (σ ++ [AObj.cells [.lit (.int .u8 k), .lit (.bool b), .sl (d32 d) t1, .lit (.bool t), .lit (.string (bs n)), .sl (rowsV f) t2] 37]) = σA at *
    refine CW.seqK fun K hK => ?_
    refine CW.seqK fun K2 hK2 => CW.region ?_
    have no : ∀ tm : List AV, tm.length = 31 → slot tm 14 = .lit (.bool true) → K2 tm σA := by
      intro tm hlen h14
      refine hK2 _ _ ?_
      refine CW.cond (t := true) (by simp (maxDischargeDepth := 16) [evx_tmp, slot_eq, slot_ne, hlen, h14]) ?_
      refine CW.seqK fun K7 hK7 => CW.region ?_
      simp (maxDischargeDepth := 16) [symB, List.length_set, andThen, hlen]
      refine hK7 _ _ ?_
      refine CW.ret ?_
      simp only [andThen]
      exact done false _ _ (fun h => by cases h) (by simp [hlen]) (by simp (maxDischargeDepth := 16) [slot_eq, slot_ne, hlen]) hx
    by_cases hd0 : deep = 0
    · subst hd0
      simp (maxDischargeDepth := 16) [symB, List.length_set, andThen, hlen, h1]
      exact no _ (by simp [hlen]) (by simp (maxDischargeDepth := 16) [slot_eq, slot_ne, hlen])
    · have hd0' : ¬ (deep : Int) = 0 := by omega
      by_cases hd4 : d.length ≤ 40
      · have hd4' : ¬ (40 : Int) < (d.length : Int) := by omega
        have hd4'' : ¬ 40 < d.length := by omega
        simp (maxDischargeDepth := 16) [symB, List.length_set, andThen, hlen, h1, ha, hd0, hd0', d32_len, hd4', hd4'']
        refine hK2 _ _ ?_
        refine CW.cond (t := false) (by simp (maxDischargeDepth := 16) [evx_tmp, slot_eq, slot_ne, hlen, hd0, hd0', hd4', hd4'']) ?_
        refine CW.skip ?_
        simp only [andThen]
        refine hK _ _ ?_; clear hK K hK2 K2 no
        have hlow := hlow hd4
        refine CW.seqK fun K hK => ?_
        refine CW.seqK fun K hK => CW.region ?_
        simp (maxDischargeDepth := 16) [symB, List.length_set, andThen, hlen]
        refine hK _ _ ?_; clear hK K
        refine CW.block ?_
        refine CW.hide fun R hR => ?_
        refine CW.loopI (fun r tm σ1 => ∃ i, r = f.length - i ∧ i ≤ f.length ∧ lowVs (f.take i) ∧ tm.length = 31 ∧ slot tm 1 = .lit (.int .i64 deep) ∧ slot tm 2 = .ptr σ.length 0 ∧ slot tm 5 = .lit (.int .i64 i) ∧ Ext σA σ1) ?_ _ _ _
          ⟨0, rfl, by omega, by rw [List.take_zero, lowVs]; trivial, by simp [hlen], by simp (maxDischargeDepth := 16) [slot_ne, h1], by simp (maxDischargeDepth := 16) [slot_eq, slot_ne, hlen], by simp (maxDischargeDepth := 16) [slot_eq, hlen], .refl _⟩
        clear h0 h1 hlen tm
        rintro r tm σ1 ⟨i, rfl, hi, hE, hlen, h1, h2, h5, hext⟩
        have ha1 := hext.get ha
        refine CW.hide fun R2 hR2 => ?_
        refine CW.seqK fun K3 hK3 => ?_
        refine CW.seqK fun K4 hK4 => CW.region ?_
        by_cases hlt : i < f.length
        · have hlt' : (i : Int) < f.length := by omega
          simp (maxDischargeDepth := 16) [symB, List.length_set, andThen, hlen, h2, h5, ha1, rowsV_len, hlt', hlt]
          refine hK4 _ _ ?_
          refine CW.cond (t := true) (by simp (maxDischargeDepth := 16) [evx_tmp, slot_eq, slot_ne, hlen]) ?_
          refine CW.skip ?_
          simp only [andThen]
          refine hK3 _ _ ?_
          have hg := rowsV_get hlt
          have hmem := List.getElem_mem hlt
          have htake : f.take (i + 1) = f.take i ++ [f[i]] := by rw [List.take_add_one, List.getElem?_eq_getElem hlt]; rfl
          generalize f[i] = x at *
          have hc := ih x (deep - 1) .no .no σ1 (by have := List.sizeOf_lt_of_mem hmem; simp at hN; omega) (bndVs_mem hbf hmem) (by omega)
          have hsn : lowV x → lowVs (f.take (i + 1)) := fun h => by rw [htake]; exact lowVs_snoc _ _ hE h
          generalize lowV x = lx at *
          obtain ⟨xk, xb, xd, xt, xn, xf⟩ := x
          rw [rowV] at hg
          unfold aggV at hc
          have hwk : IntKind.i64.wrap ((i : Int) + 1) = ((i + 1 : Nat) : Int) := by rw [IntWalk.i64_in _ ⟨by omega, by omega⟩]; omega
          have hwd : IntKind.i64.wrap ((deep : Int) - 1) = ((deep - 1 : Nat) : Int) := by rw [IntWalk.i64_in _ ⟨by omega, by omega⟩]; omega
          refine CW.seqK fun K5 hK5 => CW.block ?_
          refine CW.seqK fun K6 hK6 => CW.region ?_
          simp (maxDischargeDepth := 16) [symB, List.length_set, andThen, hlen, h1, h2, h5, ha1, hg, hwd]
          refine hc.mono ?_
          rintro r σ2 ⟨⟨c, rfl, hc1⟩, hx2⟩
          cases c with
          | true =>
            simp (maxDischargeDepth := 16) [symB, List.length_set, andThen, hlen, retK]
            refine hK6 _ _ ?_
            refine CW.cond (t := false) (by simp (maxDischargeDepth := 16) [evx_tmp, slot_eq, slot_ne, hlen]) ?_
            refine CW.skip ?_
            simp only [andThen, outOf]
            refine hK5 _ _ ?_
            refine CW.region ?_
            simp (maxDischargeDepth := 16) [symB, List.length_set, andThen, hlen, h5, hwk]
            exact hR2 _ _ _ ⟨f.length - (i + 1), by omega, i + 1, rfl, hlt, hsn (hc1 rfl), by simp [hlen], by simp (maxDischargeDepth := 16) [slot_ne, h1], by simp (maxDischargeDepth := 16) [slot_ne, h2], by simp (maxDischargeDepth := 16) [slot_eq, hlen], hext.trans hx2⟩
          | false =>
            simp (maxDischargeDepth := 16) [symB, List.length_set, andThen, hlen, retK]
            refine hK6 _ _ ?_
            refine CW.cond (t := true) (by simp (maxDischargeDepth := 16) [evx_tmp, slot_eq, slot_ne, hlen]) ?_
            refine CW.seqK fun K7 hK7 => CW.region ?_
            simp (maxDischargeDepth := 16) [symB, List.length_set, andThen, hlen]
            refine hK7 _ _ ?_
            refine CW.ret ?_
            simp only [andThen, outOf]
            exact hR2 _ _ _ (hR _ _ _ (done false _ _ (fun h => by cases h) (by simp [hlen]) (by simp (maxDischargeDepth := 16) [slot_eq, slot_ne, hlen]) ((hx.trans hext).trans hx2)))
        · have hlt' : ¬ (i : Int) < f.length := by omega
          simp (maxDischargeDepth := 16) [symB, List.length_set, andThen, hlen, h2, h5, ha1, rowsV_len, hlt', hlt]
          refine hK4 _ _ ?_
          refine CW.cond (t := false) (by simp (maxDischargeDepth := 16) [evx_tmp, slot_eq, slot_ne, hlen, hlt]) ?_
          refine CW.exit ?_
          simp only [andThen]
          refine hR2 _ _ _ (hR _ _ _ ?_)
          simp only [outOf, if_true, andThen]
          refine hK _ _ ?_
          refine CW.seqK fun K hK => CW.region ?_
          simp (maxDischargeDepth := 16) [symB, List.length_set, andThen, hlen]
          refine hK _ _ ?_; clear hK K
          rw [List.take_of_length_le (by omega)] at hE
          exact CW.ret (done true _ _ (fun _ => hlow hE) (by simp [hlen]) (by simp (maxDischargeDepth := 16) [slot_eq, slot_ne, hlen]) (hx.trans hext))
      · have hd4' : (40 : Int) < (d.length : Int) := by omega
        have hd4'' : 40 < d.length := by omega
        simp (maxDischargeDepth := 16) [symB, List.length_set, andThen, hlen, h1, ha, hd0, hd0', d32_len, hd4', hd4'']
        exact no _ (by simp [hlen]) (by simp (maxDischargeDepth := 16) [slot_eq, slot_ne, hlen, hd0, hd0', hd4', hd4''])

end Go.Proofs.YtcjjmejmpdhikaaGreatDoor

namespace Go.Proofs.YtcjjmejmpdhikaaGreatDoor
set_option linter.unusedSimpArgs false
set_option linter.unusedVariables false
open Go.RowKit

theorem small_count (N : Nat) : (∀ v : Vl, SizeOf.sizeOf v < N → countV v ≤ 300 → smallV v ∧ ∀ ds, okV ds v → rightV v) ∧ (∀ f : List Vl, SizeOf.sizeOf f < N → countVs f ≤ 300 → smallVs f ∧ f.length ≤ countVs f ∧ ∀ ds, okVs ds f → rightVs f) := by
  induction N with
  | zero => exact ⟨fun v h => by omega, fun f h => by omega⟩
  | succ N ih =>
    constructor
    · intro v hN hc
      obtain ⟨k, b, d, t, n, f⟩ := v
      rw [countV] at hc
      obtain ⟨h1, h2, h3⟩ := ih.2 f (by simp at hN; omega) (by omega)
      refine ⟨by rw [smallV]; exact ⟨by omega, by omega, h1⟩, ?_⟩
      intro ds ho
      rw [okV] at ho
      rw [rightV]
      refine ⟨by omega, ?_, ?_⟩
      · intro hk
        rcases ho with ⟨_, hr, _⟩ | ⟨h, _⟩ | ⟨h, _⟩
        · exact hr
        · omega
        · omega
      · rcases ho with ⟨_, _, _, _, rfl⟩ | ⟨_, _, _, _, rfl⟩ | ⟨_, _, _, _, _, _, h⟩
        · rw [rightVs]; trivial
        · rw [rightVs]; trivial
        · exact h3 ds h
    · intro f hN hc
      cases f with
      | nil => exact ⟨by rw [smallVs]; trivial, by simp, fun _ _ => by rw [rightVs]; trivial⟩
      | cons v l =>
        rw [countVs] at hc
        obtain ⟨h1, h2⟩ := ih.1 v (by simp at hN; omega) (by omega)
        obtain ⟨g1, g2, g3⟩ := ih.2 l (by simp at hN; omega) (by omega)
        have hv : 1 ≤ countV v := by cases v; rw [countV]; omega
        refine ⟨by rw [smallVs]; exact ⟨h1, g1⟩, by rw [countVs]; simp; omega, ?_⟩
        intro ds ho
        rw [okVs] at ho
        rw [rightVs]
        exact ⟨h2 ds ho.1, g3 ds ho.2⟩

/-- what the plain law says of a value of the sort -/
theorem back_one (ds : List Data) (sort : List UInt8) (hn : namesP ds) (v : Vl) (hc : countV v ≤ 300) (hl : lowV v) (ho : ofV ds sort v = true) : rightV v ∧ (valText v).length ≤ 36000 ∧ parseV ds sort (valText v) = (v, true) := by
  have hok := (okV_of ds _).1 v sort (Nat.lt_succ_self _) ho
  obtain ⟨hw, ht⟩ := (tree_wf ds hn _).1 v 0 (Nat.lt_succ_self _) hok (by omega)
  have hr := ((small_count _).1 v (Nat.lt_succ_self _) hc).2 ds hok
  exact ⟨hr, by omega, parseV_back ds sort hok ((short_low ds _).1 v (Nat.lt_succ_self _) hok hl) ho hw (by omega)⟩
theorem back_two (ds : List Data) (sort : List UInt8) (hn : namesP ds) (v w : Vl) (hc : countV v ≤ 300) (hc2 : countV w ≤ 300) (ho : ofV ds sort v = true) (ho2 : ofV ds sort w = true) : rightV w ∧ (valText w).length ≤ 36000 ∧ (valText w == valText v) = eqV v w := by
  have hok := (okV_of ds _).1 v sort (Nat.lt_succ_self _) ho
  have hok2 := (okV_of ds _).1 w sort (Nat.lt_succ_self _) ho2
  obtain ⟨hw, ht⟩ := (tree_wf ds hn _).1 v 0 (Nat.lt_succ_self _) hok (by omega)
  obtain ⟨hw2, ht2⟩ := (tree_wf ds hn _).1 w 0 (Nat.lt_succ_self _) hok2 (by omega)
  refine ⟨((small_count _).1 w (Nat.lt_succ_self _) hc2).2 ds hok2, by omega, ?_⟩
  rw [Bool.eq_iff_iff, beq_iff_eq, eqV_iff]
  constructor
  · intro h
    exact valText_inj ds hok hok2 hw hw2 (by omega) h.symm
  · rintro rfl; rfl

set_option maxRecDepth 100000 in
set_option maxHeartbeats 2000000 in
theorem back_tail (ds : List Data) (tok : Tok) (hds : smallD ds) (sort : List UInt8) (v w : Vl) (t1 t2 t3 t4 : Tok) (i6 i7 : Nat) (σ : Sto) (hsv : smallV v) (hsw : smallV w)
    (hb1 : ofV ds sort v = true → rightV v ∧ (valText v).length ≤ 36000 ∧ parseV ds sort (valText v) = (v, true))
    (hb2 : ofV ds sort v = true → ofV ds sort w = true → rightV w ∧ (valText w).length ≤ 36000 ∧ (valText w == valText v) = eqV v w)
    (tm : List AV) (R0 : AExit → List AV → Sto → Prop)
    (hlen : tm.length = 95) (h0 : slot tm 0 = .sl (rowsD ds) tok) (h1 : slot tm 1 = .lit (.string (bs sort))) (h6 : slot tm 6 = .ptr i6 0) (h7 : slot tm 7 = .ptr i7 0)
    (hv : ∀ c, aggV v t1 t2 = .agg c → σ[i6]? = some (.cells c 37)) (hw : ∀ c, aggV w t3 t4 = .agg c → σ[i7]? = some (.cells c 37))
    (done : ∀ (tm : List AV) (σ1 : Sto), tm.length = 95 → slot tm 8 = .lit (.bool true) → Ext σ σ1 → R0 .ret tm σ1) :
    CW Tryz.prog EV [] (tailC 4 (Tryz.f4.body.getD .skip)) tm σ R0 := by
  have hof := fun (t1 t2 : Tok) (σ : Sto) => Of_ev ds tok hds v sort t1 t2 σ hsv
  have hof2 := fun (t1 t2 : Tok) (σ : Sto) => Of_ev ds tok hds w sort t1 t2 σ hsw
  have hsame := fun (ta tb ta2 tb2 : Tok) (σ : Sto) => (same2_ev (SizeOf.sizeOf v + 1)).1 v v ta tb ta2 tb2 σ (Nat.lt_succ_self _) hsv hsv
  have hsame2 := fun (ta tb ta2 tb2 : Tok) (σ : Sto) => (same2_ev (SizeOf.sizeOf v + 1)).1 v w ta tb ta2 tb2 σ (Nat.lt_succ_self _) hsv hsw
  rw [(eqV_iff v v).2 rfl] at hsame
  have htx := fun (t1 t2 : Tok) (σ : Sto) (h : rightV v) (h2 : (valText v).length ≤ 900000) => vtext_ev v t1 t2 σ h h2
  have htx2 := fun (t1 t2 : Tok) (σ : Sto) (h : rightV w) (h2 : (valText w).length ≤ 900000) => vtext_ev w t1 t2 σ h h2
  have hp2 := fun (h : (valText v).length ≤ 1000000) σ => vparse_ev ds tok hds sort (valText v) σ h
  generalize valText v = vt at *
  generalize valText w = wt at *
  generalize hov : ofV ds sort v = ov at *
  generalize how : ofV ds sort w = ow at *
  generalize hee : eqV v w = ee at *
  clear hsv hsw
  obtain ⟨vk, vb, vd, vtt, vn, vf⟩ := v
  obtain ⟨wk, wb, wd, wtt, wn, wf⟩ := w
  have ho6 := hv _ rfl
  have ho7 := hw _ rfl
  clear hv hw
  unfold aggV at hof hof2 hsame hsame2 htx htx2
  refine CW.seqK fun K hK => ?_
  refine CW.seqK fun K2 hK2 => CW.region ?_
  simp (maxDischargeDepth := 16) [symB, List.length_set, andThen, hlen, h0, h1, h6, ho6]
  refine (hof t1 t2 σ).mono ?_
  rintro r σ2 ⟨rfl, hx2⟩
  have ho6 := hx2.get ho6
  have ho7 := hx2.get ho7
  cases ov with
  | false =>
    simp (maxDischargeDepth := 16) [symB, List.length_set, andThen, hlen, retK]
    refine hK2 _ _ ?_
    refine CW.cond (t := true) (by simp (maxDischargeDepth := 16) [evx_tmp, slot_eq, slot_ne, hlen]) ?_
    refine CW.seqK fun K3 hK3 => CW.region ?_
    simp (maxDischargeDepth := 16) [symB, List.length_set, andThen, hlen]
    refine hK3 _ _ ?_
    refine CW.ret ?_
    simp only [andThen]
    exact done _ _ (by simp [hlen]) (by simp (maxDischargeDepth := 16) [slot_eq, slot_ne, hlen]) hx2
  | true =>
    obtain ⟨g1, g2, g3⟩ := hb1 rfl
    simp (maxDischargeDepth := 16) [symB, List.length_set, andThen, hlen, retK]
    refine hK2 _ _ ?_
    refine CW.cond (t := false) (by simp (maxDischargeDepth := 16) [evx_tmp, slot_eq, slot_ne, hlen]) ?_
    refine CW.skip ?_
    simp only [andThen]
    refine hK _ _ ?_; clear hK K hK2 K2
    refine CW.reset (fun tm => tm.length = 95 ∧ slot tm 0 = .sl (rowsD ds) tok ∧ slot tm 1 = .lit (.string (bs sort)) ∧ slot tm 6 = .ptr i6 0 ∧ slot tm 7 = .ptr i7 0) ⟨by simp [hlen], by simp (maxDischargeDepth := 16) [slot_ne, h0], by simp (maxDischargeDepth := 16) [slot_ne, h1], by simp (maxDischargeDepth := 16) [slot_ne, h6], by simp (maxDischargeDepth := 16) [slot_ne, h7]⟩ ?_
    clear h0 h1 h6 h7 hlen tm
    rintro tm ⟨hlen, h0, h1, h6, h7⟩
    refine CW.seqK fun K hK => CW.region ?_
    simp (maxDischargeDepth := 16) [symB, List.length_set, andThen, hlen, h6, ho6]
    refine (htx t1 t2 σ2 g1 (by omega)).mono ?_
    rintro r σ3 ⟨rfl, hx3⟩
    have ho6 := hx3.get ho6
    have ho7 := hx3.get ho7
    simp (maxDischargeDepth := 16) [symB, List.length_set, andThen, hlen, retK]
    refine hK _ _ ?_; clear hK K
    refine CW.reset (fun tm => tm.length = 95 ∧ slot tm 0 = .sl (rowsD ds) tok ∧ slot tm 1 = .lit (.string (bs sort)) ∧ slot tm 6 = .ptr i6 0 ∧ slot tm 7 = .ptr i7 0 ∧ slot tm 11 = .lit (.string (bs vt))) ⟨by simp [hlen], by simp (maxDischargeDepth := 16) [slot_ne, h0], by simp (maxDischargeDepth := 16) [slot_ne, h1], by simp (maxDischargeDepth := 16) [slot_ne, h6], by simp (maxDischargeDepth := 16) [slot_ne, h7], by simp (maxDischargeDepth := 16) [slot_eq, slot_ne, hlen]⟩ ?_
    clear h0 h1 h6 h7 hlen tm
    rintro tm ⟨hlen, h0, h1, h6, h7, h11⟩
    refine CW.seqK fun K hK => CW.region ?_
    simp (maxDischargeDepth := 16) [symB, List.length_set, andThen, hlen, h0, h1, h11]
    refine (hp2 (by omega) σ3).mono ?_
    rintro r σ4 ⟨⟨w1, w2, rfl⟩, hx4⟩
    have ho6 := hx4.get ho6
    have ho7 := hx4.get ho7
    rw [g3]
    dsimp only
    unfold aggV
    simp (maxDischargeDepth := 16) [symB, List.length_set, andThen, hlen, retK]
    refine hK _ _ ?_; clear hK K
    have hx5 : Ext σ (σ4 ++ [AObj.cells [.lit (.int .u8 vk), .lit (.bool vb), .sl (d32 vd) w1, .lit (.bool vtt), .lit (.string (bs vn)), .sl (rowsV vf) w2] 37]) := (hx2.trans (hx3.trans hx4)).push _
    have hy5 : Ext σ4 (σ4 ++ [AObj.cells [.lit (.int .u8 vk), .lit (.bool vb), .sl (d32 vd) w1, .lit (.bool vtt), .lit (.string (bs vn)), .sl (rowsV vf) w2] 37]) := ⟨_, rfl⟩
    have ho12 : (σ4 ++ [AObj.cells [.lit (.int .u8 vk), .lit (.bool vb), .sl (d32 vd) w1, .lit (.bool vtt), .lit (.string (bs vn)), .sl (rowsV vf) w2] 37])[σ4.length]? = some (.cells [.lit (.int .u8 vk), .lit (.bool vb), .sl (d32 vd) w1, .lit (.bool vtt), .lit (.string (bs vn)), .sl (rowsV vf) w2] 37) := by simp
    have ho6 := hy5.get ho6
    have ho7 := hy5.get ho7
    generalize (σ4 ++ [AObj.cells [.lit (.int .u8 vk), .lit (.bool vb), .sl (d32 vd) w1, .lit (.bool vtt), .lit (.string (bs vn)), .sl (rowsV vf) w2] 37]) = σ5 at *
    generalize σ4.length = i12 at *
    refine CW.reset (fun tm => tm.length = 95 ∧ slot tm 0 = .sl (rowsD ds) tok ∧ slot tm 1 = .lit (.string (bs sort)) ∧ slot tm 6 = .ptr i6 0 ∧ slot tm 7 = .ptr i7 0 ∧ slot tm 11 = .lit (.string (bs vt)) ∧ slot tm 12 = .ptr i12 0 ∧ slot tm 13 = .lit (.bool true)) ⟨by simp [hlen], by simp (maxDischargeDepth := 16) [slot_ne, h0], by simp (maxDischargeDepth := 16) [slot_ne, h1], by simp (maxDischargeDepth := 16) [slot_ne, h6], by simp (maxDischargeDepth := 16) [slot_ne, h7], by simp (maxDischargeDepth := 16) [slot_ne, h11], by simp (maxDischargeDepth := 16) [slot_eq, slot_ne, hlen], by simp (maxDischargeDepth := 16) [slot_eq, slot_ne, hlen]⟩ ?_
    clear h0 h1 h6 h7 h11 hlen tm
    rintro tm ⟨hlen, h0, h1, h6, h7, h11, h12, h13⟩
    refine CW.seqK fun K hK => ?_
    refine CW.seqK fun K2 hK2 => CW.region ?_
    simp (maxDischargeDepth := 16) [symB, List.length_set, andThen, hlen, h6, h12, h13, ho6, ho12]
    refine (hsame w1 t1 w2 t2 σ5).mono ?_
    rintro r σ6 ⟨rfl, hx6⟩
    have ho6 := hx6.get ho6
    have ho7 := hx6.get ho7
    simp (maxDischargeDepth := 16) [symB, List.length_set, andThen, hlen, retK]
    refine hK2 _ _ ?_
    refine CW.cond (t := false) (by simp (maxDischargeDepth := 16) [evx_tmp, slot_eq, slot_ne, hlen]) ?_
    refine CW.skip ?_
    simp only [andThen]
    refine hK _ _ ?_; clear hK K hK2 K2
    refine CW.reset (fun tm => tm.length = 95 ∧ slot tm 0 = .sl (rowsD ds) tok ∧ slot tm 1 = .lit (.string (bs sort)) ∧ slot tm 6 = .ptr i6 0 ∧ slot tm 7 = .ptr i7 0 ∧ slot tm 11 = .lit (.string (bs vt))) ⟨by simp [hlen], by simp (maxDischargeDepth := 16) [slot_ne, h0], by simp (maxDischargeDepth := 16) [slot_ne, h1], by simp (maxDischargeDepth := 16) [slot_ne, h6], by simp (maxDischargeDepth := 16) [slot_ne, h7], by simp (maxDischargeDepth := 16) [slot_ne, h11]⟩ ?_
    clear h0 h1 h6 h7 h11 h12 h13 hlen tm
    rintro tm ⟨hlen, h0, h1, h6, h7, h11⟩
    have hxx : Ext σ σ6 := hx5.trans hx6
    refine CW.seqK fun K hK => CW.draw (by kernel_rfl) ?_
    simp (maxDischargeDepth := 16) [symB, List.length_set, andThen, hlen, h0, h1, h7, ho7]
    refine (hof2 t3 t4 σ6).mono ?_
    rintro r σ7 ⟨rfl, hx7⟩
    have hl6 := (List.getElem?_eq_some_iff.1 ho6).1
    have hl7 := (List.getElem?_eq_some_iff.1 ho7).1
    have hle7 : σ6.length ≤ σ7.length := by obtain ⟨g, rfl⟩ := hx7; simp
    have ho6' := hx7.get ho6
    have ho7' := hx7.get ho7
    cases ow with
    | false =>
      simp (maxDischargeDepth := 16) [symB, List.length_set, retK, andThen, hlen, h0, h1, h6, h7, h11, extB_of hx7]
      refine ⟨drawOk_rc σ6.length (by simp [okA, hl6, hl7, hle7]) (by kernel_rfl), hK _ _ ?_⟩
      exact CW.ret (done _ _ (by simp [hlen]) (by simp (maxDischargeDepth := 16) [slot_eq, slot_ne, hlen]) (hxx.trans hx7))
    | true =>
      obtain ⟨k1, k2, k3⟩ := hb2 rfl rfl
      simp (maxDischargeDepth := 16) [symB, List.length_set, retK, andThen, hlen, h0, h1, h6, h7, h11, ho6', ho7', extB_of hx7]
      refine (htx2 t3 t4 σ7 k1 (by omega)).mono ?_
      rintro r σ8 ⟨rfl, hx8⟩
      have hle8 : σ6.length ≤ σ8.length := by obtain ⟨g, rfl⟩ := hx8; simp; omega
      have ho6'' := hx8.get ho6'
      have ho7'' := hx8.get ho7'
      simp (maxDischargeDepth := 16) [symB, List.length_set, retK, andThen, hlen, h0, h1, h6, h7, h11, ho6'', ho7'', extB_of hx7, extB_of hx8, bs_list]
      refine (hsame2 t1 t3 t2 t4 σ8).mono ?_
      rintro r σ9 ⟨rfl, hx9⟩
      by_cases hwv : wt = vt
      · have hee1 : ee = true := by rw [← k3]; simpa using hwv
        subst hee1
        simp (maxDischargeDepth := 16) [symB, List.length_set, retK, andThen, hlen, h0, h1, h6, h7, h11, extB_of hx7, extB_of hx8, extB_of hx9, bs_list, hwv]
        refine ⟨drawOk_rc σ6.length (by simp [okA, hl6, hl7, hle7, hle8]) (by kernel_rfl), hK _ _ ?_⟩
        exact CW.ret (done _ _ (by simp [hlen]) (by simp (maxDischargeDepth := 16) [slot_eq, slot_ne, hlen, hwv]) (((hxx.trans hx7).trans hx8).trans hx9))
      · have hee1 : ee = false := by rw [← k3]; simpa using hwv
        subst hee1
        simp (maxDischargeDepth := 16) [symB, List.length_set, retK, andThen, hlen, h0, h1, h6, h7, h11, extB_of hx7, extB_of hx8, extB_of hx9, bs_list, hwv]
        refine ⟨drawOk_rc σ6.length (by simp [okA, hl6, hl7, hle7, hle8]) (by kernel_rfl), hK _ _ ?_⟩
        exact CW.ret (done _ _ (by simp [hlen]) (by simp (maxDischargeDepth := 16) [slot_eq, slot_ne, hlen, hwv]) (((hxx.trans hx7).trans hx8).trans hx9))

end Go.Proofs.YtcjjmejmpdhikaaGreatDoor

namespace Go.Proofs.YtcjjmejmpdhikaaGreatDoor
set_option linter.unusedSimpArgs false
set_option linter.unusedVariables false
open Go.RowKit

theorem wch_sgn {b : UInt8} (h : wch b = true) : sgn b = true := by
  unfold wch at h
  simp only [Bool.or_eq_true, Bool.and_eq_true, decide_eq_true_eq, beq_iff_eq] at h
  unfold sgn
  rcases h with (h | h) | h
  · have h1 : (97 : UInt8) ≤ b := UInt8.le_iff_toNat_le.2 h.1
    have h2 : b ≤ (122 : UInt8) := UInt8.le_iff_toNat_le.2 h.2
    simp [h1, h2]
  · have h1 : (48 : UInt8) ≤ b := UInt8.le_iff_toNat_le.2 h.1
    have h2 : b ≤ (57 : UInt8) := UInt8.le_iff_toNat_le.2 h.2
    simp [h1, h2]
  · have h1 : b = 95 := UInt8.toNat_inj.1 h
    subst h1; decide

theorem word_wordP {s : List UInt8} (h : s ≠ [] ∧ s.all wch = true ∧ s.length ≤ 100) : wordP s := by
  refine ⟨h.1, ?_, h.2.2⟩
  rw [List.all_eq_true]
  intro b hb
  exact wch_sgn (List.all_eq_true.1 h.2.1 b hb)

set_option maxRecDepth 100000 in
set_option maxHeartbeats 2000000 in
theorem back_loops (ds : List Data) (tok : Tok) (hb : bndD ds) (σ : Sto) (a1 a6 a7 : AV) (tm : List AV) (R0 : AExit → List AV → Sto → Prop)
    (hlen : tm.length = 95) (h0 : slot tm 0 = .sl (rowsD ds) tok) (h1 : slot tm 1 = a1) (h6 : slot tm 6 = a6) (h7 : slot tm 7 = a7)
    (done : ∀ (tm : List AV) (σ1 : Sto), tm.length = 95 → slot tm 8 = .lit (.bool true) → Ext σ σ1 → R0 .ret tm σ1)
    (next : namesP ds → ∀ tm : List AV, tm.length = 95 → slot tm 0 = .sl (rowsD ds) tok → slot tm 1 = a1 → slot tm 6 = a6 → slot tm 7 = a7 → CW Tryz.prog EV [] (tailC 4 (Tryz.f4.body.getD .skip)) tm σ R0) :
    CW Tryz.prog EV [] (tailC 3 (Tryz.f4.body.getD .skip)) tm σ R0 := by
  have hdl : (rowsD ds).length = ds.length := by simp [rowsD]
  refine CW.seqK fun K hK => ?_
  refine CW.seqK fun K hK => CW.region ?_
  simp (maxDischargeDepth := 16) [symB, List.length_set, andThen, hlen]
  refine hK _ _ ?_; clear hK K
  refine CW.block ?_
  refine CW.hide fun R hR => ?_
  refine CW.loopI (fun r tm σ1 => ∃ i, r = ds.length - i ∧ i ≤ ds.length ∧ (∀ d ∈ ds.take i, ∀ c ∈ d.2, wordP c.1) ∧ tm.length = 95 ∧ slot tm 0 = .sl (rowsD ds) tok ∧ slot tm 1 = a1 ∧ slot tm 6 = a6 ∧ slot tm 7 = a7 ∧ slot tm 9 = .lit (.int .i64 i) ∧ σ1 = σ) ?_ _ _ _
    ⟨0, rfl, by omega, fun d hd => by simp at hd, by simp [hlen], by simp (maxDischargeDepth := 16) [slot_ne, h0], by simp (maxDischargeDepth := 16) [slot_ne, h1], by simp (maxDischargeDepth := 16) [slot_ne, h6], by simp (maxDischargeDepth := 16) [slot_ne, h7], by simp (maxDischargeDepth := 16) [slot_eq, hlen], rfl⟩
  clear h0 h1 h6 h7 hlen tm
  rintro r tm σ1 ⟨i, rfl, hi, hP, hlen, h0, h1, h6, h7, h9, rfl⟩
  refine CW.hide fun R2 hR2 => ?_
  refine CW.seqK fun K3 hK3 => ?_
  refine CW.seqK fun K4 hK4 => CW.region ?_
  by_cases hlt : i < ds.length
  · have hlt' : (i : Int) < ds.length := by omega
    simp (maxDischargeDepth := 16) [symB, List.length_set, andThen, hlen, h0, h9, hdl, hlt', hlt]
    refine hK4 _ _ ?_
    refine CW.cond (t := true) (by simp (maxDischargeDepth := 16) [evx_tmp, slot_eq, slot_ne, hlen]) ?_
    refine CW.skip ?_
    simp only [andThen]
    refine hK3 _ _ ?_
    have hg := rowsD_get hlt
    have hmem := List.getElem_mem hlt
    have htake : ds.take (i + 1) = ds.take i ++ [ds[i]] := by rw [List.take_add_one, List.getElem?_eq_getElem hlt]; rfl
    generalize ds[i] = d at *
    obtain ⟨hd1, hd2, hd3⟩ := hb.2 d hmem
    have hcl : (rowsC d.2).length = d.2.length := by simp [rowsC]
    have hwk : IntKind.i64.wrap ((i : Int) + 1) = ((i + 1 : Nat) : Int) := by have := hb.1; rw [IntWalk.i64_in _ ⟨by omega, by omega⟩]; omega
    refine CW.seqK fun K5 hK5 => CW.block ?_
    refine CW.seqK fun K hK => CW.region ?_
    simp (maxDischargeDepth := 16) [symB, List.length_set, andThen, hlen]
    refine hK _ _ ?_; clear hK K
    refine CW.block ?_
    refine CW.hide fun R5 hR5 => ?_
    refine CW.loopI (fun r tm σ1' => ∃ j, r = d.2.length - j ∧ j ≤ d.2.length ∧ (∀ c ∈ d.2.take j, wordP c.1) ∧ tm.length = 95 ∧ slot tm 0 = .sl (rowsD ds) tok ∧ slot tm 1 = a1 ∧ slot tm 6 = a6 ∧ slot tm 7 = a7 ∧ slot tm 9 = .lit (.int .i64 i) ∧ slot tm 10 = .lit (.int .i64 j) ∧ σ1' = σ1) ?_ _ _ _
      ⟨0, rfl, by omega, fun d hd => by simp at hd, by simp [hlen], by simp (maxDischargeDepth := 16) [slot_ne, h0], by simp (maxDischargeDepth := 16) [slot_ne, h1], by simp (maxDischargeDepth := 16) [slot_ne, h6], by simp (maxDischargeDepth := 16) [slot_ne, h7], by simp (maxDischargeDepth := 16) [slot_ne, h9], by simp (maxDischargeDepth := 16) [slot_eq, hlen], rfl⟩
    clear h0 h1 h6 h7 h9 hlen tm
    rintro r tm σ2 ⟨j, rfl, hj, hQ, hlen, h0, h1, h6, h7, h9, h10, rfl⟩
    refine CW.hide fun R6 hR6 => ?_
    refine CW.seqK fun K6 hK6 => ?_
    refine CW.seqK fun K7 hK7 => CW.region ?_
    by_cases hjt : j < d.2.length
    · have hjt' : (j : Int) < d.2.length := by omega
      simp (maxDischargeDepth := 16) [symB, List.length_set, andThen, hlen, h0, h9, h10, hg, hcl, hjt', hjt]
      refine hK7 _ _ ?_
      refine CW.cond (t := true) (by simp (maxDischargeDepth := 16) [evx_tmp, slot_eq, slot_ne, hlen]) ?_
      refine CW.skip ?_
      simp only [andThen]
      refine hK6 _ _ ?_
      have hgc := rowsC_get hjt
      have hmc := List.getElem_mem hjt
      have htc : d.2.take (j + 1) = d.2.take j ++ [d.2[j]] := by rw [List.take_add_one, List.getElem?_eq_getElem hjt]; rfl
      generalize d.2[j] = c at *
      obtain ⟨hc1, hc2⟩ := hd3 c hmc
      have hwj : IntKind.i64.wrap ((j : Int) + 1) = ((j + 1 : Nat) : Int) := by rw [IntWalk.i64_in _ ⟨by omega, by omega⟩]; omega
      refine CW.seqK fun K8 hK8 => CW.block ?_
      refine CW.seqK fun K9 hK9 => CW.region ?_
      simp (maxDischargeDepth := 16) [symB, List.length_set, andThen, hlen, h0, h9, h10, hg, hgc]
      refine (word_guard c.1 σ2 hc1).mono ?_
      rintro r σ3 ⟨⟨ok, rfl, hok⟩, rfl⟩
      cases ok with
      | true =>
        simp (maxDischargeDepth := 16) [symB, List.length_set, andThen, hlen, retK]
        refine hK9 _ _ ?_
        refine CW.cond (t := false) (by simp (maxDischargeDepth := 16) [evx_tmp, slot_eq, slot_ne, hlen]) ?_
        refine CW.skip ?_
        simp only [andThen, outOf]
        refine hK8 _ _ ?_
        refine CW.region ?_
        simp (maxDischargeDepth := 16) [symB, List.length_set, andThen, hlen, h10, hwj]
        refine hR6 _ _ _ ⟨d.2.length - (j + 1), by omega, j + 1, rfl, by omega, ?_, by simp [hlen], by simp (maxDischargeDepth := 16) [slot_ne, h0], by simp (maxDischargeDepth := 16) [slot_ne, h1], by simp (maxDischargeDepth := 16) [slot_ne, h6], by simp (maxDischargeDepth := 16) [slot_ne, h7], by simp (maxDischargeDepth := 16) [slot_ne, h9], by simp (maxDischargeDepth := 16) [slot_eq, hlen], rfl⟩
        rw [htc]
        intro e he
        rcases List.mem_append.1 he with he | he
        · exact hQ e he
        · simp at he; subst he; exact word_wordP (hok rfl)
      | false =>
        simp (maxDischargeDepth := 16) [symB, List.length_set, andThen, hlen, retK]
        refine hK9 _ _ ?_
        refine CW.cond (t := true) (by simp (maxDischargeDepth := 16) [evx_tmp, slot_eq, slot_ne, hlen]) ?_
        refine CW.seqK fun K10 hK10 => CW.region ?_
        simp (maxDischargeDepth := 16) [symB, List.length_set, andThen, hlen]
        refine hK10 _ _ ?_
        refine CW.ret ?_
        simp only [andThen, outOf]
        refine hR6 _ _ _ (hR5 _ _ _ ?_)
        simp only [andThen, outOf]
        exact hR2 _ _ _ (hR _ _ _ (done _ _ (by simp [hlen]) (by simp (maxDischargeDepth := 16) [slot_eq, slot_ne, hlen]) (.refl _)))
    · have hjt' : ¬ (j : Int) < d.2.length := by omega
      simp (maxDischargeDepth := 16) [symB, List.length_set, andThen, hlen, h0, h9, h10, hg, hcl, hjt', hjt]
      refine hK7 _ _ ?_
      refine CW.cond (t := false) (by simp (maxDischargeDepth := 16) [evx_tmp, slot_eq, slot_ne, hlen]) ?_
      refine CW.exit ?_
      simp only [andThen]
      refine hR6 _ _ _ (hR5 _ _ _ ?_)
      simp only [outOf, if_true, andThen]
      refine hK5 _ _ ?_
      refine CW.region ?_
      simp (maxDischargeDepth := 16) [symB, List.length_set, andThen, hlen, h9, hwk]
      refine hR2 _ _ _ ⟨ds.length - (i + 1), by omega, i + 1, rfl, by omega, ?_, by simp [hlen], by simp (maxDischargeDepth := 16) [slot_ne, h0], by simp (maxDischargeDepth := 16) [slot_ne, h1], by simp (maxDischargeDepth := 16) [slot_ne, h6], by simp (maxDischargeDepth := 16) [slot_ne, h7], by simp (maxDischargeDepth := 16) [slot_eq, hlen], rfl⟩
      rw [List.take_of_length_le (by omega)] at hQ
      rw [htake]
      intro e he
      rcases List.mem_append.1 he with he | he
      · exact hP e he
      · simp at he; subst he; exact hQ
  · have hlt' : ¬ (i : Int) < ds.length := by omega
    simp (maxDischargeDepth := 16) [symB, List.length_set, andThen, hlen, h0, h9, hdl, hlt', hlt]
    refine hK4 _ _ ?_
    refine CW.cond (t := false) (by simp (maxDischargeDepth := 16) [evx_tmp, slot_eq, slot_ne, hlen]) ?_
    refine CW.exit ?_
    simp only [andThen]
    refine hR2 _ _ _ (hR _ _ _ ?_)
    simp only [outOf, if_true, andThen]
    refine hK _ _ ?_
    rw [List.take_of_length_le (by omega)] at hP
    exact next hP _ (by simp [hlen]) (by simp (maxDischargeDepth := 16) [slot_ne, h0]) (by simp (maxDischargeDepth := 16) [slot_ne, h1]) (by simp (maxDischargeDepth := 16) [slot_ne, h6]) (by simp (maxDischargeDepth := 16) [slot_ne, h7])

set_option maxRecDepth 100000 in
set_option maxHeartbeats 2000000 in
theorem valueBack_ev (ds : List Data) (tok : Tok) (hb : bndD ds) (sort : List UInt8) (v w : Vl) (t1 t2 t3 t4 : Tok) (hbv : bndV v) (hbw : bndV w) (σ : Sto) : CallW Tryz.prog EV 4 [.sl (rowsD ds) tok, .lit (.string (bs sort)), aggV v t1 t2, aggV w t3 t4] σ fun r σ' => r = .ret (.lit (.bool true)) ∧ Ext σ σ' := by
  have hvs := fun tok σ => valuesOf_ev [(v, t1, t2), (w, t3, t4)] tok σ (by simp only [List.map_cons, List.map_nil]; rw [bndVs, bndVs, bndVs]; exact ⟨hbv, hbw, trivial⟩) (by simp)
  simp only [rowsT, List.map_cons, List.map_nil] at hvs
  have hcount : countVs [v, w] = countV v + countV w := by simp [countVs]
  have hsh := fun (t1 t2 : Tok) σ => shallow_ev _ v 100 t1 t2 σ (Nat.lt_succ_self _) hbv (by omega)
  have htail := fun (hds : smallD ds) i6 i7 σ hsv hsw h1 h2 tm R0 => back_tail ds tok hds sort v w t1 t2 t3 t4 i6 i7 σ hsv hsw h1 h2 tm R0
  have hone := fun h h2 h3 => back_one ds sort h v h2 h3
  have htwo := fun h h2 h3 => back_two ds sort h v w h2 h3
  have hsm := (small_count _).1 v (Nat.lt_succ_self _)
  have hsm2 := (small_count _).1 w (Nat.lt_succ_self _)
  generalize hcv : countV v = cv at *
  generalize hcw : countV w = cw at *
  generalize lowV v = LV at *
  obtain ⟨vk, vb, vd, vtt, vn, vf⟩ := v
  obtain ⟨wk, wb, wd, wtt, wn, wf⟩ := w
  unfold aggV at hsh ⊢
  simp only [rowT] at hvs
  refine CallW.start (fn := Tryz.f4) (M := []) rfl rfl rfl rfl (by simp) fun tm hlen hss => ?_
  have h0 := hss 0 _ rfl
  have h1 := hss 1 _ rfl
  have h2 := hss 2 _ rfl
  have h3 := hss 3 _ rfl
  clear hss
  simp at hlen
  refine CW.hide fun R0 hR0 => ?_
  have done : ∀ (tm : List AV) (σ1 : Sto), tm.length = 95 → slot tm 8 = .lit (.bool true) → Ext σ σ1 → R0 .ret tm σ1 := by
    intro tm σ1 hlen h8 hx
    refine hR0 _ _ _ ⟨.lit (.bool true), ?_, rfl, hx⟩
    simp (maxDischargeDepth := 16) [resultsA, omap, res_tmp, slot_eq, slot_ne, hlen, h8]
  clear hR0
  refine CW.seqK fun K hK => CW.region ?_
  simp (maxDischargeDepth := 16) [symB, List.length_set, andThen, hlen, h2, h3]
  refine hK _ _ ?_; clear hK K
  have ha : (σ ++ [AObj.cells [.lit (.int .u8 vk), .lit (.bool vb), .sl (d32 vd) t1, .lit (.bool vtt), .lit (.string (bs vn)), .sl (rowsV vf) t2] 37, AObj.cells [.lit (.int .u8 wk), .lit (.bool wb), .sl (d32 wd) t3, .lit (.bool wtt), .lit (.string (bs wn)), .sl (rowsV wf) t4] 37])[σ.length]? = some (.cells [.lit (.int .u8 vk), .lit (.bool vb), .sl (d32 vd) t1, .lit (.bool vtt), .lit (.string (bs vn)), .sl (rowsV vf) t2] 37) := by simp
  have hbo : (σ ++ [AObj.cells [.lit (.int .u8 vk), .lit (.bool vb), .sl (d32 vd) t1, .lit (.bool vtt), .lit (.string (bs vn)), .sl (rowsV vf) t2] 37, AObj.cells [.lit (.int .u8 wk), .lit (.bool wb), .sl (d32 wd) t3, .lit (.bool wtt), .lit (.string (bs wn)), .sl (rowsV wf) t4] 37])[σ.length + 1]? = some (.cells [.lit (.int .u8 wk), .lit (.bool wb), .sl (d32 wd) t3, .lit (.bool wtt), .lit (.string (bs wn)), .sl (rowsV wf) t4] 37) := by rw [List.getElem?_append_right (by omega)]; simp
  have hx : Ext σ (σ ++ [AObj.cells [.lit (.int .u8 vk), .lit (.bool vb), .sl (d32 vd) t1, .lit (.bool vtt), .lit (.string (bs vn)), .sl (rowsV vf) t2] 37, AObj.cells [.lit (.int .u8 wk), .lit (.bool wb), .sl (d32 wd) t3, .lit (.bool wtt), .lit (.string (bs wn)), .sl (rowsV wf) t4] 37]) := ⟨_, rfl⟩
  generalize (σ ++ [AObj.cells [.lit (.int .u8 vk), .lit (.bool vb), .sl (d32 vd) t1, .lit (.bool vtt), .lit (.string (bs vn)), .sl (rowsV vf) t2] 37, AObj.cells [.lit (.int .u8 wk), .lit (.bool wb), .sl (d32 wd) t3, .lit (.bool wtt), .lit (.string (bs wn)), .sl (rowsV wf) t4] 37]) = σA at *
  refine CW.seqK fun K hK => ?_
  refine CW.seqK fun K2 hK2 => CW.region ?_
  simp (maxDischargeDepth := 16) [symB, List.length_set, andThen, hlen]
  refine (awake_ev σA).mono ?_
  rintro r σ2 ⟨rfl, hx2⟩
  simp (maxDischargeDepth := 16) [symB, List.length_set, andThen, hlen, retK]
  refine hK2 _ _ ?_
  refine CW.cond (t := false) (by simp (maxDischargeDepth := 16) [evx_tmp, slot_eq, slot_ne, hlen]) ?_
  refine CW.skip ?_
  simp only [andThen]
  refine hK _ _ ?_; clear hK K hK2 K2
  refine CW.reset (fun tm => tm.length = 95 ∧ slot tm 0 = .sl (rowsD ds) tok ∧ slot tm 1 = .lit (.string (bs sort)) ∧ slot tm 6 = .ptr σ.length 0 ∧ slot tm 7 = .ptr (σ.length + 1) 0) ⟨by simp [hlen], by simp (maxDischargeDepth := 16) [slot_ne, h0], by simp (maxDischargeDepth := 16) [slot_ne, h1], by simp (maxDischargeDepth := 16) [slot_eq, slot_ne, hlen], by simp (maxDischargeDepth := 16) [slot_eq, slot_ne, hlen]⟩ ?_
  clear h0 h1 h2 h3 hlen tm
  rintro tm ⟨hlen, h0, h1, h6, h7⟩
  have ha := hx2.get ha
  have hbo := hx2.get hbo
  have hx := hx.trans hx2
  refine CW.seqK fun K hK => ?_
  refine CW.seqK fun K2 hK2 => CW.region ?_
  have early : ∀ (tm : List AV) (σ3 : Sto), Ext σ σ3 → tm.length = 95 → slot tm 30 = .lit (.bool true) → K2 tm σ3 := by
    intro tm σ3 hx hlen h20
    refine hK2 _ _ ?_
    refine CW.cond (t := true) (by simp (maxDischargeDepth := 16) [evx_tmp, slot_eq, slot_ne, hlen, h20]) ?_
    refine CW.seqK fun K3 hK3 => CW.region ?_
    simp (maxDischargeDepth := 16) [symB, List.length_set, andThen, hlen]
    refine hK3 _ _ ?_
    refine CW.ret ?_
    simp only [andThen]
    exact done _ _ (by simp [hlen]) (by simp (maxDischargeDepth := 16) [slot_eq, slot_ne, hlen]) hx
  simp (maxDischargeDepth := 16) [symB, List.length_set, andThen, hlen, h0]
  refine (datas_ev ds tok hb σ2).mono ?_
  rintro r σ3 ⟨n, rfl, rfl, hsmd⟩
  by_cases hn : n ≤ 300
  · have hn' : ¬ (300 : Int) < (n : Int) := by omega
    have hn2 : ¬ 300 < n := by omega
    simp (maxDischargeDepth := 16) [symB, List.length_set, retK, andThen, hlen, h6, h7, ha, hbo, hn', hn2]
    refine (hvs _ _).mono ?_
    rintro r σ4 ⟨⟨m, rfl, hm⟩, hx4⟩
    have hy3 : Ext σ3 σ4 := hx4
    have ha := hy3.get ha
    have hbo := hy3.get hbo
    have hx := hx.trans hy3
    by_cases hmm : m ≤ 300
    · have hmm' : ¬ (300 : Int) < (m : Int) := by omega
      have hmm2 : ¬ 300 < m := by omega
      simp (maxDischargeDepth := 16) [symB, List.length_set, retK, andThen, hlen, h6, h7, ha, hbo, hmm', hmm2, hn', hn2]
      refine (hsh t1 t2 σ4).mono ?_
      rintro r σ5 ⟨⟨c, rfl, hc⟩, hx5⟩
      have ha := hx5.get ha
      have hbo := hx5.get hbo
      have hx := hx.trans hx5
      cases c with
      | false =>
        simp (maxDischargeDepth := 16) [symB, List.length_set, retK, andThen, hlen, h6, h7, ha, hbo, hmm', hmm2, hn', hn2]
        exact early _ _ hx (by simp [hlen]) (by simp (maxDischargeDepth := 16) [slot_eq, slot_ne, hlen])
      | true =>
        simp (maxDischargeDepth := 16) [symB, List.length_set, retK, andThen, hlen, h6, h7, ha, hbo, hmm', hmm2, hn', hn2]
        refine hK2 _ _ ?_
        refine CW.cond (t := false) (by simp (maxDischargeDepth := 16) [evx_tmp, slot_eq, slot_ne, hlen]) ?_
        refine CW.skip ?_
        simp only [andThen]
        refine hK _ _ ?_; clear hK K hK2 K2 early
        have hmc := hm hmm
        refine back_loops ds tok hb σ5 (.lit (.string (bs sort))) (.ptr σ.length 0) (.ptr (σ.length + 1) 0) _ R0 (by simp [hlen]) (by simp (maxDischargeDepth := 16) [slot_ne, h0]) (by simp (maxDischargeDepth := 16) [slot_ne, h1]) (by simp (maxDischargeDepth := 16) [slot_ne, h6]) (by simp (maxDischargeDepth := 16) [slot_ne, h7]) (fun tm σ1 h h' hx' => done tm σ1 h h' (hx.trans hx')) ?_
        intro hnp tm hlen h0 h1 h6 h7
        refine htail (hsmd hn) σ.length (σ.length + 1) σ5 (hsm (by omega)).1 (hsm2 (by omega)).1 (hone hnp (by omega) (hc rfl)) (htwo hnp (by omega) (by omega)) tm R0 hlen h0 h1 h6 h7 ?_ ?_ (fun tm σ1 h h' hx' => done tm σ1 h h' (hx.trans hx'))
        · intro c hc; unfold aggV at hc; cases hc; exact ha
        · intro c hc; unfold aggV at hc; cases hc; exact hbo
    · have hmm' : (300 : Int) < (m : Int) := by omega
      have hmm2 : 300 < m := by omega
      simp (maxDischargeDepth := 16) [symB, List.length_set, retK, andThen, hlen, h6, h7, ha, hbo, hmm', hmm2, hn', hn2]
      exact early _ _ hx (by simp [hlen]) (by simp (maxDischargeDepth := 16) [slot_eq, slot_ne, hlen])
  · have hn' : (300 : Int) < (n : Int) := by omega
    have hn2 : 300 < n := by omega
    simp (maxDischargeDepth := 16) [symB, List.length_set, retK, andThen, hlen, hn', hn2]
    exact early _ _ hx (by simp [hlen]) (by simp (maxDischargeDepth := 16) [slot_eq, slot_ne, hlen])

end Go.Proofs.YtcjjmejmpdhikaaGreatDoor
