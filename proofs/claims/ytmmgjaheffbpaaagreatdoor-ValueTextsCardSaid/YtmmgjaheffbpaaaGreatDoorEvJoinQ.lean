/-
 EV: strings.Join at one blank; FormatBool.
-/
import Derived.Test.YtmmgjaheffbpaaaGreatDoorEvValueQ
namespace Go.Proofs.YtmmgjaheffbpaaaGreatDoor
set_option maxRecDepth 100000
set_option maxHeartbeats 8000000
set_option linter.unusedSimpArgs false
set_option linter.unusedVariables false
set_option linter.unusedSectionVars false
section
open Go.RowKit
def joinW : List (List UInt8) → List UInt8
 | [] => []
 | [w] => w
 | w :: v :: l => w ++ 32 :: joinW (v :: l)
def sumL : List (List UInt8) → Nat
 | [] => 0
 | w :: l => w.length + sumL l
theorem joinW_snoc : ∀ (l : List (List UInt8)) (w : List UInt8), l ≠ [] → joinW (l ++ [w]) = joinW l ++ 32 :: w
 | [], w, h => absurd rfl h
 | [v], w, _ => rfl
 | v :: u :: l, w, _ => by
  have ih := joinW_snoc (u :: l) w (by simp)
  simp only [List.cons_append] at ih ⊢
  rw [joinW, joinW, ih]
  simp
theorem joinW_len : ∀ (l : List (List UInt8)), (joinW l).length ≤ sumL l + l.length
 | [] => by simp [joinW]
 | [w] => by simp [joinW, sumL]
 | w :: v :: l => by
  have := joinW_len (v :: l)
  rw [joinW]
  simp only [sumL, List.length_cons, List.length_append] at this ⊢; omega
theorem sumL_take (l : List (List UInt8)) {i : Nat} {w : List UInt8} (h : l[i]? = some w) : sumL (l.take (i + 1)) = sumL (l.take i) + w.length := by
 induction l generalizing i with
 | nil => simp at h
 | cons a l ih =>
  cases i with
  | zero => simp at h; subst h; simp [sumL]
  | succ i => rw [List.take_succ_cons, List.take_succ_cons, sumL, sumL, ih (by simpa using h)]; omega
theorem sumL_le (l : List (List UInt8)) (i : Nat) : sumL (l.take i) ≤ sumL l := by
 induction l generalizing i with
 | nil => simp
 | cons a l ih =>
  cases i with
  | zero => simp [sumL]
  | succ i => rw [List.take_succ_cons, sumL, sumL]; have := ih i; omega
theorem strR_head (l : List (List UInt8)) : (strR l).head?.all (·.length == 1) = true := by cases l <;> rfl
theorem join_ev (l : List (List UInt8)) (tok : Tok) (σ : Sto) (h0 : l ≠ []) (hl : l.length ≤ 1000000) (hs : sumL l ≤ 1000000000) : CallW Tryz.prog EV 22 [.sl (strR l) tok, .lit (.string (bs [32]))] σ fun r σ' => r = .ret (.lit (.string (bs (joinW l)))) ∧ Ext σ σ' := by
 refine CallW.start (fn := Tryz.f22) (M := []) rfl rfl rfl rfl (by simp) fun tm hlen hss => ?_
 have g0 := hss 0 _ rfl
 have g1 := hss 1 _ rfl
 clear hss
 simp at hlen
 refine CW.hide fun R0 hR0 => ?_
 have hsep : (bs [32]).size = 1 := bsz [32]
 refine CW.seqK fun K hK => CW.region ?_
 simp (maxDischargeDepth := 16) [symB, List.length_set, andThen, hlen, g0]
 refine hK _ _ ?_; clear hK K
 cases l with
 | nil => exact absurd rfl h0
 | cons w l =>
 cases l with
 | nil =>
  have hr1 : (strR [w]).length = 1 := rfl
  have hg := strR_get (l := [w]) (i := 0) (by simp)
  simp only [List.getElem_cons_zero] at hg
  refine CW.seqK fun K hK => ?_
  refine CW.seqK fun K hK => CW.region ?_
  simp (maxDischargeDepth := 16) [symB, List.length_set, andThen, hlen, g0, hr1]
  refine hK _ _ ?_; clear hK K
  refine CW.block ?_
  refine CW.seqK fun K hK => CW.region ?_
  simp (maxDischargeDepth := 16) [symB, List.length_set, andThen, hlen]
  refine hK _ _ ?_; clear hK K
  refine CW.cond (t := false) (by simp (maxDischargeDepth := 16) [zT, slot_eq, slot_ne, hlen]) ?_
  refine CW.seqK fun K hK => CW.region ?_
  simp (maxDischargeDepth := 16) [symB, List.length_set, andThen, hlen]
  refine hK _ _ ?_; clear hK K
  refine CW.cond (t := true) (by simp (maxDischargeDepth := 16) [zT, slot_eq, slot_ne, hlen]) ?_
  refine CW.seqK fun K2 hK2 => CW.region ?_
  simp (maxDischargeDepth := 16) [symB, List.length_set, andThen, hlen, g0, hg]
  refine hK2 _ _ ?_
  refine CW.ret ?_
  simp only [andThen, outOf]
  refine hR0 _ _ _ ⟨.lit (.string (bs w)), ?_, rfl, .refl _⟩
  simp (maxDischargeDepth := 16) [zA, omap, zB, slot_eq, slot_ne, hlen]
 | cons v l =>
  obtain ⟨m, hm⟩ : ∃ m, m = l.length + 1 := ⟨_, rfl⟩
  have hrl : (strR (w :: v :: l)).length = m + 1 := by rw [strR_len, hm]; rfl
  have hall : (w :: v :: l).length = m + 1 := by rw [hm]; rfl
  generalize hL : (w :: v :: l) = L at *
  have hg0 : (strR L)[0]? = some [.lit (.string (bs w))] := by rw [← hL]; rfl
  have hL1 : L.take 1 = [w] := by rw [← hL]; rfl
  have hwl : w.length ≤ sumL L := by rw [← hL, sumL]; omega
  have hjne : joinW L ≠ [] := by rw [← hL, joinW]; simp
  have hdrop : (strR L).drop 1 = strR (L.drop 1) := by rw [← hL]; rfl
  clear hL
  have hm1 : 1 ≤ m := by omega
  have e0 : ¬ ((m : Int) + 1 = 0) := by omega
  have e1 : ¬ ((m : Int) + 1 = 1) := by omega
  have e1n : ¬ m = 0 := by omega
  have b0 : (((m : Int) + 1) == 0) = false := by simpa using e0
  have b1 : (((m : Int) + 1) == 1) = false := by simpa using e1
  refine CW.seqK fun K hK => ?_
  refine CW.seqK fun K hK => CW.region ?_
  simp (maxDischargeDepth := 16) [symB, List.length_set, andThen, hlen, g0, hrl]
  refine hK _ _ ?_; clear hK K
  refine CW.block ?_
  refine CW.seqK fun K hK => CW.region ?_
  simp (maxDischargeDepth := 16) [symB, List.length_set, andThen, hlen, e0, b0]
  refine hK _ _ ?_; clear hK K
  refine CW.cond (t := false) (by simp (maxDischargeDepth := 16) [zT, slot_eq, slot_ne, hlen, e0, b0]) ?_
  refine CW.seqK fun K hK => CW.region ?_
  simp (maxDischargeDepth := 16) [symB, List.length_set, andThen, hlen, e1, b1, e1n]
  refine hK _ _ ?_; clear hK K
  refine CW.cond (t := false) (by simp (maxDischargeDepth := 16) [zT, slot_eq, slot_ne, hlen, e1, b1, e1n]) ?_
  refine CW.skip ?_
  simp only [andThen, outOf]
  refine hK _ _ ?_; clear hK K
  refine CW.seqK fun K hK => CW.region ?_
  simp (maxDischargeDepth := 16) [symB, List.length_set, andThen, hlen]
  refine hK _ _ ?_; clear hK K
  refine CW.seqK fun K hK => ?_
  refine CW.seqK fun K hK => CW.region ?_
  simp (maxDischargeDepth := 16) [symB, List.length_set, andThen, hlen, g1, hsep]
  refine hK _ _ ?_; clear hK K
  refine CW.cond (t := true) (by simp (maxDischargeDepth := 16) [zT, slot_eq, slot_ne, hlen]) ?_
  refine CW.seqK fun K2 hK2 => ?_
  have hwm : IntKind.i64.wrap (m : Int) = (m : Int) := IntWalk.i64_in _ ⟨by omega, by omega⟩
  obtain ⟨Q, hQ, hQ2⟩ : ∃ Q : Int, IntKind.i64.wrap ((9223372036854775807 : Int) / (m : Int)) = Q ∧ 2 ≤ Q := by
   refine ⟨_, rfl, ?_⟩
   have h1 : (9223372036854775807 : Int) / (m : Int) ≤ 9223372036854775807 := Int.ediv_le_self _ (by omega)
   have h2 : 2 ≤ (9223372036854775807 : Int) / (m : Int) := by rw [Int.le_ediv_iff_mul_le (by omega)]; omega
   rw [IntWalk.i64_in _ ⟨by omega, by omega⟩]; exact h2
  have hQt : IntKind.i64.wrap ((9223372036854775807 : Int).tdiv (m : Int)) = Q := by rw [Int.tdiv_eq_ediv_of_nonneg (by omega)]; exact hQ
  have hm0 : ¬ (m : Int) = 0 := by omega
  have hQn : ¬ Q ≤ 1 := by omega
  refine CW.seqK fun K3 hK3 => CW.region ?_
  simp (maxDischargeDepth := 16) [symB, List.length_set, andThen, hlen, g0, g1, hsep, hrl, hwm, hQ, hQt, hm0, e1n, hQn]
  refine hK3 _ _ ?_
  refine CW.cond (t := false) (by simp (maxDischargeDepth := 16) [zT, slot_eq, slot_ne, hlen]) ?_
  refine CW.skip ?_
  simp only [andThen]
  refine hK2 _ _ ?_
  refine CW.region ?_
  simp (maxDischargeDepth := 16) [symB, List.length_set, andThen, hlen, g0, g1, hsep, hrl, hwm]
  refine hK _ _ ?_
  refine CW.reset (fun tm => tm.length = 75 ∧ slot tm 0 = .sl (strR L) tok ∧ slot tm 1 = .lit (.string (bs [32])) ∧ slot tm 5 = .lit (.int .i64 m)) ⟨by simp [hlen], by simp (maxDischargeDepth := 16) [slot_ne, g0], by simp (maxDischargeDepth := 16) [slot_ne, g1], by simp (maxDischargeDepth := 16) [slot_eq, slot_ne, hlen]⟩ ?_
  clear hK3 K3 hK2 K2 hK K g0 g1 hlen tm hQ hQ2 hQt hQn Q
  rintro tm ⟨hlen, g0, g1, g5⟩
  refine CW.seqK fun K hK => ?_
  refine CW.seqK fun K hK => CW.region ?_
  simp (maxDischargeDepth := 16) [symB, List.length_set, andThen, hlen, g0, hrl]
  refine hK _ _ ?_; clear hK K
  refine CW.block ?_
  refine CW.hide fun R hR => ?_
  refine CW.loopI (fun r tm σ1 => ∃ i, r = (m + 1) - i ∧ i ≤ m + 1 ∧ tm.length = 75 ∧ slot tm 0 = .sl (strR L) tok ∧ slot tm 1 = .lit (.string (bs [32])) ∧ slot tm 5 = .lit (.int .i64 ((m + sumL (L.take i) : Nat) : Int)) ∧ slot tm 39 = .sl (strR L) tok ∧ slot tm 40 = .lit (.int .i64 ((m : Int) + 1)) ∧ slot tm 41 = .lit (.int .i64 i) ∧ σ1 = σ) ?_ _ _ _
   ⟨0, rfl, by omega, by simp [hlen], by simp (maxDischargeDepth := 16) [slot_ne, g0], by simp (maxDischargeDepth := 16) [slot_ne, g1], by simp (maxDischargeDepth := 16) [slot_ne, g5, sumL], by simp (maxDischargeDepth := 16) [slot_eq, slot_ne, hlen, g0], by simp (maxDischargeDepth := 16) [slot_eq, slot_ne, hlen], by simp (maxDischargeDepth := 16) [slot_eq, hlen], rfl⟩
  clear g0 g1 g5 hlen tm
  rintro r tm σ1 ⟨i, rfl, hi, hlen, g0, g1, g5, g39, g40, g41, rfl⟩
  refine CW.hide fun R2 hR2 => ?_
  refine CW.seqK fun K4 hK4 => CW.region ?_
  by_cases hlt : i < m + 1
  · have hlt' : (i : Int) < (m : Int) + 1 := by omega
    simp (maxDischargeDepth := 16) [symB, List.length_set, andThen, hlen, g40, g41, hlt', hlt]
    refine hK4 _ _ ?_
    refine CW.seqK fun K3 hK3 => ?_
    refine CW.cond (t := true) (by simp (maxDischargeDepth := 16) [zT, slot_eq, slot_ne, hlen, hlt']) ?_
    refine CW.skip ?_
    simp only [andThen]
    refine hK3 _ _ ?_
    have hil : i < L.length := by omega
    have hg := strR_get hil
    have hst := sumL_take L (List.getElem?_eq_getElem hil)
    generalize L[i] = u at *
    have hul : sumL (L.take (i + 1)) ≤ sumL L := sumL_le L _
    obtain ⟨s, hs1⟩ : ∃ s, s = m + sumL (L.take i) := ⟨_, rfl⟩
    rw [← hs1] at g5
    have hsb : s + u.length ≤ 2000000000 := by omega
    have hwk : IntKind.i64.wrap ((i : Int) + 1) = ((i + 1 : Nat) : Int) := wrap_succ (by omega)
    have hw1 : IntKind.i64.wrap ((9223372036854775807 : Int) - (s : Int)) = (9223372036854775807 : Int) - (s : Int) := IntWalk.i64_in _ ⟨by omega, by omega⟩
    have hw2 : ¬ (9223372036854775807 : Int) - (s : Int) < (u.length : Int) := by omega
    have hw3 : IntKind.i64.wrap ((s : Int) + (u.length : Int)) = ((s + u.length : Nat) : Int) := by rw [IntWalk.i64_in _ ⟨by omega, by omega⟩]; omega
    refine CW.seqK fun K5 hK5 => CW.block ?_
    refine CW.seqK fun K hK => CW.region ?_
    simp (maxDischargeDepth := 16) [symB, List.length_set, andThen, hlen, g39, g41, hg]
    refine hK _ _ ?_; clear hK K
    refine CW.seqK fun K6 hK6 => ?_
    refine CW.seqK fun K hK => CW.region ?_
    simp (maxDischargeDepth := 16) [symB, List.length_set, andThen, hlen, g5, bsz, hw1, hw2]
    refine hK _ _ ?_; clear hK K
    refine CW.cond (t := false) (by simp (maxDischargeDepth := 16) [zT, slot_eq, slot_ne, hlen, hw2]) ?_
    refine CW.skip ?_
    simp only [andThen]
    refine hK6 _ _ ?_
    refine CW.region ?_
    simp (maxDischargeDepth := 16) [symB, List.length_set, andThen, outOf, hlen, g5, bsz, hw3]
    refine hK5 _ _ ?_
    refine CW.region ?_
    simp (maxDischargeDepth := 16) [symB, List.length_set, andThen, hlen, g41, hwk]
    refine hR2 _ _ _ ⟨(m + 1) - (i + 1), by omega, i + 1, rfl, by omega, by simp [hlen], by simp (maxDischargeDepth := 16) [slot_ne, g0], by simp (maxDischargeDepth := 16) [slot_ne, g1], ?_, by simp (maxDischargeDepth := 16) [slot_ne, g39], by simp (maxDischargeDepth := 16) [slot_ne, g40], by simp (maxDischargeDepth := 16) [slot_eq, hlen], rfl⟩
    rw [hst, ← Nat.add_assoc, ← hs1]
    simp (maxDischargeDepth := 16) [slot_eq, slot_ne, hlen]
  · have hlt' : ¬ (i : Int) < (m : Int) + 1 := by omega
    have him : i = m + 1 := by omega
    have hsL : sumL (L.take i) = sumL L := by rw [him, List.take_of_length_le (by omega)]
    rw [hsL] at g5
    simp (maxDischargeDepth := 16) [symB, List.length_set, andThen, hlen, g40, g41, hlt', hlt]
    refine hK4 _ _ ?_
    refine CW.seqK fun K3 hK3 => ?_
    refine CW.cond (t := false) (by simp (maxDischargeDepth := 16) [zT, slot_eq, slot_ne, hlen, hlt']) ?_
    refine CW.exit ?_
    simp only [andThen]
    refine hR2 _ _ _ (hR _ _ _ ?_)
    simp only [outOf, if_true, andThen]
    refine hK _ _ ?_
    clear hK3 K3 hR2 R2 hR R hK K hK4 K4
    refine CW.reset (fun tm => tm.length = 75 ∧ slot tm 0 = .sl (strR L) tok ∧ slot tm 1 = .lit (.string (bs [32])) ∧ slot tm 5 = .lit (.int .i64 ((m + sumL L : Nat) : Int))) ⟨by simp [hlen], by simp (maxDischargeDepth := 16) [slot_ne, g0], by simp (maxDischargeDepth := 16) [slot_ne, g1], by simp (maxDischargeDepth := 16) [slot_ne, g5]⟩ ?_
    clear g0 g1 g5 g39 g40 g41 hlen tm
    rintro tm ⟨hlen, g0, g1, g5⟩
    refine CW.seqK fun K hK => CW.region ?_
    simp (maxDischargeDepth := 16) [symB, List.length_set, andThen, hlen]
    refine hK _ _ ?_; clear hK K
    have hbx : Ext σ1 (σ1 ++ [AObj.cells [.lit (.pointer none), .sl [] .full] 86]) := ⟨_, rfl⟩
    have hbo : (σ1 ++ [AObj.cells [.lit (.pointer none), .sl [] .full] 86])[σ1.length]? = some (.cells [.lit (.pointer none), .sl [] .full] 86) := by simp
    generalize (σ1 ++ [AObj.cells [.lit (.pointer none), .sl [] .full] 86]) = σ2 at *
    refine CW.seqK fun K hK => CW.region ?_
    generalize hn : m + sumL L = nn at *
    simp (maxDischargeDepth := 16) [symB, List.length_set, andThen, hlen, g5]
    refine (grow_ev (Nat.le_refl _) hbo hbx (n := nn) (by omega)).mono ?_
    rintro r σ3 ⟨rfl, hb3, hx3⟩
    simp (maxDischargeDepth := 16) [symB, List.length_set, andThen, hlen, retK]
    refine hK _ _ ?_; clear hK K
    refine CW.seqK fun K hK => CW.region ?_
    simp (maxDischargeDepth := 16) [symB, List.length_set, andThen, hlen, g0, hg0]
    refine (writeString_ev hb3 hx3 (bs w) (by rw [bsz]; simp only [List.length_nil]; omega)).mono ?_
    rintro r σ4 ⟨⟨v0, rfl⟩, hb4, hx4⟩
    simp (maxDischargeDepth := 16) [symB, List.length_set, andThen, hlen, retK]
    refine hK _ _ ?_; clear hK K
    have hb5 : BldAt σ1 σ4 σ1.length (joinW (L.take 1)) := by rw [hL1, joinW]; simpa [bs] using hb4
    clear hb4 hb3 hx3 σ3
    have hdl : (strR (L.drop 1)).length = m := by rw [strR_len, List.length_drop, hall]; rfl
    refine CW.reset (fun tm => tm.length = 75 ∧ slot tm 0 = .sl (strR L) tok ∧ slot tm 1 = .lit (.string (bs [32])) ∧ slot tm 8 = .ptr σ1.length 0) ⟨by simp [hlen], by simp (maxDischargeDepth := 16) [slot_ne, g0], by simp (maxDischargeDepth := 16) [slot_ne, g1], by simp (maxDischargeDepth := 16) [slot_ne, slot_eq, hlen]⟩ ?_
    clear g0 g1 g5 hlen tm
    rintro tm ⟨hlen, g0, g1, g8⟩
    refine CW.seqK fun K hK => ?_
    obtain ⟨L1, hL1e⟩ : ∃ L1, L1 = L.drop 1 := ⟨_, rfl⟩
    rw [← hL1e] at hdl hdrop
    have hdrop' : (strR L).tail = strR L1 := by rw [← List.drop_one, hdrop]
    have htk : (strR L).take ((m : Int) + 1).toNat = strR L := List.take_of_length_le (by omega)
    have h1m : (1 : Int) ≤ (m : Int) + 1 := by omega
    have htk' : (strR L).take (m + 1) = strR L := List.take_of_length_le (by omega)
    have hhd := strR_head L
    have hhd2 : ∀ k, k = 1 → (strR L).head?.all (·.length == k) = true := by rintro k rfl; exact hhd
    obtain ⟨tk2, htk2⟩ : ∃ tk2, tk2 = sliceTok tok ((m : Int) + 1) 1 (m + 1) := ⟨_, rfl⟩
    refine CW.seqK fun K hK => CW.region ?_
    simp (maxDischargeDepth := 16) [symB, List.length_set, andThen, hlen, g0, hrl, hdrop, hdrop', hdl, h1m, htk, hhd, hhd2, ← htk2]
    refine hK _ _ ?_; clear hK K
    refine CW.block ?_
    refine CW.hide fun R hR => ?_
    refine CW.loopI (fun r tm σ => ∃ i, r = m - i ∧ i ≤ m ∧ tm.length = 75 ∧ slot tm 1 = .lit (.string (bs [32])) ∧ slot tm 8 = .ptr σ1.length 0 ∧ slot tm 63 = .sl (strR L1) tk2 ∧ slot tm 64 = .lit (.int .i64 (m : Int)) ∧ slot tm 65 = .lit (.int .i64 i) ∧ BldAt σ1 σ σ1.length (joinW (L.take (i + 1))) ∧ Ext σ1 σ) ?_ _ _ _
     ⟨0, rfl, by omega, by simp [hlen], by simp (maxDischargeDepth := 16) [slot_ne, g1], by simp (maxDischargeDepth := 16) [slot_ne, g8], by simp (maxDischargeDepth := 16) [slot_eq, slot_ne, hlen, g0, htk', hdrop'], by simp (maxDischargeDepth := 16) [slot_eq, slot_ne, hlen], by simp (maxDischargeDepth := 16) [slot_eq, hlen], hb5, hx4⟩
    clear g0 g1 g8 hlen tm hb5 hx4 σ4
    rintro r tm σ ⟨i, rfl, hi, hlen, g1, g8, g63, g64, g65, hb, hx⟩
    refine CW.hide fun R2 hR2 => ?_
    refine CW.seqK fun K4 hK4 => CW.region ?_
    by_cases hlt : i < m
    · have hlt' : (i : Int) < (m : Int) := by omega
      simp (maxDischargeDepth := 16) [symB, List.length_set, andThen, hlen, g64, g65, hlt', hlt]
      refine hK4 _ _ ?_
      refine CW.seqK fun K3 hK3 => ?_
      refine CW.cond (t := true) (by simp (maxDischargeDepth := 16) [zT, slot_eq, slot_ne, hlen, hlt']) ?_
      refine CW.skip ?_
      simp only [andThen]
      refine hK3 _ _ ?_
      have hil : i < L1.length := by rw [hL1e, List.length_drop]; omega
      have hg := strR_get hil
      have hlk := joinW_len (L.take (i + 1))
      have hlk2 := sumL_le L (i + 1)
      have hlk3 : (L.take (i + 1)).length ≤ m + 1 := by rw [List.length_take]; omega
      have hgl : L[i + 1]? = some L1[i] := by subst hL1e; rw [List.getElem_drop, List.getElem?_eq_getElem (by omega)]; congr 2; omega
      have hst := sumL_take L (i := i + 1) (w := L1[i]) hgl
      have hst2 := sumL_le L (i + 1 + 1)
      have hjs : joinW (L.take (i + 1)) ++ [32] ++ L1[i] = joinW (L.take (i + 1 + 1)) := by
       rw [List.take_add_one (i := i + 1), hgl, Option.toList_some, joinW_snoc _ _ (by rw [Ne, List.take_eq_nil_iff]; rintro (h | h); (· omega); exact h0 h)]
       simp only [List.append_assoc, List.singleton_append]
      generalize L1[i] = u at *
      have hwk : IntKind.i64.wrap ((i : Int) + 1) = ((i + 1 : Nat) : Int) := wrap_succ (by omega)
      refine CW.seqK fun K5 hK5 => CW.block ?_
      refine CW.seqK fun K hK => CW.region ?_
      simp (maxDischargeDepth := 16) [symB, List.length_set, andThen, hlen, g63, g65, hg]
      refine hK _ _ ?_; clear hK K
      refine CW.seqK fun K6 hK6 => CW.region ?_
      simp (maxDischargeDepth := 16) [symB, List.length_set, andThen, outOf, hlen, g8, g1]
      refine (writeString_ev hb hx (bs [32]) (by rw [bsz]; simp; omega)).mono ?_
      rintro r σ5 ⟨⟨v5, rfl⟩, hb6, hx6⟩
      simp (maxDischargeDepth := 16) [symB, List.length_set, andThen, hlen, retK]
      refine hK6 _ _ ?_
      refine CW.region ?_
      simp (maxDischargeDepth := 16) [symB, List.length_set, andThen, outOf, hlen, g8]
      refine (writeString_ev hb6 hx6 (bs u) (by rw [bsz]; simp; omega)).mono ?_
      rintro r σ6 ⟨⟨v6, rfl⟩, hb7, hx7⟩
      simp (maxDischargeDepth := 16) [symB, List.length_set, andThen, hlen, retK]
      refine hK5 _ _ ?_
      refine CW.region ?_
      simp (maxDischargeDepth := 16) [symB, List.length_set, andThen, hlen, g65, hwk]
      refine hR2 _ _ _ ⟨m - (i + 1), by omega, i + 1, rfl, by omega, by simp [hlen], by simp (maxDischargeDepth := 16) [slot_ne, g1], by simp (maxDischargeDepth := 16) [slot_ne, g8], by simp (maxDischargeDepth := 16) [slot_ne, g63], by simp (maxDischargeDepth := 16) [slot_ne, g64], by simp (maxDischargeDepth := 16) [slot_eq, hlen], ?_, hx7⟩
      rw [← hjs]
      simpa [bs] using hb7
    · have hlt' : ¬ (i : Int) < (m : Int) := by omega
      have him : i + 1 = m + 1 := by omega
      rw [him, ← hall, List.take_length] at hb
      simp (maxDischargeDepth := 16) [symB, List.length_set, andThen, hlen, g64, g65, hlt', hlt]
      refine hK4 _ _ ?_
      refine CW.seqK fun K3 hK3 => ?_
      refine CW.cond (t := false) (by simp (maxDischargeDepth := 16) [zT, slot_eq, slot_ne, hlen, hlt']) ?_
      refine CW.exit ?_
      simp only [andThen]
      refine hR2 _ _ _ (hR _ _ _ ?_)
      simp only [outOf, if_true, andThen]
      refine hK _ _ ?_
      have hlj := joinW_len L
      refine CW.seqK fun K5 hK5 => CW.region ?_
      simp (maxDischargeDepth := 16) [symB, List.length_set, andThen, hlen, g8]
      refine (string_ev hb hx hjne (by omega)).mono ?_
      rintro r σ5 ⟨rfl, hb6, hx6⟩
      simp (maxDischargeDepth := 16) [symB, List.length_set, andThen, hlen, retK]
      refine hK5 _ _ ?_
      refine CW.ret ?_
      refine hR0 _ _ _ ⟨_, by simp (maxDischargeDepth := 16) [zA, omap, zB, slot_eq, slot_ne, hlen]; rfl, rfl, hx6⟩
end
section
open Go.RowKit
def boolB (b : Bool) : List UInt8 := if b then bTrue else bFalse
theorem fmtBool0_ev (b : Bool) (σ : Sto) : CallW Tryz.prog EV 40 [.lit (.bool b)] σ fun r σ' => r = .ret (.lit (.string (bs (boolB b)))) ∧ σ' = σ := by
 refine CallW.start (fn := Tryz.f40) (M := []) rfl rfl rfl rfl (by simp) fun tm hlen hs => ?_
 have h0 := hs 0 _ rfl
 clear hs
 simp at hlen
 refine CW.hide fun R0 hR0 => ?_
 refine CW.seqK fun K hK => CW.region ?_
 simp (maxDischargeDepth := 16) [symB, List.length_set, andThen, hlen, h0]
 refine hK _ _ ?_; clear hK K
 refine CW.seqK fun K hK => ?_
 refine CW.seqK fun K hK => CW.region ?_
 simp (maxDischargeDepth := 16) [symB, List.length_set, andThen, hlen, h0]
 refine hK _ _ ?_; clear hK K
 cases b with
 | true =>
  refine CW.cond (t := true) (by simp (maxDischargeDepth := 16) [zT, slot_eq, slot_ne, hlen]) ?_
  refine CW.seqK fun K hK => CW.region ?_
  simp (maxDischargeDepth := 16) [symB, List.length_set, andThen, hlen]
  refine hK _ _ ?_; clear hK K
  refine CW.ret (hR0 _ _ _ ⟨.lit (.string (bs bTrue)), ?_, rfl, rfl⟩)
  simp (maxDischargeDepth := 16) [zA, omap, zB, slot_eq, slot_ne, hlen]
  rfl
 | false =>
  refine CW.cond (t := false) (by simp (maxDischargeDepth := 16) [zT, slot_eq, slot_ne, hlen]) ?_
  refine CW.skip ?_
  simp only [andThen]
  refine hK _ _ ?_; clear hK K
  refine CW.seqK fun K hK => CW.region ?_
  simp (maxDischargeDepth := 16) [symB, List.length_set, andThen, hlen]
  refine hK _ _ ?_; clear hK K
  refine CW.ret (hR0 _ _ _ ⟨.lit (.string (bs bFalse)), ?_, rfl, rfl⟩)
  simp (maxDischargeDepth := 16) [zA, omap, zB, slot_eq, slot_ne, hlen]
  rfl
theorem fmtBool_ev (b : Bool) (σ : Sto) : CallW Tryz.prog EV 21 [.lit (.bool b)] σ fun r σ' => r = .ret (.lit (.string (bs (boolB b)))) ∧ σ' = σ := by
 refine CallW.start (fn := Tryz.f21) (M := []) rfl rfl rfl rfl (by simp) fun tm hlen hs => ?_
 have h0 := hs 0 _ rfl
 clear hs
 simp at hlen
 refine CW.hide fun R0 hR0 => ?_
 refine CW.seqK fun K hK => CW.region ?_
 simp (maxDischargeDepth := 16) [symB, List.length_set, andThen, hlen, h0]
 refine hK _ _ ?_; clear hK K
 refine CW.seqK fun K hK => CW.region ?_
 simp (maxDischargeDepth := 16) [symB, List.length_set, andThen, hlen, h0]
 refine (fmtBool0_ev b σ).mono ?_
 rintro r σ2 ⟨rfl, rfl⟩
 simp (maxDischargeDepth := 16) [symB, List.length_set, andThen, hlen, retK]
 refine hK _ _ ?_
 refine CW.ret (hR0 _ _ _ ⟨.lit (.string (bs (boolB b))), ?_, rfl, rfl⟩)
 simp (maxDischargeDepth := 16) [zA, omap, zB, slot_eq, slot_ne, hlen]
mutual
def valText : Vl → List UInt8
 | .mk k b d t n f => if k = 1 then numText b d else if k = 2 then boolB t else if k = 3 then (if n = [] then [40, 41] else 40 :: joinW (n :: valTexts f) ++ [41]) else []
def valTexts : List Vl → List (List UInt8)
 | [] => []
 | v :: l => valText v :: valTexts l
end
mutual
def rightV : Vl → Prop
 | .mk k b d t n f => d.length ≤ 1000000 ∧ (k = 1 → RightI b d) ∧ rightVs f
def rightVs : List Vl → Prop
 | [] => True
 | v :: l => rightV v ∧ rightVs l
end
theorem rightVs_mem : ∀ {l : List Vl} {v : Vl}, rightVs l → v ∈ l → rightV v
 | a :: l, v, hs, h => by
  rcases List.mem_cons.1 h with rfl | h
  · exact hs.1
  · exact rightVs_mem hs.2 h
theorem valTexts_map (l : List Vl) : valTexts l = l.map valText := by
 induction l with
 | nil => rfl
 | cons v l ih => simp [valTexts, ih]
theorem sumL_mem {l : List (List UInt8)} {w : List UInt8} (h : w ∈ l) : w.length ≤ sumL l := by
 induction l with
 | nil => cases h
 | cons a l ih =>
  rw [sumL]
  rcases List.mem_cons.1 h with rfl | h
  · omega
  · have := ih h; omega
theorem joinW_len2 : ∀ (l : List (List UInt8)), sumL l + l.length ≤ (joinW l).length + 1
 | [] => by simp [joinW, sumL]
 | [w] => by simp [joinW, sumL]
 | w :: v :: l => by
  have := joinW_len2 (v :: l)
  rw [joinW]
  simp only [sumL, List.length_cons, List.length_append] at this ⊢; omega
theorem append_atG {P : Program} {M : List TypeId} {σ0 σ : Sto} {es fs : List (List AV)} {tok tk : Tok} {t e k by_ : Nat} {z : Value} (ht : P.underlying t = some (.slice e)) (hk : szOf P e = some (k + 1)) (hb : bytesOf P e = some by_) (hz : ((P.info? e).bind fun x => x.zero) = some z) (hzk : z.cells.size = k + 1)
    (htok : tok = .full ∨ TokAt σ0 σ (es.length * (k + 1)) e tok) (hext : Ext σ0 σ) (h1 : es.head?.all (·.length == k + 1) = true) (h2 : fs.head?.all (·.length == k + 1) = true) (hf : fs.length ≠ 0) (hby : (es.length + fs.length) * by_ ≤ 140737488355328) (hle : es.length + fs.length ≤ 140737488355328) (hMt : M.contains t = false := by rfl) :
    ∃ t' σ' acc, Ext σ0 σ' ∧ TokAt σ0 σ' ((es.length + fs.length) * (k + 1)) e t' ∧ ∀ (tm : List AV) (ds : Option Tmp) (ty : TypeId) (po : String) (af : Array Edge) (gu : Option (Nat × Bool)) (x y : Operand), evx tm x = some (.sl es tok) → evx tm y = some (.sl fs tk) →
     evStep P M (evx tm) σ ⟨ds, .call ⟨.builtin .append, #[x, y], #[t, t]⟩, ty, po, af, gu⟩ = some (.val (.sl (es ++ stripRows fs) t') σ' acc) := by
 rcases htok with rfl | htok
 · have hlit : ∀ (tm : List AV) (ds : Option Tmp) (ty : TypeId) (po : String) (af : Array Edge) (gu : Option (Nat × Bool)) (x y : Operand), evx tm x = some (.sl es .full) → evLit P (evx tm) σ ⟨ds, .call ⟨.builtin .append, #[x, y], #[t, t]⟩, ty, po, af, gu⟩ = none := by
    intro tm ds ty po af gu x y hx
    unfold evLit
    simp [Op.operands, Call.operands, hx, conc, conc2]
   have hz' : ((P.info? e).bind (·.zero)).map (·.cells.size) = some (k + 1) := by rw [hz]; simp [hzk]
   refine ⟨.own σ.length, _, .news σ.length, hext.push _, TokAt.new hext, fun tm ds ty po af gu x y hx hy => ?_⟩
   unfold evStep
   rw [if_neg (by simp only [mutOp, hMt]; exact Bool.false_ne_true), hlit tm ds ty po af gu x y hx]
   simp only [evPure, evMem, if_true]
   unfold evAppend
   simp only [ht, hx, hy, hk, hb, hz']
   rw [if_pos ⟨trivial, h1, h2, hby, hle⟩, if_neg hf]
 · exact append_at ht hk hb hz hzk htok hext h1 h2 hf hby hle hMt
mutual
def isRow : Vl → List AV → Prop
 | .mk k b d t n f, row => ∃ ta tk fs, row = [.lit (.int .u8 k), .lit (.bool b), .sl (d32 d) ta, .lit (.bool t), .lit (.string (bs n)), .sl fs tk] ∧ areRows f fs
def areRows : List Vl → List (List AV) → Prop
 | [], rows => rows = []
 | v :: l, rows => ∃ r rs, rows = r :: rs ∧ isRow v r ∧ areRows l rs
end
theorem areRows_len : ∀ {l : List Vl} {rows : List (List AV)}, areRows l rows → rows.length = l.length
 | [], rows, h => by rw [areRows] at h; subst h; rfl
 | v :: l, rows, h => by
  rw [areRows] at h
  obtain ⟨r, rs, rfl, _, h⟩ := h
  simp [areRows_len h]
theorem areRows_get : ∀ {l : List Vl} {rows : List (List AV)} {i : Nat} (_ : areRows l rows) (hi : i < l.length), ∃ row, rows[i]? = some row ∧ isRow l[i] row
 | [], rows, i, _, hi => by simp at hi
 | v :: l, rows, i, h, hi => by
  rw [areRows] at h
  obtain ⟨r, rs, rfl, h1, h⟩ := h
  cases i with
  | zero => exact ⟨r, rfl, h1⟩
  | succ i =>
   obtain ⟨row, h2, h3⟩ := areRows_get h (i := i) (by simpa using hi)
   exact ⟨row, by simpa using h2, by simpa using h3⟩
mutual
theorem isRow_row : ∀ v : Vl, isRow v (rowV v)
 | .mk k b d t n f => by rw [isRow, rowV]; exact ⟨_, _, _, rfl, areRows_rows f⟩
theorem areRows_rows : ∀ l : List Vl, areRows l (rowsV l)
 | [] => by rw [areRows, rowsV]
 | v :: l => by rw [areRows, rowsV]; exact ⟨_, _, rfl, isRow_row v, areRows_rows l⟩
end
theorem vtextR_ev (N : Nat) : ∀ (v : Vl) (row : List AV) (σ : Sto), isRow v row → SizeOf.sizeOf v < N → rightV v → (valText v).length ≤ 900000 →
    CallW Tryz.prog EV 7 [.agg row] σ fun r σ' => r = .ret (.lit (.string (bs (valText v)))) ∧ Ext σ σ' := by
 induction N with
 | zero => intro v row σ _ h; omega
 | succ N ih =>
  intro v row σ hrow hN hrv hvl
  obtain ⟨k, b, d, t, n, f⟩ := v
  rw [isRow] at hrow
  obtain ⟨t1, t2, rows, rfl, har⟩ := hrow
  have hrowl := areRows_len har
  obtain ⟨hdl, hri, hrf⟩ := hrv
  refine CallW.start (fn := Tryz.f7) (M := []) rfl rfl rfl rfl (by simp) fun tm hlen hss => ?_
  have h0 := hss 0 _ rfl
  clear hss
  simp at hlen
  refine CW.hide fun R0 hR0 => ?_
  have done : ∀ (tm : List AV) (σ1 : Sto), tm.length = 43 → slot tm 2 = .lit (.string (bs (valText (.mk k b d t n f)))) → Ext σ σ1 → R0 .ret tm σ1 := by
   intro tm σ1 hlen h2 hx
   refine hR0 _ _ _ ⟨.lit (.string (bs (valText (.mk k b d t n f)))), ?_, rfl, hx⟩
   simp (maxDischargeDepth := 16) [zA, omap, zB, slot_eq, slot_ne, hlen, h2]
  clear hR0
  have hvt := valText.eq_1 k b d t n f
  generalize valText (.mk k b d t n f) = res at *
  refine CW.seqK fun K hK => CW.region ?_
  simp (maxDischargeDepth := 16) [symB, List.length_set, andThen, hlen, h0]
  refine hK _ _ ?_; clear hK K
  have hobA : (σ ++ [AObj.cells [.lit (.int .u8 k), .lit (.bool b), .sl (d32 d) t1, .lit (.bool t), .lit (.string (bs n)), .sl rows t2] 37])[σ.length]? = some (.cells [.lit (.int .u8 k), .lit (.bool b), .sl (d32 d) t1, .lit (.bool t), .lit (.string (bs n)), .sl rows t2] 37) := by simp
  have hxA : Ext σ (σ ++ [AObj.cells [.lit (.int .u8 k), .lit (.bool b), .sl (d32 d) t1, .lit (.bool t), .lit (.string (bs n)), .sl rows t2] 37]) := ⟨_, rfl⟩
  generalize (σ ++ [AObj.cells [.lit (.int .u8 k), .lit (.bool b), .sl (d32 d) t1, .lit (.bool t), .lit (.string (bs n)), .sl rows t2] 37]) = σA at *
  refine CW.reset (fun tm => tm.length = 43 ∧ slot tm 1 = .ptr σ.length 0) ⟨by simp [hlen], by simp (maxDischargeDepth := 16) [slot_eq, slot_ne, hlen]⟩ ?_
  clear h0 hlen tm
  rintro tm ⟨hlen, h1⟩
  refine CW.seqK fun K hK => ?_
  refine CW.seqK fun K hK => CW.region ?_
  simp (maxDischargeDepth := 16) [symB, List.length_set, andThen, hlen, h1, hobA]
  refine hK _ _ ?_; clear hK K
  refine CW.block ?_
  refine CW.hide fun R hR => ?_
  have out : ∀ (tm : List AV) (σ1 : Sto), R0 .ret tm σ1 → R .ret tm σ1 := fun tm σ1 h => hR _ _ _ h
  by_cases hk1 : k = 1
  · subst hk1
    simp only [if_true] at hvt
    refine CW.seqK fun K hK => CW.region ?_
    simp (maxDischargeDepth := 16) [symB, List.length_set, andThen, hlen]
    refine hK _ _ ?_; clear hK K
    refine CW.cond (t := true) (by simp (maxDischargeDepth := 16) [zT, slot_eq, slot_ne, hlen]) ?_
    refine CW.seqK fun K2 hK2 => CW.region ?_
    simp (maxDischargeDepth := 16) [symB, List.length_set, andThen, hlen, h1, hobA]
    refine (numText_ev b d t1 σA hdl (hri rfl)).mono ?_
    rintro r σ2 ⟨rfl, hx2⟩
    rw [← hvt]
    simp (maxDischargeDepth := 16) [symB, List.length_set, andThen, hlen, retK]
    refine hK2 _ _ ?_
    refine CW.ret (out _ _ (done _ _ (by simp [hlen]) (by simp (maxDischargeDepth := 16) [slot_eq, slot_ne, hlen]) (hxA.trans hx2)))
  · rw [if_neg hk1] at hvt
    have e1 : ¬ (k : Int) = 1 := by omega
    have b1 : ((k : Int) == 1) = false := by simpa using e1
    refine CW.seqK fun K hK => CW.region ?_
    simp (maxDischargeDepth := 16) [symB, List.length_set, andThen, hlen, e1, hk1, b1]
    refine hK _ _ ?_; clear hK K
    refine CW.cond (t := false) (by simp (maxDischargeDepth := 16) [zT, slot_eq, slot_ne, hlen]) ?_
    by_cases hk2 : k = 2
    · subst hk2
      simp only [if_true] at hvt
      refine CW.seqK fun K hK => CW.region ?_
      simp (maxDischargeDepth := 16) [symB, List.length_set, andThen, hlen]
      refine hK _ _ ?_; clear hK K
      refine CW.cond (t := true) (by simp (maxDischargeDepth := 16) [zT, slot_eq, slot_ne, hlen]) ?_
      refine CW.seqK fun K2 hK2 => CW.region ?_
      simp (maxDischargeDepth := 16) [symB, List.length_set, andThen, hlen, h1, hobA]
      refine (fmtBool_ev t σA).mono ?_
      rintro r σ2 ⟨rfl, rfl⟩
      rw [← hvt]
      simp (maxDischargeDepth := 16) [symB, List.length_set, andThen, hlen, retK]
      refine hK2 _ _ ?_
      refine CW.ret (out _ _ (done _ _ (by simp [hlen]) (by simp (maxDischargeDepth := 16) [slot_eq, slot_ne, hlen]) hxA))
    · rw [if_neg hk2] at hvt
      have e2 : ¬ (k : Int) = 2 := by omega
      have b2 : ((k : Int) == 2) = false := by simpa using e2
      refine CW.seqK fun K hK => CW.region ?_
      simp (maxDischargeDepth := 16) [symB, List.length_set, andThen, hlen, e2, hk2, b2]
      refine hK _ _ ?_; clear hK K
      refine CW.cond (t := false) (by simp (maxDischargeDepth := 16) [zT, slot_eq, slot_ne, hlen]) ?_
      by_cases hk3 : k = 3
      · subst hk3
        simp only [if_true] at hvt
        refine CW.seqK fun K hK => CW.region ?_
        simp (maxDischargeDepth := 16) [symB, List.length_set, andThen, hlen]
        refine hK _ _ ?_; clear hK K
        refine CW.cond (t := true) (by simp (maxDischargeDepth := 16) [zT, slot_eq, slot_ne, hlen]) ?_
        refine CW.seqK fun K2 hK2 => ?_
        by_cases hn : n = []
        · subst hn
          simp only [if_true] at hvt
          have hz0 : (⟨#[]⟩ : ByteArray).toList = [] := bs_list []
          refine CW.seqK fun K hK => CW.region ?_
          simp (maxDischargeDepth := 16) [symB, List.length_set, andThen, hlen, h1, hobA, bs_list, hz0]
          refine hK _ _ ?_; clear hK K
          refine CW.cond (t := true) (by simp (maxDischargeDepth := 16) [zT, slot_eq, slot_ne, hlen]) ?_
          refine CW.seqK fun K3 hK3 => CW.region ?_
          simp (maxDischargeDepth := 16) [symB, List.length_set, andThen, hlen]
          refine hK3 _ _ ?_
          refine CW.ret (out _ _ (done _ _ (by simp [hlen]) (by rw [hvt]; simp (maxDischargeDepth := 16) [slot_eq, slot_ne, hlen]; rfl) hxA))
        · rw [if_neg hn] at hvt
          have hz0 : (⟨#[]⟩ : ByteArray).toList = [] := bs_list []
          refine CW.seqK fun K hK => CW.region ?_
          simp (maxDischargeDepth := 16) [symB, List.length_set, andThen, hlen, h1, hobA, bs_list, hz0, hn]
          refine hK _ _ ?_; clear hK K
          refine CW.cond (t := false) (by simp (maxDischargeDepth := 16) [zT, slot_eq, slot_ne, hlen, hn]) ?_
          refine CW.skip ?_
          simp only [andThen]
          refine hK2 _ _ ?_; clear hK2 K2
          have hjl := joinW_len2 (n :: valTexts f)
          have hjl2 := joinW_len (n :: valTexts f)
          have hvl2 : (joinW (n :: valTexts f)).length + 2 ≤ 900000 := by rw [hvt] at hvl; simp at hvl; omega
          have hvtl : (n :: valTexts f).length = f.length + 1 := by simp [valTexts_map]
          rw [hvtl] at hjl hjl2
          have hfl : f.length ≤ 900000 := by omega
          refine CW.seqK fun K hK => CW.region ?_
          simp (maxDischargeDepth := 16) [symB, List.length_set, andThen, hlen, h1, hobA]
          refine hK _ _ ?_; clear hK K
          refine CW.seqK fun K2 hK2 => ?_
          refine CW.seqK fun K hK => CW.region ?_
          simp (maxDischargeDepth := 16) [symB, List.length_set, andThen, hlen, h1, hobA, hrowl]
          refine hK _ _ ?_; clear hK K
          refine CW.block ?_
          refine CW.hide fun R1 hR1 => ?_
          refine CW.loopI (fun r tm σ1 => ∃ (i : Nat) (tt : Tok), r = f.length - i ∧ i ≤ f.length ∧ tm.length = 43 ∧ slot tm 3 = .sl (strR (n :: valTexts (f.take i))) tt ∧ slot tm 27 = .sl rows t2 ∧ slot tm 28 = .lit (.int .i64 f.length) ∧ slot tm 29 = .lit (.int .i64 i) ∧ Ext σA σ1 ∧ (tt = .full ∨ TokAt σA σ1 (i + 1) 9 tt)) ?_ _ _ _
           ⟨0, .full, rfl, by omega, by simp [hlen], ?_, by simp (maxDischargeDepth := 16) [slot_eq, slot_ne, hlen], by simp (maxDischargeDepth := 16) [slot_ne, slot_eq, hlen], by simp (maxDischargeDepth := 16) [slot_eq, hlen], .refl _, .inl rfl⟩
          rotate_left
          · simp (maxDischargeDepth := 16) [slot_ne, slot_eq, hlen]; rfl
          clear h1 hlen tm
          rintro r tm σ1 ⟨i, tt, rfl, hi, hlen, h3, h27, h28, h29, hext, htok⟩
          refine CW.hide fun R2 hR2 => ?_
          refine CW.seqK fun K4 hK4 => CW.region ?_
          by_cases hlt : i < f.length
          · have hlt' : (i : Int) < f.length := by omega
            simp (maxDischargeDepth := 16) [symB, List.length_set, andThen, hlen, h28, h29, hlt', hlt]
            refine hK4 _ _ ?_
            refine CW.seqK fun K3 hK3 => ?_
            refine CW.cond (t := true) (by simp (maxDischargeDepth := 16) [zT, slot_eq, slot_ne, hlen, hlt']) ?_
            refine CW.skip ?_
            simp only [andThen]
            refine hK3 _ _ ?_
            obtain ⟨row, hg, hisr⟩ := areRows_get har hlt
            have hmem := List.getElem_mem hlt
            have htake : f.take (i + 1) = f.take i ++ [f[i]] := by rw [List.take_add_one, List.getElem?_eq_getElem hlt]; rfl
            generalize f[i] = x at *
            have hwk : IntKind.i64.wrap ((i : Int) + 1) = ((i + 1 : Nat) : Int) := wrap_succ (by omega)
            have hxl : (valText x).length ≤ 900000 := by
             have := sumL_mem (l := n :: valTexts f) (w := valText x) (by rw [valTexts_map]; exact List.mem_cons_of_mem _ (List.mem_map_of_mem hmem))
             omega
            have hc := fun σ => ih x row σ hisr (by have := List.sizeOf_lt_of_mem hmem; simp at hN; omega) (rightVs_mem hrf hmem) hxl
            have hesl : (strR (n :: valTexts (f.take i))).length = i + 1 := by rw [strR_len, valTexts_map]; simp; omega
            have hrows : strR (n :: valTexts (f.take i)) ++ [[AV.lit (.string (bs (valText x)))]] = strR (n :: valTexts (f.take (i + 1))) := by rw [htake, valTexts_map, valTexts_map]; simp [strR]
            generalize valText x = tx at *
            obtain ⟨xk, xb, xd, xt, xn, xf⟩ := x
            rw [isRow] at hisr
            obtain ⟨xa, xk', xr, rfl, _⟩ := hisr
            refine CW.seqK fun K5 hK5 => CW.block ?_
            refine CW.seqK fun K hK => CW.region ?_
            simp (maxDischargeDepth := 16) [symB, List.length_set, andThen, hlen, h27, h29, hg]
            refine hK _ _ ?_; clear hK K
            have hx2 : Ext σA (σ1 ++ [AObj.cells [.lit (.int .u8 xk), .lit (.bool xb), .sl (d32 xd) xa, .lit (.bool xt), .lit (.string (bs xn)), .sl xr xk'] 37]) := hext.push _
            have hxt : (σ1 ++ [AObj.cells [.lit (.int .u8 xk), .lit (.bool xb), .sl (d32 xd) xa, .lit (.bool xt), .lit (.string (bs xn)), .sl xr xk'] 37])[σ1.length]? = some (.cells [.lit (.int .u8 xk), .lit (.bool xb), .sl (d32 xd) xa, .lit (.bool xt), .lit (.string (bs xn)), .sl xr xk'] 37) := by simp
            have htok2 : tt = .full ∨ TokAt σA (σ1 ++ [AObj.cells [.lit (.int .u8 xk), .lit (.bool xb), .sl (d32 xd) xa, .lit (.bool xt), .lit (.string (bs xn)), .sl xr xk'] 37]) (i + 1) 9 tt := htok.imp id fun h => h.ext (Ext.push (Ext.refl σ1) _)
            generalize (σ1 ++ [AObj.cells [.lit (.int .u8 xk), .lit (.bool xb), .sl (d32 xd) xa, .lit (.bool xt), .lit (.string (bs xn)), .sl xr xk'] 37]) = σ2 at *
            refine CW.region ?_
            simp (maxDischargeDepth := 16) [symB, List.length_set, andThen, outOf, hlen, h3, hxt]
            refine (hc σ2).mono ?_
            rintro r σ3 ⟨rfl, hx3⟩
            have htok3 : tt = .full ∨ TokAt σA σ3 (i + 1) 9 tt := htok2.imp id fun h => h.ext hx3
            obtain ⟨t', σ5, acc, hext5, htok5, hap⟩ := append_atG (P := Tryz.prog) (M := []) (σ := σ3) (es := strR (n :: valTexts (f.take i))) (tok := tt) (tk := .full) (fs := [[.lit (.string (bs tx))]]) (t := 23) Tryz.underlying23 szOf_9 bytesOf_9 zeroOf_9 rfl
             (by rw [hesl]; simpa using htok3) (hx2.trans hx3) (strR_head _) rfl (by simp) (by rw [hesl]; simp; omega) (by rw [hesl]; simp; omega)
            simp (maxDischargeDepth := 16) [symB, List.length_set, retK, andThen, outOf, hlen, h3, hap]
            refine hK5 _ _ ?_
            refine CW.region ?_
            simp (maxDischargeDepth := 16) [symB, List.length_set, andThen, hlen, h29, hwk]
            rw [hesl] at htok5
            refine hR2 _ _ _ ⟨f.length - (i + 1), by omega, i + 1, t', rfl, hlt, by simp [hlen], ?_, by simp (maxDischargeDepth := 16) [slot_ne, h27], by simp (maxDischargeDepth := 16) [slot_ne, h28], by simp (maxDischargeDepth := 16) [slot_eq, hlen], hext5, .inr (by simpa using htok5)⟩
            rw [← hrows]
            simp (maxDischargeDepth := 16) [slot_eq, slot_ne, hlen]
          · have hlt' : ¬ (i : Int) < f.length := by omega
            have hil : i = f.length := by omega
            rw [hil, List.take_length] at h3
            simp (maxDischargeDepth := 16) [symB, List.length_set, andThen, hlen, h28, h29, hlt', hlt]
            refine hK4 _ _ ?_
            refine CW.seqK fun K3 hK3 => ?_
            refine CW.cond (t := false) (by simp (maxDischargeDepth := 16) [zT, slot_eq, slot_ne, hlen, hlt]) ?_
            refine CW.exit ?_
            simp only [andThen]
            refine hR2 _ _ _ (hR1 _ _ _ ?_)
            simp only [outOf, if_true, andThen]
            refine hK2 _ _ ?_
            refine CW.seqK fun K5 hK5 => CW.region ?_
            simp (maxDischargeDepth := 16) [symB, List.length_set, andThen, hlen, h3]
            refine (join_ev (n :: valTexts f) tt σ1 (by simp) (by rw [hvtl]; omega) (by omega)).mono ?_
            rintro r σ2 ⟨rfl, hx2⟩
            generalize hjw : joinW (n :: valTexts f) = jw at *
            have hz1 : (⟨#[40]⟩ : ByteArray).size + (bs jw).size ≤ 140737488355328 := by rw [bsz]; show 1 + _ ≤ _; omega
            have hz2 : (bs (40 :: jw)).size + (⟨#[41]⟩ : ByteArray).size ≤ 140737488355328 := by rw [bsz]; show _ + 1 ≤ _; simp; omega
            have happ1 : (⟨#[40]⟩ : ByteArray) ++ bs jw = bs (40 :: jw) := bs_app [40] jw
            have happ2 : bs (40 :: jw) ++ (⟨#[41]⟩ : ByteArray) = bs (40 :: jw ++ [41]) := bs_app (40 :: jw) [41]
            rw [← hvt] at happ2
            simp (maxDischargeDepth := 16) [symB, List.length_set, andThen, hlen, retK, hz1, happ1, hz2, happ2]
            refine hK5 _ _ ?_
            refine CW.ret (out _ _ (done _ _ (by simp [hlen]) (by simp (maxDischargeDepth := 16) [slot_eq, slot_ne, hlen]) ((hxA.trans hext).trans hx2)))
      · rw [if_neg hk3] at hvt
        have e3 : ¬ (k : Int) = 3 := by omega
        have b3 : ((k : Int) == 3) = false := by simpa using e3
        refine CW.seqK fun K hK => CW.region ?_
        simp (maxDischargeDepth := 16) [symB, List.length_set, andThen, hlen, e3, hk3, b3]
        refine hK _ _ ?_; clear hK K
        refine CW.cond (t := false) (by simp (maxDischargeDepth := 16) [zT, slot_eq, slot_ne, hlen]) ?_
        refine CW.skip ?_
        refine hR _ _ _ ?_
        simp only [outOf, andThen]
        refine hK _ _ ?_
        refine CW.seqK fun K hK => CW.region ?_
        simp (maxDischargeDepth := 16) [symB, List.length_set, andThen, hlen]
        refine hK _ _ ?_; clear hK K
        refine CW.ret (done _ _ (by simp [hlen]) (by rw [hvt]; simp (maxDischargeDepth := 16) [slot_eq, slot_ne, hlen]; rfl) hxA)
theorem vtext_ev (v : Vl) (t1 t2 : Tok) (σ : Sto) (hr : rightV v) (hl : (valText v).length ≤ 900000) :
    CallW Tryz.prog EV 7 [aggV v t1 t2] σ fun r σ' => r = .ret (.lit (.string (bs (valText v)))) ∧ Ext σ σ' := by
 obtain ⟨k, b, d, t, n, f⟩ := v
 exact vtextR_ev _ _ _ σ (by rw [isRow]; exact ⟨_, _, _, rfl, areRows_rows f⟩) (Nat.lt_succ_self _) hr hl
end
end Go.Proofs.YtmmgjaheffbpaaaGreatDoor
