/-
 EV: parse: names: the document's Name.
-/
import Derived.Test.YtkkblmdgedmdfaaGreatDoorEvNumM
import Derived.Test.YtkkblmdgedmdfaaGreatDoorEvPTopM
namespace Go.Proofs.YtkkblmdgedmdfaaGreatDoor
set_option linter.unusedSimpArgs false
set_option linter.unusedVariables false
section
open Go.RowKit
set_option maxRecDepth 100000 in
set_option maxHeartbeats 2000000 in
theorem refName_ev (s : List UInt8) (σ : Sto) (hl : s.length ≤ 140737488355328) : CallW Tryz.prog EV 10 [.lit (.string (bs s))] σ fun r σ' => r = .ret (.lit (.bool (nameOk s))) ∧ σ' = σ := by
 refine CallW.start (fn := Tryz.f10) (M := []) rfl rfl rfl rfl (by simp) fun tm hlen hs => ?_
 have h0 := hs 0 _ rfl
 clear hs
 simp at hlen
 refine CW.hide fun R0 hR0 => ?_
 have done : ∀ (c : Bool) (tm : List AV), c = nameOk s → tm.length = 87 → slot tm 2 = .lit (.bool c) → R0 .ret tm σ := by
  intro c tm hc hlen h2
  refine hR0 _ _ _ ⟨.lit (.bool c), ?_, by rw [hc], rfl⟩
  simp (maxDischargeDepth := 16) [resultsA, omap, res_tmp, slot_eq, slot_ne, hlen, h2]
 clear hR0
 refine CW.seqK fun K hK => CW.region ?_
 simp (maxDischargeDepth := 16) [symB, List.length_set, andThen, hlen]
 refine hK _ _ ?_; clear hK K
 refine CW.seqK fun K hK => ?_
 refine CW.seqK fun K2 hK2 => CW.region ?_
 have no : nameOk s = false → ∀ tm : List AV, tm.length = 87 → slot tm 21 = .lit (.bool true) → K2 tm σ := by
  intro hno tm hlen h21
  refine hK2 _ _ ?_
  refine CW.cond (t := true) (by simp (maxDischargeDepth := 16) [evx_tmp, slot_eq, slot_ne, hlen, h21]) ?_
  refine CW.seqK fun K7 hK7 => CW.region ?_
  simp (maxDischargeDepth := 16) [symB, List.length_set, andThen, hlen]
  refine hK7 _ _ ?_
  refine CW.ret ?_
  simp only [andThen, outOf]
  exact done false _ hno.symm (by simp [hlen]) (by simp (maxDischargeDepth := 16) [slot_eq, slot_ne, hlen])
 have rest : ∀ c r, s = c :: r → (c :: r).length ≤ 40 ∧ 97 ≤ c.toNat ∧ c.toNat ≤ 122 → ∀ tm : List AV, tm.length = 87 → slot tm 0 = .lit (.string (bs s)) → slot tm 21 = .lit (.bool false) → K2 tm σ := by
  intro c0 r0 hs0 hc0 tm hlen h0 h21
  have hrest := nameOk_rest hc0
  rw [← hs0] at hrest hc0
  refine hK2 _ _ ?_
  refine CW.cond (t := false) (by simp (maxDischargeDepth := 16) [evx_tmp, slot_eq, slot_ne, hlen, h21]) ?_
  refine CW.skip ?_
  simp only [andThen]
  refine hK _ _ ?_; clear hK K hK2 K2 no
  refine CW.seqK fun K hK => ?_
  refine CW.seqK fun K hK => CW.region ?_
  simp (maxDischargeDepth := 16) [symB, List.length_set, andThen, hlen]
  refine hK _ _ ?_; clear hK K
  refine CW.block ?_
  refine CW.hide fun R hR => ?_
  refine CW.loopI (fun r tm σ1 => ∃ i, r = s.length - i ∧ i ≤ s.length ∧ (s.take i).all nch = true ∧ tm.length = 87 ∧ slot tm 0 = .lit (.string (bs s)) ∧ slot tm 3 = .lit (.int .i64 i) ∧ σ1 = σ) ?_ _ _ _
   ⟨0, rfl, by omega, rfl, by simp [hlen], by simp [slot_ne, h0], by simp (maxDischargeDepth := 16) [slot_eq, hlen], rfl⟩
  clear h0 h21 hlen tm
  rintro r tm σ1 ⟨i, rfl, hi, hw, hlen, h0, h3, rfl⟩
  refine CW.hide fun R2 hR2 => ?_
  refine CW.seqK fun K3 hK3 => ?_
  refine CW.seqK fun K4 hK4 => CW.region ?_
  by_cases hlt : i < s.length
  · have hlt' : (i : Int) < s.length := by omega
    simp (maxDischargeDepth := 16) [symB, List.length_set, andThen, hlen, h0, h3, bsz, hlt', hlt]
    refine hK4 _ _ ?_
    refine CW.cond (t := true) (by simp (maxDischargeDepth := 16) [evx_tmp, slot_eq, slot_ne, hlen]) ?_
    refine CW.skip ?_
    simp only [andThen]
    refine hK3 _ _ ?_
    have hg : (bs s)[i]? = some s[i] := by rw [bs_get, List.getElem?_eq_getElem hlt]
    have htk : s.take (i + 1) = s.take i ++ [s[i]] := by rw [List.take_add_one, List.getElem?_eq_getElem hlt]; rfl
    have hmem := List.getElem_mem hlt
    generalize s[i] = c at *
    have hwk : IntKind.i64.wrap ((i : Int) + 1) = ((i + 1 : Nat) : Int) := wrap_succ (by omega)
    refine CW.seqK fun K5 hK5 => CW.block ?_
    refine CW.seqK fun K6 hK6 => CW.region ?_
    have good : nch c = true → ∀ tm : List AV, tm.length = 87 → slot tm 0 = .lit (.string (bs s)) → slot tm 3 = .lit (.int .i64 i) → slot tm 56 = .lit (.bool false) → K6 tm σ1 := by
     intro hc tm hlen h0 h3 h56
     refine hK6 _ _ ?_
     refine CW.cond (t := false) (by simp (maxDischargeDepth := 16) [evx_tmp, slot_eq, slot_ne, hlen, h56]) ?_
     refine CW.skip ?_
     simp only [andThen, outOf]
     refine hK5 _ _ ?_
     refine CW.region ?_
     simp (maxDischargeDepth := 16) [symB, List.length_set, andThen, hlen, h3, hwk]
     refine hR2 _ _ _ ⟨s.length - (i + 1), by omega, i + 1, rfl, hlt, ?_, by simp [hlen], by simp [slot_ne, h0], by simp (maxDischargeDepth := 16) [slot_eq, hlen], rfl⟩
     rw [htk, List.all_append, hw]
     simp [hc]
    have bad : nch c = false → ∀ tm : List AV, tm.length = 87 → slot tm 56 = .lit (.bool true) → K6 tm σ1 := by
     intro hc tm hlen h56
     refine hK6 _ _ ?_
     refine CW.cond (t := true) (by simp (maxDischargeDepth := 16) [evx_tmp, slot_eq, slot_ne, hlen, h56]) ?_
     refine CW.seqK fun K7 hK7 => CW.region ?_
     simp (maxDischargeDepth := 16) [symB, List.length_set, andThen, hlen]
     refine hK7 _ _ ?_
     refine CW.ret ?_
     simp only [andThen, outOf]
     refine hR2 _ _ _ (hR _ _ _ (done false _ ?_ (by simp [hlen]) (by simp (maxDischargeDepth := 16) [slot_eq, slot_ne, hlen])))
     symm
     refine nameOk_all ?_
     rw [Bool.eq_false_iff]
     intro hall
     have := List.all_eq_true.1 hall c hmem
     rw [hc] at this; cases this
    rcases nch_cases c with ⟨a1, a2, hn⟩ | ⟨a1, a3, a4, hn⟩ | ⟨a1, a3, a4, a5, hn⟩ | ⟨a1, a2, a3, a4, a5, hn⟩ | ⟨a1, a3, a5, hn⟩ | ⟨a1, a3, a4, a5, hn⟩
    · have b1 : (97 : Int) ≤ (c.toNat : Int) := by omega
      have b2 : (c.toNat : Int) ≤ 122 := by omega
      simp (maxDischargeDepth := 16) [symB, List.length_set, andThen, hlen, h0, h3, hg, a1, a2, b1, b2]
      exact good hn _ (by simp [hlen]) (by simp [slot_ne, h0]) (by simp [slot_ne, h3]) (by simp (maxDischargeDepth := 16) [slot_eq, slot_ne, hlen])
    · have b1 : ¬ (97 : Int) ≤ (c.toNat : Int) := by omega
      have b3 : (48 : Int) ≤ (c.toNat : Int) := by omega
      have b4 : (c.toNat : Int) ≤ 57 := by omega
      simp (maxDischargeDepth := 16) [symB, List.length_set, andThen, hlen, h0, h3, hg, a1, a3, a4, b1, b3, b4]
      exact good hn _ (by simp [hlen]) (by simp [slot_ne, h0]) (by simp [slot_ne, h3]) (by simp (maxDischargeDepth := 16) [slot_eq, slot_ne, hlen])
    · have b1 : ¬ (97 : Int) ≤ (c.toNat : Int) := by omega
      have b3 : (48 : Int) ≤ (c.toNat : Int) := by omega
      have b4 : ¬ (c.toNat : Int) ≤ 57 := by omega
      have b5 : (c.toNat : Int) = 95 := by omega
      simp (maxDischargeDepth := 16) [symB, List.length_set, andThen, hlen, h0, h3, hg, a1, a3, a4, a5, b1, b3, b4, b5]
      exact good hn _ (by simp [hlen]) (by simp [slot_ne, h0]) (by simp [slot_ne, h3]) (by simp (maxDischargeDepth := 16) [slot_eq, slot_ne, hlen])
    · have b1 : (97 : Int) ≤ (c.toNat : Int) := by omega
      have b2 : ¬ (c.toNat : Int) ≤ 122 := by omega
      have b3 : (48 : Int) ≤ (c.toNat : Int) := by omega
      have b4 : ¬ (c.toNat : Int) ≤ 57 := by omega
      have b5 : ¬ (c.toNat : Int) = 95 := by omega
      simp (maxDischargeDepth := 16) [symB, List.length_set, andThen, hlen, h0, h3, hg, a1, a2, a3, a4, a5, b1, b2, b3, b4, b5]
      exact bad hn _ (by simp [hlen]) (by simp (maxDischargeDepth := 16) [slot_eq, slot_ne, hlen, a1, a2, a3, a4, a5, b1, b2, b3, b4, b5])
    · have b1 : ¬ (97 : Int) ≤ (c.toNat : Int) := by omega
      have b3 : ¬ (48 : Int) ≤ (c.toNat : Int) := by omega
      have b5 : ¬ (c.toNat : Int) = 95 := by omega
      simp (maxDischargeDepth := 16) [symB, List.length_set, andThen, hlen, h0, h3, hg, a1, a3, a5, b1, b3, b5]
      exact bad hn _ (by simp [hlen]) (by simp (maxDischargeDepth := 16) [slot_eq, slot_ne, hlen, a1, a3, a5, b1, b3, b5])
    · have b1 : ¬ (97 : Int) ≤ (c.toNat : Int) := by omega
      have b3 : (48 : Int) ≤ (c.toNat : Int) := by omega
      have b4 : ¬ (c.toNat : Int) ≤ 57 := by omega
      have b5 : ¬ (c.toNat : Int) = 95 := by omega
      simp (maxDischargeDepth := 16) [symB, List.length_set, andThen, hlen, h0, h3, hg, a1, a3, a4, a5, b1, b3, b4, b5]
      exact bad hn _ (by simp [hlen]) (by simp (maxDischargeDepth := 16) [slot_eq, slot_ne, hlen, a1, a3, a4, a5, b1, b3, b4, b5])
  · have hlt' : ¬ (i : Int) < s.length := by omega
    rw [List.take_of_length_le (by omega)] at hw
    have hfin := hrest hw
    simp (maxDischargeDepth := 16) [symB, List.length_set, andThen, hlen, h0, h3, bsz, hlt', hlt]
    refine hK4 _ _ ?_
    refine CW.cond (t := false) (by simp (maxDischargeDepth := 16) [evx_tmp, slot_eq, slot_ne, hlen, hlt]) ?_
    refine CW.exit ?_
    simp only [andThen]
    refine hR2 _ _ _ (hR _ _ _ ?_)
    simp only [outOf, if_true, andThen]
    refine hK _ _ ?_
    refine CW.seqK fun K7 hK7 => CW.region ?_
    have fin : ∀ (c : Bool) (tm : List AV), resv.contains s = !c → tm.length = 87 → slot tm 2 = .lit (.bool c) → K7 tm σ1 := by
     intro c tm hc hlen h2
     refine hK7 _ _ ?_
     exact CW.ret (done c _ (by rw [hfin, hc]; simp) hlen h2)
    have ht : (bs s).toList = s := bs_list s
    clear hrest hs0 hc0 hw hfin hR2 R2 hR R hK K hK3 K3 hK4 K4 hi
    have q0 : (⟨#[116, 114, 117, 101]⟩ : ByteArray).toList = [116, 114, 117, 101] := bs_list [116, 114, 117, 101]
    have q1 : (⟨#[102, 97, 108, 115, 101]⟩ : ByteArray).toList = [102, 97, 108, 115, 101] := bs_list [102, 97, 108, 115, 101]
    have q2 : (⟨#[116, 97, 103]⟩ : ByteArray).toList = [116, 97, 103] := bs_list [116, 97, 103]
    have q3 : (⟨#[97, 110, 100]⟩ : ByteArray).toList = [97, 110, 100] := bs_list [97, 110, 100]
    have q4 : (⟨#[111, 114]⟩ : ByteArray).toList = [111, 114] := bs_list [111, 114]
    have q5 : (⟨#[110, 111, 116]⟩ : ByteArray).toList = [110, 111, 116] := bs_list [110, 111, 116]
    have q6 : (⟨#[105, 102, 102]⟩ : ByteArray).toList = [105, 102, 102] := bs_list [105, 102, 102]
    have q7 : (⟨#[107, 97, 112, 112, 97]⟩ : ByteArray).toList = [107, 97, 112, 112, 97] := bs_list [107, 97, 112, 112, 97]
    rcases Classical.em (s = [116, 114, 117, 101]) with e0 | e0
    · have hr : resv.contains s = true := by rw [e0]; decide
      have ht : (bs s).toList = [116, 114, 117, 101] := ht.trans e0
      simp (maxDischargeDepth := 16) [symB, List.length_set, andThen, hlen, h0, ht, q0, q1, q2, q3, q4, q5, q6, q7]
      exact fin false _ (by rw [hr]; rfl) (by simp [hlen]) (by simp (maxDischargeDepth := 16) [slot_eq, slot_ne, hlen])
    rcases Classical.em (s = [102, 97, 108, 115, 101]) with e1 | e1
    · have hr : resv.contains s = true := by rw [e1]; decide
      have ht : (bs s).toList = [102, 97, 108, 115, 101] := ht.trans e1
      simp (maxDischargeDepth := 16) [symB, List.length_set, andThen, hlen, h0, ht, q0, q1, q2, q3, q4, q5, q6, q7]
      exact fin false _ (by rw [hr]; rfl) (by simp [hlen]) (by simp (maxDischargeDepth := 16) [slot_eq, slot_ne, hlen])
    rcases Classical.em (s = [116, 97, 103]) with e2 | e2
    · have hr : resv.contains s = true := by rw [e2]; decide
      have ht : (bs s).toList = [116, 97, 103] := ht.trans e2
      simp (maxDischargeDepth := 16) [symB, List.length_set, andThen, hlen, h0, ht, q0, q1, q2, q3, q4, q5, q6, q7]
      exact fin false _ (by rw [hr]; rfl) (by simp [hlen]) (by simp (maxDischargeDepth := 16) [slot_eq, slot_ne, hlen])
    rcases Classical.em (s = [97, 110, 100]) with e3 | e3
    · have hr : resv.contains s = true := by rw [e3]; decide
      have ht : (bs s).toList = [97, 110, 100] := ht.trans e3
      simp (maxDischargeDepth := 16) [symB, List.length_set, andThen, hlen, h0, ht, q0, q1, q2, q3, q4, q5, q6, q7]
      exact fin false _ (by rw [hr]; rfl) (by simp [hlen]) (by simp (maxDischargeDepth := 16) [slot_eq, slot_ne, hlen])
    rcases Classical.em (s = [111, 114]) with e4 | e4
    · have hr : resv.contains s = true := by rw [e4]; decide
      have ht : (bs s).toList = [111, 114] := ht.trans e4
      simp (maxDischargeDepth := 16) [symB, List.length_set, andThen, hlen, h0, ht, q0, q1, q2, q3, q4, q5, q6, q7]
      exact fin false _ (by rw [hr]; rfl) (by simp [hlen]) (by simp (maxDischargeDepth := 16) [slot_eq, slot_ne, hlen])
    rcases Classical.em (s = [110, 111, 116]) with e5 | e5
    · have hr : resv.contains s = true := by rw [e5]; decide
      have ht : (bs s).toList = [110, 111, 116] := ht.trans e5
      simp (maxDischargeDepth := 16) [symB, List.length_set, andThen, hlen, h0, ht, q0, q1, q2, q3, q4, q5, q6, q7]
      exact fin false _ (by rw [hr]; rfl) (by simp [hlen]) (by simp (maxDischargeDepth := 16) [slot_eq, slot_ne, hlen])
    rcases Classical.em (s = [105, 102, 102]) with e6 | e6
    · have hr : resv.contains s = true := by rw [e6]; decide
      have ht : (bs s).toList = [105, 102, 102] := ht.trans e6
      simp (maxDischargeDepth := 16) [symB, List.length_set, andThen, hlen, h0, ht, q0, q1, q2, q3, q4, q5, q6, q7]
      exact fin false _ (by rw [hr]; rfl) (by simp [hlen]) (by simp (maxDischargeDepth := 16) [slot_eq, slot_ne, hlen])
    rcases Classical.em (s = [107, 97, 112, 112, 97]) with e7 | e7
    · have hr : resv.contains s = true := by rw [e7]; decide
      have ht : (bs s).toList = [107, 97, 112, 112, 97] := ht.trans e7
      simp (maxDischargeDepth := 16) [symB, List.length_set, andThen, hlen, h0, ht, q0, q1, q2, q3, q4, q5, q6, q7]
      exact fin false _ (by rw [hr]; rfl) (by simp [hlen]) (by simp (maxDischargeDepth := 16) [slot_eq, slot_ne, hlen])
    have hr : resv.contains s = false := by simp [resv, e0, e1, e2, e3, e4, e5, e6, e7]
    have f0 : ¬ (bs s).toList = [116, 114, 117, 101] := by rw [ht]; exact e0
    have f1 : ¬ (bs s).toList = [102, 97, 108, 115, 101] := by rw [ht]; exact e1
    have f2 : ¬ (bs s).toList = [116, 97, 103] := by rw [ht]; exact e2
    have f3 : ¬ (bs s).toList = [97, 110, 100] := by rw [ht]; exact e3
    have f4 : ¬ (bs s).toList = [111, 114] := by rw [ht]; exact e4
    have f5 : ¬ (bs s).toList = [110, 111, 116] := by rw [ht]; exact e5
    have f6 : ¬ (bs s).toList = [105, 102, 102] := by rw [ht]; exact e6
    have f7 : ¬ (bs s).toList = [107, 97, 112, 112, 97] := by rw [ht]; exact e7
    simp (maxDischargeDepth := 16) [symB, List.length_set, andThen, hlen, h0, q0, q1, q2, q3, q4, q5, q6, q7, f0, f1, f2, f3, f4, f5, f6, f7]
    exact fin true _ (by rw [hr]; rfl) (by simp [hlen]) (by simp (maxDischargeDepth := 16) [slot_eq, slot_ne, hlen, f0, f1, f2, f3, f4, f5, f6, f7])
 cases s with
 | nil =>
  simp (maxDischargeDepth := 16) [symB, List.length_set, andThen, hlen, h0, bsz]
  exact no rfl _ (by simp [hlen]) (by simp (maxDischargeDepth := 16) [slot_eq, slot_ne, hlen])
 | cons c r =>
  have hne : ¬ (c :: r) = ([] : List UInt8) := by simp
  have hg0 : (bs (c :: r))[0]? = some c := by rw [bs_get]; rfl
  have hg1 : ∀ h, (bs (c :: r))[0]'h = c := fun h => rfl
  have hsz : (bs (c :: r)).size = (c :: r).length := bsz _
  have ht1 : (bs (c :: r)).toList = c :: r := bs_list _
  have rest := rest c r rfl
  have no2 : ¬ ((c :: r).length ≤ 40 ∧ 97 ≤ c.toNat ∧ c.toNat ≤ 122) → nameOk (c :: r) = false := nameOk_head
  have hp : 0 < (c :: r).length := by simp
  have hp0 : ¬ (c :: r).length = 0 := by simp
  have hp1 : ¬ ((c :: r).length : Int) = 0 := by simp; omega
  generalize (c :: r) = u at *
  by_cases l1 : u.length ≤ 40
  · have m1 : ¬ (40 : Int) < (u.length : Int) := by omega
    have m1' : ¬ 40 < u.length := by omega
    by_cases l2 : 97 ≤ c.toNat
    · have m2 : ¬ (c.toNat : Int) < 97 := by omega
      have m2' : ¬ c.toNat < 97 := by omega
      by_cases l3 : c.toNat ≤ 122
      · have m3 : ¬ (122 : Int) < (c.toNat : Int) := by omega
        have m3' : ¬ 122 < c.toNat := by omega
        simp (maxDischargeDepth := 16) [symB, List.length_set, andThen, hlen, h0, ht1, hne, hsz, hp, hp0, hp1, m1, m1', hg0, hg1, m2, m2', m3, m3']
        exact rest ⟨l1, l2, l3⟩ _ (by simp [hlen]) (by simp [slot_ne, h0]) (by simp (maxDischargeDepth := 16) [slot_eq, slot_ne, hlen, m3, m3'])
      · have m3 : (122 : Int) < (c.toNat : Int) := by omega
        have m3' : 122 < c.toNat := by omega
        simp (maxDischargeDepth := 16) [symB, List.length_set, andThen, hlen, h0, ht1, hne, hsz, hp, hp0, hp1, m1, m1', hg0, hg1, m2, m2', m3, m3']
        exact no (no2 fun h => l3 h.2.2) _ (by simp [hlen]) (by simp (maxDischargeDepth := 16) [slot_eq, slot_ne, hlen, m3, m3'])
    · have m2 : (c.toNat : Int) < 97 := by omega
      have m2' : c.toNat < 97 := by omega
      simp (maxDischargeDepth := 16) [symB, List.length_set, andThen, hlen, h0, ht1, hne, hsz, hp, hp0, hp1, m1, m1', hg0, hg1, m2, m2']
      exact no (no2 fun h => l2 h.2.1) _ (by simp [hlen]) (by simp (maxDischargeDepth := 16) [slot_eq, slot_ne, hlen, m2, m2'])
  · have m1 : (40 : Int) < (u.length : Int) := by omega
    have m1' : 40 < u.length := by omega
    simp (maxDischargeDepth := 16) [symB, List.length_set, andThen, hlen, h0, ht1, hne, hsz, hp, hp0, hp1, m1, m1']
    exact no (no2 fun h => l1 h.1) _ (by simp [hlen]) (by simp (maxDischargeDepth := 16) [slot_eq, slot_ne, hlen, m1, m1'])
end
section
open Go.RowKit
def primAwake (args : List AV) (σ : Sto) : Option (ARes × Sto) :=
 match args with
 | [] => some (.ret (.lit (.bool true)), σ)
 | _ => none
theorem primAwake_sound : CallSound Tryz.prog fun f args σ => if f = 8 then primAwake args σ else none :=
 call_sound mixedA (EN_all 400) fun args σ r σ' h => by
  unfold primAwake at h
  split at h
  · cases h
    refine CallW.toJ ((awake_ev σ).mono ?_)
    rintro r1 σ1 ⟨rfl, hx⟩
    exact Fgt.still1 hx (still_lit _)
  · cases h
theorem primName2_sound : CallSound Tryz.prog fun f args σ => if f = 10 then primName args σ else none :=
 call_sound mixedA EV_ok fun args σ r σ' h => by
  unfold primName at h
  split at h
  · rename_i s
    split at h
    · rename_i hs
      cases h
      have hz : s.data.toList.length = s.size := by rw [Array.length_toList]; rfl
      have := refName_ev s.data.toList σ (by omega)
      rw [bs_data] at this
      refine CallW.toJ (this.mono ?_)
      rintro r1 σ1 ⟨rfl, rfl⟩
      exact Fgt.still1 (Ext.refl _) (still_lit _)
    · cases h
  · cases h
noncomputable def primQ (f : FuncId) : Option (List AV → Sto → Option (ARes × Sto)) :=
 match f with
 | 8 => some primAwake
 | 9 => some primName
 | 10 => some primName
 | f => primEV f
noncomputable def EQ : Env := { code := codeEV, prim := primQ, ms := msEV }
theorem EQ_ok : EnvOk Tryz.prog EQ where
 code := codeEV_ok
 prim := fun f g h => by
  have h : primQ f = some g := h
  unfold primQ at h
  split at h
  · cases h; exact primAwake_sound
  · cases h; exact primName_sound
  · cases h; exact primName2_sound
  · exact EV_ok.prim _ _ h
set_option maxRecDepth 100000 in
theorem parseNames_ev (s : List UInt8) (σ : Sto) (hs : s.length ≤ 140737488355328) : CallW Tryz.prog EQ 3 [.lit (.string (bs s))] σ fun r σ' => r = .ret (.lit (.bool true)) ∧ Ext σ σ' := by
 refine CallW.start (fn := Tryz.f3) (M := []) rfl rfl rfl rfl (by simp) fun tm hlen hs0 => ?_
 have h0 := hs0 0 _ rfl
 clear hs0
 simp at hlen
 refine CW.hide fun R0 hR0 => ?_
 refine CW.seqK fun K hK => CW.region ?_
 simp (maxDischargeDepth := 16) [symB, List.length_set, andThen, hlen]
 refine hK _ _ ?_; clear hK K
 refine CW.seqK fun KA hKA => ?_
 refine CW.seqK fun KB hKB => CW.region ?_
 simp (maxDischargeDepth := 16) [symB, List.length_set, andThen, hlen]
 refine CallW.prim (g := primAwake) rfl (r := .ret (.lit (.bool true))) (σ' := σ) rfl ?_
 simp (maxDischargeDepth := 16) [symB, List.length_set, retK, andThen, hlen]
 refine hKB _ _ ?_; clear hKB KB
 refine CW.cond (t := false) (by simp [evx_tmp, slot_eq, slot_ne, hlen]) ?_
 refine CW.skip ?_
 simp only [andThen]
 refine hKA _ _ ?_; clear hKA KA
 refine CW.seqK fun K hK => CW.region ?_
 by_cases hl : 3000 < s.length
 · have hl' : (3000 : Int) < s.length := by omega
   simp (maxDischargeDepth := 16) [symB, List.length_set, andThen, hlen, h0, bsz, hl, hl']
   refine hK _ _ ?_; clear hK K
   refine CW.ret (hR0 _ _ _ ⟨.lit (.bool true), ?_, rfl, Ext.refl _⟩)
   simp [resultsA, omap, res_tmp, slot_eq, slot_ne, hlen, hl, hl']
 · have hl' : ¬ (3000 : Int) < s.length := by omega
   simp (maxDischargeDepth := 16) [symB, List.length_set, andThen, hlen, h0, bsz, hl, hl']
   refine CallW.prim (g := primName) rfl (primName_eq s _ (by omega)) ?_
   simp (maxDischargeDepth := 16) [symB, List.length_set, retK, andThen, hlen, h0, bsz, hl, hl']
   refine CallW.prim (g := primName) rfl (primName_eq s _ (by omega)) ?_
   simp (maxDischargeDepth := 16) [symB, List.length_set, retK, andThen, hlen, h0, bsz, hl, hl']
   refine hK _ _ ?_; clear hK K
   refine CW.ret (hR0 _ _ _ ⟨.lit (.bool true), ?_, rfl, Ext.refl _⟩)
   simp [resultsA, omap, res_tmp, slot_eq, slot_ne, hlen, hl, hl']
end
end Go.Proofs.YtkkblmdgedmdfaaGreatDoor
