/-
 EV: num.Of 5; value.Size; awake.
-/
import Derived.Test.YtmmgjaheffbpaaaGreatDoorLexBackLawQ
import Derived.Test.YtmmgjaheffbpaaaGreatDoorLent3Q
namespace Go.Proofs.YtmmgjaheffbpaaaGreatDoor
set_option maxRecDepth 100000
set_option maxHeartbeats 8000000
set_option linter.unusedSimpArgs false
set_option linter.unusedVariables false
set_option linter.unusedSectionVars false
section
open Go.RowKit
theorem small5_ev (σ : Sto) : CallW Tryz.prog EV 18 [.lit (.int .u64 5), .lit (.bool false)] σ fun r σ' => (∃ t, r = .ret (.agg [.sl (d32 (normD [5])) t, .lit (.bool false)])) ∧ Ext σ σ' := by
 refine CallW.start (fn := Tryz.f18) (M := []) rfl rfl rfl rfl (by simp) fun tm hlen hs => ?_
 have h0 := hs 0 _ rfl
 have h1 := hs 1 _ rfl
 clear hs
 simp at hlen
 refine CW.hide fun R0 hR0 => ?_
 refine CW.seqK fun K hK => CW.region ?_
 simp (maxDischargeDepth := 16) [symB, List.length_set, andThen, hlen, h0]
 refine hK _ _ ?_; clear hK K
 have hob : (σ ++ [AObj.cells [.sl [] .full, .lit (.bool false)] 51])[σ.length]? = some (.cells [.sl [] .full, .lit (.bool false)] 51) := by simp
 have hx : Ext σ (σ ++ [AObj.cells [.sl [] .full, .lit (.bool false)] 51]) := ⟨_, rfl⟩
 generalize (σ ++ [AObj.cells [.sl [] .full, .lit (.bool false)] 51]) = σA at *
 refine CW.seqK fun K hK => CW.region ?_
 simp (maxDischargeDepth := 16) [symB, List.length_set, andThen, hlen]
 refine hK _ _ ?_; clear hK K
 refine CW.seqK fun K hK => CW.block ?_
 refine CW.hide fun R hR => ?_
 refine CW.loopI (fun r tm σ1 => tm.length = 19 ∧ slot tm 1 = .lit (.bool false) ∧ slot tm 4 = .ptr σ.length 0 ∧ Ext σA σ1 ∧ ((r = 1 ∧ slot tm 0 = .lit (.int .u64 5) ∧ slot tm 5 = .sl [] .full) ∨ (r = 0 ∧ slot tm 0 = .lit (.int .u64 0) ∧ ∃ t, slot tm 5 = .sl (d32 [5]) t))) ?_ 1 _ _
  ⟨by simp [hlen], by simp (maxDischargeDepth := 16) [slot_ne, h1], by simp (maxDischargeDepth := 16) [slot_eq, slot_ne, hlen], .refl _, .inl ⟨rfl, by simp (maxDischargeDepth := 16) [slot_ne, h0], by simp (maxDischargeDepth := 16) [slot_eq, slot_ne, hlen]⟩⟩
 clear h0 h1 hlen tm
 rintro r tm σ1 ⟨hlen, h1, h4, hx1, h⟩
 refine CW.hide fun R2 hR2 => ?_
 refine CW.seqK fun K3 hK3 => ?_
 refine CW.seqK fun K4 hK4 => CW.region ?_
 rcases h with ⟨rfl, h0, h5⟩ | ⟨rfl, h0, t, h5⟩
 · simp (maxDischargeDepth := 16) [symB, List.length_set, andThen, hlen, h0]
   refine hK4 _ _ ?_
   refine CW.cond (t := true) (by simp (maxDischargeDepth := 16) [zT, slot_eq, slot_ne, hlen]) ?_
   refine CW.skip ?_
   simp only [andThen]
   refine hK3 _ _ ?_
   obtain ⟨t', σ3, acc, hext3, htok3, hap⟩ := append_atG (P := Tryz.prog) (M := []) (σ0 := σA) (σ := σ1) (es := []) (tok := .full) (tk := .full) (fs := [[.lit (.int .u32 5)]]) (t := 32) Tryz.underlying32 szOf_79 bytesOf_79 zeroOf_79 rfl
    (.inl rfl) hx1 rfl rfl (by simp) (by simp) (by simp)
   have hw5 : IntKind.u64.wrap ((5 : Int).tmod 1000000000) = 5 := rfl
   have hw6 : IntKind.u32.wrap 5 = 5 := rfl
   have hw8 : IntKind.u64.wrap 0 = 0 := rfl
   have hw7 : IntKind.u64.wrap ((5 : Int).tdiv 1000000000) = 0 := rfl
   refine CW.seqK fun K5 hK5 => CW.block ?_
   refine CW.region ?_
   simp (maxDischargeDepth := 16) [symB, List.length_set, andThen, outOf, hlen, h0, h5, hw5, hw6, hap]
   refine hK5 _ _ ?_
   refine CW.region ?_
   simp (maxDischargeDepth := 16) [symB, List.length_set, andThen, outOf, hlen, h0, hw7]
   exact hR2 _ _ _ ⟨0, by omega, by simp [hlen], by simp (maxDischargeDepth := 16) [slot_ne, h1], by simp (maxDischargeDepth := 16) [slot_ne, h4], hext3, .inr ⟨rfl, by simp (maxDischargeDepth := 16) [slot_eq, slot_ne, hlen, hw8], t', by simp (maxDischargeDepth := 16) [slot_eq, slot_ne, hlen]; rfl⟩⟩
 · simp (maxDischargeDepth := 16) [symB, List.length_set, andThen, hlen, h0]
   refine hK4 _ _ ?_
   refine CW.cond (t := false) (by simp (maxDischargeDepth := 16) [zT, slot_eq, slot_ne, hlen]) ?_
   refine CW.exit ?_
   simp only [andThen]
   refine hR2 _ _ _ (hR _ _ _ ?_)
   simp only [outOf, if_true, andThen]
   refine hK _ _ ?_
   refine CW.seqK fun K5 hK5 => CW.region ?_
   simp (maxDischargeDepth := 16) [symB, List.length_set, andThen, outOf, hlen, h1, h5]
   refine (made_ev [5] false t σ1 (by simp) (by simp)).mono ?_
   rintro r σ2 ⟨u, rfl, hx2⟩
   generalize normD [5] = m at *
   have hob2 := hx2.get (hx1.get hob)
   have hl2 := (List.getElem?_eq_some_iff.1 hob2).1
   simp (maxDischargeDepth := 16) [symB, List.length_set, andThen, hlen, retK, h4, hob2]
   refine hK5 _ _ ?_
   refine CW.ret (hR0 _ _ _ ⟨.agg [.sl (d32 m) u, .lit (.bool false)], ?_, ⟨u, rfl⟩, ((hx.trans hx1).trans hx2).set (Nat.le_refl _)⟩)
   simp (maxDischargeDepth := 16) [zA, omap, zC, slot_eq, slot_ne, hlen, h4, hl2, partA, aggT]
theorem numOf5_ev (σ : Sto) : CallW Tryz.prog EV 6 [.lit (.int .i64 5)] σ fun r σ' => (∃ t, r = .ret (.agg [.lit (.bool false), .sl (d32 (normD [5])) t])) ∧ Ext σ σ' := by
 refine CallW.start (fn := Tryz.f6) (M := []) rfl rfl rfl rfl (by simp) fun tm hlen hs => ?_
 have h0 := hs 0 _ rfl
 clear hs
 simp at hlen
 refine CW.hide fun R0 hR0 => ?_
 refine CW.seqK fun K hK => CW.region ?_
 simp (maxDischargeDepth := 16) [symB, List.length_set, andThen, hlen, h0]
 refine hK _ _ ?_; clear hK K
 have hob : (σ ++ [AObj.cells [.lit (.bool false), .sl [] .full] 34])[σ.length]? = some (.cells [.lit (.bool false), .sl [] .full] 34) := by simp
 have hx : Ext σ (σ ++ [AObj.cells [.lit (.bool false), .sl [] .full] 34]) := ⟨_, rfl⟩
 generalize (σ ++ [AObj.cells [.lit (.bool false), .sl [] .full] 34]) = σA at *
 refine CW.seqK fun K hK => ?_
 refine CW.seqK fun K hK => CW.region ?_
 simp (maxDischargeDepth := 16) [symB, List.length_set, andThen, hlen, h0]
 refine hK _ _ ?_; clear hK K
 refine CW.cond (t := false) (by simp (maxDischargeDepth := 16) [zT, slot_eq, slot_ne, hlen]) ?_
 refine CW.skip ?_
 simp only [andThen]
 refine hK _ _ ?_; clear hK K
 have hw5 : IntKind.u64.wrap 5 = 5 := rfl
 refine CW.seqK fun K hK => CW.region ?_
 simp (maxDischargeDepth := 16) [symB, List.length_set, andThen, hlen, h0, hw5]
 refine (small5_ev σA).mono ?_
 rintro r σ2 ⟨⟨t, rfl⟩, hx2⟩
 generalize normD [5] = m at *
 simp (maxDischargeDepth := 16) [symB, List.length_set, andThen, hlen, retK]
 refine (out_ev m false t σ2).mono ?_
 rintro r σ3 ⟨rfl, hx3⟩
 have hob2 := hx3.get (hx2.get hob)
 have hl2 := (List.getElem?_eq_some_iff.1 hob2).1
 simp (maxDischargeDepth := 16) [symB, List.length_set, andThen, hlen, retK, hob2]
 refine hK _ _ ?_
 refine CW.ret (hR0 _ _ _ ⟨.agg [.lit (.bool false), .sl (d32 m) t], ?_, ⟨t, rfl⟩, ((hx.trans hx2).trans hx3).set (Nat.le_refl _)⟩)
 simp (maxDischargeDepth := 16) [zA, omap, zC, slot_eq, slot_ne, hlen, hl2, partA, aggT]
inductive Sz : List (List AV) → Nat → Prop
 | nil : Sz [] 0
 | cons {k : Nat} {b t : Bool} {d : List (List AV)} {s : ByteArray} {fs l : List (List AV)} {ta tk : Tok} {n m : Nat} : Sz fs n → Sz l m → Sz ([.lit (.int .u8 k), .lit (.bool b), .sl d ta, .lit (.bool t), .lit (.string s), .sl fs tk] :: l) (1 + n + m)
theorem Sz.len {l : List (List AV)} {n : Nat} (h : Sz l n) : l.length ≤ n := by
 induction h with
 | nil => simp
 | cons _ _ _ ih => simp; omega
theorem size_ev (N : Nat) : ∀ (rows : List (List AV)) (n : Nat) (tok : Tok) (σ : Sto), Sz rows n → n < N → n ≤ 1000000 → CallW Tryz.prog EV 8 [.sl rows tok] σ fun r σ' => r = .ret (.lit (.int .i64 n)) ∧ Ext σ σ' := by
 induction N with
 | zero => intro rows n tok σ _ h; omega
 | succ N ih =>
  intro rows n tok σ hsz hN hn
  refine CallW.start (fn := Tryz.f8) (M := []) rfl rfl rfl rfl (by simp) fun tm hlen hs => ?_
  have h0 := hs 0 _ rfl
  clear hs
  simp at hlen
  refine CW.hide fun R0 hR0 => ?_
  have hln := hsz.len
  refine CW.seqK fun K hK => CW.region ?_
  simp (maxDischargeDepth := 16) [symB, List.length_set, andThen, hlen, h0]
  refine hK _ _ ?_; clear hK K
  refine CW.seqK fun K hK => CW.region ?_
  simp (maxDischargeDepth := 16) [symB, List.length_set, andThen, hlen, h0]
  refine hK _ _ ?_; clear hK K
  refine CW.seqK fun K hK => ?_
  refine CW.seqK fun K hK => CW.region ?_
  simp (maxDischargeDepth := 16) [symB, List.length_set, andThen, hlen, h0]
  refine hK _ _ ?_; clear hK K
  refine CW.block ?_
  refine CW.hide fun R hR => ?_
  refine CW.loopI (fun r tm σ1 => ∃ i m : Nat, r = rows.length - i ∧ i ≤ rows.length ∧ Sz (rows.drop i) m ∧ m ≤ n ∧ tm.length = 21 ∧ slot tm 3 = .lit (.int .i64 ((n - m + (rows.length - i) : Nat) : Int)) ∧ slot tm 8 = .sl rows tok ∧ slot tm 9 = .lit (.int .i64 rows.length) ∧ slot tm 10 = .lit (.int .i64 i) ∧ Ext σ σ1) ?_ _ _ _
   ⟨0, n, rfl, by omega, hsz, by omega, by simp [hlen], by simp (maxDischargeDepth := 16) [slot_eq, slot_ne, hlen], by simp (maxDischargeDepth := 16) [slot_eq, slot_ne, hlen], by simp (maxDischargeDepth := 16) [slot_eq, slot_ne, hlen], by simp (maxDischargeDepth := 16) [slot_eq, hlen], .refl _⟩
  clear h0 hlen tm
  rintro r tm σ1 ⟨i, m, rfl, hi, hsm, hmn, hlen, h3, h8, h9, h10, hext⟩
  refine CW.hide fun R2 hR2 => ?_
  refine CW.seqK fun K4 hK4 => CW.region ?_
  by_cases hlt : i < rows.length
  · have hlt' : (i : Int) < rows.length := by omega
    simp (maxDischargeDepth := 16) [symB, List.length_set, andThen, hlen, h9, h10, hlt', hlt]
    refine hK4 _ _ ?_
    refine CW.seqK fun K3 hK3 => ?_
    refine CW.cond (t := true) (by simp (maxDischargeDepth := 16) [zT, slot_eq, slot_ne, hlen, hlt']) ?_
    refine CW.skip ?_
    simp only [andThen]
    refine hK3 _ _ ?_
    have hgr := List.getElem?_eq_getElem hlt
    rw [List.drop_eq_getElem_cons hlt] at hsm
    generalize rows[i] = row at *
    generalize hdr : rows.drop (i + 1) = rest at *
    cases hsm with
    | @cons k b t d s fs _ ta tk f m' hf hm =>
     have hwk : IntKind.i64.wrap ((i : Int) + 1) = ((i + 1 : Nat) : Int) := wrap_succ (by omega)
     obtain ⟨s3, hs3⟩ : ∃ s3, s3 = n - (1 + f + m') + (rows.length - i) := ⟨_, rfl⟩
     rw [← hs3] at h3
     have hws : IntKind.i64.wrap ((s3 : Int) + (f : Int)) = ((s3 + f : Nat) : Int) := by rw [IntWalk.i64_in _ ⟨by omega, by omega⟩]; omega
     refine CW.seqK fun K5 hK5 => CW.block ?_
     refine CW.seqK fun K hK => CW.region ?_
     simp (maxDischargeDepth := 16) [symB, List.length_set, andThen, hlen, h8, h10, hgr]
     refine hK _ _ ?_; clear hK K
     have hx2 : Ext σ (σ1 ++ [AObj.cells [.lit (.int .u8 k), .lit (.bool b), .sl d ta, .lit (.bool t), .lit (.string s), .sl fs tk] 37]) := hext.push _
     have hxt : (σ1 ++ [AObj.cells [.lit (.int .u8 k), .lit (.bool b), .sl d ta, .lit (.bool t), .lit (.string s), .sl fs tk] 37])[σ1.length]? = some (.cells [.lit (.int .u8 k), .lit (.bool b), .sl d ta, .lit (.bool t), .lit (.string s), .sl fs tk] 37) := by simp
     generalize (σ1 ++ [AObj.cells [.lit (.int .u8 k), .lit (.bool b), .sl d ta, .lit (.bool t), .lit (.string s), .sl fs tk] 37]) = σ2 at *
     refine CW.region ?_
     simp (maxDischargeDepth := 16) [symB, List.length_set, andThen, outOf, hlen, h3, hxt]
     refine (ih fs f tk σ2 hf (by omega) (by omega)).mono ?_
     rintro r σ3 ⟨rfl, hx3⟩
     simp (maxDischargeDepth := 16) [symB, List.length_set, andThen, hlen, retK, hws]
     refine hK5 _ _ ?_
     refine CW.region ?_
     simp (maxDischargeDepth := 16) [symB, List.length_set, andThen, outOf, hlen, h10, hwk]
     refine hR2 _ _ _ ⟨rows.length - (i + 1), by omega, i + 1, m', rfl, by omega, by rw [hdr]; exact hm, by omega, by simp [hlen], ?_, by simp (maxDischargeDepth := 16) [slot_ne, h8], by simp (maxDischargeDepth := 16) [slot_ne, h9], by simp (maxDischargeDepth := 16) [slot_eq, hlen], hx2.trans hx3⟩
     rw [show n - m' + (rows.length - (i + 1)) = s3 + f by omega]
     simp (maxDischargeDepth := 16) [slot_eq, slot_ne, hlen]
  · have hlt' : ¬ (i : Int) < rows.length := by omega
    have hil : i = rows.length := by omega
    rw [List.drop_of_length_le (by omega)] at hsm
    cases hsm
    rw [show n - 0 + (rows.length - i) = n by omega] at h3
    simp (maxDischargeDepth := 16) [symB, List.length_set, andThen, hlen, h9, h10, hlt', hlt]
    refine hK4 _ _ ?_
    refine CW.seqK fun K3 hK3 => ?_
    refine CW.cond (t := false) (by simp (maxDischargeDepth := 16) [zT, slot_eq, slot_ne, hlen, hlt]) ?_
    refine CW.exit ?_
    simp only [andThen]
    refine hR2 _ _ _ (hR _ _ _ ?_)
    simp only [outOf, if_true, andThen]
    refine hK _ _ ?_
    refine CW.seqK fun K hK => CW.region ?_
    simp (maxDischargeDepth := 16) [symB, List.length_set, andThen, hlen, h3]
    refine hK _ _ ?_; clear hK K
    refine CW.ret (hR0 _ _ _ ⟨.lit (.int .i64 n), ?_, rfl, hext⟩)
    simp (maxDischargeDepth := 16) [zA, omap, zB, slot_eq, slot_ne, hlen]
def wakeV : Vl := .mk 3 false [] false [99, 111, 110, 115] [.mk 1 false [5] false [] [], .mk 3 false [] false [110, 105, 108] []]
def wakeT : List UInt8 := [40, 99, 111, 110, 115, 32, 53, 32, 40, 110, 105, 108, 41, 41]
def wakeR (t : Tok) : List AV := [.lit (.int .u8 3), .lit (.bool false), .sl [] .full, .lit (.bool false), .lit (.string ⟨#[99, 111, 110, 115]⟩), .sl [[.lit (.int .u8 1), .lit (.bool false), .sl (d32 [5]) t, .lit (.bool false), .lit (.string ⟨#[]⟩), .sl [] .full], [.lit (.int .u8 3), .lit (.bool false), .sl [] .full, .lit (.bool false), .lit (.string ⟨#[110, 105, 108]⟩), .sl [] .full]] .full]
theorem wakeR_row (t : Tok) : isRow wakeV (wakeR t) := by
 unfold wakeV wakeR
 rw [isRow]
 refine ⟨.full, .full, _, rfl, ?_⟩
 rw [areRows]
 refine ⟨_, _, rfl, ?_, ?_⟩
 · rw [isRow]; exact ⟨t, .full, [], rfl, by rw [areRows]⟩
 · rw [areRows]
   refine ⟨_, _, rfl, ?_, by rw [areRows]⟩
   rw [isRow]; exact ⟨.full, .full, [], rfl, by rw [areRows]⟩
theorem wakeR_sz (t : Tok) : Sz [wakeR t, wakeR t] 6 := by
 have h1 : ∀ l m, Sz l m → Sz (wakeR t :: l) (1 + (1 + 0 + (1 + 0 + 0)) + m) := fun l m h => Sz.cons (k := 3) (Sz.cons (k := 1) .nil (Sz.cons (k := 3) .nil .nil)) h
 exact h1 _ _ (h1 _ _ .nil)
theorem dec5 : dec 5 = [53] := by rw [dec, dif_pos (by omega)]; rfl
theorem wake_text : valText wakeV = wakeT := by
 have h5 : valText (.mk 1 false [5] false [] []) = [53] := by
  rw [valText, if_pos rfl]
  show natText [5] = [53]
  unfold natText
  simp [dec5]
 have hn : valText (.mk 3 false [] false [110, 105, 108] []) = [40, 110, 105, 108, 41] := by
  rw [valText, if_neg (by omega), if_neg (by omega), if_pos rfl, if_neg (by simp)]; rfl
 unfold wakeV
 rw [valText, if_neg (by omega), if_neg (by omega), if_pos rfl, if_neg (by simp), valTexts, valTexts, valTexts, h5, hn]
 rfl
theorem norm5 : normD [5] = [5] := normD_right ⟨by simp [B9], rfl⟩
theorem wake_right : rightV wakeV := by
 unfold wakeV
 simp [rightV, rightVs, RightI, RightD, B9]
 rfl
theorem awake_ev (σ : Sto) : CallW Tryz.prog EV 4 [] σ fun r σ' => r = .ret (.lit (.bool true)) ∧ Ext σ σ' := by
 refine CallW.start (fn := Tryz.f4) (M := []) rfl rfl rfl rfl (by simp) fun tm hlen hs => ?_
 clear hs
 simp at hlen
 refine CW.hide fun R0 hR0 => ?_
 refine CW.seqK fun K hK => CW.region ?_
 simp (maxDischargeDepth := 16) [symB, List.length_set, andThen, hlen]
 refine hK _ _ ?_; clear hK K
 refine CW.seqK fun K hK => CW.region ?_
 simp (maxDischargeDepth := 16) [symB, List.length_set, andThen, hlen]
 refine (numOf5_ev σ).mono ?_
 rintro r σ2 ⟨⟨t, rfl⟩, hx2⟩
 rw [norm5]
 simp (maxDischargeDepth := 16) [symB, List.length_set, andThen, hlen, retK]
 refine hK _ _ ?_; clear hK K
 have hx3 : Ext σ (σ2 ++ [AObj.cells (wakeR t) 37]) := hx2.push _
 have ho3 : (σ2 ++ [AObj.cells (wakeR t) 37])[σ2.length]? = some (.cells (wakeR t) 37) := by simp
 refine CW.reset (fun tm => tm.length = 17 ∧ slot tm 1 = .ptr σ2.length 0) ⟨by simp [hlen], by simp (maxDischargeDepth := 16) [slot_eq, slot_ne, hlen]⟩ ?_
 clear hlen tm
 rintro tm ⟨hlen, h1⟩
 have hch : CW Tryz.prog EV [] (tailC 2 (Tryz.f4.body.getD .skip)) tm (σ2 ++ [AObj.cells (wakeR t) 37]) R0 := by
  generalize (σ2 ++ [AObj.cells (wakeR t) 37]) = σ3 at *
  have htx := fun σ => vtextR_ev _ wakeV (wakeR t) σ (wakeR_row t) (Nat.lt_succ_self _) wake_right (by rw [wake_text]; simp [wakeT])
  have hsz := fun σ => size_ev 7 [wakeR t, wakeR t] 6 .full σ (wakeR_sz t) (by omega) (by omega)
  rw [wake_text] at htx
  unfold wakeR at htx hsz ho3
  have hwt : (bs wakeT).toList = wakeT := bs_list _
  have hwt2 : (⟨#[40, 99, 111, 110, 115, 32, 53, 32, 40, 110, 105, 108, 41, 41]⟩ : ByteArray).toList = wakeT := bs_list wakeT
  refine CW.seqK fun K hK => CW.region ?_
  simp (maxDischargeDepth := 16) [symB, List.length_set, andThen, hlen, h1, ho3]
  refine (htx σ3).mono ?_
  rintro r σ4 ⟨rfl, hx4⟩
  have ho4 := hx4.get ho3
  simp (maxDischargeDepth := 16) [symB, List.length_set, andThen, hlen, retK, h1, ho4, hwt, hwt2]
  refine (hsz σ4).mono ?_
  rintro r σ5 ⟨rfl, hx5⟩
  simp (maxDischargeDepth := 16) [symB, List.length_set, andThen, hlen, retK]
  refine hK _ _ ?_
  refine CW.ret (hR0 _ _ _ ⟨.lit (.bool true), ?_, rfl, (hx3.trans hx4).trans hx5⟩)
  simp (maxDischargeDepth := 16) [zA, omap, zB, slot_eq, slot_ne, hlen]
 exact hch
end
section
open Go.RowKit
end
section
open Go.RowKit
variable {S : Sp} {N : Nat}
theorem call_smU {P : Program} {S : Sp} {N r : Nat} {f : FuncId} {α : Type} {A : α → List AV} {R : α → AV} {p : α → Prop} {n : α → Nat} {args : List AV} {σ : Sto} {Q : ARes → Sto → Prop} (x : α) (h : S.sp f = some (smF A R p n r)) (hi : ∀ a b : α, A a = A b → R a = R b) (ha : nrmR args = A x) (hb : p x) (hN : 16 * n x + r < N)
    (hq : accW (S.E N) f args σ (.ret (R x)) σ = .lcalls (fun _ => true) → Q (.ret (R x)) σ) : CallW P (S.E N) f args σ Q :=
 have hu : FS.uniq (smF A R p n r) := fun a b σ e _ _ => by show (ARes.ret (R a), σ) = (ARes.ret (R b), σ); rw [hi _ _ e]
 call_sp x h hu ha hb hN (hq (by have := acc_sp (σ := σ) x h hu ha hN rfl (fun l => ⟨hb, rfl⟩); rw [kept_self] at this; exact this))
theorem call_smKU {P : Program} {S : Sp} {N r : Nat} {f : FuncId} {α : Type} {A : α → List AV} {R : α → AV} {p : α → Prop} {n : α → Nat} {args : List AV} {σ : Sto} {Q : ARes → Sto → Prop} (x : α) (h : S.sp f = some (smF A R p n r)) (hi : ∀ a b : α, A a = A b → R a = R b) (ha : flatR args = A x) (hne : ∀ b, nrmR args ≠ A b) (hb : p x) (hN : 16 * n x + r < N)
    (hq : accW (S.E N) f args σ (.ret (R x)) σ = .lcalls (fun _ => true) → Q (.ret (R x)) σ) : CallW P (S.E N) f args σ Q :=
 have hu : FS.uniq (smF A R p n r) := fun a b σ e _ _ => by show (ARes.ret (R a), σ) = (ARes.ret (R b), σ); rw [hi _ _ e]
 call_spK x h hu (.inr ⟨ha, hne⟩) hb hN (hq (by have := acc_spK (σ := σ) x h hu (.inr ⟨ha, hne⟩) hN rfl (fun l => ⟨hb, rfl⟩); rw [kept_self] at this; exact this))
abbrev sameVF : FS := smF (fun v : Vl => [aggV v .no .no, aggV v .no .no]) (fun _ => .lit (.bool true)) (fun v => smallV v) (fun _ => 0) 0
def markVl (i : Nat) : Vl := .mk 0 false [] false [35, 1, 0, 0, 47, UInt8.ofNat i, 0, 0] []
theorem kMV_small (i : Nat) : smallV (markVl i) := by rw [markVl, smallV]; exact ⟨by simp, by simp, trivial⟩
def zeroK (k : Nat) : Vl := .mk k false [] false [] []
theorem zeroK_small (k : Nat) : smallV (zeroK k) := by rw [zeroK, smallV]; exact ⟨by simp, by simp, trivial⟩
theorem room1_get {i : Nat} (h : i < 12) : (roomRows 1)[i]? = some [.lit (.int .u8 0), .lit (.bool false), .sl [] .no, .lit (.bool false), .lit (.string (markB i)), .sl [] .no] := by
 rcases i with _ | _ | _ | _ | _ | _ | _ | _ | _ | _ | _ | _ | i
 iterate 12 rfl
 omega
abbrev keptV0F : FS := smF (fun _ : Unit => [.rsl [] 1, .sl [] .no]) (fun _ => .lit (.bool true)) (fun _ => True) (fun _ => 0) 2
theorem KeptValuesN_w (hc : S.code = codeP Tryz.prog) (hm : S.ms 36 = []) (hk : S.sp 45 = some markVF) (hs : S.sp 14 = some sameVF) : SmOk Tryz.prog S N 36 (fun _ : Unit => [.rsl [] 1, .sl [] .no]) (fun _ => .lit (.bool true)) (fun _ => True) (fun _ => 0) 2 := by
 intro l σ hl hN
 have hN0 : 16 * 0 + 1 < N := by omega
 have hN1 : 16 * 0 + 0 < N := by omega
 refine JC.startF (fn := Tryz.f36) (codeOf hc Tryz.func36 rfl (by kernel_rfl)) rfl hm rfl (zL rfl) fun tm => ?_
 refine CW.hide fun R0 hR0 => ?_
 have e1 : (roomRows 1).length = 12 := rfl
 have e2 : ((roomRows 1).head?.all (·.length == 5 + 1)) = true := rfl
 have e3 := @room1_get
 generalize hR : roomRows 1 = R at e1 e2 e3
 refine CW.seqK fun K hK => CW.region ?_
 simp (maxDischargeDepth := 16) [zY]
 refine hK _ _ ?_; clear hK K
 refine CW.seqK fun K hK => CW.seqK fun K2 hK2 => CW.region ?_
 simp (maxDischargeDepth := 16) [zY]
 refine hK2 _ _ ?_; clear hK2 K2
 refine CW.cond (t := false) (by simp [zT, zF, lk]) ?_
 refine CW.skip (hK _ _ ?_); clear hK K
 refine CW.seqK fun K hK => CW.region ?_
 simp (maxDischargeDepth := 16) [zY, (by decide : IntKind.i64.wrap 12 = 12), hR, e1, e2]
 refine hK _ _ ?_; clear hK K
 refine CW.keep [1, 4, 5] fun tm => ?_
 simp only [sel, List.contains_cons, List.contains_nil, Bool.or_false, Nat.reduceBEq, Bool.false_eq_true, if_false, if_true, Bool.or_true, Bool.true_or]
 refine CW.seqK fun KL hKL => ?_
 refine CW.seqK fun K hK => CW.region ?_
 simp (maxDischargeDepth := 16) [zY]
 refine hK _ _ ?_; clear hK K
 refine CW.block (CW.hide fun R1 hR1 => ?_)
 refine CW.loopF (fun p : Nat => [(1, .sl [] .no), (5, .sl R .no), (6, intV p)]) (fun _ => σ) (fun p => p ≤ 12) (fun p => 12 - p) 0 (by simp [sub, lk]) rfl (Nat.zero_le _) ?_
 intro i tm hi
 refine CW.hide fun R2 hR2 => CW.seqK fun K3 hK3 => CW.seqK fun K4 hK4 => CW.region ?_
 rcases Nat.lt_or_ge i 12 with hlt | hge
 · have hlt' : ((i : Int) < 12) = True := eq_true (by omega)
   simp (maxDischargeDepth := 16) [zY, hlt', e1]
   refine hK4 _ _ ?_
   refine CW.cond (t := true) (by simp [zT, zF, lk]) ?_
   refine CW.skip (hK3 _ _ ?_)
   refine CW.seqK fun K5 hK5 => CW.block ?_
   refine CW.seqK fun K6 hK6 => CW.draw (by kernel_rfl) ?_
   have q1 : ((i : Int) < 0) = False := eq_false (by omega)
   have q2 : ((0 : Int) ≤ (i : Int)) = True := eq_true (by omega)
   have q3 := e3 hlt
   have hsub : IntKind.i64.wrap ((i : Int) - 0) = (i : Int) := by rw [IntWalk.i64_in _ ⟨by omega, by omega⟩]; omega
   have hsub2 : IntKind.i64.wrap ((i : Int)) = (i : Int) := by rw [IntWalk.i64_in _ ⟨by omega, by omega⟩]
   simp (maxDischargeDepth := 16) [zY, q1, q2, q3, hsub, hsub2, e1]
   refine call_sm i hk mark_inj (by simp only [nrmR, AV.nrm]) hlt hN0 fun hac => ?_
   simp (maxDischargeDepth := 16) [zY, hac]
   refine call_smU (markVl i) hs (fun _ _ _ => rfl) (by simp only [nrmR, AV.nrm, nrmRR]; rfl) (kMV_small i) hN1 fun hac2 => ?_
   simp (maxDischargeDepth := 16) [zY, hac2]
   refine ⟨by kernel_rfl, hK6 _ _ ?_⟩
   refine CW.cond (t := false) (by simp [zT, zF, lk]) ?_
   refine CW.skip ?_
   simp only [outOf, andThen]
   refine hK5 _ _ ?_
   refine CW.region ?_
   simp (maxDischargeDepth := 16) [zY, wrap_succ (show i ≤ 1000000000000 by omega)]
   exact hR2 _ _ _ ⟨i + 1, _, _, rfl, by simp [sub, lk], rfl, hlt, by show 12 - (i + 1) < 12 - i; omega⟩
 obtain rfl : i = 12 := by omega
 simp (maxDischargeDepth := 16) [zY, e1]
 refine hK4 _ _ ?_
 refine CW.cond (t := false) (by simp [zT, zF, lk]) ?_
 refine CW.exit (hR2 _ _ _ (hR1 _ _ _ ?_))
 simp only [outOf, if_true, andThen]
 refine hKL _ _ ?_
 refine CW.seqK fun K hK => CW.region ?_
 simp (maxDischargeDepth := 16) [zY]
 refine hK _ _ ?_; clear hK K
 exact CW.ret (hR0 _ _ _ ⟨.lit (.bool true), by simp [zA, omap, zB, zF, lk], done0 rfl rfl⟩)
abbrev keptVF : FS := smF (fun k : Nat => [val0R k, val0 k]) (fun _ => .lit (.bool true)) (fun _ => True) (fun _ => 0) 3
theorem KeptValue_w (hc : S.code = codeP Tryz.prog) (hm : S.ms 17 = []) (hs : S.sp 14 = some sameVF) (hi : S.sp 35 = some keptIF) (hv : S.sp 36 = some keptV0F) : SmOk Tryz.prog S N 17 (fun k : Nat => [val0R k, val0 k]) (fun _ => .lit (.bool true)) (fun _ => True) (fun _ => 0) 3 := by
 intro k σ hk hN
 dsimp only at hk hN ⊢
 refine JC.startF (fn := Tryz.f17) (codeOf hc Tryz.func17 rfl (by kernel_rfl)) rfl hm rfl (zL rfl) fun tm => ?_
 refine CW.hide fun R0 hR0 => ?_
 refine CW.seqK fun K hK => CW.region ?_
 simp (maxDischargeDepth := 16) [zY]
 refine hK _ _ ?_; clear hK K
 refine CW.seqK fun K hK => CW.region ?_
 simp (maxDischargeDepth := 16) [zY]
 refine call_smKU (zeroK k) hs (fun _ _ _ => rfl) (by simp only [flatR, flatRR, AV.flat, limR, List.map_nil]; rfl) (fun q h => by
  obtain ⟨a, b, c, d, e, f⟩ := q
  simp [nrmR, AV.nrm, aggV] at h) (zeroK_small k) (by omega) fun _ => ?_
 simp (maxDischargeDepth := 16) [zY]
 refine call_smU (false, []) hi (fun _ _ _ => rfl) (by simp [nrmR, AV.nrm, nrmRR, limR]) (by simp) (by simp; omega) fun _ => ?_
 simp (maxDischargeDepth := 16) [zY]
 refine call_smU () hv (fun _ _ _ => rfl) (by simp [nrmR, AV.nrm, nrmRR]) trivial (by simp; omega) fun _ => ?_
 simp (maxDischargeDepth := 16) [zY]
 refine hK _ _ ?_; clear hK K
 exact CW.ret (hR0 _ _ _ ⟨.lit (.bool true), by simp [zA, omap, zB, zF, lk], done rfl rfl⟩)
end
section
open Go.RowKit
theorem VR.noIds {ι : List Nat} {Z : Nat → Nat → Prop} {w : World} {l : List Value} {o : Nat} {u : Value} (h : VR ι Z w (.eptr (l.map .lit) o) u) : VR [] Z w (.eptr (l.map .lit) o) u := by
 generalize hr : l.map AV.lit = row at h
 cases h with
 | eptr _ _ b o U g1 g2 =>
  refine .eptr row _ b _ U g1 fun j d hd => ?_
  have h2 := g2 j d hd
  rw [← hr, List.getElem?_map] at hd
  obtain ⟨v, _, rfl⟩ := Option.map_eq_some_iff.1 hd
  generalize U j = x at h2
  cases h2 with
  | lit _ h3 => exact .lit _ h3
theorem lift0 {P : Program} {f : FuncId} {args : List AV} {R : AV} (ha : ∀ d ∈ args, still d) (hR : still R) (h : Tells P (.call f args [] fun r σ' => Fgt [] r σ' (.ret R) [])) (σ : Sto) : Tells P (.call f args σ fun r σ' => Fgt σ r σ' (.ret R) σ) := by
 intro ι Z w us hM hl hargs
 have M0 : Match [] [] Z w := ⟨rfl, fun id o b h => by simp at h, fun i j b o p h => by simp at h, hM.zlt, fun g l hg => ⟨(hM.glob g l hg).1.noIds, (hM.glob g l hg).2⟩, fun id b h => by simp at h⟩
 obtain ⟨h1, h2⟩ := h [] Z w us M0 hl fun i d u hd hu => (hargs i d u hd hu).cut (n := 0) (fun _ _ h => h) (ha d (List.mem_of_getElem? hd))
 refine ⟨h1, h2.mono fun e w' hx => ?_⟩
 obtain ⟨r, σ', ι', Z', hF, hE, hM', hR'⟩ := hx
 obtain ⟨ι2, Z2, hE2, hM2, hR2⟩ := forget M0 hE hM' hR' hF
 obtain rfl : ι2 = [] := List.eq_nil_of_length_eq_zero (by rw [hM2.len]; rfl)
 have hz : ∀ b j, Z2 b j → b < w.heap.size → Z b j := fun b j hz hb => by
  rcases hE2.znew b j hz hb with h | ⟨id, h⟩
  · exact h
  · simp at h
 have hEv : Evo ι Z w ι Z2 w' := { pre := fun _ _ h => h, img := fun id _ h _ => ⟨id, h⟩, zmono := hE2.zmono, zsame := hE2.zsame, csz := hE2.csz, size := hE2.size, keep := fun b hl _ => hE2.keep b hl (by simp), os := hE2.os, tape := hE2.tape, output := hE2.output, znew := fun b j h hb => .inl (hz b j h hb) }
 obtain ⟨u, rfl, hu⟩ := hR2
 refine ⟨.ret R, σ, ι, Z2, Fgt.pure (Ext.refl _) (Frz.still hR), hEv, hM.go hEv hM.len (fun id o b ho hb' hl => .inr ⟨ho, hE2.keep b ((hM.obj id o b ho hb').lt hl) (by simp), fun j hj => hz b j hj ((hM.obj id o b ho hb').lt hl)⟩) hM.inj hM2.zlt, u, rfl, hu.evoW ⟨fun id b h => by simp at h, fun _ _ h => h, fun _ _ _ => rfl, fun _ _ => rfl⟩⟩
def eqVal : Value → Value → Bool
 | .int k i, .int l j => k == l && i == j
 | .bool a, .bool b => a == b
 | .string a, .string b => a.data.toList == b.data.toList
 | _, _ => false
theorem eqVal_eq {a b : Value} (h : eqVal a b = true) : a = b := by
 unfold eqVal at h
 split at h
 · rw [Bool.and_eq_true] at h
   rw [eq_of_beq h.1, eq_of_beq h.2]
 · rw [eq_of_beq h]
 · have := eq_of_beq h
   rename_i a b
   rw [show a = b from ByteArray.ext (by rw [← Array.toArray_toList (xs := a.data), this])]
 · cases h
mutual
def eqA : AV → AV → Bool
 | .lit a, b => match b with | .lit c => eqVal a c | _ => false
 | .sl es .no, b => match b with | .sl fs .no => eqRR es fs | _ => false
 | .agg r, b => match b with | .agg s => eqR r s | _ => false
 | .tup r, b => match b with | .tup s => eqR r s | _ => false
 | _, _ => false
def eqR : List AV → List AV → Bool
 | [], b => match b with | [] => true | _ => false
 | a :: l, b => match b with | c :: m => eqA a c && eqR l m | _ => false
def eqRR : List (List AV) → List (List AV) → Bool
 | [], b => match b with | [] => true | _ => false
 | a :: l, b => match b with | c :: m => eqR a c && eqRR l m | _ => false
end
mutual
theorem eqA_eq : ∀ (a b : AV), eqA a b = true → a = b
 | .lit a, b, h => by
  unfold eqA at h
  split at h
  · rw [eqVal_eq h]
  · cases h
 | .sl es .no, b, h => by
  unfold eqA at h
  split at h
  · rw [eqRR_eq es _ h]
  · cases h
 | .agg r, b, h => by
  unfold eqA at h
  split at h
  · rw [eqR_eq r _ h]
  · cases h
 | .tup r, b, h => by
  unfold eqA at h
  split at h
  · rw [eqR_eq r _ h]
  · cases h
 | .sl es (.own t), b, h => by simp [eqA] at h
 | .sl es (.fresh t k), b, h => by simp [eqA] at h
 | .sl es .full, b, h => by simp [eqA] at h
 | .ptr _ _, b, h => by simp [eqA] at h
 | .eptr _ _, b, h => by simp [eqA] at h
 | .asl _ _ _ _, b, h => by simp [eqA] at h
 | .mp _, b, h => by simp [eqA] at h
 | .fn _ _ _, b, h => by simp [eqA] at h
 | .ifc _ _, b, h => by simp [eqA] at h
 | .rsl _ _, b, h => by simp [eqA] at h
theorem eqR_eq : ∀ (a b : List AV), eqR a b = true → a = b
 | [], b, h => by
  unfold eqR at h
  split at h
  · rfl
  · cases h
 | a :: l, b, h => by
  unfold eqR at h
  split at h
  · rw [Bool.and_eq_true] at h
    rw [eqA_eq a _ h.1, eqR_eq l _ h.2]
  · cases h
theorem eqRR_eq : ∀ (a b : List (List AV)), eqRR a b = true → a = b
 | [], b, h => by
  unfold eqRR at h
  split at h
  · rfl
  · cases h
 | a :: l, b, h => by
  unfold eqRR at h
  split at h
  · rw [Bool.and_eq_true] at h
    rw [eqR_eq a _ h.1, eqRR_eq l _ h.2]
  · cases h
end
mutual
theorem eqA_still : ∀ (a b : AV), eqA a b = true → still b
 | .lit a, b, h => by
  unfold eqA at h
  split at h
  · exact still_lit _
  · cases h
 | .sl es .no, b, h => by
  unfold eqA at h
  split at h
  · exact still_rows (eqRR_still es _ h)
  · cases h
 | .agg r, b, h => by
  unfold eqA at h
  split at h
  · exact still_agg (eqR_still r _ h)
  · cases h
 | .tup r, b, h => by
  unfold eqA at h
  split at h
  · exact still_tup (eqR_still r _ h)
  · cases h
 | .sl es (.own t), b, h => by simp [eqA] at h
 | .sl es (.fresh t k), b, h => by simp [eqA] at h
 | .sl es .full, b, h => by simp [eqA] at h
 | .ptr _ _, b, h => by simp [eqA] at h
 | .eptr _ _, b, h => by simp [eqA] at h
 | .asl _ _ _ _, b, h => by simp [eqA] at h
 | .mp _, b, h => by simp [eqA] at h
 | .fn _ _ _, b, h => by simp [eqA] at h
 | .ifc _ _, b, h => by simp [eqA] at h
 | .rsl _ _, b, h => by simp [eqA] at h
theorem eqR_still : ∀ (a b : List AV), eqR a b = true → ∀ d ∈ b, still d
 | [], b, h => by
  unfold eqR at h
  split at h
  · exact fun d hd => by cases hd
  · cases h
 | a :: l, b, h => by
  unfold eqR at h
  split at h
  · rw [Bool.and_eq_true] at h
    intro d hd
    rcases List.mem_cons.1 hd with rfl | hd
    · exact eqA_still a _ h.1
    · exact eqR_still l _ h.2 d hd
  · cases h
theorem eqRR_still : ∀ (a b : List (List AV)), eqRR a b = true → ∀ e ∈ b, ∀ d ∈ e, still d
 | [], b, h => by
  unfold eqRR at h
  split at h
  · exact fun d hd => by cases hd
  · cases h
 | a :: l, b, h => by
  unfold eqRR at h
  split at h
  · rw [Bool.and_eq_true] at h
    intro d hd
    rcases List.mem_cons.1 hd with rfl | hd
    · exact eqR_still a _ h.1
    · exact eqRR_still l _ h.2 d hd
  · cases h
end
noncomputable def E0 : Env := { code := codeP Tryz.prog, prim := fun _ => none, ms := fun f => if f = 88 then [151] else [] }
theorem E0_ok : EnvOk Tryz.prog E0 := { code := fun f fn (h : codeP Tryz.prog f = some fn) => codeP_ok f fn h, prim := fun f g h => by have h : (none : Option (List AV → Sto → Option (ARes × Sto))) = some g := h; cases h }
noncomputable def runIs (f : FuncId) (args : List AV) (R : AV) : Bool :=
 match evCall Tryz.prog E0 60 f args [] with
 | some (.ret v, _) => v.pln && eqA v.nrm R
 | _ => false
theorem runIs_tells {f : FuncId} {args : List AV} {R : AV} (h : runIs f args R = true) (ha : ∀ d ∈ args, still d) (σ : Sto) : Tells Tryz.prog (.call f args σ fun r σ' => Fgt σ r σ' (.ret R) σ) := by
 unfold runIs at h
 split at h
 · rename_i v τ he
   rw [Bool.and_eq_true] at h
   obtain ⟨h1, h2⟩ := h
   refine lift0 ha (eqA_still _ _ h2) ?_ σ
   intro ι Z w us hM hl hargs
   obtain ⟨g1, g2⟩ := evCall_sound (by kernel_rfl) E0_ok 60 f args [] _ τ he ι Z w us hM hl hargs
   refine ⟨g1, g2.mono fun e w' hx => ?_⟩
   obtain ⟨ι', Z', hE, hM', hR⟩ := hx
   exact ⟨.ret v, τ, ι', Z', done (g := τ) h1 (eqA_eq _ _ h2), hE, hM', hR⟩
 · cases h
end
end Go.Proofs.YtmmgjaheffbpaaaGreatDoor
