/-
 EV: parse: word, whole, atom (printed by gen_word.py).
-/
import Derived.Test.YtkkblmdgedmdfaaGreatDoorEvPPartsM
namespace Go.Proofs.YtkkblmdgedmdfaaGreatDoor
set_option linter.unusedSimpArgs false
set_option linter.unusedVariables false
section
open Go.RowKit
set_option maxRecDepth 100000 in
set_option maxHeartbeats 1000000 in
theorem word_ev (N : Nat) (t : Tr) (fid : Nat) (σ : Sto) (hf : fineT t) (hn : 8 * sizeT t + rank .name ≤ N) (hrow : t.row = false) (hc : σ[fid]? = some cleanO) : CallW Tryz.prog (EN N) 72 [nodeA t fid] σ fun r σ' => ∃ v, r = .ret (.agg v) ∧ v.length = 5 ∧ (∀ σ'' n, FrzL σ'' n v (wordS t).1) ∧ Ext (setF σ fid (wordS t).2) σ' := by
 refine CallW.start (fn := Tryz.f72) (M := []) rfl rfl rfl rfl (by simp) fun tm hlen hs => ?_
 have h0 := hs 0 _ rfl
 clear hs
 rw [nodeA_eq] at h0
 simp at hlen
 refine CW.hide fun R0 hR0 => ?_
 have hfl := lt_of_obj hc
 have hw := fineT_w hf
 have done : ∀ (v : List AV) (tm : List AV) (σ' : Sto), v.length = 5 → (∀ σ'' n, FrzL σ'' n v (wordS t).1) → Ext (setF σ fid (wordS t).2) σ' → σ'[σ.length + 1]? = some (.cells v 41) → tm.length = 29 → slot tm 2 = .ptr (σ.length + 1) 0 → R0 .ret tm σ' := by
  intro v tm σ' hv hz hx ho hlen h2
  refine hR0 _ _ _ ⟨.agg v, ?_, v, rfl, hv, hz, hx⟩
  simp [resultsA, omap, res_tmp, res_cell, slot_eq, slot_ne, hlen, h2, ho, partA, aggT, hv]
  rw [List.take_of_length_le (by omega)]
 clear hR0
 refine CW.seqK fun K hK => CW.region ?_
 simp (maxDischargeDepth := 16) [symB, List.length_set, andThen, hlen, h0]
 refine hK _ _ ?_; clear hK K
 refine CW.reset2 (fun tm σ1 => tm.length = 29 ∧ slot tm 1 = .ptr σ.length 0 ∧ slot tm 2 = .ptr (σ.length + 1) 0 ∧ σ1 = σ ++ [nodeO t fid, .cells [.lit (.int .u8 0), .lit (.string ⟨#[]⟩), .lit (.bool false), .sl [] .full, .sl [] .full] 41]) ⟨by simp [hlen], by simp [slot_eq, slot_ne, hlen], by simp [slot_eq, slot_ne, hlen], rfl⟩ ?_
 clear h0 hlen tm
 rintro tm σ0 ⟨hlen, h1, h2, hσ0⟩
 have hb0 : σ0[σ.length]? = some (.cells [.lit (.string (bs t.word)), .sl (rowsOf t.kids) .no, .lit (.bool t.row), .lit (.int .i64 t.at_), .ptr fid 0] 57) := by rw [hσ0]; exact get_new _ _ _
 have hr0 : σ0[σ.length + 1]? = some (.cells [.lit (.int .u8 0), .lit (.string ⟨#[]⟩), .lit (.bool false), .sl [] .full, .sl [] .full] 41) := by rw [hσ0]; exact get_new1 _ _ _ _
 have hx0 : Ext σ σ0 := by rw [hσ0]; exact ⟨_, rfl⟩
 have hc0 : σ0[fid]? = some cleanO := by rw [hσ0]; exact get_app hc
 have hl0 : σ0.length = σ.length + 2 := by rw [hσ0]; simp
 clear hσ0
 refine CW.seqK fun K hK => CW.region ?_
 simp (maxDischargeDepth := 16) [symB, List.length_set, andThen, hlen, h1, hb0]
 rw [← nodeA_eq]
 refine (number_ev N t fid σ0 hw).mono ?_
 rintro r σ2 ⟨⟨v, rfl, hnum⟩, hx2⟩
 have hv : ∃ b d tk ok, v = .tup [.agg [.lit (.bool b), .sl d tk], .lit (.bool ok)] ∧ ((ok = false ∧ numS t = none ∧ b = false ∧ d = []) ∨ (ok = true ∧ ∃ p, numS t = some p ∧ b = p.1 ∧ d = d32 p.2)) := by
  unfold NumR at hnum
  split at hnum
  · rename_i hn
    obtain ⟨tk, rfl⟩ := hnum
    exact ⟨false, [], tk, false, rfl, .inl ⟨rfl, hn, rfl, rfl⟩⟩
  · rename_i p hn
    exact ⟨p.1, d32 p.2, .no, true, hnum, .inr ⟨rfl, p, hn, rfl, rfl⟩⟩
 obtain ⟨b, d, tk, ok, rfl, hcase⟩ := hv
 clear hnum
 have hl2 : σ0.length ≤ σ2.length := hx2.len
 have hx3 : Ext σ0 (σ2 ++ [.cells [.lit (.bool b), .sl d tk] 38]) := hx2.trans ⟨_, rfl⟩
 have hn3 : (σ2 ++ [.cells [.lit (.bool b), .sl d tk] 38])[σ2.length]? = some (.cells [.lit (.bool b), .sl d tk] 38) := get_new _ _ _
 simp (maxDischargeDepth := 16) [symB, List.length_set, retK, andThen, hlen]
 refine hK _ _ ?_; clear hK K
 refine CW.reset2 (fun tm σ1 => tm.length = 29 ∧ slot tm 1 = .ptr σ.length 0 ∧ slot tm 2 = .ptr (σ.length + 1) 0 ∧ slot tm 3 = .ptr σ2.length 0 ∧ slot tm 4 = .lit (.bool ok) ∧ σ1 = σ2 ++ [.cells [.lit (.bool b), .sl d tk] 38]) ⟨by simp [hlen], by simp [slot_ne, h1], by simp [slot_ne, h2], by simp [slot_eq, slot_ne, hlen], by simp [slot_eq, slot_ne, hlen], ?_⟩ ?_
 · first | rfl | simp
 clear h1 h2 hlen tm
 rintro tm σ3 ⟨hlen, h1, h2, h3, h4, hσ3⟩
 rw [← hσ3] at hx3 hn3
 have hb3 := hx3.get hb0
 have hr3 := hx3.get hr0
 have hc3 := hx3.get hc0
 have hxx := hx0.trans hx3
 have hsr : ∀ o, (σ3.set (σ.length + 1) o)[σ.length + 1]? = some o := fun o => List.getElem?_set_self (lt_of_obj hr3)
 have hxs : ∀ o, Ext σ (σ3.set (σ.length + 1) o) := fun o => hxx.set (by omega)
 generalize hcid : σ2.length = c at *
 clear hσ3 hx2 hb0 hr0 hc0 hcid hx3 hx0
 refine CW.seqK fun K hK => CW.block ?_
 refine CW.seqK fun K2 hK2 => CW.region ?_
 rcases hcase with ⟨rfl, hns, rfl, rfl⟩ | ⟨rfl, p, hns, rfl, rfl⟩
 · simp (maxDischargeDepth := 16) [symB, List.length_set, andThen, hlen, h4]
   refine hK2 _ _ ?_
   refine CW.cond (t := false) (by simp [evx_tmp, slot_eq, slot_ne, hlen]) ?_
   refine CW.seqK fun K3 hK3 => CW.region ?_
   have htl : (bs t.word).toList = t.word := bs_list _
   have ht1 : (⟨#[116, 114, 117, 101]⟩ : ByteArray).toList = trueW := bs_list [116, 114, 117, 101]
   have ht2 : (⟨#[102, 97, 108, 115, 101]⟩ : ByteArray).toList = falseW := bs_list [102, 97, 108, 115, 101]
   by_cases e1 : t.word = trueW
   · have hws : wordS t = (u8A 3 :: strA [] :: intZ ++ [nilA], none) := by unfold wordS; rw [hns]; simp only []; rw [if_pos e1]
     rw [hws] at done
     simp (maxDischargeDepth := 16) [symB, List.length_set, andThen, hlen, h1, hb3, htl, ht1, e1]
     refine hK3 _ _ ?_
     refine CW.cond (t := true) (by simp [evx_tmp, slot_eq, slot_ne, hlen, bs_list]) ?_
     refine CW.seqK fun K4 hK4 => CW.region ?_
     simp (maxDischargeDepth := 16) [symB, List.length_set, andThen, hlen, h2, hr3]
     refine hK4 _ _ ?_
     refine CW.ret ?_
     simp only [andThen, outOf]
     exact done _ _ _ rfl (fun _ _ => .cons (.lit _) (.cons (.lit _) (.cons (.lit _) (.cons (.nil _) (.cons (.nil _) .nil))))) (hxs _) (hsr _) (by simp [hlen]) (by simp [slot_ne, h2])
   · simp (maxDischargeDepth := 16) [symB, List.length_set, andThen, hlen, h1, hb3, htl, ht1, e1]
     refine hK3 _ _ ?_
     refine CW.cond (t := false) (by simp [evx_tmp, slot_eq, slot_ne, hlen, e1]) ?_
     refine CW.seqK fun K4 hK4 => CW.region ?_
     by_cases e2 : t.word = falseW
     · have hws : wordS t = (u8A 4 :: strA [] :: intZ ++ [nilA], none) := by unfold wordS; rw [hns]; simp only []; rw [if_neg e1, if_pos e2]
       rw [hws] at done
       simp (maxDischargeDepth := 16) [symB, List.length_set, andThen, hlen, h1, hb3, htl, ht2, e2]
       refine hK4 _ _ ?_
       refine CW.cond (t := true) (by simp [evx_tmp, slot_eq, slot_ne, hlen, bs_list]) ?_
       refine CW.seqK fun K5 hK5 => CW.region ?_
       simp (maxDischargeDepth := 16) [symB, List.length_set, andThen, hlen, h2, hr3]
       refine hK5 _ _ ?_
       refine CW.ret ?_
       simp only [andThen, outOf]
       exact done _ _ _ rfl (fun _ _ => .cons (.lit _) (.cons (.lit _) (.cons (.lit _) (.cons (.nil _) (.cons (.nil _) .nil))))) (hxs _) (hsr _) (by simp [hlen]) (by simp [slot_ne, h2])
     · have hws : wordS t = (u8A 1 :: (nameS t).1 ++ intZ ++ [nilA], (nameS t).2) := by unfold wordS; rw [hns]; simp only []; rw [if_neg e1, if_neg e2]
       rw [hws] at done
       simp (maxDischargeDepth := 16) [symB, List.length_set, andThen, hlen, h1, hb3, htl, ht2, e2]
       refine hK4 _ _ ?_
       refine CW.cond (t := false) (by simp [evx_tmp, slot_eq, slot_ne, hlen, e2]) ?_
       refine CW.skip ?_
       simp only [andThen, outOf]
       refine hK _ _ ?_
       refine CW.seqK fun K5 hK5 => CW.region ?_
       simp (maxDischargeDepth := 16) [symB, List.length_set, andThen, hlen, h1, h2, hb3]
       rw [← nodeA_eq]
       refine rd_ev (N := N) .name hf hn hc3 ?_
       have hN : ∃ m, N = m + 1 := ⟨N - 1, by simp [rank] at hn; omega⟩
       obtain ⟨m, rfl⟩ := hN
       have hrd : rd (m + 1) .name t = nameS t := rfl
       rw [hrd]
       obtain ⟨s, hs⟩ : ∃ s, (nameS t).1 = [strA s] := by unfold nameS; split <;> exact ⟨_, rfl⟩
       have hne : σ.length + 1 ≠ fid := by omega
       have hr4 := (setF_ne (nameS t).2 hne).trans hr3
       have hsr4 : ∀ o, ((setF σ3 fid (nameS t).2).set (σ.length + 1) o)[σ.length + 1]? = some o := fun o => List.getElem?_set_self (lt_of_obj hr4)
       have hxs4 : ∀ o, Ext (setF σ fid (nameS t).2) ((setF σ3 fid (nameS t).2).set (σ.length + 1) o) := fun o => (setF_ext _ hxx hfl).set (by rw [setF_len]; omega)
       have hval : valR .name (nameS t).1 = .lit (.string (bs s)) := by rw [hs]; rfl
       rw [hval]
       rw [hs] at done
       generalize setF σ3 fid (nameS t).2 = σ4 at *
       simp (maxDischargeDepth := 16) [symB, List.length_set, retK, andThen, hlen, h2, hr4]
       refine hK5 _ _ ?_
       refine CW.ret ?_
       exact done _ _ _ rfl (fun _ _ => .cons (.lit _) (.cons (.lit _) (.cons (.lit _) (.cons (.nil _) (.cons (.nil _) .nil))))) (hxs4 _) (hsr4 _) (by simp [hlen]) (by simp [slot_ne, h2])
 · have hws : wordS t = (u8A 2 :: strA [] :: numC p ++ [nilA], none) := by unfold wordS; rw [hns]
   rw [hws] at done
   simp (maxDischargeDepth := 16) [symB, List.length_set, andThen, hlen, h4]
   refine hK2 _ _ ?_
   refine CW.cond (t := true) (by simp [evx_tmp, slot_eq, slot_ne, hlen]) ?_
   refine CW.seqK fun K4 hK4 => CW.region ?_
   simp (maxDischargeDepth := 16) [symB, List.length_set, andThen, hlen, h2, h3, hr3, hn3]
   refine hK4 _ _ ?_
   refine CW.ret ?_
   simp only [andThen, outOf]
   exact done _ _ _ rfl (fun _ _ => .cons (.lit _) (.cons (.lit _) (.cons (.lit _) (.cons (.okR (okR_d32 _) _) (.cons (.nil _) .nil))))) (hxs _) (hsr _) (by simp [hlen]) (by simp [slot_ne, h2])
set_option maxRecDepth 100000 in
set_option maxHeartbeats 1000000 in
theorem atom_rd (N : Nat) : RdOk N .atom := by
 intro t fid σ hf hn hc
 show JC _ _ 137 _ _ _
 refine JC.startW (fn := Tryz.f137) (M := []) rfl rfl rfl (by simp) fun tm hlen hs => ?_
 have h0 := hs 0 _ rfl
 clear hs
 rw [nodeA_eq] at h0
 simp at hlen
 refine CW.hide fun R0 hR0 => ?_
 have hfl := lt_of_obj hc
 have hw := fineT_w hf
 have done : ∀ (v : List AV) (tm : List AV) (σ' : Sto), v.length = 5 → (∀ σ'' n, FrzL σ'' n v (atomS t).1) → Ext (setF σ fid (atomS t).2) σ' → σ'[σ.length + 1]? = some (.cells v 122) → tm.length = 39 → slot tm 2 = .ptr (σ.length + 1) 0 → R0 .ret tm σ' := by
  intro v tm σ' hv hz hx ho hlen h2
  refine hR0 _ _ _ ⟨.agg v, ?_, fgt_of hx hc (hz _ _).agg⟩
  simp [resultsA, omap, res_tmp, res_cell, slot_eq, slot_ne, hlen, h2, ho, partA, aggT, hv]
  rw [List.take_of_length_le (by omega)]
 clear hR0
 refine CW.seqK fun K hK => CW.region ?_
 simp (maxDischargeDepth := 16) [symB, List.length_set, andThen, hlen, h0]
 refine hK _ _ ?_; clear hK K
 refine CW.reset2 (fun tm σ1 => tm.length = 39 ∧ slot tm 1 = .ptr σ.length 0 ∧ slot tm 2 = .ptr (σ.length + 1) 0 ∧ σ1 = σ ++ [nodeO t fid, .cells [.lit (.int .u8 0), .lit (.string ⟨#[]⟩), .lit (.bool false), .sl [] .full, .lit (.bool false)] 122]) ⟨by simp [hlen], by simp [slot_eq, slot_ne, hlen], by simp [slot_eq, slot_ne, hlen], rfl⟩ ?_
 clear h0 hlen tm
 rintro tm σ0 ⟨hlen, h1, h2, hσ0⟩
 have hb0 : σ0[σ.length]? = some (.cells [.lit (.string (bs t.word)), .sl (rowsOf t.kids) .no, .lit (.bool t.row), .lit (.int .i64 t.at_), .ptr fid 0] 57) := by rw [hσ0]; exact get_new _ _ _
 have hr0 : σ0[σ.length + 1]? = some (.cells [.lit (.int .u8 0), .lit (.string ⟨#[]⟩), .lit (.bool false), .sl [] .full, .lit (.bool false)] 122) := by rw [hσ0]; exact get_new1 _ _ _ _
 have hx0 : Ext σ σ0 := by rw [hσ0]; exact ⟨_, rfl⟩
 have hc0 : σ0[fid]? = some cleanO := by rw [hσ0]; exact get_app hc
 have hl0 : σ0.length = σ.length + 2 := by rw [hσ0]; simp
 clear hσ0
 refine CW.seqK fun K hK => CW.region ?_
 simp (maxDischargeDepth := 16) [symB, List.length_set, andThen, hlen, h1, hb0]
 rw [← nodeA_eq]
 refine (number_ev N t fid σ0 hw).mono ?_
 rintro r σ2 ⟨⟨v, rfl, hnum⟩, hx2⟩
 have hv : ∃ b d tk ok, v = .tup [.agg [.lit (.bool b), .sl d tk], .lit (.bool ok)] ∧ ((ok = false ∧ numS t = none ∧ b = false ∧ d = []) ∨ (ok = true ∧ ∃ p, numS t = some p ∧ b = p.1 ∧ d = d32 p.2)) := by
  unfold NumR at hnum
  split at hnum
  · rename_i hn
    obtain ⟨tk, rfl⟩ := hnum
    exact ⟨false, [], tk, false, rfl, .inl ⟨rfl, hn, rfl, rfl⟩⟩
  · rename_i p hn
    exact ⟨p.1, d32 p.2, .no, true, hnum, .inr ⟨rfl, p, hn, rfl, rfl⟩⟩
 obtain ⟨b, d, tk, ok, rfl, hcase⟩ := hv
 clear hnum
 have hl2 : σ0.length ≤ σ2.length := hx2.len
 have hx3 : Ext σ0 (σ2 ++ [.cells [.lit (.bool b), .sl d tk] 38]) := hx2.trans ⟨_, rfl⟩
 have hn3 : (σ2 ++ [.cells [.lit (.bool b), .sl d tk] 38])[σ2.length]? = some (.cells [.lit (.bool b), .sl d tk] 38) := get_new _ _ _
 simp (maxDischargeDepth := 16) [symB, List.length_set, retK, andThen, hlen]
 refine hK _ _ ?_; clear hK K
 refine CW.reset2 (fun tm σ1 => tm.length = 39 ∧ slot tm 1 = .ptr σ.length 0 ∧ slot tm 2 = .ptr (σ.length + 1) 0 ∧ slot tm 3 = .ptr σ2.length 0 ∧ slot tm 4 = .lit (.bool ok) ∧ σ1 = σ2 ++ [.cells [.lit (.bool b), .sl d tk] 38]) ⟨by simp [hlen], by simp [slot_ne, h1], by simp [slot_ne, h2], by simp [slot_eq, slot_ne, hlen], by simp [slot_eq, slot_ne, hlen], ?_⟩ ?_
 · first | rfl | simp
 clear h1 h2 hlen tm
 rintro tm σ3 ⟨hlen, h1, h2, h3, h4, hσ3⟩
 rw [← hσ3] at hx3 hn3
 have hb3 := hx3.get hb0
 have hr3 := hx3.get hr0
 have hc3 := hx3.get hc0
 have hxx := hx0.trans hx3
 have hsr : ∀ o, (σ3.set (σ.length + 1) o)[σ.length + 1]? = some o := fun o => List.getElem?_set_self (lt_of_obj hr3)
 have hxs : ∀ o, Ext σ (σ3.set (σ.length + 1) o) := fun o => hxx.set (by omega)
 generalize hcid : σ2.length = c at *
 clear hσ3 hx2 hb0 hr0 hc0 hcid hx3 hx0
 refine CW.seqK fun K hK => CW.block ?_
 refine CW.seqK fun K2 hK2 => CW.region ?_
 rcases hcase with ⟨rfl, hns, rfl, rfl⟩ | ⟨rfl, p, hns, rfl, rfl⟩
 · simp (maxDischargeDepth := 16) [symB, List.length_set, andThen, hlen, h4]
   refine hK2 _ _ ?_
   refine CW.cond (t := false) (by simp [evx_tmp, slot_eq, slot_ne, hlen]) ?_
   have htl : (bs t.word).toList = t.word := bs_list _
   have ht1 : (⟨#[116, 114, 117, 101]⟩ : ByteArray).toList = trueW := bs_list [116, 114, 117, 101]
   have ht2 : (⟨#[102, 97, 108, 115, 101]⟩ : ByteArray).toList = falseW := bs_list [102, 97, 108, 115, 101]
   refine CW.seqK fun K3 hK3 => CW.region ?_
   have var : atomS t = (u8A 1 :: (nameS t).1 ++ intZ ++ [boolA false], (nameS t).2) → ∀ tm : List AV, tm.length = 39 → slot tm 1 = .ptr σ.length 0 → slot tm 2 = .ptr (σ.length + 1) 0 → slot tm 14 = .lit (.bool false) → K3 tm σ3 := by
    intro hws tm hlen h1 h2 h14
    rw [hws] at done
    refine hK3 _ _ ?_
    refine CW.cond (t := false) (by simp [evx_tmp, slot_eq, slot_ne, hlen, h14]) ?_
    refine CW.skip ?_
    simp only [andThen, outOf]
    refine hK _ _ ?_
    refine CW.seqK fun K5 hK5 => CW.region ?_
    simp (maxDischargeDepth := 16) [symB, List.length_set, andThen, hlen, h1, h2, hb3]
    rw [← nodeA_eq]
    refine rd_ev (N := N) .name hf (by simp [rank] at hn ⊢; omega) hc3 ?_
    have hN : ∃ m, N = m + 1 := by
     have := size_pos t
     exact ⟨N - 1, by simp [rank] at hn; omega⟩
    obtain ⟨m, rfl⟩ := hN
    have hrd : rd (m + 1) .name t = nameS t := rfl
    rw [hrd]
    obtain ⟨s, hs⟩ : ∃ s, (nameS t).1 = [strA s] := by unfold nameS; split <;> exact ⟨_, rfl⟩
    have hne : σ.length + 1 ≠ fid := by omega
    have hr4 := (setF_ne (nameS t).2 hne).trans hr3
    have hsr4 : ∀ o, ((setF σ3 fid (nameS t).2).set (σ.length + 1) o)[σ.length + 1]? = some o := fun o => List.getElem?_set_self (lt_of_obj hr4)
    have hxs4 : ∀ o, Ext (setF σ fid (nameS t).2) ((setF σ3 fid (nameS t).2).set (σ.length + 1) o) := fun o => (setF_ext _ hxx hfl).set (by rw [setF_len]; omega)
    have hval : valR .name (nameS t).1 = .lit (.string (bs s)) := by rw [hs]; rfl
    rw [hval]
    rw [hs] at done
    generalize setF σ3 fid (nameS t).2 = σ4 at *
    simp (maxDischargeDepth := 16) [symB, List.length_set, retK, andThen, hlen, h2, hr4]
    refine hK5 _ _ ?_
    refine CW.ret ?_
    exact done _ _ _ rfl (fun _ _ => .cons (.lit _) (.cons (.lit _) (.cons (.lit _) (.cons (.nil _) (.cons (.lit _) .nil))))) (hxs4 _) (hsr4 _) (by simp [hlen]) (by simp [slot_ne, h2])
   have lit : ∀ c : Bool, t.row = false → decide (t.word = trueW) = c → atomS t = ([u8A 3, strA []] ++ intZ ++ [boolA c], none) → ∀ tm : List AV, tm.length = 39 → slot tm 1 = .ptr σ.length 0 → slot tm 2 = .ptr (σ.length + 1) 0 → slot tm 14 = .lit (.bool true) → K3 tm σ3 := by
    intro c hrow hc2 hws tm hlen h1 h2 h14
    rw [hws] at done
    have hc3 : (t.word == trueW) = c := by rw [← hc2]; by_cases h : t.word = trueW <;> simp [h]
    refine hK3 _ _ ?_
    refine CW.cond (t := true) (by simp [evx_tmp, slot_eq, slot_ne, hlen, h14]) ?_
    refine CW.seqK fun K5 hK5 => CW.region ?_
    simp (maxDischargeDepth := 16) [symB, List.length_set, andThen, hlen, h1, h2, hb3, hr3, htl, ht1, hc2, hc3]
    refine hK5 _ _ ?_
    refine CW.ret ?_
    simp only [andThen, outOf]
    refine done _ _ _ rfl (fun _ _ => .cons (.lit _) (.cons (.lit _) (.cons (.lit _) (.cons (.nil _) (.cons ?_ .nil))))) (hxs _) (hsr _) (by simp [hlen]) (by simp [slot_ne, h2])
    first | exact .lit _ | (rw [← hc2]; exact .lit _)
   cases hrow : t.row with
   | true =>
    rw [hrow] at hb3
    simp (maxDischargeDepth := 16) [symB, List.length_set, andThen, hlen, h1, hb3]
    rw [← hrow] at hb3
    exact var (by unfold atomS; rw [hns, hrow]; rfl) _ (by simp [hlen]) (by simp [slot_ne, h1]) (by simp [slot_ne, h2]) (by simp [slot_eq, slot_ne, hlen])
   | false =>
    rw [hrow] at hb3
    by_cases e1 : t.word = trueW
    · simp (maxDischargeDepth := 16) [symB, List.length_set, andThen, hlen, h1, hb3, htl, ht1, e1, bs_list]
      rw [← hrow] at hb3
      exact lit true hrow (by simp [e1]) (by unfold atomS; rw [hns, hrow, e1]; rfl) _ (by simp [hlen]) (by simp [slot_ne, h1]) (by simp [slot_ne, h2]) (by simp [slot_eq, slot_ne, hlen, bs_list])
    · by_cases e2 : t.word = falseW
      · have e3 : ¬ falseW = trueW := by decide
        simp (maxDischargeDepth := 16) [symB, List.length_set, andThen, hlen, h1, hb3, htl, ht1, ht2, e2, e3, bs_list]
        rw [← hrow] at hb3
        exact lit false hrow (by simp [e1]) (by unfold atomS; rw [hns, hrow]; simp [e2, e3]) _ (by simp [hlen]) (by simp [slot_ne, h1]) (by simp [slot_ne, h2]) (by simp [slot_eq, slot_ne, hlen, bs_list, e3])
      · simp (maxDischargeDepth := 16) [symB, List.length_set, andThen, hlen, h1, hb3, htl, ht1, ht2, e1, e2]
        rw [← hrow] at hb3
        exact var (by unfold atomS; rw [hns, hrow]; simp [e1, e2]) _ (by simp [hlen]) (by simp [slot_ne, h1]) (by simp [slot_ne, h2]) (by simp [slot_eq, slot_ne, hlen, e1, e2])
 · have hws : atomS t = (u8A 2 :: strA [] :: numC p ++ [boolA false], none) := by unfold atomS; rw [hns]
   rw [hws] at done
   simp (maxDischargeDepth := 16) [symB, List.length_set, andThen, hlen, h4]
   refine hK2 _ _ ?_
   refine CW.cond (t := true) (by simp [evx_tmp, slot_eq, slot_ne, hlen]) ?_
   refine CW.seqK fun K4 hK4 => CW.region ?_
   simp (maxDischargeDepth := 16) [symB, List.length_set, andThen, hlen, h2, h3, hr3, hn3]
   refine hK4 _ _ ?_
   refine CW.ret ?_
   simp only [andThen, outOf]
   exact done _ _ _ rfl (fun _ _ => .cons (.lit _) (.cons (.lit _) (.cons (.lit _) (.cons (.okR (okR_d32 _) _) (.cons (.lit _) .nil))))) (hxs _) (hsr _) (by simp [hlen]) (by simp [slot_ne, h2])
set_option maxRecDepth 100000 in
set_option maxHeartbeats 1000000 in
theorem whole_rd (N : Nat) : RdOk N .whole := by
 intro t fid σ hf hn hc
 show JC _ _ 74 _ _ _
 refine JC.startW (fn := Tryz.f74) (M := []) rfl rfl rfl (by simp) fun tm hlen hs => ?_
 have h0 := hs 0 _ rfl
 clear hs
 rw [nodeA_eq] at h0
 simp at hlen
 refine CW.hide fun R0 hR0 => ?_
 have hfl := lt_of_obj hc
 have hw := fineT_w hf
 have done : ∀ (v : List AV) (tm : List AV) (σ' : Sto), v.length = 2 → (∀ σ'' n, FrzL σ'' n v (wholeS t).1) → Ext (setF σ fid (wholeS t).2) σ' → σ'[σ.length + 1]? = some (.cells v 38) → tm.length = 15 → slot tm 2 = .ptr (σ.length + 1) 0 → R0 .ret tm σ' := by
  intro v tm σ' hv hz hx ho hlen h2
  refine hR0 _ _ _ ⟨.agg v, ?_, fgt_of hx hc (hz _ _).agg⟩
  simp [resultsA, omap, res_tmp, res_cell, slot_eq, slot_ne, hlen, h2, ho, partA, aggT, hv]
  rw [List.take_of_length_le (by omega)]
 clear hR0
 refine CW.seqK fun K hK => CW.region ?_
 simp (maxDischargeDepth := 16) [symB, List.length_set, andThen, hlen, h0]
 refine hK _ _ ?_; clear hK K
 refine CW.reset2 (fun tm σ1 => tm.length = 15 ∧ slot tm 1 = .ptr σ.length 0 ∧ slot tm 2 = .ptr (σ.length + 1) 0 ∧ σ1 = σ ++ [nodeO t fid, .cells [.lit (.bool false), .sl [] .full] 38]) ⟨by simp [hlen], by simp [slot_eq, slot_ne, hlen], by simp [slot_eq, slot_ne, hlen], rfl⟩ ?_
 clear h0 hlen tm
 rintro tm σ0 ⟨hlen, h1, h2, hσ0⟩
 have hb0 : σ0[σ.length]? = some (.cells [.lit (.string (bs t.word)), .sl (rowsOf t.kids) .no, .lit (.bool t.row), .lit (.int .i64 t.at_), .ptr fid 0] 57) := by rw [hσ0]; exact get_new _ _ _
 have hr0 : σ0[σ.length + 1]? = some (.cells [.lit (.bool false), .sl [] .full] 38) := by rw [hσ0]; exact get_new1 _ _ _ _
 have hx0 : Ext σ σ0 := by rw [hσ0]; exact ⟨_, rfl⟩
 have hc0 : σ0[fid]? = some cleanO := by rw [hσ0]; exact get_app hc
 have hl0 : σ0.length = σ.length + 2 := by rw [hσ0]; simp
 clear hσ0
 refine CW.seqK fun K hK => CW.region ?_
 simp (maxDischargeDepth := 16) [symB, List.length_set, andThen, hlen, h1, hb0]
 rw [← nodeA_eq]
 refine (number_ev N t fid σ0 hw).mono ?_
 rintro r σ2 ⟨⟨v, rfl, hnum⟩, hx2⟩
 have hv : ∃ b d tk ok, v = .tup [.agg [.lit (.bool b), .sl d tk], .lit (.bool ok)] ∧ ((ok = false ∧ numS t = none ∧ b = false ∧ d = []) ∨ (ok = true ∧ ∃ p, numS t = some p ∧ b = p.1 ∧ d = d32 p.2)) := by
  unfold NumR at hnum
  split at hnum
  · rename_i hn
    obtain ⟨tk, rfl⟩ := hnum
    exact ⟨false, [], tk, false, rfl, .inl ⟨rfl, hn, rfl, rfl⟩⟩
  · rename_i p hn
    exact ⟨p.1, d32 p.2, .no, true, hnum, .inr ⟨rfl, p, hn, rfl, rfl⟩⟩
 obtain ⟨b, d, tk, ok, rfl, hcase⟩ := hv
 clear hnum
 have hl2 : σ0.length ≤ σ2.length := hx2.len
 have hx3 : Ext σ0 (σ2 ++ [.cells [.lit (.bool b), .sl d tk] 38]) := hx2.trans ⟨_, rfl⟩
 have hn3 : (σ2 ++ [.cells [.lit (.bool b), .sl d tk] 38])[σ2.length]? = some (.cells [.lit (.bool b), .sl d tk] 38) := get_new _ _ _
 simp (maxDischargeDepth := 16) [symB, List.length_set, retK, andThen, hlen]
 refine hK _ _ ?_; clear hK K
 refine CW.reset2 (fun tm σ1 => tm.length = 15 ∧ slot tm 1 = .ptr σ.length 0 ∧ slot tm 2 = .ptr (σ.length + 1) 0 ∧ slot tm 3 = .ptr σ2.length 0 ∧ slot tm 4 = .lit (.bool ok) ∧ σ1 = σ2 ++ [.cells [.lit (.bool b), .sl d tk] 38]) ⟨by simp [hlen], by simp [slot_ne, h1], by simp [slot_ne, h2], by simp [slot_eq, slot_ne, hlen], by simp [slot_eq, slot_ne, hlen], ?_⟩ ?_
 · first | rfl | simp
 clear h1 h2 hlen tm
 rintro tm σ3 ⟨hlen, h1, h2, h3, h4, hσ3⟩
 rw [← hσ3] at hx3 hn3
 have hb3 := hx3.get hb0
 have hr3 := hx3.get hr0
 have hc3 := hx3.get hc0
 have hxx := hx0.trans hx3
 have hsr : ∀ o, (σ3.set (σ.length + 1) o)[σ.length + 1]? = some o := fun o => List.getElem?_set_self (lt_of_obj hr3)
 have hxs : ∀ o, Ext σ (σ3.set (σ.length + 1) o) := fun o => hxx.set (by omega)
 generalize hcid : σ2.length = c at *
 clear hσ3 hx2 hb0 hr0 hc0 hcid hx3 hx0
 refine CW.seqK fun K hK => ?_
 rcases hcase with ⟨rfl, hns, rfl, rfl⟩ | ⟨rfl, p, hns, rfl, rfl⟩
 · have hws : wholeS t = (intZ, some t.at_) := by unfold wholeS; rw [hns]
   rw [hws] at done
   refine CW.seqK fun K2 hK2 => CW.region ?_
   simp (maxDischargeDepth := 16) [symB, List.length_set, andThen, hlen, h4]
   refine hK2 _ _ ?_
   refine CW.cond (t := true) (by simp [evx_tmp, slot_eq, slot_ne, hlen]) ?_
   refine CW.region ?_
   simp (maxDischargeDepth := 16) [symB, List.length_set, andThen, hlen, h1, hb3]
   rw [← nodeA_eq]
   refine (fault_ev N t fid σ3 hc3).mono ?_
   rintro r σ4 ⟨rfl, hx4⟩
   have hne : σ.length + 1 ≠ fid := by omega
   have hne2 : c ≠ fid := ne_of_get hn3 hc3 (by simp [cleanO, boolA])
   have hr4 := hx4.get ((setF_ne (some t.at_) hne).trans hr3)
   have hn4 := hx4.get ((setF_ne (some t.at_) hne2).trans hn3)
   have hsr4 : ∀ o, (σ4.set (σ.length + 1) o)[σ.length + 1]? = some o := fun o => List.getElem?_set_self (lt_of_obj hr4)
   have hxs4 : ∀ o, Ext (setF σ fid (some t.at_)) (σ4.set (σ.length + 1) o) := fun o => ((setF_ext _ hxx hfl).trans hx4).set (by rw [setF_len]; omega)
   simp (maxDischargeDepth := 16) [symB, List.length_set, retK, andThen, hlen]
   refine hK _ _ ?_
   refine CW.seqK fun K4 hK4 => CW.region ?_
   simp (maxDischargeDepth := 16) [symB, List.length_set, andThen, hlen, h2, h3, hr4, hn4]
   refine hK4 _ _ ?_
   exact CW.ret (done _ _ _ rfl (fun _ _ => .cons (.lit _) (.cons (.nil _) .nil)) (hxs4 _) (hsr4 _) (by simp [hlen]) (by simp [slot_ne, h2]))
 · have hws : wholeS t = (numC p, none) := by unfold wholeS; rw [hns]
   rw [hws] at done
   refine CW.seqK fun K2 hK2 => CW.region ?_
   simp (maxDischargeDepth := 16) [symB, List.length_set, andThen, hlen, h4]
   refine hK2 _ _ ?_
   refine CW.cond (t := false) (by simp [evx_tmp, slot_eq, slot_ne, hlen]) ?_
   refine CW.skip ?_
   simp only [andThen]
   refine hK _ _ ?_
   refine CW.seqK fun K4 hK4 => CW.region ?_
   simp (maxDischargeDepth := 16) [symB, List.length_set, andThen, hlen, h2, h3, hr3, hn3]
   refine hK4 _ _ ?_
   exact CW.ret (done _ _ _ rfl (fun _ _ => .cons (.lit _) (.cons (.okR (okR_d32 _) _) .nil)) (hxs _) (hsr _) (by simp [hlen]) (by simp [slot_ne, h2]))
end
section
open Go.RowKit
def rdT (N : Nat) : Tgt → Tr → Ans
 | .skip => skipS
 | .into g _ _ => rd N g
def putT (σ : Sto) : Tgt → Option (List AV) → Sto
 | .into _ tg off, some v => putAt σ tg off v
 | _, _ => σ
def putTs (σ : Sto) : List Tgt → List (Option (List AV)) → Sto
 | g :: gs, o :: os => putTs (putT σ g o) gs os
 | _, _ => σ
theorem putAt_setF {σ : Sto} {tg off fid : Nat} {v : List AV} (o : Option Int) (h : tg ≠ fid) : putAt (setF σ fid o) tg off v = setF (putAt σ tg off v) fid o := by
 cases o with
 | none => rfl
 | some p =>
  show putAt (σ.set fid (badO p)) tg off v = (putAt σ tg off v).set fid (badO p)
  unfold putAt
  rw [List.getElem?_set_ne (Ne.symm h)]
  cases hq : σ[tg]? with
  | none => rfl
  | some x => cases x <;> first | rfl | exact List.set_comm _ _ (Ne.symm h)
theorem putTs_none : ∀ {gs : List Tgt} {fs : List (Tr → Ans)} {σ : Sto}, putTs σ gs (fs.map fun _ => none) = σ
 | [], _, σ => by unfold putTs; rfl
 | g :: gs, [], σ => rfl
 | g :: gs, f :: fs, σ => by
  show putTs (putT σ g none) gs (fs.map fun _ => none) = σ
  have : putT σ g none = σ := by cases g <;> rfl
  rw [this]
  exact putTs_none
theorem partsG_cons (f : Tr → Ans) (fs : List (Tr → Ans)) (t : Tr) (l : List Tr) : partsG (f :: fs) (t :: l) = match (f t).2 with | some p => (some (f t).1 :: fs.map (fun _ => none), some p) | none => (some (f t).1 :: (partsG fs l).1, (partsG fs l).2) := rfl
theorem partsG_nil (fs : List (Tr → Ans)) : partsG fs [] = (fs.map fun _ => none, none) := by cases fs <;> rfl
theorem partsG_nil2 (l : List Tr) : partsG [] l = ([], none) := by cases l <;> rfl
theorem partsE_nil (N fid : Nat) (gs : List Tgt) (σ : Sto) : partsE N fid gs [] σ = σ := by
 cases gs with
 | nil => rfl
 | cons g gs => cases g <;> rfl
theorem partsE_nil2 (N fid : Nat) (ts : List Tr) (σ : Sto) : partsE N fid [] ts σ = σ := by cases ts <;> rfl
theorem partsE_eq (N fid : Nat) : ∀ (gs : List Tgt) (ts : List Tr) (σ : Sto), (∀ g tg off, Tgt.into g tg off ∈ gs → tg ≠ fid) → partsE N fid gs ts σ = putTs (setF σ fid (partsG (gs.map (rdT N)) ts).2) gs (partsG (gs.map (rdT N)) ts).1
 | [], ts, σ, _ => by
  rw [partsE_nil2]
  show σ = putTs (setF σ fid (partsG [] ts).2) [] (partsG [] ts).1
  rw [partsG_nil2]
  rfl
 | g :: gs, [], σ, _ => by
  rw [partsE_nil, partsG_nil]
  exact putTs_none.symm
 | g :: gs, t :: ts, σ, h => by
  have ih := fun σ' => partsE_eq N fid gs ts σ' fun g tg off hm => h g tg off (by simp [hm])
  rw [partsE_cons, List.map_cons, partsG_cons]
  cases g with
  | skip =>
   show partsE N fid gs ts σ = _
   rw [ih]
   rfl
  | into g tg off =>
   have hne := h g tg off (by simp)
   show (match (rd N g t).2 with | some p => oneE N fid (.into g tg off) t σ | none => partsE N fid gs ts (oneE N fid (.into g tg off) t σ)) = _
   have e3 : oneE N fid (.into g tg off) t σ = putAt (setF σ fid (rd N g t).2) tg off (rd N g t).1 := rfl
   have e4 : rdT N (.into g tg off) t = rd N g t := rfl
   rw [e3, e4]
   cases hq : (rd N g t).2 with
   | some p =>
    simp only
    exact putTs_none.symm
   | none =>
    simp only
    rw [ih]
    show putTs (setF (putAt σ tg off (rd N g t).1) fid _) gs _ = putTs (putAt (setF σ fid _) tg off (rd N g t).1) gs _
    rw [putAt_setF _ hne]
theorem partsF_eq (N fid : Nat) (gs : List Tgt) (t : Tr) (σ : Sto) (h : ∀ g tg off, Tgt.into g tg off ∈ gs → tg ≠ fid) : partsF N fid gs t σ = putTs (setF σ fid (partsS (gs.map (rdT N)) t).2) gs (partsS (gs.map (rdT N)) t).1 := by
 unfold partsF partsS
 rw [List.length_map]
 split
 · exact partsE_eq N fid gs t.kids σ h
 · exact putTs_none.symm
theorem partsG_len : ∀ {fs : List (Tr → Ans)} {l : List Tr}, (partsG fs l).1.length = fs.length
 | [], l => by rw [partsG_nil2]; rfl
 | f :: fs, [] => by rw [partsG_nil]; simp
 | f :: fs, t :: l => by
  rw [partsG_cons]
  split
  · simp
  · simp [partsG_len (fs := fs) (l := l)]
theorem partsS_len {fs : List (Tr → Ans)} {t : Tr} : (partsS fs t).1.length = fs.length := by
 unfold partsS
 split
 · exact partsG_len
 · simp
theorem putT_skip (σ : Sto) (o : Option (List AV)) : putT σ .skip o = σ := by cases o <;> rfl
theorem putT_get {σ : Sto} {g : RF} {tg off T : Nat} {cs : List AV} {o : Option (List AV)} (h : σ[tg]? = some (.cells cs T)) : (putT σ (.into g tg off) o)[tg]? = some (.cells (putO cs off (some o)) T) := by
 cases o with
 | none => exact h
 | some v => exact putAt_self h
theorem putT_ne {σ : Sto} {g : RF} {tg off x : Nat} {o : Option (List AV)} (h : x ≠ tg) : (putT σ (.into g tg off) o)[x]? = σ[x]? := by
 cases o with
 | none => rfl
 | some v => exact putAt_ne h
theorem putT_ext {A B : Sto} {g : RF} {tg off : Nat} {o : Option (List AV)} (h : Ext A B) (ht : A.length ≤ tg) : Ext A (putT B (.into g tg off) o) := by
 cases o with
 | none => exact h
 | some v =>
  show Ext A (putAt B tg off v)
  unfold putAt
  split
  · exact h.set ht
  · exact h
theorem two_of {α : Type} {l : List α} (h : l.length = 2) : ∃ a b, l = [a, b] := by
 match l, h with
 | [a, b], _ => exact ⟨a, b, rfl⟩
theorem three_of {α : Type} {l : List α} (h : l.length = 3) : ∃ a b c, l = [a, b, c] := by
 match l, h with
 | [a, b, c], _ => exact ⟨a, b, c, rfl⟩
theorem four_of {α : Type} {l : List α} (h : l.length = 4) : ∃ a b c d, l = [a, b, c, d] := by
 match l, h with
 | [a, b, c, d], _ => exact ⟨a, b, c, d, rfl⟩
theorem FrzL.putO {σ : Sto} {n : Nat} {l m : List AV} {off : Nat} {o : Option (Option (List AV))} (h : FrzL σ n l m) (ho : okO o) : FrzL σ n (Go.Proofs.YtkkblmdgedmdfaaGreatDoor.putO l off o) (Go.Proofs.YtkkblmdgedmdfaaGreatDoor.putO m off o) := by
 unfold Go.Proofs.YtkkblmdgedmdfaaGreatDoor.putO
 split
 · rename_i v
   exact FrzL.put (FrzL.refl (ho v rfl)) h
 · exact h
theorem okO_parts {N : Nat} {gs : List Tgt} {t : Tr} {k : Nat} : okO (partsS (gs.map (rdT N)) t).1[k]? := by
 refine okO_S fun f hf u => ?_
 obtain ⟨g, _, rfl⟩ := List.mem_map.1 hf
 cases g with
 | skip => exact okL_skip u
 | into g tg off => exact rd_ok N g u
theorem Frz.row1 {σ : Sto} {n : Nat} {l m : List AV} (h : FrzL σ n l m) (tok : Tok) : Frz σ n (.sl [l] tok) (rowsA' [m]) := by
 refine .sl [l] [m] tok rfl (fun i e f he hf => ?_) fun i j e f d d' he hf hd hd' => ?_
 · cases i with
   | zero => cases he; cases hf; exact h.len
   | succ i => simp at he
 · cases i with
   | zero => cases he; cases hf; exact h.at j d d' hd hd'
   | succ i => simp at he
theorem Frz.asl1 {σ : Sto} {n id k : Nat} {T : TypeId} {l m : List AV} (ho : σ[id]? = some (.cells l T)) (hn : n ≤ id) (h : FrzL σ n l m) (hl : m.length = k) : Frz σ n (.asl id 0 1 k) (rowsA' [m]) := by
 refine .asl id 0 1 k l T [m] (fun _ j => l.getD j default) ho hn rfl (fun i f hf => ?_) (fun i j f d' hf hd => ?_) fun i j f d' hf hd => ?_
 · cases i with
   | zero => cases hf; exact hl
   | succ i => simp at hf
 · cases i with
   | zero =>
    cases hf
    have hj : j < l.length := by rw [h.len]; exact (List.getElem?_eq_some_iff.1 hd).1
    simp [List.getD_eq_getElem?_getD, List.getElem?_eq_getElem hj]
   | succ i => simp at hf
 · cases i with
   | zero =>
    cases hf
    have hj : j < l.length := by rw [h.len]; exact (List.getElem?_eq_some_iff.1 hd).1
    refine h.at j _ _ ?_ hd
    simp [List.getD_eq_getElem?_getD, List.getElem?_eq_getElem hj]
   | succ i => simp at hf
end
end Go.Proofs.YtkkblmdgedmdfaaGreatDoor
