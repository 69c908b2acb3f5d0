/-
 EV: A SMALL REGION THAT DRAWS, IN EVERY ORDER THAT MAY BE: what is allocated bears another number in another order.
-/
import Derived.Test.YtkkblmdgedmdfaaGreatDoorEvChM
import Derived.Test.YtkkblmdgedmdfaaGreatDoorEvPRest2
import Derived.Test.YtkkblmdgedmdfaaGreatDoorEvPRd2M
namespace Go.Proofs.YtkkblmdgedmdfaaGreatDoor
set_option linter.unusedSimpArgs false
set_option linter.unusedVariables false
section
open Go.RowKit
section
variable (f : Nat → Option (List (List Nat)))
def extsL : List Nat → Option (List (List Nat))
 | [] => some []
 | i :: r => match f i, extsL r with | some a, some b => some (a.map (i :: ·) ++ b) | _, _ => none
end
def exts (ops : Array Oper) : Nat → Array Bool → Option (List (List Nat))
 | 0, _ => none
 | n + 1, listed => match Region.ready .any ops listed with
  | [] => some [[]]
  | i :: r => extsL (fun i => exts ops n (listed.setIfInBounds i true)) (i :: r)
theorem extsL_mem {f : Nat → Option (List (List Nat))} : ∀ {rs : List Nat} {ls : List (List Nat)}, extsL f rs = some ls → ∀ i ∈ rs, ∃ a, f i = some a ∧ ∀ l ∈ a, i :: l ∈ ls
 | [], ls, h, i, hi => by cases hi
 | j :: r, ls, h, i, hi => by
  unfold extsL at h
  split at h
  · rename_i a b ha hb
    cases h
    rcases List.mem_cons.1 hi with rfl | hi
    · exact ⟨a, ha, fun l hl => List.mem_append_left _ (List.mem_map_of_mem hl)⟩
    · obtain ⟨a', h1, h2⟩ := extsL_mem hb i hi
      exact ⟨a', h1, fun l hl => List.mem_append_right _ (h2 l hl)⟩
  · cases h
theorem exts_ne {ops : Array Oper} : ∀ {n : Nat} {listed : Array Bool} {ls : List (List Nat)}, exts ops n listed = some ls → ls ≠ []
 | 0, _, _, h => by cases h
 | n + 1, listed, ls, h => by
  unfold exts at h
  split at h
  · cases h; simp
  · obtain ⟨a, h1, h2⟩ := extsL_mem h _ (List.mem_cons_self ..)
    have := exts_ne h1
    cases a with
    | nil => exact absurd rfl this
    | cons l a => intro e; have := h2 l (by simp); rw [e] at this; cases this
section
variable (P : Program) (M : List TypeId)
def EL1 (o : Oper) (tm : List AV) (σ : Sto) (K : List AV → Sto → Prop) : Prop :=
 match o.guard, evStep P M (evx tm) σ o with
 | none, some (.val v σ' _) => K (putA tm o.dst v) σ'
 | none, some (.skip σ' _) => K (putA tm o.dst (.tup [])) σ'
 | _, _ => False
def EO (ops : Array Oper) : List Nat → List AV → Sto → (AExit → List AV → Sto → Prop) → Prop
 | [], tm, σ, Q => Q .normal tm σ
 | i :: l, tm, σ, Q => match ops[i]? with | some o => EL1 P M o tm σ fun tm' σ' => EO ops l tm' σ' Q | none => False
end
section
variable {P : Program} {E : Env} {M : List TypeId}
theorem EL1_val {o : Oper} {tm : List AV} {σ : Sto} {K : List AV → Sto → Prop} (hg : o.guard = none) (h : isVal (evStep P M (evx tm) σ o) = true) : EL1 P M o tm σ K = K (putA tm o.dst (valOf (evStep P M (evx tm) σ o))) (stOf (evStep P M (evx tm) σ o)) := by
 unfold EL1
 rw [hg]
 cases hs : evStep P M (evx tm) σ o with
 | none => rw [hs] at h; cases h
 | some s => rw [hs] at h; cases s <;> first | rfl | cases h
theorem EL1_skip {o : Oper} {tm : List AV} {σ : Sto} {K : List AV → Sto → Prop} (hg : o.guard = none) (h : isSkip (evStep P M (evx tm) σ o) = true) : EL1 P M o tm σ K = K (putA tm o.dst (.tup [])) (stOf (evStep P M (evx tm) σ o)) := by
 unfold EL1
 rw [hg]
 cases hs : evStep P M (evx tm) σ o with
 | none => rw [hs] at h; cases h
 | some s => rw [hs] at h; cases s <;> first | rfl | cases h
theorem EL1_op {ops : Array Oper} {o : Oper} {tm : List AV} {σ : Sto} {K : List AV → Sto → Prop} (h : EL1 P M o tm σ K) : ∃ tm' σ' acc, evOp P M noCall ops o tm σ = some (.inr (tm', acc), σ') ∧ K tm' σ' := by
 unfold EL1 at h
 split at h
 · rename_i v σ' acc hg hs
   exact ⟨_, _, acc, by unfold evOp; rw [if_pos (by unfold Region.wanted; rw [hg]), hs], h⟩
 · rename_i σ' acc hg hs
   exact ⟨_, _, acc, by unfold evOp; rw [if_pos (by unfold Region.wanted; rw [hg]), hs], h⟩
 · exact h.elim
theorem J.exts {ops : Array Oper} : ∀ (fuel : Nat) (listed : Array Bool) (tm : List AV) (σ : Sto) (Q : AExit → List AV → Sto → Prop) (ls : List (List Nat)), Go.Proofs.YtkkblmdgedmdfaaGreatDoor.exts ops (fuel + 1) listed = some ls → (∀ l ∈ ls, EO P M ops l tm σ Q) → J P E (.any M ops fuel listed tm σ Q)
 | fuel, listed, tm, σ, Q, ls, he, h => by
  unfold Go.Proofs.YtkkblmdgedmdfaaGreatDoor.exts at he
  split at he
  · rename_i hr
    cases he
    exact .anyDone hr (h [] (by simp))
  · rename_i i r hr
    have key : ∀ j ∈ i :: r, ∃ (o : Oper) (tm' : List AV) (σ' : Sto) (acc : Acc) (a : List (List Nat)), ops[j]? = some o ∧ evOp P M noCall ops o tm σ = some (.inr (tm', acc), σ') ∧ Go.Proofs.YtkkblmdgedmdfaaGreatDoor.exts ops fuel (listed.setIfInBounds j true) = some a ∧ ∀ l ∈ a, EO P M ops l tm' σ' Q := by
     intro j hj
     obtain ⟨a, h1, h2⟩ := extsL_mem he j hj
     have hne := exts_ne h1
     have hstep : ∀ l ∈ a, ∃ (o : Oper) (tm' : List AV) (σ' : Sto) (acc : Acc), ops[j]? = some o ∧ evOp P M noCall ops o tm σ = some (.inr (tm', acc), σ') ∧ EO P M ops l tm' σ' Q := by
      intro l hl
      have := h _ (h2 l hl)
      unfold EO at this
      split at this
      · rename_i o ho
        obtain ⟨tm', σ', acc, g1, g2⟩ := EL1_op (ops := ops) this
        exact ⟨o, tm', σ', acc, ho, g1, g2⟩
      · exact this.elim
     cases a with
     | nil => exact absurd rfl hne
     | cons l0 a =>
      obtain ⟨o, tm', σ', acc, g1, g2, _⟩ := hstep l0 (by simp)
      refine ⟨o, tm', σ', acc, _, g1, g2, h1, fun l hl => ?_⟩
      obtain ⟨o', tm2, σ2, acc2, k1, k2, k3⟩ := hstep l hl
      rw [g1] at k1
      cases k1
      rw [g2] at k2
      simp only [Option.some.injEq, Prod.mk.injEq, Sum.inr.injEq] at k2
      obtain ⟨⟨rfl, _⟩, rfl⟩ := k2
      exact k3
    cases fuel with
    | zero =>
     obtain ⟨o, tm', σ', acc, a, _, _, h3, _⟩ := key i (by simp)
     cases h3
    | succ fuel =>
     classical
     refine .anyStep (i :: r) (fun j => if hj : j ∈ i :: r then (key j hj).choose else default) (fun j => if hj : j ∈ i :: r then (key j hj).choose_spec.choose_spec.choose_spec.choose else .any) (fun j => if hj : j ∈ i :: r then (key j hj).choose_spec.choose else []) (fun j => if hj : j ∈ i :: r then (key j hj).choose_spec.choose_spec.choose else []) hr (by simp) ?_ ?_ ?_
     · intro j hj
       simp only [dif_pos hj]
       exact (key j hj).choose_spec.choose_spec.choose_spec.choose_spec.choose_spec.1
     · intro j hj
       simp only [dif_pos hj]
       exact (key j hj).choose_spec.choose_spec.choose_spec.choose_spec.choose_spec.2.1
     · intro j hj
       simp only [dif_pos hj]
       have hs := (key j hj).choose_spec.choose_spec.choose_spec.choose_spec.choose_spec.2.2
       exact J.exts fuel _ _ _ _ _ hs.1 hs.2
theorem JD.any {id : Nat} {ops : Array Oper} {tm : List AV} {σ : Sto} {Q : AExit → List AV → Sto → Prop} (ls : List (List Nat)) (he : Go.Proofs.YtkkblmdgedmdfaaGreatDoor.exts ops (ops.size + 1) (Array.replicate ops.size false) = some ls) (h : ∀ l ∈ ls, EO P M ops l tm σ Q) : JD P E M (.region id ops true) tm σ Q :=
 J.anyRegion (J.exts _ _ _ _ _ ls he h)
end
end
section
open Go.RowKit
theorem get_app_add (σ l : Sto) (i : Nat) : (σ ++ l)[σ.length + i]? = l[i]? := by
 rw [List.getElem?_append_right (by omega)]; congr 1; omega
theorem set_app_add (σ l : Sto) (i : Nat) (x : AObj) : (σ ++ l).set (σ.length + i) x = σ ++ l.set i x := by
 rw [List.set_append_right _ _ (by omega)]; congr 2; omega
theorem JD.reset2 {P : Program} {E : Env} {M : List TypeId} {c : Code} {tm : List AV} {σ : Sto} {R : AExit → List AV → Sto → Prop} (Q : List AV → Sto → Prop) (h : Q tm σ) (k : ∀ tm σ, Q tm σ → JD P E M c tm σ R) : JD P E M c tm σ R := k _ _ h
set_option maxRecDepth 100000 in
set_option maxHeartbeats 4000000 in
theorem let_rd (N : Nat) : RdOk N .let_ := by
 intro t fid σ hf hn hc
 show JC _ _ 103 _ _ _
 refine JC.start (fn := Tryz.f103) (M := [115, 119]) rfl rfl rfl (by simp) fun tm hlen hs => ?_
 have h0 := hs 0 _ rfl
 clear hs
 rw [nodeA_eq] at h0
 simp at hlen
 refine JD.hide fun R0 hR0 => ?_
 have hfl := lt_of_obj hc
 refine JD.seqK fun K hK => J.cw (CW.region ?_)
 simp (maxDischargeDepth := 16) [symB, List.length_set, andThen, hlen, h0]
 refine hK _ _ ?_; clear hK K
 refine JD.reset2 (fun tm σ1 => tm.length = 27 ∧ slot tm 1 = .ptr σ.length 0 ∧ slot tm 2 = .ptr (σ.length + 1) 0 ∧ σ1 = σ ++ [nodeO t fid, .cells [.lit (.int .u8 0), .lit (.string ⟨#[]⟩), .sl [] .full, .sl [] .full, .lit (.int .u8 0), .lit (.string ⟨#[]⟩), .lit (.bool false), .sl [] .full, .lit (.bool false), .sl [] .full, .sl [] .full] 126]) ⟨by simp [hlen], by simp [slot_eq, slot_ne, hlen], by simp [slot_eq, slot_ne, hlen], rfl⟩ ?_
 clear h0 hlen tm
 rintro tm σ0 ⟨hlen, h1, h2, hσ0⟩
 have hb0 : σ0[σ.length]? = some (.cells [.lit (.string (bs t.word)), .sl (rowsOf t.kids) .no, .lit (.bool t.row), .lit (.int .i64 t.at_), .ptr fid 0] 57) := by rw [hσ0]; exact get_new _ _ _
 have hp : σ0[σ.length + 1]? = some (.cells [.lit (.int .u8 0), .lit (.string ⟨#[]⟩), .sl [] .full, .sl [] .full, .lit (.int .u8 0), .lit (.string ⟨#[]⟩), .lit (.bool false), .sl [] .full, .lit (.bool false), .sl [] .full, .sl [] .full] 126) := by rw [hσ0]; exact get_new1 _ _ _ _
 have hx0 : Ext σ σ0 := by rw [hσ0]; exact ⟨_, rfl⟩
 have hc0 : σ0[fid]? = some cleanO := by rw [hσ0]; exact get_app hc
 have hl0 : σ0.length = σ.length + 2 := by rw [hσ0]; simp
 clear hσ0
 refine JD.seqK fun K hK => JD.any [[0, 1, 2, 3, 4], [0, 1, 3, 2, 4], [0, 3, 1, 2, 4], [1, 0, 2, 3, 4], [1, 0, 3, 2, 4], [1, 3, 0, 2, 4], [3, 0, 1, 2, 4], [3, 1, 0, 2, 4]] (by kernel_rfl) ?_
 have fin : ∀ (a b c : Nat) (tm : List AV) (σl : Sto), σ0.length ≤ a → σ0.length ≤ b → σ0.length ≤ c → a ≠ b → a ≠ c → b ≠ c → a < σl.length → b < σl.length → c < σl.length → tm.length = 27 → slot tm 1 = .ptr σ.length 0 → slot tm 2 = .ptr (σ.length + 1) 0 → slot tm 3 = .ptr c 0 → Ext σ0 σl → σl[a]? = some (.cells [.lit (.bool false), .lit (.string ⟨#[]⟩), .lit (.int .u8 0), .lit (.string ⟨#[]⟩), .lit (.bool false), .sl [] .full, .sl [] .full, .sl [] .full, .sl [] .full] 117) → σl[b]? = some (.cells [.lit (.int .u8 0), .lit (.string ⟨#[]⟩), .sl [] .full, .sl [] .full, .sl [] .full, .sl [] .full, .sl [] .full] 242) → σl[c]? = some (.cells [.lit (.int .u8 1), .lit (.string ⟨#[]⟩), .asl a 0 1 9, .asl b 0 1 7, .lit (.int .u8 0), .lit (.string ⟨#[]⟩), .lit (.bool false), .sl [] .full, .lit (.bool false), .sl [] .full, .sl [] .full] 126) → K tm σl := by
  intro a b c tm σl la lb lc hab hac hbc ha2 hb2 hc2 hlen h1 h2 h3 hel hA hB hC
  refine hK _ _ (J.cw ?_); clear hK K
  refine CW.seqK fun KA hKA => ?_
  refine CW.seqK fun KB hKB => CW.region ?_
  replace hb0 := hel.get hb0
  replace hp := hel.get hp
  replace hc0 := hel.get hc0
  replace hx0 := hx0.trans hel
  simp (maxDischargeDepth := 16) [symB, List.length_set, andThen, hlen, h1, hb0]
  rw [← nodeA_eq]
  refine (head_ev N t fid σl (fineT_k hf)).mono ?_
  rintro r σh ⟨rfl, hxh⟩
  replace hb0 := hxh.get hb0
  replace hp := hxh.get hp
  replace hc0 := hxh.get hc0
  replace hx0 := hx0.trans hxh
  replace hA := hxh.get hA
  replace hB := hxh.get hB
  replace hC := hxh.get hC
  have hlh := hxh.len
  clear hxh
  have htl : (bs (headS t)).toList = headS t := bs_list _
  have ht1 : (⟨#[108, 101, 116]⟩ : ByteArray).toList = [108, 101, 116] := bs_list [108, 101, 116]
  rcases Classical.em (headS t = [108, 101, 116]) with e | e
  · simp (maxDischargeDepth := 16) [symB, List.length_set, retK, andThen, hlen, strA, htl, ht1, e, bs_list]
    refine hKB _ _ ?_; clear hKB KB
    refine CW.cond (t := false) (by simp [evx_tmp, slot_eq, slot_ne, hlen, e, bs_list]) ?_
    refine CW.skip ?_
    simp only [andThen]
    refine hKA _ _ ?_; clear hKA KA
    refine CW.seqK fun K hK => CW.draw (by kernel_rfl) ?_
    simp (maxDischargeDepth := 16) [symB, List.length_set, andThen, hlen, h1, h3, hb0, hC]
    refine (into_name_ev N (c) 1 (fidOf .name) σh).mono ?_
    rintro r σi1 ⟨Ta1, Tb1, rfl, hi1⟩
    have hli1 : σi1.length = σh.length + 2 := by rw [hi1]; simp
    have xi1 : extB σh σi1 = true := extB_of ⟨_, hi1⟩
    have hei1 : Ext σh σi1 := ⟨_, hi1⟩
    have ga1 : σi1[σh.length]? = some (.cells [.ptr (c) 1] Ta1) := by rw [hi1]; exact get_new _ _ _
    have gb1 : σi1[σh.length + 1]? = some (.cells [.fn (.func (fidOf .name)) [] []] Tb1) := by rw [hi1]; exact get_new1 _ _ _ _
    have hei1s : Ext σh σi1 := hei1
    have hCi1 := hei1s.get hC
    have hAi1 := hei1s.get hA
    have hBi1 := hei1s.get hB
    have hbi1 := hei1s.get hb0
    simp (maxDischargeDepth := 16) [symB, List.length_set, retK, andThen, hlen, h1, h3, hb0, hC, hCi1, hAi1, hBi1, hbi1]
    refine (into_kind_ev N (a) 0 (fidOf .kind) σi1).mono ?_
    rintro r σi2 ⟨Ta2, Tb2, rfl, hi2⟩
    have hli2 : σi2.length = σi1.length + 2 := by rw [hi2]; simp
    have xi2 : extB σi1 σi2 = true := extB_of ⟨_, hi2⟩
    have hei2 : Ext σi1 σi2 := ⟨_, hi2⟩
    have ga2 : σi2[σi1.length]? = some (.cells [.ptr (a) 0] Ta2) := by rw [hi2]; exact get_new _ _ _
    have gb2 : σi2[σi1.length + 1]? = some (.cells [.fn (.func (fidOf .kind)) [] []] Tb2) := by rw [hi2]; exact get_new1 _ _ _ _
    have hei2s : Ext σh σi2 := hei1s.trans hei2
    have hCi2 := hei2s.get hC
    have hAi2 := hei2s.get hA
    have hBi2 := hei2s.get hB
    have hbi2 := hei2s.get hb0
    simp (maxDischargeDepth := 16) [symB, List.length_set, retK, andThen, hlen, h1, h3, hb0, hC, hCi2, hAi2, hBi2, hbi2]
    refine (into_right_ev N (b) 0 (fidOf .right) σi2).mono ?_
    rintro r σi3 ⟨Ta3, Tb3, rfl, hi3⟩
    have hli3 : σi3.length = σi2.length + 2 := by rw [hi3]; simp
    have xi3 : extB σi2 σi3 = true := extB_of ⟨_, hi3⟩
    have hei3 : Ext σi2 σi3 := ⟨_, hi3⟩
    have ga3 : σi3[σi2.length]? = some (.cells [.ptr (b) 0] Ta3) := by rw [hi3]; exact get_new _ _ _
    have gb3 : σi3[σi2.length + 1]? = some (.cells [.fn (.func (fidOf .right)) [] []] Tb3) := by rw [hi3]; exact get_new1 _ _ _ _
    have hei3s : Ext σh σi3 := hei2s.trans hei3
    have hCi3 := hei3s.get hC
    have hAi3 := hei3s.get hA
    have hBi3 := hei3s.get hB
    have hbi3 := hei3s.get hb0
    simp (maxDischargeDepth := 16) [symB, List.length_set, retK, andThen, hlen, h1, h3, hb0, hC, hCi3, hAi3, hBi3, hbi3]
    rw [← nodeA_eq]
    have hneC : c ≠ fid := by omega
    have hneA : a ≠ fid := by omega
    have hneB : b ≠ fid := by omega
    refine (parts_ev N [.skip, .into .name (c) 1, .into .kind (a) 0, .into .right (b) 0] (vs := [.fn (.func 43) [] [], .fn (.func (clos .name)) [] [.ptr (σh.length + 1) 0, .ptr σh.length 0], .fn (.func (clos .kind)) [] [.ptr (σi1.length + 1) 0, .ptr σi1.length 0], .fn (.func (clos .right)) [] [.ptr (σi2.length + 1) 0, .ptr σi2.length 0]]) (hi := σh.length) rfl ?_ (fineT_l hf) ?_ (hei3s.get hc0) (fineT_k hf) (by simp)).mono ?_
    · intro k g v hg hv
      match k with
      | 0 => cases hg; cases hv; rfl
      | 1 => cases hg; cases hv; exact ⟨rfl, _, _, _, _, _, _, rfl, by omega, by omega, by omega, hneC, (hei3.get (hei2.get gb1)), (hei3.get (hei2.get ga1)), hCi3, by simp [lenR]⟩
      | 2 => cases hg; cases hv; exact ⟨rfl, _, _, _, _, _, _, rfl, by omega, by omega, by omega, hneA, (hei3.get gb2), (hei3.get ga2), hAi3, by simp [lenR]⟩
      | 3 => cases hg; cases hv; exact ⟨rfl, _, _, _, _, _, _, rfl, by omega, by omega, by omega, hneB, gb3, ga3, hBi3, by simp [lenR]⟩
      | k + 4 => simp at hg
    · intro u hu g hg
      have := size_kid hu
      simp at hg
      rcases hg with rfl | rfl | rfl | rfl <;> (simp [rankT, rank] at hn ⊢; omega)
    rintro r σE ⟨rfl, hxp⟩
    obtain ⟨o0, o1, o2, o3, ho⟩ := four_of (partsS_len (fs := [skipS, rd N .name, rd N .kind, rd N .right]) (t := t))
    have hq1 : okO (some o1) := by have := okO_parts (N := N) (gs := [.skip, .into .name (c) 1, .into .kind (a) 0, .into .right (b) 0]) (t := t) (k := 1); rwa [show (partsS (List.map (rdT N) [.skip, .into .name (c) 1, .into .kind (a) 0, .into .right (b) 0]) t).1 = [o0, o1, o2, o3] from ho] at this
    have hq2 : okO (some o2) := by have := okO_parts (N := N) (gs := [.skip, .into .name (c) 1, .into .kind (a) 0, .into .right (b) 0]) (t := t) (k := 2); rwa [show (partsS (List.map (rdT N) [.skip, .into .name (c) 1, .into .kind (a) 0, .into .right (b) 0]) t).1 = [o0, o1, o2, o3] from ho] at this
    have hq3 : okO (some o3) := by have := okO_parts (N := N) (gs := [.skip, .into .name (c) 1, .into .kind (a) 0, .into .right (b) 0]) (t := t) (k := 3); rwa [show (partsS (List.map (rdT N) [.skip, .into .name (c) 1, .into .kind (a) 0, .into .right (b) 0]) t).1 = [o0, o1, o2, o3] from ho] at this
    have hP : partsF N fid [.skip, .into .name (c) 1, .into .kind (a) 0, .into .right (b) 0] t σi3 = putT (putT (putT (setF σi3 fid (partsS [skipS, rd N .name, rd N .kind, rd N .right] t).2) (.into .name (c) 1) o1) (.into .kind (a) 0) o2) (.into .right (b) 0) o3 := by
     rw [partsF_eq _ _ _ _ _ (fun g tg off hm => by simp at hm; rcases hm with ⟨_, rfl, _⟩ | ⟨_, rfl, _⟩ | ⟨_, rfl, _⟩ <;> assumption)]
     show putTs _ _ (partsS [skipS, rd N .name, rd N .kind, rd N .right] t).1 = _
     rw [ho]; simp only [putTs, putT_skip]; rfl
    have hCE := hxp.get (by rw [hP]; exact ((putT_ne (by omega)).trans ((putT_ne (by omega)).trans (putT_get ((setF_ne _ hneC).trans hCi3)))))
    have hAE := hxp.get (by rw [hP]; exact ((putT_ne (by omega)).trans (putT_get ((putT_ne (by omega)).trans ((setF_ne _ hneA).trans hAi3)))))
    have hBE := hxp.get (by rw [hP]; exact (putT_get ((putT_ne (by omega)).trans ((putT_ne (by omega)).trans ((setF_ne _ hneB).trans hBi3)))))
    have hxE : Ext (setF σ fid (partsS [skipS, rd N .name, rd N .kind, rd N .right] t).2) σE := by
     rw [hP] at hxp
     exact (putT_ext (putT_ext (putT_ext (setF_ext _ (hx0.trans hei3s) hfl) (by rw [setF_len]; omega)) (by rw [setF_len]; omega)) (by rw [setF_len]; omega)).trans hxp
    have hl1' : lenO o1 1 := partsS_lens (fs := [skipS, rd N .name, rd N .kind, rd N .right]) (t := t) (k := 1) rfl (fun u => rd_len N .name u (by have := size_pos t; simp [rank] at hn ⊢; omega)) (by rw [ho]; rfl)
    have hrd : rd (N + 1) .let_ t = (putO (((exprZ.set 0 (u8A 1)).set 2 (rowsA' [putO kindZ 0 (some o2)])).set 3 (rowsA' [putO rhsZ 0 (some o3)])) 1 (some o1), (partsS [skipS, rd N .name, rd N .kind, rd N .right] t).2) := by
     show (if _ then _ else _) = _
     rw [if_pos e]
     show (((putO (exprZ.set 0 (u8A 1)) 1 (partsS [skipS, rd N .name, rd N .kind, rd N .right] t).1[1]?).set 2 (rowsA' [putO kindZ 0 (partsS [skipS, rd N .name, rd N .kind, rd N .right] t).1[2]?])).set 3 (rowsA' [putO rhsZ 0 (partsS [skipS, rd N .name, rd N .kind, rd N .right] t).1[3]?]), _) = _
     rw [ho]
     show (((putO (exprZ.set 0 (u8A 1)) 1 (some o1)).set 2 (rowsA' [putO kindZ 0 (some o2)])).set 3 (rowsA' [putO rhsZ 0 (some o3)]), _) = _
     rw [putO_set hl1' (.inr (by omega)), putO_set hl1' (.inr (by omega))]
    have hzA : ∀ σ'' n, FrzL σ'' n (putO [.lit (.bool false), .lit (.string ⟨#[]⟩), .lit (.int .u8 0), .lit (.string ⟨#[]⟩), .lit (.bool false), .sl [] .full, .sl [] .full, .sl [] .full, .sl [] .full] 0 (some o2)) (putO kindZ 0 (some o2)) := fun σ'' n => FrzL.putO (show FrzL σ'' n _ kindZ from (.cons (.lit _) (.cons (.lit _) (.cons (.lit _) (.cons (.lit _) (.cons (.lit _) (.cons (.nil _) (.cons (.nil _) (.cons (.nil _) (.cons (.nil _) .nil)))))))))) hq2
    have hzB : ∀ σ'' n, FrzL σ'' n (putO [.lit (.int .u8 0), .lit (.string ⟨#[]⟩), .sl [] .full, .sl [] .full, .sl [] .full, .sl [] .full, .sl [] .full] 0 (some o3)) (putO rhsZ 0 (some o3)) := fun σ'' n => FrzL.putO (show FrzL σ'' n _ rhsZ from (.cons (.lit _) (.cons (.lit _) (.cons (.nil _) (.cons (.nil _) (.cons (.nil _) (.cons (.nil _) (.cons (.nil _) .nil)))))))) hq3
    have hwA : (putO kindZ 0 (some o2)).length = 9 := by rw [putO_len]; rfl
    have hwB : (putO rhsZ 0 (some o3)).length = 7 := by rw [putO_len]; rfl
    have hz : ∀ σ'', σ''[a]? = some (.cells (putO [.lit (.bool false), .lit (.string ⟨#[]⟩), .lit (.int .u8 0), .lit (.string ⟨#[]⟩), .lit (.bool false), .sl [] .full, .sl [] .full, .sl [] .full, .sl [] .full] 0 (some o2)) 117) → σ''[b]? = some (.cells (putO [.lit (.int .u8 0), .lit (.string ⟨#[]⟩), .sl [] .full, .sl [] .full, .sl [] .full, .sl [] .full, .sl [] .full] 0 (some o3)) 242) → FrzL σ'' σ.length (putO [.lit (.int .u8 1), .lit (.string ⟨#[]⟩), .asl a 0 1 9, .asl b 0 1 7, .lit (.int .u8 0), .lit (.string ⟨#[]⟩), .lit (.bool false), .sl [] .full, .lit (.bool false), .sl [] .full, .sl [] .full] 1 (some o1)) (rd (N + 1) .let_ t).1 := fun σ'' hsA hsB => by
     rw [hrd]
     exact FrzL.putO (show FrzL _ _ [.lit (.int .u8 1), .lit (.string ⟨#[]⟩), .asl a 0 1 9, .asl b 0 1 7, .lit (.int .u8 0), .lit (.string ⟨#[]⟩), .lit (.bool false), .sl [] .full, .lit (.bool false), .sl [] .full, .sl [] .full] (((exprZ.set 0 (u8A 1)).set 2 (rowsA' [putO kindZ 0 (some o2)])).set 3 (rowsA' [putO rhsZ 0 (some o3)])) from .cons (.lit _) (.cons (.lit _) (.cons (Frz.asl1 hsA (by omega) (hzA _ _) hwA) (.cons (Frz.asl1 hsB (by omega) (hzB _ _) hwB) (.cons (.lit _) (.cons (.lit _) (.cons (.lit _) (.cons (.nil _) (.cons (.lit _) (.cons (.nil _) (.cons (.nil _) .nil))))))))))) hq1
    have hvl : (putO [.lit (.int .u8 1), .lit (.string ⟨#[]⟩), .asl a 0 1 9, .asl b 0 1 7, .lit (.int .u8 0), .lit (.string ⟨#[]⟩), .lit (.bool false), .sl [] .full, .lit (.bool false), .sl [] .full, .sl [] .full] 1 (some o1)).length = 11 := by rw [putO_len]; rfl
    rw [show (partsS [skipS, rd N .name, rd N .kind, rd N .right] t).2 = (rd (N + 1) .let_ t).2 by rw [hrd]] at hxE
    generalize putO [.lit (.int .u8 1), .lit (.string ⟨#[]⟩), .asl a 0 1 9, .asl b 0 1 7, .lit (.int .u8 0), .lit (.string ⟨#[]⟩), .lit (.bool false), .sl [] .full, .lit (.bool false), .sl [] .full, .sl [] .full] 1 (some o1) = v at *
    simp (maxDischargeDepth := 16) [symB, List.length_set, retK, andThen, hlen]
    refine ⟨drawOk_sim [σ.length, c] [.reads 0, .pure, .calls 2 fun _ => true, .pure, .reads 1, .pure, .calls 2 fun _ => true, .pure, .reads 1, .pure, .calls 2 fun _ => true, .pure, .any] (.cons (by simp <;> omega) (.cons (by simp) .nil)) ?_ (by kernel_rfl), ?_⟩
    · refine .cons (.reads 0 _ rfl) (.cons .pure (.cons (.keeps fun x hx => ?_) (.cons .pure (.cons (.reads 1 _ rfl) (.cons .pure (.cons (.keeps fun x hx => ?_) (.cons .pure (.cons (.reads 1 _ rfl) (.cons .pure (.cons (.keeps fun x hx => ?_) (.cons .pure (.cons (.any _) .nil))))))))))))
      · simp at hx; exact ⟨by simp [xi1], by omega⟩
      · simp at hx; exact ⟨by simp [xi2], by omega⟩
      · simp at hx; exact ⟨by simp [xi3], by omega⟩
    refine hK _ _ ?_; clear hK K
    have hrE : σE[σ.length + 1]? = some (.cells [.lit (.int .u8 0), .lit (.string ⟨#[]⟩), .sl [] .full, .sl [] .full, .lit (.int .u8 0), .lit (.string ⟨#[]⟩), .lit (.bool false), .sl [] .full, .lit (.bool false), .sl [] .full, .sl [] .full] 126) := hxp.get (by rw [hP]; exact (putT_ne (by omega)).trans ((putT_ne (by omega)).trans ((putT_ne (by omega)).trans ((setF_ne _ (by omega)).trans (hei3s.get hp)))))
    have htk : List.take 11 v = v := List.take_of_length_le (by omega)
    have htp : putCells [.lit (.int .u8 0), .lit (.string ⟨#[]⟩), .sl [] .full, .sl [] .full, .lit (.int .u8 0), .lit (.string ⟨#[]⟩), .lit (.bool false), .sl [] .full, .lit (.bool false), .sl [] .full, .sl [] .full] 0 v = v := by have := putCells_app v [.lit (.int .u8 0), .lit (.string ⟨#[]⟩), .sl [] .full, .sl [] .full, .lit (.int .u8 0), .lit (.string ⟨#[]⟩), .lit (.bool false), .sl [] .full, .lit (.bool false), .sl [] .full, .sl [] .full] [] (by rw [hvl]; rfl); simpa using this
    have hsr : ∀ o, (σE.set (σ.length + 1) o)[σ.length + 1]? = some o := fun o => List.getElem?_set_self (lt_of_obj hrE)
    have hxs : ∀ o, Ext (setF σ fid (rd (N + 1) .let_ t).2) (σE.set (σ.length + 1) o) := fun o => hxE.set (by rw [setF_len]; omega)
    have hsA' : ∀ o, (σE.set (σ.length + 1) o)[a]? = _ := fun o => (List.getElem?_set_ne (by omega)).trans hAE
    have hsB' : ∀ o, (σE.set (σ.length + 1) o)[b]? = _ := fun o => (List.getElem?_set_ne (by omega)).trans hBE
    refine CW.seqK fun K hK => CW.region ?_
    simp (maxDischargeDepth := 16) [symB, List.length_set, andThen, hlen, h2, h3, hCE, hrE, hvl, htk, htp]
    refine hK _ _ ?_; clear hK K
    refine CW.ret (hR0 _ _ _ ⟨.agg v, ?_, fgt_of (hxs _) hc (hz _ (hsA' _) (hsB' _)).agg⟩)
    simp [resultsA, omap, res_tmp, res_cell, slot_eq, slot_ne, hlen, h2, hsr, partA, aggT, hvl, htk]
  · simp (maxDischargeDepth := 16) [symB, List.length_set, retK, andThen, hlen, strA, htl, ht1, e]
    refine hKB _ _ ?_; clear hKB KB
    refine CW.cond (t := true) (by simp [evx_tmp, slot_eq, slot_ne, hlen, e]) ?_
    have hrd : rd (N + 1) .let_ t = (((exprZ.set 0 (u8A 1)).set 2 (rowsA' [kindZ])).set 3 (rowsA' [rhsZ]), some t.at_) := by
     show (if _ then _ else _) = _
     rw [if_neg e]
    refine CW.seqK fun K hK => CW.region ?_
    simp (maxDischargeDepth := 16) [symB, List.length_set, andThen, hlen, h1, hb0]
    rw [← nodeA_eq]
    refine (fault_ev N t fid σh hc0).mono ?_
    rintro r σ2 ⟨rfl, hxE⟩
    have hrE := hxE.get ((setF_ne _ (by omega)).trans hp)
    have hAE := hxE.get ((setF_ne _ (by omega)).trans hA)
    have hBE := hxE.get ((setF_ne _ (by omega)).trans hB)
    have hCE := hxE.get ((setF_ne _ (by omega)).trans hC)
    replace hxE := (setF_ext _ hx0 hfl).trans hxE
    rw [show some t.at_ = (rd (N + 1) .let_ t).2 by rw [hrd]] at hxE
    simp (maxDischargeDepth := 16) [symB, List.length_set, retK, andThen, hlen]
    refine hK _ _ ?_; clear hK K
    have hz : ∀ σ'', σ''[a]? = some (.cells [.lit (.bool false), .lit (.string ⟨#[]⟩), .lit (.int .u8 0), .lit (.string ⟨#[]⟩), .lit (.bool false), .sl [] .full, .sl [] .full, .sl [] .full, .sl [] .full] 117) → σ''[b]? = some (.cells [.lit (.int .u8 0), .lit (.string ⟨#[]⟩), .sl [] .full, .sl [] .full, .sl [] .full, .sl [] .full, .sl [] .full] 242) → FrzL σ'' σ.length [.lit (.int .u8 1), .lit (.string ⟨#[]⟩), .asl a 0 1 9, .asl b 0 1 7, .lit (.int .u8 0), .lit (.string ⟨#[]⟩), .lit (.bool false), .sl [] .full, .lit (.bool false), .sl [] .full, .sl [] .full] (rd (N + 1) .let_ t).1 := fun σ'' hsA hsB => by
     rw [hrd]
     exact (show FrzL _ _ [.lit (.int .u8 1), .lit (.string ⟨#[]⟩), .asl a 0 1 9, .asl b 0 1 7, .lit (.int .u8 0), .lit (.string ⟨#[]⟩), .lit (.bool false), .sl [] .full, .lit (.bool false), .sl [] .full, .sl [] .full] (((exprZ.set 0 (u8A 1)).set 2 (rowsA' [kindZ])).set 3 (rowsA' [rhsZ])) from .cons (.lit _) (.cons (.lit _) (.cons (Frz.asl1 hsA (by omega) (show FrzL _ _ _ kindZ from (.cons (.lit _) (.cons (.lit _) (.cons (.lit _) (.cons (.lit _) (.cons (.lit _) (.cons (.nil _) (.cons (.nil _) (.cons (.nil _) (.cons (.nil _) .nil)))))))))) rfl) (.cons (Frz.asl1 hsB (by omega) (show FrzL _ _ _ rhsZ from (.cons (.lit _) (.cons (.lit _) (.cons (.nil _) (.cons (.nil _) (.cons (.nil _) (.cons (.nil _) (.cons (.nil _) .nil)))))))) rfl) (.cons (.lit _) (.cons (.lit _) (.cons (.lit _) (.cons (.nil _) (.cons (.lit _) (.cons (.nil _) (.cons (.nil _) .nil)))))))))))
    have hvl : ([.lit (.int .u8 1), .lit (.string ⟨#[]⟩), .asl a 0 1 9, .asl b 0 1 7, .lit (.int .u8 0), .lit (.string ⟨#[]⟩), .lit (.bool false), .sl [] .full, .lit (.bool false), .sl [] .full, .sl [] .full] : List AV).length = 11 := rfl
    generalize ([.lit (.int .u8 1), .lit (.string ⟨#[]⟩), .asl a 0 1 9, .asl b 0 1 7, .lit (.int .u8 0), .lit (.string ⟨#[]⟩), .lit (.bool false), .sl [] .full, .lit (.bool false), .sl [] .full, .sl [] .full] : List AV) = v at *
    have htk : List.take 11 v = v := List.take_of_length_le (by omega)
    have htp : putCells [.lit (.int .u8 0), .lit (.string ⟨#[]⟩), .sl [] .full, .sl [] .full, .lit (.int .u8 0), .lit (.string ⟨#[]⟩), .lit (.bool false), .sl [] .full, .lit (.bool false), .sl [] .full, .sl [] .full] 0 v = v := by have := putCells_app v [.lit (.int .u8 0), .lit (.string ⟨#[]⟩), .sl [] .full, .sl [] .full, .lit (.int .u8 0), .lit (.string ⟨#[]⟩), .lit (.bool false), .sl [] .full, .lit (.bool false), .sl [] .full, .sl [] .full] [] (by rw [hvl]; rfl); simpa using this
    have hsr : ∀ o, (σ2.set (σ.length + 1) o)[σ.length + 1]? = some o := fun o => List.getElem?_set_self (lt_of_obj hrE)
    have hxs : ∀ o, Ext (setF σ fid (rd (N + 1) .let_ t).2) (σ2.set (σ.length + 1) o) := fun o => hxE.set (by rw [setF_len]; omega)
    have hsA' : ∀ o, (σ2.set (σ.length + 1) o)[a]? = _ := fun o => (List.getElem?_set_ne (by omega)).trans hAE
    have hsB' : ∀ o, (σ2.set (σ.length + 1) o)[b]? = _ := fun o => (List.getElem?_set_ne (by omega)).trans hBE
    refine CW.seqK fun K hK => CW.region ?_
    simp (maxDischargeDepth := 16) [symB, List.length_set, andThen, hlen, h2, h3, hCE, hrE, hvl, htk, htp]
    refine hK _ _ ?_; clear hK K
    refine CW.ret (hR0 _ _ _ ⟨.agg v, ?_, fgt_of (hxs _) hc (hz _ (hsA' _) (hsB' _)).agg⟩)
    simp [resultsA, omap, res_tmp, res_cell, slot_eq, slot_ne, hlen, h2, hsr, partA, aggT, hvl, htk]
 intro l hl
 simp only [List.mem_cons, List.not_mem_nil, or_false] at hl
 rcases hl with rfl | rfl | rfl | rfl | rfl | rfl | rfl | rfl
 · simp (maxDischargeDepth := 16) [symB, List.length_set, EO, EL1_val, EL1_skip, andThen, hlen, h1, h2, get_app_add, set_app_add, Nat.add_assoc]
   try simp only [Nat.add_assoc, Nat.reduceAdd]
   exact fin (σ0.length) (σ0.length + 1) (σ0.length + 2) _ _ (by omega) (by omega) (by omega) (by omega) (by omega) (by omega) (by simp) (by simp) (by simp) (by simp [hlen]) (by simp [slot_ne, h1]) (by simp [slot_ne, h2]) (by simp [slot_eq, slot_ne, hlen]) ⟨_, rfl⟩ (by first | exact get_new _ _ _ | (rw [get_app_add]; rfl)) (by first | exact get_new _ _ _ | (rw [get_app_add]; rfl)) (by first | exact get_new _ _ _ | (rw [get_app_add]; rfl))
 · simp (maxDischargeDepth := 16) [symB, List.length_set, EO, EL1_val, EL1_skip, andThen, hlen, h1, h2, get_app_add, set_app_add, Nat.add_assoc]
   try simp only [Nat.add_assoc, Nat.reduceAdd]
   exact fin (σ0.length) (σ0.length + 1) (σ0.length + 2) _ _ (by omega) (by omega) (by omega) (by omega) (by omega) (by omega) (by simp) (by simp) (by simp) (by simp [hlen]) (by simp [slot_ne, h1]) (by simp [slot_ne, h2]) (by simp [slot_eq, slot_ne, hlen]) ⟨_, rfl⟩ (by first | exact get_new _ _ _ | (rw [get_app_add]; rfl)) (by first | exact get_new _ _ _ | (rw [get_app_add]; rfl)) (by first | exact get_new _ _ _ | (rw [get_app_add]; rfl))
 · simp (maxDischargeDepth := 16) [symB, List.length_set, EO, EL1_val, EL1_skip, andThen, hlen, h1, h2, get_app_add, set_app_add, Nat.add_assoc]
   try simp only [Nat.add_assoc, Nat.reduceAdd]
   exact fin (σ0.length) (σ0.length + 2) (σ0.length + 1) _ _ (by omega) (by omega) (by omega) (by omega) (by omega) (by omega) (by simp) (by simp) (by simp) (by simp [hlen]) (by simp [slot_ne, h1]) (by simp [slot_ne, h2]) (by simp [slot_eq, slot_ne, hlen]) ⟨_, rfl⟩ (by first | exact get_new _ _ _ | (rw [get_app_add]; rfl)) (by first | exact get_new _ _ _ | (rw [get_app_add]; rfl)) (by first | exact get_new _ _ _ | (rw [get_app_add]; rfl))
 · simp (maxDischargeDepth := 16) [symB, List.length_set, EO, EL1_val, EL1_skip, andThen, hlen, h1, h2, get_app_add, set_app_add, Nat.add_assoc]
   try simp only [Nat.add_assoc, Nat.reduceAdd]
   exact fin (σ0.length + 1) (σ0.length) (σ0.length + 2) _ _ (by omega) (by omega) (by omega) (by omega) (by omega) (by omega) (by simp) (by simp) (by simp) (by simp [hlen]) (by simp [slot_ne, h1]) (by simp [slot_ne, h2]) (by simp [slot_eq, slot_ne, hlen]) ⟨_, rfl⟩ (by first | exact get_new _ _ _ | (rw [get_app_add]; rfl)) (by first | exact get_new _ _ _ | (rw [get_app_add]; rfl)) (by first | exact get_new _ _ _ | (rw [get_app_add]; rfl))
 · simp (maxDischargeDepth := 16) [symB, List.length_set, EO, EL1_val, EL1_skip, andThen, hlen, h1, h2, get_app_add, set_app_add, Nat.add_assoc]
   try simp only [Nat.add_assoc, Nat.reduceAdd]
   exact fin (σ0.length + 1) (σ0.length) (σ0.length + 2) _ _ (by omega) (by omega) (by omega) (by omega) (by omega) (by omega) (by simp) (by simp) (by simp) (by simp [hlen]) (by simp [slot_ne, h1]) (by simp [slot_ne, h2]) (by simp [slot_eq, slot_ne, hlen]) ⟨_, rfl⟩ (by first | exact get_new _ _ _ | (rw [get_app_add]; rfl)) (by first | exact get_new _ _ _ | (rw [get_app_add]; rfl)) (by first | exact get_new _ _ _ | (rw [get_app_add]; rfl))
 · simp (maxDischargeDepth := 16) [symB, List.length_set, EO, EL1_val, EL1_skip, andThen, hlen, h1, h2, get_app_add, set_app_add, Nat.add_assoc]
   try simp only [Nat.add_assoc, Nat.reduceAdd]
   exact fin (σ0.length + 2) (σ0.length) (σ0.length + 1) _ _ (by omega) (by omega) (by omega) (by omega) (by omega) (by omega) (by simp) (by simp) (by simp) (by simp [hlen]) (by simp [slot_ne, h1]) (by simp [slot_ne, h2]) (by simp [slot_eq, slot_ne, hlen]) ⟨_, rfl⟩ (by first | exact get_new _ _ _ | (rw [get_app_add]; rfl)) (by first | exact get_new _ _ _ | (rw [get_app_add]; rfl)) (by first | exact get_new _ _ _ | (rw [get_app_add]; rfl))
 · simp (maxDischargeDepth := 16) [symB, List.length_set, EO, EL1_val, EL1_skip, andThen, hlen, h1, h2, get_app_add, set_app_add, Nat.add_assoc]
   try simp only [Nat.add_assoc, Nat.reduceAdd]
   exact fin (σ0.length + 1) (σ0.length + 2) (σ0.length) _ _ (by omega) (by omega) (by omega) (by omega) (by omega) (by omega) (by simp) (by simp) (by simp) (by simp [hlen]) (by simp [slot_ne, h1]) (by simp [slot_ne, h2]) (by simp [slot_eq, slot_ne, hlen]) ⟨_, rfl⟩ (by first | exact get_new _ _ _ | (rw [get_app_add]; rfl)) (by first | exact get_new _ _ _ | (rw [get_app_add]; rfl)) (by first | exact get_new _ _ _ | (rw [get_app_add]; rfl))
 · simp (maxDischargeDepth := 16) [symB, List.length_set, EO, EL1_val, EL1_skip, andThen, hlen, h1, h2, get_app_add, set_app_add, Nat.add_assoc]
   try simp only [Nat.add_assoc, Nat.reduceAdd]
   exact fin (σ0.length + 2) (σ0.length + 1) (σ0.length) _ _ (by omega) (by omega) (by omega) (by omega) (by omega) (by omega) (by simp) (by simp) (by simp) (by simp [hlen]) (by simp [slot_ne, h1]) (by simp [slot_ne, h2]) (by simp [slot_eq, slot_ne, hlen]) ⟨_, rfl⟩ (by first | exact get_new _ _ _ | (rw [get_app_add]; rfl)) (by first | exact get_new _ _ _ | (rw [get_app_add]; rfl)) (by first | exact get_new _ _ _ | (rw [get_app_add]; rfl))
end
end Go.Proofs.YtkkblmdgedmdfaaGreatDoor
