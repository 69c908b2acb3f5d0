/-
 EV: the package tree: what looks for names: terms, types, parameters.
-/
import Derived.Test.YteajcnilihgheaaGreatDoorTCntM
import Derived.Test.YteajcnilihgheaaGreatDoorEvRange3M
import Derived.Lib.RowBridge
namespace Go.Proofs.YteajcnilihgheaaGreatDoor
set_option maxRecDepth 100000
set_option maxHeartbeats 8000000
set_option linter.unusedSimpArgs false
set_option linter.unusedVariables false
section
open Go.RowKit
variable {S : Sp} {N : Nat}
mutual
def namesT : Trm → List ByteArray
 | .mk k nm ng dg ks => (if k = 1 then [nm] else []) ++ namesTs ks
def namesTs : List Trm → List ByteArray
 | [] => []
 | t :: l => namesT t ++ namesTs l
end
def sortB (l : List ByteArray) : List (List UInt8) := (l.map fun s => s.data.toList).mergeSort fun x y => decide (x ≤ y)
def freeT (t : Trm) : List ByteArray := (Lib.compact (sortB (namesT t))).map strB
theorem mem_upTo {α : Type} [Inhabited α] [DecidableEq α] (d : Array α) (x : α) : ∀ m, x ∈ Lib.compactUpTo d m ↔ ∃ j, j < m ∧ d[j]! = x
 | 0 => by simp [Lib.compactUpTo]
 | m + 1 => by
  rw [Lib.compactUpTo_succ, List.mem_append, mem_upTo d x m]
  constructor
  · rintro (⟨j, h1, h2⟩ | h)
    · exact ⟨j, by omega, h2⟩
    · split at h
      · simp only [List.mem_singleton] at h; exact ⟨m, by omega, h.symm⟩
      · cases h
  · rintro ⟨j, h1, h2⟩
    rcases Nat.lt_or_ge j m with h | h
    · exact .inl ⟨j, h, h2⟩
    · obtain rfl : j = m := by omega
      rcases Nat.eq_zero_or_pos j with h0 | h0
      · subst h0; right; rw [if_pos (Lib.keeps_lt_one d 0 (by omega))]; simp [h2]
      · by_cases e : d[j]! = d[j - 1]!
        · left; exact ⟨j - 1, by omega, by rw [← e]; exact h2⟩
        · right; rw [if_pos (Lib.keeps_pos e)]; simp [h2]
theorem mem_compact {α : Type} [Inhabited α] [DecidableEq α] (zs : List α) (x : α) : x ∈ Lib.compact zs ↔ x ∈ zs := by
 unfold Lib.compact
 rw [mem_upTo]
 constructor
 · rintro ⟨j, h1, h2⟩
   rw [← h2]
   simp [h1]
 · intro h
   obtain ⟨j, h1, h2⟩ := List.getElem_of_mem h
   exact ⟨j, h1, by simp [h1, h2]⟩
theorem mem_sortB (l : List ByteArray) (s : ByteArray) : s.data.toList ∈ sortB l ↔ s ∈ l := by
 unfold sortB
 rw [List.mem_mergeSort, List.mem_map]
 constructor
 · rintro ⟨a, h1, h2⟩
   have : a = s := by cases a; cases s; simpa using h2
   exact this ▸ h1
 · intro h; exact ⟨s, h, rfl⟩
theorem mem_freeT (t : Trm) (s : ByteArray) : s ∈ freeT t ↔ s ∈ namesT t := by
 unfold freeT
 rw [List.mem_map, ← mem_sortB]
 constructor
 · rintro ⟨a, h1, rfl⟩
   exact (mem_compact _ _).1 h1
 · intro h
   exact ⟨s.data.toList, (mem_compact _ _).2 h, by cases s; rfl⟩
mutual
theorem namesT_len : ∀ t : Trm, (namesT t).length ≤ t.w
 | .mk k nm ng dg ks => by
  have := namesTs_len ks
  have h2 : (if k = 1 then [nm] else []).length ≤ 1 := by split <;> simp
  simp only [namesT, List.length_append, Trm.w]
  omega
theorem namesTs_len : ∀ t : List Trm, (namesTs t).length ≤ trmW t
 | [] => by simp [namesTs]
 | t :: l => by have := namesT_len t; have := namesTs_len l; simp only [namesTs, List.length_append, trmW]; omega
end
theorem freeT_len (t : Trm) : (freeT t).length ≤ t.w := by
 unfold freeT
 rw [List.length_map]
 refine Nat.le_trans (Lib.compact_length_le _) ?_
 unfold sortB
 rw [List.length_mergeSort, List.length_map]
 exact namesT_len t
abbrev tfreeF : FS := smF (fun t : Trm => [.agg t.cs]) (fun t => .sl (txtR (freeT t)) .no) (fun t => t.w ≤ 1000000000000) Trm.w 6
def frT (t : Trm) (s : ByteArray) : Prop := s ∈ namesT t ∧ s ≠ vB
theorem ex_take {α : Type} {P : α → Prop} {l : List α} {i : Nat} (h : i < l.length) : (∃ a ∈ l.take (i + 1), P a) ↔ (∃ a ∈ l.take i, P a) ∨ P l[i] := by
 rw [List.take_succ_eq_append_getElem h]
 simp only [List.mem_append, List.mem_singleton]
 constructor
 · rintro ⟨a, h1 | h1, h2⟩
   · exact .inl ⟨a, h1, h2⟩
   · subst h1; exact .inr h2
 · rintro (⟨a, h1, h2⟩ | h2)
   · exact ⟨a, .inl h1, h2⟩
   · exact ⟨_, .inr rfl, h2⟩
theorem or_and_step {A C P Q : Prop} : ((A ∨ (C ∧ P)) ∨ (C ∧ Q)) ↔ (A ∨ (C ∧ (P ∨ Q))) := by
 constructor
 · rintro ((h | ⟨h, h'⟩) | ⟨h, h'⟩)
   · exact .inl h
   · exact .inr ⟨h, .inl h'⟩
   · exact .inr ⟨h, .inr h'⟩
 · rintro (h | ⟨h, h' | h'⟩)
   · exact .inl (.inl h)
   · exact .inl (.inr ⟨h, h'⟩)
   · exact .inr ⟨h, h'⟩
theorem LAt.box {X : Nat → Prop} {σ : Sto} {lid bid nid : Nat} {c : ByteArray → Int} {F : ByteArray → Prop} (h : LAt X σ lid bid nid c F) (o : AObj) : LAt (fun p => X p ∨ p = σ.length) (σ ++ [o]) lid bid nid c F :=
 (h.app [o]).more (fun p hp => by
  obtain ⟨_, _, _, l0, l1, l2⟩ := h.nb
  rcases hp with hp | hp
  · have := h.hX p hp; exact ⟨by simp; omega, this.2⟩
  · subst hp; exact ⟨by simp, by omega, by omega⟩) (.inl h.xl)
variable {X : Nat → Prop} {σ : Sto} {lid bid nid : Nat} {c : ByteArray → Int} {F : ByteArray → Prop}
theorem lterms_ev (H : LkH S) (hF : S.sp 128 = some tfreeF) (h : LAt X σ lid bid nid c F) (l : List Trm) (tok : Tok) (hl : trmW l ≤ 1000000000000) (hN : 16 * trmW l + 7 ≤ N) :
    CallW Tryz.prog (S.E N) 102 [.ptr lid 0, .sl (trmR l) tok] σ (LPost X σ lid bid nid c fun s => F s ∨ (c s = 0 ∧ ∃ t ∈ l, frT t s)) := by
 refine CallW.startF (fn := Tryz.f102) (prim_none H.s4 H.b4) (codeOf H.code Tryz.func102 rfl (by kernel_rfl)) rfl H.m4 rfl (zL rfl) fun tm => ?_
 refine CW.hide fun R0 hR0 => ?_
 have hll := trmW_len l
 refine CW.seqK fun K hK => CW.region ?_
 simp (maxDischargeDepth := 16) [zY]
 refine hK _ _ ?_; clear hK K
 refine CW.block (CW.hide fun R hR => ?_)
 refine CW.loopF (fun p : Nat × Sto => [(0, .ptr lid 0), (8, .sl (trmR l) tok), (9, intV l.length), (10, intV p.1)]) (fun p => p.2) (fun p => p.1 ≤ l.length ∧ LAt X p.2 lid bid nid c (fun s => F s ∨ (c s = 0 ∧ ∃ a ∈ l.take p.1, frT a s)) ∧ ExtX X σ p.2) (fun p => l.length - p.1) (0, σ) (by simp [sub, lk]) rfl ⟨by simp, by simpa using h, .refl σ⟩ ?_
 rintro ⟨i, σ1⟩ tm ⟨hi, hb, hx⟩
 dsimp only at hi hb hx ⊢
 refine CW.hide fun R2 hR2 => CW.seqK fun K4 hK4 => CW.region ?_
 rcases Nat.lt_or_ge i l.length with hlt | hge
 · simp (maxDischargeDepth := 16) [zY, hlt]
   refine hK4 _ _ ?_
   refine CW.seqK fun K3 hK3 => ?_
   refine CW.cond (t := true) (by simp [zT, zF, lk]) ?_
   refine CW.skip (hK3 _ _ ?_)
   refine CW.seqK fun K5 hK5 => CW.block ?_
   have ha := trmR_get hlt
   have hgw := trmW_get hlt
   have hfr := fun s => ex_take (P := fun a => frT a s) hlt
   have fin : ∀ (σ2 : Sto) (fr : List (Nat × AV)) (tm : List AV), LAt X σ2 lid bid nid c (fun s => F s ∨ (c s = 0 ∧ ∃ a ∈ l.take (i + 1), frT a s)) → ExtX X σ1 σ2 → sub [(0, .ptr lid 0), (8, .sl (trmR l) tok), (9, intV l.length), (10, intV i)] fr → K5 (fm 28 fr tm) σ2 := by
    intro σ2 fr tm e x2 hfr
    rw [fm_sub hfr]
    refine hK5 _ _ ?_
    refine CW.region ?_
    simp (maxDischargeDepth := 16) [zY, wrap_succ (show i ≤ 1000000000000 by omega)]
    exact hR2 _ _ _ ⟨(i + 1, σ2), _, _, rfl, by simp [sub, lk], rfl, ⟨by show i + 1 ≤ _; omega, e, hx.trans x2⟩, by show l.length - (i + 1) < l.length - i; omega⟩
   generalize l[i] = x at ha hfr hgw
   have hfl := freeT_len x
   refine CW.seqK fun K hK => CW.region ?_
   simp (maxDischargeDepth := 16) [zY, ha, Trm.len, Trm.tk, Trm.put]
   refine hK _ _ ?_; clear hK K
   have hb2 := hb.app [.cells x.cs 30]
   have hx2 : ExtX X σ1 (σ1 ++ [.cells x.cs 30]) := (ExtX.refl σ1).push (fun p hp => (hb.hX p hp).1) _
   refine CW.seqK fun K hK => CW.region ?_
   simp (maxDischargeDepth := 16) [zY, Trm.len, Trm.tk]
   refine call_sm x hF trm1_inj (by simp only [nrmR, AV.nrm, Trm.nrm]) (by omega) (by omega) fun _ => ?_
   simp (maxDischargeDepth := 16) [zY]
   refine hK _ _ ?_; clear hK K
   generalize σ1 ++ [AObj.cells x.cs 30] = σ2 at hb2 hx2 ⊢
   refine CW.block (CW.hide fun RI hRI => ?_)
   refine CW.loopF (fun p : Nat × Sto => [(0, .ptr lid 0), (8, .sl (trmR l) tok), (9, intV l.length), (10, intV i), (15, .sl (txtR (freeT x)) .no), (16, intV (freeT x).length), (17, intV p.1)]) (fun p => p.2) (fun p => p.1 ≤ (freeT x).length ∧ LAt X p.2 lid bid nid c (fun s => (F s ∨ (c s = 0 ∧ ∃ a ∈ l.take i, frT a s)) ∨ (c s = 0 ∧ ∃ a ∈ (freeT x).take p.1, a ≠ vB ∧ s = a)) ∧ ExtX X σ1 p.2) (fun p => (freeT x).length - p.1) (0, σ2) (by simp [sub, lk]) rfl ⟨by simp, by simpa using hb2, hx2⟩ ?_
   rintro ⟨q, σ3⟩ tm ⟨hq, hb3, hx3⟩
   dsimp only at hq hb3 hx3 ⊢
   refine CW.hide fun R2I hR2I => CW.seqK fun K4I hK4I => CW.region ?_
   rcases Nat.lt_or_ge q (freeT x).length with hltI | hgeI
   · simp (maxDischargeDepth := 16) [zY, hltI]
     refine hK4I _ _ ?_
     refine CW.seqK fun K3I hK3I => ?_
     refine CW.cond (t := true) (by simp [zT, zF, lk]) ?_
     refine CW.skip (hK3I _ _ ?_)
     refine CW.seqK fun K5I hK5I => CW.block ?_
     have haI := txtR_get hltI
     have hfrI := fun s => ex_take (P := fun a => a ≠ vB ∧ s = a) hltI
     have finI : ∀ (σ4 : Sto) (fr : List (Nat × AV)) (tm : List AV), LAt X σ4 lid bid nid c (fun s => (F s ∨ (c s = 0 ∧ ∃ a ∈ l.take i, frT a s)) ∨ (c s = 0 ∧ ∃ a ∈ (freeT x).take (q + 1), a ≠ vB ∧ s = a)) → ExtX X σ3 σ4 → sub [(0, .ptr lid 0), (8, .sl (trmR l) tok), (9, intV l.length), (10, intV i), (15, .sl (txtR (freeT x)) .no), (16, intV (freeT x).length), (17, intV q)] fr → K5I (fm 28 fr tm) σ4 := by
      intro σ4 fr tm e x2 hfr
      rw [fm_sub hfr]
      refine hK5I _ _ ?_
      refine CW.region ?_
      simp (maxDischargeDepth := 16) [zY, wrap_succ (show q ≤ 1000000000000 by omega)]
      exact hR2I _ _ _ ⟨(q + 1, σ4), _, _, rfl, by simp [sub, lk], rfl, ⟨by show q + 1 ≤ _; omega, e, hx3.trans x2⟩, by show (freeT x).length - (q + 1) < (freeT x).length - q; omega⟩
     generalize (freeT x)[q] = nm at haI hfrI
     refine CW.seqK fun K hK => CW.region ?_
     simp (maxDischargeDepth := 16) [zY, haI]
     refine hK _ _ ?_; clear hK K
     rcases Classical.em (nm = vB) with e | e
     · subst e
       refine CW.seqK fun K hK => CW.region ?_
       simp (maxDischargeDepth := 16) [zY]
       refine hK _ _ ?_; clear hK K
       refine CW.cond (t := false) (by simp [zT, zF, lk]) ?_
       refine CW.skip (finI _ _ _ (hb3.set (fun _ => rfl) fun s => ?_) (.refl σ3) (by simp [sub, lk]))
       rw [hfrI s]
       simp
     · have e3 : ¬ nm.toList = [118] := fun h => e (by rw [Lib.toList_data] at h; cases nm with | mk d => exact congrArg ByteArray.mk (by simpa using congrArg List.toArray h))
       refine CW.seqK fun K hK => CW.region ?_
       simp (maxDischargeDepth := 16) [zY]
       refine hK _ _ ?_; clear hK K
       refine CW.cond (t := true) (by simp [zT, zF, lk, e3]) ?_
       refine CW.region ?_
       simp (maxDischargeDepth := 16) [zY]
       refine (lput_ev (N := N) H hb3 nm).mono ?_
       rintro r σ4 ⟨rfl, h1, h2⟩
       simp (maxDischargeDepth := 16) [zY]
       refine finI σ4 _ _ (h1.set (fun _ => rfl) fun s => ?_) h2 (by simp [sub, lk])
       rw [hfrI s, or_and_step]
       simp only [ne_eq, e, not_false_eq_true, true_and]
   · simp (maxDischargeDepth := 16) [zY, Nat.not_lt.2 hgeI]
     refine hK4I _ _ ?_
     refine CW.seqK fun K3I hK3I => ?_
     refine CW.cond (t := false) (by simp [zT, zF, lk]) ?_
     refine CW.exit (hR2I _ _ _ (hRI _ _ _ ?_))
     simp only [outOf, if_true]
     rw [List.take_of_length_le hgeI] at hb3
     refine fin σ3 _ _ (hb3.set (fun _ => rfl) fun s => ?_) hx3 (by simp [sub, lk])
     rw [hfr s, or_and_step]
     have : (∃ a ∈ freeT x, a ≠ vB ∧ s = a) ↔ frT x s := by
      unfold frT
      rw [← mem_freeT]
      constructor
      · rintro ⟨a, h1, h2, rfl⟩; exact ⟨h1, h2⟩
      · rintro ⟨h1, h2⟩; exact ⟨s, h1, h2, rfl⟩
     rw [this]
 · simp (maxDischargeDepth := 16) [zY, Nat.not_lt.2 hge]
   refine hK4 _ _ ?_
   refine CW.seqK fun K3 hK3 => ?_
   refine CW.cond (t := false) (by simp [zT, zF, lk]) ?_
   refine CW.exit (hR2 _ _ _ (hR _ _ _ ?_))
   simp only [outOf, if_true]
   rw [List.take_of_length_le hge] at hb
   exact hR0 _ _ _ ⟨.tup [], by simp [zA, omap], rfl, hb, hx⟩
end
section
open Go.RowKit
variable {S : Sp} {N : Nat}
def Prm.tyOf : Prm → Ty
 | .mk _ ty => ty
mutual
def frY : Ty → ByteArray → Prop
 | .mk fn st rf ps rs, s => (fn = true ∧ frPs ps (fun s => frYs rs s) s) ∨ (fn = false ∧ frT rf s)
def frP : Prm → ByteArray → Prop
 | .mk nm ty, s => frY ty s
def frPs : List Prm → (ByteArray → Prop) → ByteArray → Prop
 | [], G, s => G s
 | p :: l, G, s => frP p s ∨ (s ≠ p.nmOf ∧ frPs l G s)
def frYs : List Ty → ByteArray → Prop
 | [], _ => False
 | t :: l, s => frY t s ∨ frYs l s
end
theorem frYs_ex : ∀ (l : List Ty) (s : ByteArray), frYs l s ↔ ∃ t ∈ l, frY t s
 | [], s => by simp [frYs]
 | t :: l, s => by rw [frYs, frYs_ex l s]; simp
theorem LPost.less {X Y : Nat → Prop} {σ σ1 : Sto} {lid bid nid : Nat} {c : ByteArray → Int} {F : ByteArray → Prop} {r : ARes} {σ' : Sto} (h : LPost Y σ1 lid bid nid c F r σ') (hXY : ∀ p, X p → Y p) (hl : X lid) (hx : ExtX X σ σ1) : LPost X σ lid bid nid c F r σ' :=
 ⟨h.1, h.2.1.less hXY hl, hx.trans (h.2.2.less hXY)⟩
variable {X : Nat → Prop} {σ : Sto} {lid bid nid : Nat} {c : ByteArray → Int} {F : ByteArray → Prop}
theorem ltypes_ev (H : LkH S) (hF : S.sp 128 = some tfreeF) : ∀ n : Nat, 16 * n + 8 ≤ N → n ≤ 1000000000000 →
    (∀ (l : List Ty) (tok : Tok) (X : Nat → Prop) (σ : Sto) (c : ByteArray → Int) (F : ByteArray → Prop), tyW l ≤ n → LAt X σ lid bid nid c F → (∀ s, 0 ≤ c s ∧ c s + (tyW l : Nat) ≤ 1000000000000000) →
     CallW Tryz.prog (S.E N) 101 [.ptr lid 0, .sl (tyR l) tok] σ (LPost X σ lid bid nid c fun s => F s ∨ (c s = 0 ∧ frYs l s))) ∧
    (∀ (l : List Prm) (tok : Tok) (X : Nat → Prop) (σ : Sto) (c : ByteArray → Int) (F : ByteArray → Prop) (tf : FuncId) (tc : List AV) (m : Nat) (G : ByteArray → Prop), prmW l ≤ n → LAt X σ lid bid nid c F → (∀ s, 0 ≤ c s ∧ c s + (prmW l + m : Nat) ≤ 1000000000000000) → Then S N X σ lid bid nid tf tc m G →
     CallW Tryz.prog (S.E N) 103 [.ptr lid 0, .fn (.func tf) [] tc, .sl (prmR l) tok] σ (LPost X σ lid bid nid c fun s => F s ∨ (c s = 0 ∧ frPs l G s))) := by
 intro n
 induction n with
 | zero =>
  refine fun hN _ => ⟨fun l tok X σ c F hl h hc => ?_, fun l tok X σ c F tf tc m G hl h hc ht => ?_⟩
  · cases l with
    | cons x l => have := x.w_pos; simp only [tyW] at hl; omega
    | nil =>
     refine CallW.startF (fn := Tryz.f101) (prim_none H.s5 H.b5) (codeOf H.code Tryz.func101 rfl (by kernel_rfl)) rfl H.m5 rfl (zL rfl) fun tm => ?_
     refine CW.hide fun R0 hR0 => ?_
     refine CW.seqK fun K hK => CW.region ?_
     simp (maxDischargeDepth := 16) [zY]
     refine hK _ _ ?_; clear hK K
     refine CW.seqK fun K hK => CW.region ?_
     simp (maxDischargeDepth := 16) [zY, tyR]
     refine hK _ _ ?_; clear hK K
     refine CW.block (CW.hide fun R hR => ?_)
     refine CW.loopF (fun p : Unit => [(6, .sl [] tok), (7, intV 0), (8, intV 0)]) (fun p => σ ++ [.cells [.ptr lid 0] 149]) (fun p => True) (fun p => 0) () (by simp [sub, lk]) rfl trivial ?_
     rintro _ tm _
     refine CW.hide fun R2 hR2 => CW.seqK fun K4 hK4 => CW.region ?_
     simp (maxDischargeDepth := 16) [zY]
     refine hK4 _ _ ?_
     refine CW.seqK fun K3 hK3 => ?_
     refine CW.cond (t := false) (by simp [zT, zF, lk]) ?_
     refine CW.exit (hR2 _ _ _ (hR _ _ _ ?_))
     simp only [outOf, if_true]
     exact hR0 _ _ _ ⟨.tup [], by simp [zA, omap], rfl, (h.app _).set (fun _ => rfl) fun s => by simp [frYs], (ExtX.refl σ).push (fun p hp => (h.hX p hp).1) _⟩
  · cases l with
    | cons x l => have := x.w_pos; simp only [prmW] at hl; omega
    | nil =>
     refine CallW.startF (fn := Tryz.f103) (prim_none H.s6 H.b6) (codeOf H.code Tryz.func103 rfl (by kernel_rfl)) rfl H.m6 rfl (zL rfl) fun tm => ?_
     refine CW.hide fun R0 hR0 => ?_
     have hxx : ∀ l : Sto, ExtX X σ (σ ++ l) := fun l => (ExtX.refl σ).push (fun p hp => (h.hX p hp).1) _
     refine CW.seqK fun K hK => CW.region ?_
     simp (maxDischargeDepth := 16) [zY]
     refine hK _ _ ?_; clear hK K
     refine CW.seqK fun K hK => ?_
     refine CW.seqK fun K hK => CW.region ?_
     simp (maxDischargeDepth := 16) [zY, prmR]
     refine hK _ _ ?_; clear hK K
     refine CW.cond (t := true) (by simp [zT, zF, lk]) ?_
     refine CW.seqK fun K2 hK2 => CW.region ?_
     simp (maxDischargeDepth := 16) [zY]
     refine (ht X _ c F (fun _ hp => hp) (h.app _) (fun s => by have := hc s; omega) (hxx _)).mono ?_
     rintro r σ2 ⟨rfl, h1, h2⟩
     simp (maxDischargeDepth := 16) [zY]
     refine hK2 _ _ (CW.ret (hR0 _ _ _ ⟨.tup [], by simp [zA, omap], rfl, h1.set (fun _ => rfl) fun s => by simp [frPs], (hxx _).trans h2⟩))
 | succ n ih =>
  intro hN hn
  obtain ⟨ih1, ih2⟩ := ih (by omega) (by omega)
  refine ⟨fun l tok X σ c F hl h hc => ?_, fun l tok X σ c F tf tc m G hl h hc ht => ?_⟩
  · refine CallW.startF (fn := Tryz.f101) (prim_none H.s5 H.b5) (codeOf H.code Tryz.func101 rfl (by kernel_rfl)) rfl H.m5 rfl (zL rfl) fun tm => ?_
    refine CW.hide fun R0 hR0 => ?_
    have hll := tyW_len l
    have hB := h.box (.cells [.ptr lid 0] 149)
    have hxx : ExtX X σ (σ ++ [.cells [.ptr lid 0] 149]) := (ExtX.refl σ).push (fun p hp => (h.hX p hp).1) _
    refine CW.seqK fun K hK => CW.region ?_
    simp (maxDischargeDepth := 16) [zY]
    refine hK _ _ ?_; clear hK K
    refine CW.seqK fun K hK => CW.region ?_
    simp (maxDischargeDepth := 16) [zY]
    refine hK _ _ ?_; clear hK K
    refine CW.block (CW.hide fun R hR => ?_)
    refine CW.loopF (fun p : Nat × Sto => [(2, .ptr σ.length 0), (6, .sl (tyR l) tok), (7, intV l.length), (8, intV p.1)]) (fun p => p.2) (fun p => p.1 ≤ l.length ∧ LAt (fun p => X p ∨ p = σ.length) p.2 lid bid nid c (fun s => F s ∨ (c s = 0 ∧ ∃ a ∈ l.take p.1, frY a s)) ∧ ExtX (fun p => X p ∨ p = σ.length) (σ ++ [.cells [.ptr lid 0] 149]) p.2) (fun p => l.length - p.1) (0, σ ++ [.cells [.ptr lid 0] 149]) (by simp [sub, lk]) rfl ⟨by simp, by simpa using hB, .refl _⟩ ?_
    rintro ⟨i, σ1⟩ tm ⟨hi, hb, hx⟩
    dsimp only at hi hb hx ⊢
    have hbx : σ1[σ.length]? = some (.cells [.ptr lid 0] 149) := (hx.keep _ (.inr rfl)).trans (by simp)
    refine CW.hide fun R2 hR2 => CW.seqK fun K4 hK4 => CW.region ?_
    rcases Nat.lt_or_ge i l.length with hlt | hge
    · simp (maxDischargeDepth := 16) [zY, hlt]
      refine hK4 _ _ ?_
      refine CW.seqK fun K3 hK3 => ?_
      refine CW.cond (t := true) (by simp [zT, zF, lk]) ?_
      refine CW.skip (hK3 _ _ ?_)
      refine CW.seqK fun K5 hK5 => CW.block ?_
      have ha := tyR_get hlt
      have hgw := tyW_get hlt
      have hfr := fun s => ex_take (P := fun a => frY a s) hlt
      have fin : ∀ (σ2 : Sto) (fr : List (Nat × AV)) (tm : List AV), LAt (fun p => X p ∨ p = σ.length) σ2 lid bid nid c (fun s => F s ∨ (c s = 0 ∧ ∃ a ∈ l.take (i + 1), frY a s)) → ExtX (fun p => X p ∨ p = σ.length) σ1 σ2 → sub [(2, .ptr σ.length 0), (6, .sl (tyR l) tok), (7, intV l.length), (8, intV i)] fr → K5 (fm 25 fr tm) σ2 := by
       intro σ2 fr tm e x2 hfr
       rw [fm_sub hfr]
       refine hK5 _ _ ?_
       refine CW.region ?_
       simp (maxDischargeDepth := 16) [zY, wrap_succ (show i ≤ 1000000000000 by omega)]
       exact hR2 _ _ _ ⟨(i + 1, σ2), _, _, rfl, by simp [sub, lk], rfl, ⟨by show i + 1 ≤ _; omega, e, hx.trans x2⟩, by show l.length - (i + 1) < l.length - i; omega⟩
      generalize l[i] = x at ha hfr hgw
      obtain ⟨fn, st, ⟨rk, rn, rg, rd, rks⟩, ps, rs⟩ := x
      simp only [Ty.cs] at ha
      simp only [Ty.w] at hgw
      refine CW.seqK fun K hK => CW.region ?_
      simp (maxDischargeDepth := 16) [zY, ha]
      refine hK _ _ ?_; clear hK K
      generalize hxo : AObj.cells [.lit (.bool fn), .lit (.string st), .lit (.int .u8 rk), .lit (.string rn), .lit (.bool rg), .sl (limR rd) .no, .sl (trmR rks) .no, .sl (prmR ps) .no, .sl (tyR rs) .no] 34 = xo
      have hb2 := hb.box xo
      have hl1 := (List.getElem?_eq_some_iff.1 hbx).1
      have hbx2 : (σ1 ++ [xo])[σ.length]? = some (.cells [.ptr lid 0] 149) := (st_old hl1).trans hbx
      have hx2 : ExtX (fun p => X p ∨ p = σ.length) σ1 (σ1 ++ [xo]) := (ExtX.refl σ1).push (fun p hp => (hb.hX p hp).1) _
      subst hxo
      refine CW.seqK fun K hK => CW.region ?_
      simp (maxDischargeDepth := 16) [zY]
      refine hK _ _ ?_; clear hK K
      cases fn with
      | true =>
       refine CW.cond (t := true) (by simp [zT, zF, lk]) ?_
       refine CW.region ?_
       simp (maxDischargeDepth := 16) [zY, hbx2]
       refine (ih2 ps .no _ _ c _ 127 [.ptr σ.length 0, .ptr σ1.length 0] (tyW rs) (fun s => frYs rs s) (by omega) hb2 (fun s => by have := hc s; omega) ?_).mono ?_
       · intro Y σ3 c3 F3 hY h3 hc3 hx3
         have k1 : σ3[σ.length]? = some (.cells [.ptr lid 0] 149) := (hx3.keep _ (.inl (.inr rfl))).trans hbx2
         have k2 := (hx3.keep σ1.length (.inr rfl)).trans (List.getElem?_concat_length)
         refine CallW.startF (fn := Tryz.f127) (prim_none H.s8 H.b8) (codeOf H.code Tryz.func127 rfl (by kernel_rfl)) rfl H.m8 rfl (zL rfl) fun tm => ?_
         refine CW.hide fun R8 hR8 => CW.region ?_
         simp (maxDischargeDepth := 16) [zY, k1, k2]
         refine (ih1 rs .no Y σ3 c3 F3 (by omega) h3 (fun s => by have := hc3 s; have := hc s; omega)).mono ?_
         rintro r σ4 ⟨rfl, h4, h5⟩
         simp (maxDischargeDepth := 16) [zY]
         exact hR8 _ _ _ ⟨.tup [], by simp [zA, omap], rfl, h4, h5⟩
       rintro r σ4 hp
       obtain ⟨rfl, h4, h5⟩ := hp.less (X := fun p => X p ∨ p = σ.length) (fun p hp => .inl hp) (.inl h.xl) hx2
       simp (maxDischargeDepth := 16) [zY]
       refine fin σ4 _ _ (h4.set (fun _ => rfl) fun s => ?_) h5 (by simp [sub, lk])
       rw [hfr s, or_and_step]
       simp [frY]
      | false =>
       refine CW.cond (t := false) (by simp [zT, zF, lk]) ?_
       refine CW.region ?_
       simp (maxDischargeDepth := 16) [zY, hbx2]
       refine (lterms_ev (N := N) H hF hb2 [.mk rk rn rg rd rks] .full (by simp only [trmW]; omega) (by simp only [trmW]; omega)).mono ?_
       rintro r σ4 hp
       obtain ⟨rfl, h4, h5⟩ := hp.less (X := fun p => X p ∨ p = σ.length) (fun p hp => .inl hp) (.inl h.xl) hx2
       simp (maxDischargeDepth := 16) [zY]
       refine fin σ4 _ _ (h4.set (fun _ => rfl) fun s => ?_) h5 (by simp [sub, lk])
       rw [hfr s, or_and_step]
       simp [frY]
    · simp (maxDischargeDepth := 16) [zY, Nat.not_lt.2 hge]
      refine hK4 _ _ ?_
      refine CW.seqK fun K3 hK3 => ?_
      refine CW.cond (t := false) (by simp [zT, zF, lk]) ?_
      refine CW.exit (hR2 _ _ _ (hR _ _ _ ?_))
      simp only [outOf, if_true]
      rw [List.take_of_length_le hge] at hb
      refine hR0 _ _ _ ⟨.tup [], by simp [zA, omap], rfl, (hb.less (fun p hp => .inl hp) h.xl).set (fun _ => rfl) fun s => ?_, hxx.trans (hx.less fun p hp => .inl hp)⟩
      rw [frYs_ex]
  · have hxx : ∀ l : Sto, ExtX X σ (σ ++ l) := fun l => (ExtX.refl σ).push (fun p hp => (h.hX p hp).1) _
    refine CallW.startF (fn := Tryz.f103) (prim_none H.s6 H.b6) (codeOf H.code Tryz.func103 rfl (by kernel_rfl)) rfl H.m6 rfl (zL rfl) fun tm => ?_
    refine CW.hide fun R0 hR0 => ?_
    cases l with
    | nil =>
     refine CW.seqK fun K hK => CW.region ?_
     simp (maxDischargeDepth := 16) [zY]
     refine hK _ _ ?_; clear hK K
     refine CW.seqK fun K hK => ?_
     refine CW.seqK fun K hK => CW.region ?_
     simp (maxDischargeDepth := 16) [zY, prmR]
     refine hK _ _ ?_; clear hK K
     refine CW.cond (t := true) (by simp [zT, zF, lk]) ?_
     refine CW.seqK fun K2 hK2 => CW.region ?_
     simp (maxDischargeDepth := 16) [zY]
     refine (ht X _ c F (fun _ hp => hp) (h.app _) (fun s => by have := hc s; omega) (hxx _)).mono ?_
     rintro r σ2 ⟨rfl, h1, h2⟩
     simp (maxDischargeDepth := 16) [zY]
     refine hK2 _ _ (CW.ret (hR0 _ _ _ ⟨.tup [], by simp [zA, omap], rfl, h1.set (fun _ => rfl) fun s => by simp [frPs], (hxx _).trans h2⟩))
    | cons x l =>
     obtain ⟨nm, ⟨fn, st, ⟨rk, rn, rg, rd, rks⟩, ps, rs⟩⟩ := x
     simp only [prmW, Prm.w] at hl
     have hpl := prmW_len l
     have hx1 : prmR (.mk nm (.mk fn st (.mk rk rn rg rd rks) ps rs) :: l) = [.lit (.string nm), .lit (.bool fn), .lit (.string st), .lit (.int .u8 rk), .lit (.string rn), .lit (.bool rg), .sl (limR rd) .no, .sl (trmR rks) .no, .sl (prmR ps) .no, .sl (tyR rs) .no] :: prmR l := rfl
     have hB1 := h.box (.cells [.ptr lid 0] 149)
     have hB2 := hB1.box (.cells [.fn (.func tf) [] tc] 1)
     have hB3 := hB2.box (.cells [.sl (prmR (.mk nm (.mk fn st (.mk rk rn rg rd rks) ps rs) :: l)) tok] 31)
     simp only [List.append_assoc, List.cons_append, List.nil_append, List.length_append, List.length_cons, List.length_nil] at hB3
     rw [hx1] at hB3 ⊢
     generalize hσ : σ ++ [AObj.cells [.ptr lid 0] 149, .cells [.fn (.func tf) [] tc] 1, .cells [.sl ([.lit (.string nm), .lit (.bool fn), .lit (.string st), .lit (.int .u8 rk), .lit (.string rn), .lit (.bool rg), .sl (limR rd) .no, .sl (trmR rks) .no, .sl (prmR ps) .no, .sl (tyR rs) .no] :: prmR l) tok] 31] = σb at hB3
     have e1 : σb[σ.length]? = some (.cells [.ptr lid 0] 149) := by rw [← hσ]; simp [zF]
     have e2 : σb[σ.length + 1]? = some (.cells [.fn (.func tf) [] tc] 1) := by rw [← hσ]; simp [zF]
     have e3 : σb[σ.length + 2]? = some (.cells [.sl ([.lit (.string nm), .lit (.bool fn), .lit (.string st), .lit (.int .u8 rk), .lit (.string rn), .lit (.bool rg), .sl (limR rd) .no, .sl (trmR rks) .no, .sl (prmR ps) .no, .sl (tyR rs) .no] :: prmR l) tok] 31) := by rw [← hσ]; simp [zF]
     have hxb : ExtX X σ σb := by rw [← hσ]; exact hxx _
     refine CW.seqK fun K hK => CW.region ?_
     simp (maxDischargeDepth := 16) [zY, hσ]
     refine hK _ _ ?_; clear hK K
     refine CW.seqK fun K hK => ?_
     refine CW.seqK fun K hK => CW.region ?_
     simp (maxDischargeDepth := 16) [zY, hσ, e3]
     refine hK _ _ ?_; clear hK K
     have hne : ¬ ((l.length : Int) + 1 = 0) := by omega
     refine CW.cond (t := false) (by simp [zT, zF, lk, hne]) ?_
     refine CW.skip (hK _ _ ?_); clear hK K
     refine CW.seqK fun K hK => CW.draw (by kernel_rfl) ?_
     simp (maxDischargeDepth := 16) [zY, e1, e3]
     refine (ih1 [.mk fn st (.mk rk rn rg rd rks) ps rs] .full _ σb c F (by simp only [tyW]; omega) hB3 (fun s => by have := hc s; simp only [tyW, Ty.w, prmW, Prm.w] at *; omega)).mono ?_
     rintro r σ2 ⟨rfl, h2, x2⟩
     simp (maxDischargeDepth := 16) [zY]
     refine ⟨by kernel_rfl, hK _ _ ?_⟩; clear hK K
     have k1 := (x2.keep σ.length (by simp)).trans e1
     have k2 := (x2.keep (σ.length + 1) (by simp)).trans e2
     have k3 := (x2.keep (σ.length + 2) (by simp)).trans e3
     refine CW.draw (by kernel_rfl) ?_
     simp (maxDischargeDepth := 16) [zY, k1, k3]
     refine (lwithin_ev (N := N) H h2 129 [.ptr σ.length 0, .ptr (σ.length + 1) 0, .ptr (σ.length + 2) 0] (prmW l + m) (fun s => frPs l G s) [nm] .full (by simp) (fun s => by have := hc s; simp only [prmW, Prm.w, List.length_cons, List.length_nil] at *; omega) ?_).mono ?_
     · intro Y σ3 c3 F3 hY h3 hc3 hx3
       have j1 := (hx3.keep σ.length (by simp)).trans k1
       have j2 := (hx3.keep (σ.length + 1) (by simp)).trans k2
       have j3 := (hx3.keep (σ.length + 2) (by simp)).trans k3
       refine CallW.startF (fn := Tryz.f129) (prim_none H.s9 H.b9) (codeOf H.code Tryz.func129 rfl (by kernel_rfl)) rfl H.m9 rfl (zL rfl) fun tm => ?_
       refine CW.hide fun R8 hR8 => ?_
       have hpl1 : (1 : Int) ≤ (l.length : Int) + 1 := by omega
       refine CW.draw (by kernel_rfl) ?_
       have htk : List.take l.length (prmR l) = prmR l := List.take_of_length_le (by simp)
       simp (maxDischargeDepth := 16) [zY, j1, j2, j3, hpl1, htk]
       refine (ih2 l _ Y σ3 c3 F3 tf tc m G (by omega) h3 (fun s => by have := hc3 s; omega) fun Y' σ4 c4 F4 hY' h4 hc4 hx4 => ?_).mono ?_
       · exact ht Y' σ4 c4 F4 (fun p hp => hY' p (hY p (.inl (.inl (.inl hp))))) h4 hc4 (hxb.trans ((x2.less fun p hp => .inl (.inl (.inl hp))).trans ((hx3.less fun p hp => .inl (.inl (.inl hp))).trans (hx4.less fun p hp => hY p (.inl (.inl (.inl hp)))))))
       rintro r σ4 ⟨rfl, h4, h5⟩
       simp (maxDischargeDepth := 16) [zY]
       exact ⟨by kernel_rfl, hR8 _ _ _ ⟨.tup [], by simp [zA, omap], rfl, h4, h5⟩⟩
     rintro r σ4 hp
     obtain ⟨rfl, h4, h5⟩ := hp.less (X := X) (fun p hp => .inl (.inl (.inl hp))) h.xl (hxb.trans (x2.less fun p hp => .inl (.inl (.inl hp))))
     simp (maxDischargeDepth := 16) [zY]
     refine ⟨by kernel_rfl, hR0 _ _ _ ⟨.tup [], by simp [zA, omap], rfl, h4.set (fun _ => rfl) fun s => ?_, h5⟩⟩
     rw [or_and_step]
     simp [frPs, frP, frYs, Prm.nmOf]
end
end Go.Proofs.YteajcnilihgheaaGreatDoor
