/-
  EV: the package tree: what looks for names: its maps; put, atoms, within.
-/
import Derived.Test.YtncoidmbmihliaaGreatDoorTCntM
import Derived.Lib.RowBridge
namespace Go.Proofs.YtncoidmbmihliaaGreatDoor
set_option linter.unusedSimpArgs false
set_option linter.unusedVariables false
section
open Go.RowKit

variable {S : Sp} {N : Nat}
def strK (es : List (Value × AV)) : Prop := ∀ p ∈ es, ∃ s, p.1 = .string s
theorem keyEq_str {a b : ByteArray} : keyEq (.string a) (.string b) = decide (a = b) := by
  show (a.data.toList == b.data.toList) = _
  by_cases h : a = b
  · subst h; simp
  · rw [decide_eq_false h]
    exact beq_eq_false_iff_ne.2 fun e => h (by cases a; cases b; simpa using e)
theorem strK.put {es : List (Value × AV)} (h : strK es) (k : ByteArray) (v : AV) : strK (mapPut (.string k) v es) := by
  induction es with
  | nil => intro p hp; simp only [mapPut, List.mem_singleton] at hp; subst hp; exact ⟨k, rfl⟩
  | cons q l ih =>
    obtain ⟨q1, q2⟩ := q
    rw [mapPut]
    split
    · intro p hp
      rcases List.mem_cons.1 hp with rfl | hp
      · exact ⟨k, rfl⟩
      · exact h p (List.mem_cons_of_mem _ hp)
    · intro p hp
      rcases List.mem_cons.1 hp with rfl | hp
      · exact h _ List.mem_cons_self
      · exact ih (fun p hp => h p (List.mem_cons_of_mem _ hp)) p hp
theorem mapGet_put {es : List (Value × AV)} (h : strK es) (k s : ByteArray) (v : AV) : mapGet (.string s) (mapPut (.string k) v es) = if s = k then some v else mapGet (.string s) es := by
  induction es with
  | nil => simp only [mapPut, mapGet, keyEq_str]; by_cases e : s = k <;> simp [e, eq_comm]
  | cons q l ih =>
    obtain ⟨q1, q2⟩ := q
    obtain ⟨q, rfl⟩ := h _ List.mem_cons_self
    have ih := ih fun p hp => h p (List.mem_cons_of_mem _ hp)
    rw [mapPut, keyEq_str]
    by_cases e : k = q
    · subst e
      simp only [decide_true, if_true, mapGet, keyEq_str]
      by_cases e2 : s = k
      · subst e2; simp
      · simp [e2]
    · simp only [e, decide_false, Bool.false_eq_true, if_false, mapGet, keyEq_str, ih]
      by_cases e2 : s = q
      · subst e2
        have : ¬ s = k := fun h => e h.symm
        simp [this]
      · simp [e2]
theorem put_keys {es : List (Value × AV)} (h : strK es) (k : ByteArray) (v : AV) : ∀ p ∈ mapPut (.string k) v es, p = (.string k, v) ∨ p ∈ es := by
  induction es with
  | nil => intro p hp; simp only [mapPut, List.mem_singleton] at hp; exact .inl hp
  | cons q l ih =>
    obtain ⟨q1, q2⟩ := q
    rw [mapPut]
    split
    · rename_i e
      intro p hp
      rcases List.mem_cons.1 hp with rfl | hp
      · exact .inl rfl
      · exact .inr (List.mem_cons_of_mem _ hp)
    · intro p hp
      rcases List.mem_cons.1 hp with rfl | hp
      · exact .inr List.mem_cons_self
      · rcases ih (fun p hp => h p (List.mem_cons_of_mem _ hp)) p hp with h | h
        · exact .inl h
        · exact .inr (List.mem_cons_of_mem _ h)

def keysB : List (Value × AV) → List ByteArray
  | [] => []
  | (.string s, _) :: l => s :: keysB l
  | _ :: l => keysB l
theorem keysB_cons {s : ByteArray} {v : AV} {l : List (Value × AV)} : keysB ((.string s, v) :: l) = s :: keysB l := rfl
theorem mem_keysB {es : List (Value × AV)} (h : strK es) (s : ByteArray) : (mapGet (.string s) es).isSome = true ↔ s ∈ keysB es := by
  induction es with
  | nil => simp [mapGet, keysB]
  | cons q l ih =>
    obtain ⟨q1, q2⟩ := q
    obtain ⟨q, rfl⟩ := h _ List.mem_cons_self
    have ih := ih fun p hp => h p (List.mem_cons_of_mem _ hp)
    rw [mapGet, keyEq_str, keysB_cons, List.mem_cons, ← ih]
    by_cases e : s = q
    · subst e; simp
    · simp [e]
theorem keysB_put {es : List (Value × AV)} (h : strK es) (k : ByteArray) (v : AV) : (k ∈ keysB es → keysB (mapPut (.string k) v es) = keysB es) ∧ (k ∉ keysB es → keysB (mapPut (.string k) v es) = keysB es ++ [k]) := by
  induction es with
  | nil => exact ⟨fun h => by simp [keysB] at h, fun _ => rfl⟩
  | cons q l ih =>
    obtain ⟨q1, q2⟩ := q
    obtain ⟨q, rfl⟩ := h _ List.mem_cons_self
    have ih := ih fun p hp => h p (List.mem_cons_of_mem _ hp)
    rw [mapPut, keyEq_str]
    by_cases e : k = q
    · subst e; exact ⟨fun _ => by simp [keysB], fun hn => absurd List.mem_cons_self hn⟩
    · simp only [e, decide_false, Bool.false_eq_true, if_false, keysB_cons, List.mem_cons, false_or]
      exact ⟨fun hm => by rw [ih.1 hm], fun hm => by rw [ih.2 hm]; rfl⟩
theorem nodup_put {es : List (Value × AV)} (h : strK es) (hn : (keysB es).Nodup) (k : ByteArray) (v : AV) : (keysB (mapPut (.string k) v es)).Nodup := by
  rcases Classical.em (k ∈ keysB es) with hk | hk
  · rw [(keysB_put h k v).1 hk]; exact hn
  · rw [(keysB_put h k v).2 hk, List.nodup_append]
    exact ⟨hn, by simp, fun a ha b hb => by simp only [List.mem_singleton] at hb; subst hb; intro e; subst e; exact hk ha⟩
structure LAt (X : Nat → Prop) (σ : Sto) (lid bid nid : Nat) (c : ByteArray → Int) (F : ByteArray → Prop) : Prop where
  l : σ[lid]? = some (.cells [.mp bid, .mp nid] 101)
  b : ∃ es, σ[bid]? = some (.map .str es) ∧ strK es ∧ ∀ s, (mapGet (.string s) es).getD (intV 0) = intV (c s)
  n : ∃ es, σ[nid]? = some (.map .str es) ∧ strK es ∧ (∀ p ∈ es, p.2 = .lit (.bool true)) ∧ (∀ s, (mapGet (.string s) es).isSome = true ↔ F s) ∧ (keysB es).Nodup
  hX : ∀ p, X p → p < σ.length ∧ p ≠ bid ∧ p ≠ nid
  xl : X lid
  ne : bid ≠ nid
theorem LAt.nb {X : Nat → Prop} {σ : Sto} {lid bid nid : Nat} {c : ByteArray → Int} {F : ByteArray → Prop} (h : LAt X σ lid bid nid c F) : bid ≠ nid ∧ lid ≠ bid ∧ lid ≠ nid ∧ lid < σ.length ∧ bid < σ.length ∧ nid < σ.length := by
  obtain ⟨es, h1, h2, h3⟩ := h.b
  obtain ⟨ns, g1, g2⟩ := h.n
  exact ⟨h.ne, (h.hX lid h.xl).2.1, (h.hX lid h.xl).2.2, (h.hX lid h.xl).1, (List.getElem?_eq_some_iff.1 h1).1, (List.getElem?_eq_some_iff.1 g1).1⟩
theorem LAt.app {X : Nat → Prop} {σ : Sto} {lid bid nid : Nat} {c : ByteArray → Int} {F : ByteArray → Prop} (h : LAt X σ lid bid nid c F) (l : Sto) : LAt X (σ ++ l) lid bid nid c F := by
  obtain ⟨es, h1, h2⟩ := h.b
  obtain ⟨ns, g1, g2⟩ := h.n
  exact ⟨(st_old (List.getElem?_eq_some_iff.1 h.l).1).trans h.l, ⟨es, (st_old (List.getElem?_eq_some_iff.1 h1).1).trans h1, h2⟩, ⟨ns, (st_old (List.getElem?_eq_some_iff.1 g1).1).trans g1, g2⟩, fun p hp => ⟨by have := (h.hX p hp).1; simp; omega, (h.hX p hp).2⟩, h.xl, h.ne⟩
theorem LAt.less {X Y : Nat → Prop} {σ : Sto} {lid bid nid : Nat} {c : ByteArray → Int} {F : ByteArray → Prop} (h : LAt Y σ lid bid nid c F) (hXY : ∀ p, X p → Y p) (hl : X lid) : LAt X σ lid bid nid c F := ⟨h.l, h.b, h.n, fun p hp => h.hX p (hXY p hp), hl, h.ne⟩
theorem LAt.more {X Y : Nat → Prop} {σ : Sto} {lid bid nid : Nat} {c : ByteArray → Int} {F : ByteArray → Prop} (h : LAt X σ lid bid nid c F) (hY : ∀ p, Y p → p < σ.length ∧ p ≠ bid ∧ p ≠ nid) (hl : Y lid) : LAt Y σ lid bid nid c F := ⟨h.l, h.b, h.n, hY, hl, h.ne⟩
theorem LAt.set {X : Nat → Prop} {σ : Sto} {lid bid nid : Nat} {c c' : ByteArray → Int} {F F' : ByteArray → Prop} (h : LAt X σ lid bid nid c F) (hc : ∀ s, c s = c' s) (hF : ∀ s, F s ↔ F' s) : LAt X σ lid bid nid c' F' := by
  obtain ⟨es, h1, h2, h3⟩ := h.b
  obtain ⟨ns, g1, g2, g3, g4, g5⟩ := h.n
  exact ⟨h.l, ⟨es, h1, h2, fun s => by rw [← hc s]; exact h3 s⟩, ⟨ns, g1, g2, g3, fun s => (g4 s).trans (hF s), g5⟩, h.hX, h.xl, h.ne⟩

def LPost (X : Nat → Prop) (σ : Sto) (lid bid nid : Nat) (c : ByteArray → Int) (F : ByteArray → Prop) (r : ARes) (σ' : Sto) : Prop := r = .ret (.tup []) ∧ LAt X σ' lid bid nid c F ∧ ExtX X σ σ'
structure LkH (S : Sp) : Prop where
  code : S.code = codeP Tryz.prog
  s1 : S.sp 116 = none
  b1 : S.base 116 = none
  m1 : S.ms 116 = []
  s2 : S.sp 82 = none
  b2 : S.base 82 = none
  m2 : S.ms 82 = []
  s3 : S.sp 87 = none
  b3 : S.base 87 = none
  m3 : S.ms 87 = []
  s4 : S.sp 84 = none
  b4 : S.base 84 = none
  m4 : S.ms 84 = []
  s5 : S.sp 83 = none
  b5 : S.base 83 = none
  m5 : S.ms 83 = []
  s6 : S.sp 85 = none
  b6 : S.base 85 = none
  m6 : S.ms 85 = []
  s7 : S.sp 49 = none
  b7 : S.base 49 = none
  m7 : S.ms 49 = []
  s8 : S.sp 117 = none
  b8 : S.base 117 = none
  m8 : S.ms 117 = []
  s9 : S.sp 119 = none
  b9 : S.base 119 = none
  m9 : S.ms 119 = []
  s10 : S.sp 86 = none
  b10 : S.base 86 = none
  m10 : S.ms 86 = []
  s11 : S.sp 88 = none
  b11 : S.base 88 = none
  m11 : S.ms 88 = []
  s12 : S.sp 89 = none
  b12 : S.base 89 = none
  m12 : S.ms 89 = []
  ow : S.sp 48 = some ownF

variable {X : Nat → Prop} {σ : Sto} {lid bid nid : Nat} {c : ByteArray → Int} {F : ByteArray → Prop}
set_option maxRecDepth 100000 in
set_option maxHeartbeats 1000000 in
theorem lput_ev (H : LkH S) (h : LAt X σ lid bid nid c F) (nm : ByteArray) :
    CallW Tryz.prog (S.E N) 116 [.ptr lid 0, .lit (.string nm)] σ (LPost X σ lid bid nid c fun s => F s ∨ (c s = 0 ∧ s = nm)) := by
  refine CallW.startF (fn := Tryz.f116) (prim_none H.s1 H.b1) (codeOf H.code Tryz.func116 rfl (by kernel_rfl)) rfl H.m1 rfl (Nat.le_of_ble_eq_true rfl) fun tm => ?_
  refine CW.hide fun R0 hR0 => ?_
  have g0 := h.l
  obtain ⟨es, g1, g2, g3⟩ := h.b
  obtain ⟨ns, q1, q2, q3, q4, q5⟩ := h.n
  obtain ⟨_, _, _, l0, l1, l2⟩ := h.nb
  have g3 := g3 nm
  refine CW.seqK fun K hK => CW.region ?_
  simp (maxDischargeDepth := 16) [symX, List.length_set, g0, g1, g3, lookA]
  refine hK _ _ ?_; clear hK K
  rcases Classical.em (c nm = 0) with hc | hc
  · refine CW.cond (t := true) (by simp [evx_tmp, symF, lk, hc]) ?_
    refine CW.region ?_
    simp (maxDischargeDepth := 16) [symX, List.length_set, g0, q1]
    refine hR0 _ _ _ ⟨.tup [], by simp [resultsA, omap], rfl, ⟨by rw [List.getElem?_set_ne (Ne.symm (h.hX lid h.xl).2.2)]; exact g0, ⟨es, by rw [List.getElem?_set_ne (Ne.symm h.ne)]; exact g1, g2, ?_⟩, ⟨_, st_same l2, q2.put nm _, fun p hp => ?_, fun s => ?_, nodup_put q2 q5 nm _⟩, fun p hp => by simpa using h.hX p hp, h.xl, h.ne⟩, (ExtX.refl σ).set fun hx => (h.hX _ hx).2.2 rfl⟩
    · obtain ⟨es2, e1, _, e3⟩ := h.b
      rw [g1] at e1; cases e1; exact e3
    · rcases put_keys q2 nm _ p hp with rfl | hp
      · rfl
      · exact q3 p hp
    · rw [mapGet_put q2]
      by_cases e : s = nm
      · subst e; simp [hc]
      · simp [e, q4 s]
  · refine CW.cond (t := false) (by simp [evx_tmp, symF, lk, hc]) ?_
    refine CW.skip (hR0 _ _ _ ⟨.tup [], by simp [resultsA, omap], rfl, h.set (fun _ => rfl) fun s => ⟨.inl, fun hs => ?_⟩, .refl σ⟩)
    rcases hs with hs | ⟨h1, rfl⟩
    · exact hs
    · exact absurd h1 hc

def frA : Atm → ByteArray → Prop
  | .mk k nm _ _ _, s => k = 1 ∧ s = nm
theorem frA_app {l : List Atm} {i : Nat} (h : i < l.length) (s : ByteArray) : (∃ a ∈ l.take (i + 1), frA a s) ↔ (∃ a ∈ l.take i, frA a s) ∨ frA l[i] s := by
  rw [List.take_succ_eq_append_getElem h]
  simp only [List.mem_append, List.mem_singleton]
  constructor
  · rintro ⟨a, h1 | h1, h2⟩
    · exact .inl ⟨a, h1, h2⟩
    · subst h1; exact .inr h2
  · rintro (⟨a, h1, h2⟩ | h2)
    · exact ⟨a, .inl h1, h2⟩
    · exact ⟨_, .inr rfl, h2⟩
set_option maxRecDepth 100000 in
set_option maxHeartbeats 1000000 in
theorem latoms_ev (H : LkH S) (h : LAt X σ lid bid nid c F) (l : List Atm) (tok : Tok) (hl : l.length ≤ 1000000000000) :
    CallW Tryz.prog (S.E N) 82 [.ptr lid 0, .sl (atmR l) tok] σ (LPost X σ lid bid nid c fun s => F s ∨ (c s = 0 ∧ ∃ a ∈ l, frA a s)) := by
  refine CallW.startF (fn := Tryz.f82) (prim_none H.s2 H.b2) (codeOf H.code Tryz.func82 rfl (by kernel_rfl)) rfl H.m2 rfl (Nat.le_of_ble_eq_true rfl) fun tm => ?_
  refine CW.hide fun R0 hR0 => ?_
  refine CW.seqK fun K hK => CW.region ?_
  simp (maxDischargeDepth := 16) [symX, List.length_set]
  refine hK _ _ ?_; clear hK K
  refine CW.block (CW.hide fun R hR => ?_)
  refine CW.loopF (fun p : Nat × Sto => [(0, .ptr lid 0), (6, .sl (atmR l) tok), (7, intV l.length), (8, intV p.1)]) (fun p => p.2) (fun p => p.1 ≤ l.length ∧ LAt X p.2 lid bid nid c (fun s => F s ∨ (c s = 0 ∧ ∃ a ∈ l.take p.1, frA a s)) ∧ ExtX X σ p.2) (fun p => l.length - p.1) (0, σ) (by simp [sub, lk]) rfl ⟨by simp, by simpa using h, .refl σ⟩ ?_
  rintro ⟨i, σ1⟩ tm ⟨hi, hb, hx⟩
  dsimp only at hi hb hx ⊢
  refine CW.hide fun R2 hR2 => CW.seqK fun K4 hK4 => CW.region ?_
  rcases Nat.lt_or_ge i l.length with hlt | hge
  · simp (maxDischargeDepth := 16) [symX, List.length_set, hlt]
    refine hK4 _ _ ?_
    refine CW.seqK fun K3 hK3 => ?_
    refine CW.cond (t := true) (by simp [evx_tmp, symF, lk]) ?_
    refine CW.skip (hK3 _ _ ?_)
    refine CW.seqK fun K5 hK5 => CW.block ?_
    have ha := atmR_get hlt
    have hfr := frA_app hlt
    have fin : ∀ (σ2 : Sto) (fr : List (Nat × AV)) (tm : List AV), LAt X σ2 lid bid nid c (fun s => F s ∨ (c s = 0 ∧ ∃ a ∈ l.take (i + 1), frA a s)) → ExtX X σ1 σ2 → sub [(0, .ptr lid 0), (6, .sl (atmR l) tok), (7, intV l.length), (8, intV i)] fr → K5 (fm 20 fr tm) σ2 := by
      intro σ2 fr tm e x2 hfr
      rw [fm_sub hfr]
      refine hK5 _ _ ?_
      refine CW.region ?_
      simp (maxDischargeDepth := 16) [symX, List.length_set, wrap_succ (show i ≤ 1000000000000 by omega)]
      exact hR2 _ _ _ ⟨(i + 1, σ2), _, _, rfl, by simp [sub, lk], rfl, ⟨by show i + 1 ≤ _; omega, e, hx.trans x2⟩, by show l.length - (i + 1) < l.length - i; omega⟩
    generalize l[i] = x at ha hfr
    obtain ⟨k, nm, ng, dg, tr⟩ := x
    simp only [Atm.cs] at ha
    refine CW.seqK fun K hK => CW.region ?_
    simp (maxDischargeDepth := 16) [symX, List.length_set, ha]
    refine hK _ _ ?_; clear hK K
    refine CW.seqK fun K hK => CW.region ?_
    simp (maxDischargeDepth := 16) [symX, List.length_set]
    refine hK _ _ ?_; clear hK K
    have hb2 := hb.app [.cells [.lit (.int .u8 k), .lit (.string nm), .lit (.bool ng), .sl (limR dg) .no, .lit (.bool tr)] 30]
    have hx2 : ExtX X σ1 (σ1 ++ [.cells [.lit (.int .u8 k), .lit (.string nm), .lit (.bool ng), .sl (limR dg) .no, .lit (.bool tr)] 30]) := (ExtX.refl σ1).push (fun p hp => (hb.hX p hp).1) _
    rcases Classical.em (k = 1) with hk | hk
    · refine CW.cond (t := true) (by simp [evx_tmp, symF, lk, hk]) ?_
      refine CW.region ?_
      simp (maxDischargeDepth := 16) [symX, List.length_set]
      refine (lput_ev (N := N) H hb2 nm).mono ?_
      rintro r σ2 ⟨rfl, h1, h2⟩
      simp (maxDischargeDepth := 16) [symX, List.length_set]
      refine fin σ2 _ _ (h1.set (fun _ => rfl) fun s => ?_) (hx2.trans h2) (by simp [sub, lk])
      rw [hfr s]
      simp only [frA, hk, true_and]
      constructor
      · rintro ((h | ⟨h, h'⟩) | ⟨h, h'⟩)
        · exact .inl h
        · exact .inr ⟨h, .inl h'⟩
        · exact .inr ⟨h, .inr h'⟩
      · rintro (h | ⟨h, h' | h'⟩)
        · exact .inl (.inl h)
        · exact .inl (.inr ⟨h, h'⟩)
        · exact .inr ⟨h, h'⟩
    · refine CW.cond (t := false) (by simp [evx_tmp, symF, lk, hk]) ?_
      refine CW.skip (fin _ _ _ (hb2.set (fun _ => rfl) fun s => ?_) hx2 (by simp [sub, lk]))
      rw [hfr s]
      simp only [frA, hk, false_and, or_false]
  · simp (maxDischargeDepth := 16) [symX, List.length_set, Nat.not_lt.2 hge]
    refine hK4 _ _ ?_
    refine CW.seqK fun K3 hK3 => ?_
    refine CW.cond (t := false) (by simp [evx_tmp, symF, lk]) ?_
    refine CW.exit (hR2 _ _ _ (hR _ _ _ ?_))
    simp only [outOf, if_true]
    rw [List.take_of_length_le hge] at hb
    exact hR0 _ _ _ ⟨.tup [], by simp [resultsA, omap], rfl, hb, hx⟩

def cntS : List ByteArray → ByteArray → Int
  | [], _ => 0
  | x :: l, s => (if s = x then 1 else 0) + cntS l s
theorem cntS_app : ∀ (a b : List ByteArray) (s : ByteArray), cntS (a ++ b) s = cntS a s + cntS b s
  | [], b, s => by simp [cntS]
  | x :: a, b, s => by rw [List.cons_append, cntS, cntS, cntS_app a b]; omega
theorem cntS_le : ∀ (a : List ByteArray) (s : ByteArray), 0 ≤ cntS a s ∧ cntS a s ≤ a.length
  | [], s => by simp [cntS]
  | x :: a, s => by have := cntS_le a s; simp only [cntS, List.length_cons]; split <;> omega
theorem cntS_zero : ∀ (a : List ByteArray) (s : ByteArray), cntS a s = 0 ↔ s ∉ a
  | [], s => by simp [cntS]
  | x :: a, s => by
    have h1 := cntS_le a s
    have h2 := cntS_zero a s
    simp only [cntS, List.mem_cons, not_or, ← h2]
    split
    · rename_i e; subst e; simp; omega
    · rename_i e; simp [e]
theorem cntS_take {l : List ByteArray} {i : Nat} (h : i < l.length) (s : ByteArray) : cntS (l.take (i + 1)) s = cntS (l.take i) s + if s = l[i] then 1 else 0 := by
  rw [List.take_succ_eq_append_getElem h, cntS_app]; simp [cntS]
def Then (S : Sp) (N : Nat) (X : Nat → Prop) (σ0 : Sto) (lid bid nid : Nat) (tf : FuncId) (tc : List AV) (m : Nat) (G : ByteArray → Prop) : Prop :=
  ∀ (Y : Nat → Prop) (σ1 : Sto) (c : ByteArray → Int) (F : ByteArray → Prop), (∀ p, X p → Y p) → LAt Y σ1 lid bid nid c F → (∀ s, 0 ≤ c s ∧ c s + m ≤ 1000000000000000) → ExtX X σ0 σ1 →
    CallW Tryz.prog (S.E N) tf tc σ1 (LPost Y σ1 lid bid nid c fun s => F s ∨ (c s = 0 ∧ G s))
theorem LAt.bump (h : LAt X σ lid bid nid c F) (nm : ByteArray) (v : Int) : ∃ es, σ[bid]? = some (.map .str es) ∧ (mapGet (.string nm) es).getD (intV 0) = intV (c nm) ∧ LAt X (σ.set bid (.map .str (mapPut (.string nm) (intV v) es))) lid bid nid (fun s => if s = nm then v else c s) F := by
  obtain ⟨es, g1, g2, g3⟩ := h.b
  obtain ⟨ns, q1, q2⟩ := h.n
  obtain ⟨_, _, _, l0, l1, l2⟩ := h.nb
  refine ⟨es, g1, g3 nm, by rw [List.getElem?_set_ne (Ne.symm (h.hX lid h.xl).2.1)]; exact h.l, ⟨_, st_same l1, g2.put nm _, fun s => ?_⟩, ⟨ns, by rw [List.getElem?_set_ne h.ne]; exact q1, q2⟩, fun p hp => by simpa using h.hX p hp, h.xl, h.ne⟩
  rw [mapGet_put g2]
  by_cases e : s = nm
  · subst e; simp
  · simp [e, g3 s]
set_option maxRecDepth 100000 in
set_option maxHeartbeats 2000000 in
theorem lwithin_ev (H : LkH S) (h : LAt X σ lid bid nid c F) (tf : FuncId) (tc : List AV) (m : Nat) (G : ByteArray → Prop) (ns : List ByteArray) (tok : Tok) (hn : ns.length ≤ 1000000000000) (hc : ∀ s, 0 ≤ c s ∧ c s + (ns.length + m : Nat) ≤ 1000000000000000) (ht : Then S N X σ lid bid nid tf tc m G) :
    CallW Tryz.prog (S.E N) 87 [.ptr lid 0, .fn (.func tf) [] tc, .sl (txtR ns) tok] σ (LPost X σ lid bid nid c fun s => F s ∨ (c s = 0 ∧ s ∉ ns ∧ G s)) := by
  refine CallW.startF (fn := Tryz.f87) (prim_none H.s3 H.b3) (codeOf H.code Tryz.func87 rfl (by kernel_rfl)) rfl H.m3 rfl (Nat.le_of_ble_eq_true rfl) fun tm => ?_
  refine CW.hide fun R0 hR0 => ?_
  refine CW.seqK fun K hK => ?_
  refine CW.seqK fun K hK => CW.region ?_
  simp (maxDischargeDepth := 16) [symX, List.length_set]
  refine hK _ _ ?_; clear hK K
  refine CW.block (CW.hide fun R hR => ?_)
  refine CW.loopF (fun p : Nat × Sto => [(0, .ptr lid 0), (1, .fn (.func tf) [] tc), (2, .sl (txtR ns) tok), (10, .sl (txtR ns) tok), (11, intV ns.length), (12, intV p.1)]) (fun p => p.2) (fun p => p.1 ≤ ns.length ∧ LAt X p.2 lid bid nid (fun s => c s + cntS (ns.take p.1) s) F ∧ ExtX X σ p.2) (fun p => ns.length - p.1) (0, σ) (by simp [sub, lk]) rfl ⟨by simp, h.set (fun s => by simp [cntS]) fun _ => Iff.rfl, .refl σ⟩ ?_
  rintro ⟨i, σ1⟩ tm ⟨hi, hb, hx⟩
  dsimp only at hi hb hx ⊢
  refine CW.hide fun R2 hR2 => CW.seqK fun K4 hK4 => CW.region ?_
  rcases Nat.lt_or_ge i ns.length with hlt | hge
  · simp (maxDischargeDepth := 16) [symX, List.length_set, hlt]
    refine hK4 _ _ ?_
    refine CW.seqK fun K3 hK3 => ?_
    refine CW.cond (t := true) (by simp [evx_tmp, symF, lk]) ?_
    refine CW.skip (hK3 _ _ ?_)
    refine CW.seqK fun K5 hK5 => CW.block ?_
    have ha := txtR_get hlt
    have hct := cntS_take hlt
    refine CW.seqK fun K hK => CW.region ?_
    simp (maxDischargeDepth := 16) [symX, List.length_set, ha]
    refine hK _ _ ?_; clear hK K
    generalize ns[i] = nm at ha hct
    have hcl := cntS_le (ns.take i) nm
    rw [List.length_take_of_le (Nat.le_of_lt hlt)] at hcl
    have hcn := hc nm
    have hw : IntKind.i64.wrap (c nm + cntS (ns.take i) nm + 1) = c nm + cntS (ns.take i) nm + 1 := IntWalk.i64_in _ ⟨by omega, by omega⟩
    obtain ⟨es, e1, e2, e3⟩ := hb.bump nm (c nm + cntS (ns.take i) nm + 1)
    have hl := hb.l
    refine CW.region ?_
    simp (maxDischargeDepth := 16) [symX, List.length_set, hl, e1, e2, lookA, hw]
    refine hK5 _ _ ?_
    refine CW.region ?_
    simp (maxDischargeDepth := 16) [symX, List.length_set, wrap_succ (show i ≤ 1000000000000 by omega)]
    refine hR2 _ _ _ ⟨(i + 1, _), _, _, rfl, by simp [sub, lk], rfl, ⟨by show i + 1 ≤ _; omega, e3.set (fun s => ?_) fun _ => Iff.rfl, hx.trans ((ExtX.refl σ1).set fun hx => (hb.hX _ hx).2.1 rfl)⟩, by show ns.length - (i + 1) < ns.length - i; omega⟩
    show (if s = nm then c nm + cntS (ns.take i) nm + 1 else c s + cntS (ns.take i) s) = c s + cntS (ns.take (i + 1)) s
    rw [hct s]
    split
    · rename_i e; subst e; omega
    · omega
  · simp (maxDischargeDepth := 16) [symX, List.length_set, Nat.not_lt.2 hge]
    refine hK4 _ _ ?_
    refine CW.seqK fun K3 hK3 => ?_
    refine CW.cond (t := false) (by simp [evx_tmp, symF, lk]) ?_
    refine CW.exit (hR2 _ _ _ (hR _ _ _ ?_))
    simp only [outOf, if_true]
    refine hK _ _ ?_
    rw [List.take_of_length_le hge] at hb
    refine CW.seqK fun K hK => CW.region ?_
    simp (maxDischargeDepth := 16) [symX, List.length_set]
    refine (ht X σ1 _ F (fun _ hp => hp) hb (fun s => by have := cntS_le ns s; have := hc s; omega) hx).mono ?_
    rintro r σ2 ⟨rfl, hb2, hx2⟩
    simp (maxDischargeDepth := 16) [symX, List.length_set]
    refine hK _ _ ?_; clear hK K
    refine CW.seqK fun K hK => CW.region ?_
    simp (maxDischargeDepth := 16) [symX, List.length_set]
    refine hK _ _ ?_; clear hK K
    refine CW.block (CW.hide fun R hR => ?_)
    refine CW.loopF (fun p : Nat × Sto => [(0, .ptr lid 0), (26, .sl (txtR ns) tok), (27, intV ns.length), (28, intV p.1)]) (fun p => p.2) (fun p => p.1 ≤ ns.length ∧ LAt X p.2 lid bid nid (fun s => c s + cntS ns s - cntS (ns.take p.1) s) (fun s => F s ∨ (c s = 0 ∧ s ∉ ns ∧ G s)) ∧ ExtX X σ p.2) (fun p => ns.length - p.1) (0, σ2) (by simp [sub, lk]) rfl ⟨by simp, hb2.set (fun s => by simp [cntS]) fun s => ?_, hx.trans hx2⟩ ?_
    · have h1 := cntS_le ns s
      have h2 := cntS_zero ns s
      have h3 := hc s
      rw [← h2]
      constructor
      · rintro (h | ⟨h, h'⟩)
        · exact .inl h
        · exact .inr ⟨by omega, by omega, h'⟩
      · rintro (h | ⟨h, h', h''⟩)
        · exact .inl h
        · exact .inr ⟨by omega, h''⟩
    rintro ⟨i, σ3⟩ tm ⟨hi, hb, hx⟩
    dsimp only at hi hb hx ⊢
    refine CW.hide fun R2 hR2 => CW.seqK fun K4 hK4 => CW.region ?_
    rcases Nat.lt_or_ge i ns.length with hlt | hge
    · simp (maxDischargeDepth := 16) [symX, List.length_set, hlt]
      refine hK4 _ _ ?_
      refine CW.seqK fun K3 hK3 => ?_
      refine CW.cond (t := true) (by simp [evx_tmp, symF, lk]) ?_
      refine CW.skip (hK3 _ _ ?_)
      refine CW.seqK fun K5 hK5 => CW.block ?_
      have ha := txtR_get hlt
      have hct := cntS_take hlt
      refine CW.seqK fun K hK => CW.region ?_
      simp (maxDischargeDepth := 16) [symX, List.length_set, ha]
      refine hK _ _ ?_; clear hK K
      generalize ns[i] = nm at ha hct
      have hcl := cntS_le (ns.take i) nm
      have hcl2 := cntS_le ns nm
      rw [List.length_take_of_le (Nat.le_of_lt hlt)] at hcl
      have hcn := hc nm
      have hw : IntKind.i64.wrap (c nm + cntS ns nm - cntS (ns.take i) nm - 1) = c nm + cntS ns nm - cntS (ns.take i) nm - 1 := IntWalk.i64_in _ ⟨by omega, by omega⟩
      obtain ⟨es, e1, e2, e3⟩ := hb.bump nm (c nm + cntS ns nm - cntS (ns.take i) nm - 1)
      have hl := hb.l
      refine CW.region ?_
      simp (maxDischargeDepth := 16) [symX, List.length_set, hl, e1, e2, lookA, hw]
      refine hK5 _ _ ?_
      refine CW.region ?_
      simp (maxDischargeDepth := 16) [symX, List.length_set, wrap_succ (show i ≤ 1000000000000 by omega)]
      refine hR2 _ _ _ ⟨(i + 1, _), _, _, rfl, by simp [sub, lk], rfl, ⟨by show i + 1 ≤ _; omega, e3.set (fun s => ?_) fun _ => Iff.rfl, hx.trans ((ExtX.refl σ3).set fun hx => (hb.hX _ hx).2.1 rfl)⟩, by show ns.length - (i + 1) < ns.length - i; omega⟩
      show (if s = nm then c nm + cntS ns nm - cntS (ns.take i) nm - 1 else c s + cntS ns s - cntS (ns.take i) s) = c s + cntS ns s - cntS (ns.take (i + 1)) s
      rw [hct s]
      split
      · rename_i e; subst e; omega
      · omega
    · simp (maxDischargeDepth := 16) [symX, List.length_set, Nat.not_lt.2 hge]
      refine hK4 _ _ ?_
      refine CW.seqK fun K3 hK3 => ?_
      refine CW.cond (t := false) (by simp [evx_tmp, symF, lk]) ?_
      refine CW.exit (hR2 _ _ _ (hR _ _ _ ?_))
      simp only [outOf, if_true]
      rw [List.take_of_length_le hge] at hb
      exact hR0 _ _ _ ⟨.tup [], by simp [resultsA, omap], rfl, hb.set (fun s => by omega) fun _ => Iff.rfl, hx⟩
end
section
open Go.RowKit

variable {S : Sp} {N : Nat}
mutual
def namesT : Trm → List ByteArray
  | .mk k nm ng dg ks => (if k = 1 then [nm] else []) ++ namesTs ks
def namesTs : List Trm → List ByteArray
  | [] => []
  | t :: l => namesT t ++ namesTs l
end
def sortB (l : List ByteArray) : List (List UInt8) := (l.map fun s => s.data.toList).mergeSort fun x y => decide (x ≤ y)
def freeT (t : Trm) : List ByteArray := (Lib.compact (sortB (namesT t))).map strB
theorem mem_upTo {α : Type} [Inhabited α] [DecidableEq α] (d : Array α) (x : α) : ∀ m, x ∈ Lib.compactUpTo d m ↔ ∃ j, j < m ∧ d[j]! = x
  | 0 => by simp [Lib.compactUpTo]
  | m + 1 => by
    rw [Lib.compactUpTo_succ, List.mem_append, mem_upTo d x m]
    constructor
    · rintro (⟨j, h1, h2⟩ | h)
      · exact ⟨j, by omega, h2⟩
      · split at h
        · simp only [List.mem_singleton] at h; exact ⟨m, by omega, h.symm⟩
        · cases h
    · rintro ⟨j, h1, h2⟩
      rcases Nat.lt_or_ge j m with h | h
      · exact .inl ⟨j, h, h2⟩
      · obtain rfl : j = m := by omega
        rcases Nat.eq_zero_or_pos j with h0 | h0
        · subst h0; right; rw [if_pos (Lib.keeps_lt_one d 0 (by omega))]; simp [h2]
        · by_cases e : d[j]! = d[j - 1]!
          · left; exact ⟨j - 1, by omega, by rw [← e]; exact h2⟩
          · right; rw [if_pos (Lib.keeps_pos e)]; simp [h2]
theorem mem_compact {α : Type} [Inhabited α] [DecidableEq α] (zs : List α) (x : α) : x ∈ Lib.compact zs ↔ x ∈ zs := by
  unfold Lib.compact
  rw [mem_upTo]
  constructor
  · rintro ⟨j, h1, h2⟩
    rw [← h2]
    simp [h1]
  · intro h
    obtain ⟨j, h1, h2⟩ := List.getElem_of_mem h
    exact ⟨j, h1, by simp [h1, h2]⟩
theorem mem_sortB (l : List ByteArray) (s : ByteArray) : s.data.toList ∈ sortB l ↔ s ∈ l := by
  unfold sortB
  rw [List.mem_mergeSort, List.mem_map]
  constructor
  · rintro ⟨a, h1, h2⟩
    have : a = s := by cases a; cases s; simpa using h2
    exact this ▸ h1
  · intro h; exact ⟨s, h, rfl⟩
theorem mem_freeT (t : Trm) (s : ByteArray) : s ∈ freeT t ↔ s ∈ namesT t := by
  unfold freeT
  rw [List.mem_map, ← mem_sortB]
  constructor
  · rintro ⟨a, h1, rfl⟩
    exact (mem_compact _ _).1 h1
  · intro h
    exact ⟨s.data.toList, (mem_compact _ _).2 h, by cases s; rfl⟩
mutual
theorem namesT_len : ∀ t : Trm, (namesT t).length ≤ t.w
  | .mk k nm ng dg ks => by
    have := namesTs_len ks
    have h2 : (if k = 1 then [nm] else []).length ≤ 1 := by split <;> simp
    simp only [namesT, List.length_append, Trm.w]
    omega
theorem namesTs_len : ∀ t : List Trm, (namesTs t).length ≤ trmW t
  | [] => by simp [namesTs]
  | t :: l => by have := namesT_len t; have := namesTs_len l; simp only [namesTs, List.length_append, trmW]; omega
end
theorem freeT_len (t : Trm) : (freeT t).length ≤ t.w := by
  unfold freeT
  rw [List.length_map]
  refine Nat.le_trans (Lib.compact_length_le _) ?_
  unfold sortB
  rw [List.length_mergeSort, List.length_map]
  exact namesT_len t
abbrev tfreeF : FS := smF (fun t : Trm => [.agg t.cs]) (fun t => .sl (txtR (freeT t)) .no) (fun t => t.w ≤ 1000000000000) Trm.w 6
abbrev vB : ByteArray := ⟨#[118]⟩
def frT (t : Trm) (s : ByteArray) : Prop := s ∈ namesT t ∧ s ≠ vB
theorem ex_take {α : Type} {P : α → Prop} {l : List α} {i : Nat} (h : i < l.length) : (∃ a ∈ l.take (i + 1), P a) ↔ (∃ a ∈ l.take i, P a) ∨ P l[i] := by
  rw [List.take_succ_eq_append_getElem h]
  simp only [List.mem_append, List.mem_singleton]
  constructor
  · rintro ⟨a, h1 | h1, h2⟩
    · exact .inl ⟨a, h1, h2⟩
    · subst h1; exact .inr h2
  · rintro (⟨a, h1, h2⟩ | h2)
    · exact ⟨a, .inl h1, h2⟩
    · exact ⟨_, .inr rfl, h2⟩
theorem or_and_step {A C P Q : Prop} : ((A ∨ (C ∧ P)) ∨ (C ∧ Q)) ↔ (A ∨ (C ∧ (P ∨ Q))) := by
  constructor
  · rintro ((h | ⟨h, h'⟩) | ⟨h, h'⟩)
    · exact .inl h
    · exact .inr ⟨h, .inl h'⟩
    · exact .inr ⟨h, .inr h'⟩
  · rintro (h | ⟨h, h' | h'⟩)
    · exact .inl (.inl h)
    · exact .inl (.inr ⟨h, h'⟩)
    · exact .inr ⟨h, h'⟩
theorem LAt.box {X : Nat → Prop} {σ : Sto} {lid bid nid : Nat} {c : ByteArray → Int} {F : ByteArray → Prop} (h : LAt X σ lid bid nid c F) (o : AObj) : LAt (fun p => X p ∨ p = σ.length) (σ ++ [o]) lid bid nid c F :=
  (h.app [o]).more (fun p hp => by
    obtain ⟨_, _, _, l0, l1, l2⟩ := h.nb
    rcases hp with hp | hp
    · have := h.hX p hp; exact ⟨by simp; omega, this.2⟩
    · subst hp; exact ⟨by simp, by omega, by omega⟩) (.inl h.xl)

variable {X : Nat → Prop} {σ : Sto} {lid bid nid : Nat} {c : ByteArray → Int} {F : ByteArray → Prop}
set_option maxRecDepth 100000 in
set_option maxHeartbeats 2000000 in
theorem lterms_ev (H : LkH S) (hF : S.sp 118 = some tfreeF) (h : LAt X σ lid bid nid c F) (l : List Trm) (tok : Tok) (hl : trmW l ≤ 1000000000000) (hN : 16 * trmW l + 7 ≤ N) :
    CallW Tryz.prog (S.E N) 84 [.ptr lid 0, .sl (trmR l) tok] σ (LPost X σ lid bid nid c fun s => F s ∨ (c s = 0 ∧ ∃ t ∈ l, frT t s)) := by
  refine CallW.startF (fn := Tryz.f84) (prim_none H.s4 H.b4) (codeOf H.code Tryz.func84 rfl (by kernel_rfl)) rfl H.m4 rfl (Nat.le_of_ble_eq_true rfl) fun tm => ?_
  refine CW.hide fun R0 hR0 => ?_
  have hll := trmW_len l
  refine CW.seqK fun K hK => CW.region ?_
  simp (maxDischargeDepth := 16) [symX, List.length_set]
  refine hK _ _ ?_; clear hK K
  refine CW.block (CW.hide fun R hR => ?_)
  refine CW.loopF (fun p : Nat × Sto => [(0, .ptr lid 0), (8, .sl (trmR l) tok), (9, intV l.length), (10, intV p.1)]) (fun p => p.2) (fun p => p.1 ≤ l.length ∧ LAt X p.2 lid bid nid c (fun s => F s ∨ (c s = 0 ∧ ∃ a ∈ l.take p.1, frT a s)) ∧ ExtX X σ p.2) (fun p => l.length - p.1) (0, σ) (by simp [sub, lk]) rfl ⟨by simp, by simpa using h, .refl σ⟩ ?_
  rintro ⟨i, σ1⟩ tm ⟨hi, hb, hx⟩
  dsimp only at hi hb hx ⊢
  refine CW.hide fun R2 hR2 => CW.seqK fun K4 hK4 => CW.region ?_
  rcases Nat.lt_or_ge i l.length with hlt | hge
  · simp (maxDischargeDepth := 16) [symX, List.length_set, hlt]
    refine hK4 _ _ ?_
    refine CW.seqK fun K3 hK3 => ?_
    refine CW.cond (t := true) (by simp [evx_tmp, symF, lk]) ?_
    refine CW.skip (hK3 _ _ ?_)
    refine CW.seqK fun K5 hK5 => CW.block ?_
    have ha := trmR_get hlt
    have hgw := trmW_get hlt
    have hfr := fun s => ex_take (P := fun a => frT a s) hlt
    have fin : ∀ (σ2 : Sto) (fr : List (Nat × AV)) (tm : List AV), LAt X σ2 lid bid nid c (fun s => F s ∨ (c s = 0 ∧ ∃ a ∈ l.take (i + 1), frT a s)) → ExtX X σ1 σ2 → sub [(0, .ptr lid 0), (8, .sl (trmR l) tok), (9, intV l.length), (10, intV i)] fr → K5 (fm 28 fr tm) σ2 := by
      intro σ2 fr tm e x2 hfr
      rw [fm_sub hfr]
      refine hK5 _ _ ?_
      refine CW.region ?_
      simp (maxDischargeDepth := 16) [symX, List.length_set, wrap_succ (show i ≤ 1000000000000 by omega)]
      exact hR2 _ _ _ ⟨(i + 1, σ2), _, _, rfl, by simp [sub, lk], rfl, ⟨by show i + 1 ≤ _; omega, e, hx.trans x2⟩, by show l.length - (i + 1) < l.length - i; omega⟩
    generalize l[i] = x at ha hfr hgw
    have hfl := freeT_len x
    refine CW.seqK fun K hK => CW.region ?_
    simp (maxDischargeDepth := 16) [symX, List.length_set, ha, Trm.len, Trm.tk, Trm.put]
    refine hK _ _ ?_; clear hK K
    have hb2 := hb.app [.cells x.cs 54]
    have hx2 : ExtX X σ1 (σ1 ++ [.cells x.cs 54]) := (ExtX.refl σ1).push (fun p hp => (hb.hX p hp).1) _
    refine CW.seqK fun K hK => CW.region ?_
    simp (maxDischargeDepth := 16) [symX, List.length_set, Trm.len, Trm.tk]
    refine call_sm x hF trm1_inj (by simp only [nrmR, AV.nrm, Trm.nrm]) (by omega) (by omega) fun _ => ?_
    simp (maxDischargeDepth := 16) [symX, List.length_set]
    refine hK _ _ ?_; clear hK K
    generalize σ1 ++ [AObj.cells x.cs 54] = σ2 at hb2 hx2 ⊢
    refine CW.block (CW.hide fun RI hRI => ?_)
    refine CW.loopF (fun p : Nat × Sto => [(0, .ptr lid 0), (8, .sl (trmR l) tok), (9, intV l.length), (10, intV i), (15, .sl (txtR (freeT x)) .no), (16, intV (freeT x).length), (17, intV p.1)]) (fun p => p.2) (fun p => p.1 ≤ (freeT x).length ∧ LAt X p.2 lid bid nid c (fun s => (F s ∨ (c s = 0 ∧ ∃ a ∈ l.take i, frT a s)) ∨ (c s = 0 ∧ ∃ a ∈ (freeT x).take p.1, a ≠ vB ∧ s = a)) ∧ ExtX X σ1 p.2) (fun p => (freeT x).length - p.1) (0, σ2) (by simp [sub, lk]) rfl ⟨by simp, by simpa using hb2, hx2⟩ ?_
    rintro ⟨q, σ3⟩ tm ⟨hq, hb3, hx3⟩
    dsimp only at hq hb3 hx3 ⊢
    refine CW.hide fun R2I hR2I => CW.seqK fun K4I hK4I => CW.region ?_
    rcases Nat.lt_or_ge q (freeT x).length with hltI | hgeI
    · simp (maxDischargeDepth := 16) [symX, List.length_set, hltI]
      refine hK4I _ _ ?_
      refine CW.seqK fun K3I hK3I => ?_
      refine CW.cond (t := true) (by simp [evx_tmp, symF, lk]) ?_
      refine CW.skip (hK3I _ _ ?_)
      refine CW.seqK fun K5I hK5I => CW.block ?_
      have haI := txtR_get hltI
      have hfrI := fun s => ex_take (P := fun a => a ≠ vB ∧ s = a) hltI
      have finI : ∀ (σ4 : Sto) (fr : List (Nat × AV)) (tm : List AV), LAt X σ4 lid bid nid c (fun s => (F s ∨ (c s = 0 ∧ ∃ a ∈ l.take i, frT a s)) ∨ (c s = 0 ∧ ∃ a ∈ (freeT x).take (q + 1), a ≠ vB ∧ s = a)) → ExtX X σ3 σ4 → sub [(0, .ptr lid 0), (8, .sl (trmR l) tok), (9, intV l.length), (10, intV i), (15, .sl (txtR (freeT x)) .no), (16, intV (freeT x).length), (17, intV q)] fr → K5I (fm 28 fr tm) σ4 := by
        intro σ4 fr tm e x2 hfr
        rw [fm_sub hfr]
        refine hK5I _ _ ?_
        refine CW.region ?_
        simp (maxDischargeDepth := 16) [symX, List.length_set, wrap_succ (show q ≤ 1000000000000 by omega)]
        exact hR2I _ _ _ ⟨(q + 1, σ4), _, _, rfl, by simp [sub, lk], rfl, ⟨by show q + 1 ≤ _; omega, e, hx3.trans x2⟩, by show (freeT x).length - (q + 1) < (freeT x).length - q; omega⟩
      generalize (freeT x)[q] = nm at haI hfrI
      refine CW.seqK fun K hK => CW.region ?_
      simp (maxDischargeDepth := 16) [symX, List.length_set, haI]
      refine hK _ _ ?_; clear hK K
      rcases Classical.em (nm = vB) with e | e
      · subst e
        refine CW.seqK fun K hK => CW.region ?_
        simp (maxDischargeDepth := 16) [symX, List.length_set]
        refine hK _ _ ?_; clear hK K
        refine CW.cond (t := false) (by simp [evx_tmp, symF, lk]) ?_
        refine CW.skip (finI _ _ _ (hb3.set (fun _ => rfl) fun s => ?_) (.refl σ3) (by simp [sub, lk]))
        rw [hfrI s]
        simp
      · have e3 : ¬ nm.toList = [118] := fun h => e (by rw [Lib.toList_data] at h; cases nm with | mk d => exact congrArg ByteArray.mk (by simpa using congrArg List.toArray h))
        refine CW.seqK fun K hK => CW.region ?_
        simp (maxDischargeDepth := 16) [symX, List.length_set]
        refine hK _ _ ?_; clear hK K
        refine CW.cond (t := true) (by simp [evx_tmp, symF, lk, e3]) ?_
        refine CW.region ?_
        simp (maxDischargeDepth := 16) [symX, List.length_set]
        refine (lput_ev (N := N) H hb3 nm).mono ?_
        rintro r σ4 ⟨rfl, h1, h2⟩
        simp (maxDischargeDepth := 16) [symX, List.length_set]
        refine finI σ4 _ _ (h1.set (fun _ => rfl) fun s => ?_) h2 (by simp [sub, lk])
        rw [hfrI s, or_and_step]
        simp only [ne_eq, e, not_false_eq_true, true_and]
    · simp (maxDischargeDepth := 16) [symX, List.length_set, Nat.not_lt.2 hgeI]
      refine hK4I _ _ ?_
      refine CW.seqK fun K3I hK3I => ?_
      refine CW.cond (t := false) (by simp [evx_tmp, symF, lk]) ?_
      refine CW.exit (hR2I _ _ _ (hRI _ _ _ ?_))
      simp only [outOf, if_true]
      rw [List.take_of_length_le hgeI] at hb3
      refine fin σ3 _ _ (hb3.set (fun _ => rfl) fun s => ?_) hx3 (by simp [sub, lk])
      rw [hfr s, or_and_step]
      have : (∃ a ∈ freeT x, a ≠ vB ∧ s = a) ↔ frT x s := by
        unfold frT
        rw [← mem_freeT]
        constructor
        · rintro ⟨a, h1, h2, rfl⟩; exact ⟨h1, h2⟩
        · rintro ⟨h1, h2⟩; exact ⟨s, h1, h2, rfl⟩
      rw [this]
  · simp (maxDischargeDepth := 16) [symX, List.length_set, Nat.not_lt.2 hge]
    refine hK4 _ _ ?_
    refine CW.seqK fun K3 hK3 => ?_
    refine CW.cond (t := false) (by simp [evx_tmp, symF, lk]) ?_
    refine CW.exit (hR2 _ _ _ (hR _ _ _ ?_))
    simp only [outOf, if_true]
    rw [List.take_of_length_le hge] at hb
    exact hR0 _ _ _ ⟨.tup [], by simp [resultsA, omap], rfl, hb, hx⟩
end
end Go.Proofs.YtncoidmbmihliaaGreatDoor
