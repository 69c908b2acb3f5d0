/-
 EV: the package tree: what looks for names: expressions.
-/
import Derived.Test.YteajcnilihgheaaGreatDoorTFr2M
namespace Go.Proofs.YteajcnilihgheaaGreatDoor
set_option maxRecDepth 100000
set_option maxHeartbeats 8000000
set_option linter.unusedSimpArgs false
set_option linter.unusedVariables false
open Go.RowKit
variable {S : Sp} {N : Nat}
mutual
def frE : Exp → ByteArray → Prop
 | .mk k nm ty rh am ar bd, s => ((((ownK k = true ∧ frA am s) ∨ frYs ty s) ∨ frRs rh s) ∨ ((k = 1 → s ≠ nm) ∧ frEs bd s)) ∨ frMs ar s
def frEs : List Exp → ByteArray → Prop
 | [], _ => False
 | t :: l, s => frE t s ∨ frEs l s
def frR : Rhs → ByteArray → Prop
 | .mk k nm ats ps rs bd ts, s => ((∃ a ∈ ats, frA a s) ∨ (∃ t ∈ ts, frT t s)) ∨ frPs ps (fun s => frYs rs s ∨ frEs bd s) s
def frRs : List Rhs → ByteArray → Prop
 | [], _ => False
 | t :: l, s => frR t s ∨ frRs l s
def frM : Arm → ByteArray → Prop
 | .mk cn ns bd, s => s ∉ ns ∧ frEs bd s
def frMs : List Arm → ByteArray → Prop
 | [], _ => False
 | t :: l, s => frM t s ∨ frMs l s
end
theorem frEs_ex : ∀ (l : List Exp) (s : ByteArray), frEs l s ↔ ∃ t ∈ l, frE t s
 | [], s => by simp [frEs]
 | t :: l, s => by rw [frEs, frEs_ex l s]; simp
theorem frRs_ex : ∀ (l : List Rhs) (s : ByteArray), frRs l s ↔ ∃ t ∈ l, frR t s
 | [], s => by simp [frRs]
 | t :: l, s => by rw [frRs, frRs_ex l s]; simp
theorem frMs_ex : ∀ (l : List Arm) (s : ByteArray), frMs l s ↔ ∃ t ∈ l, frM t s
 | [], s => by simp [frMs]
 | t :: l, s => by rw [frMs, frMs_ex l s]; simp
structure ESt (X : Nat → Prop) (σ0 : Sto) (lid bid nid : Nat) (c : ByteArray → Int) (F G : ByteArray → Prop) (σ : Sto) : Prop where
 a : LAt X σ lid bid nid c (fun s => F s ∨ (c s = 0 ∧ G s))
 x : ExtX X σ0 σ
theorem ESt.step {X : Nat → Prop} {σ0 : Sto} {lid bid nid : Nat} {c : ByteArray → Int} {F G G' : ByteArray → Prop} {σ σ' : Sto} {r : ARes} (h : ESt X σ0 lid bid nid c F G σ) (hp : LPost X σ lid bid nid c (fun s => (F s ∨ (c s = 0 ∧ G s)) ∨ (c s = 0 ∧ G' s)) r σ') : r = .ret (.tup []) ∧ ESt X σ0 lid bid nid c F (fun s => G s ∨ G' s) σ' :=
 ⟨hp.1, hp.2.1.set (fun _ => rfl) fun s => or_and_step, h.x.trans hp.2.2⟩
theorem ESt.iff {X : Nat → Prop} {σ0 : Sto} {lid bid nid : Nat} {c : ByteArray → Int} {F G G' : ByteArray → Prop} {σ : Sto} (h : ESt X σ0 lid bid nid c F G σ) (hG : ∀ s, G s ↔ G' s) : ESt X σ0 lid bid nid c F G' σ := ⟨h.a.set (fun _ => rfl) fun s => by rw [hG s], h.x⟩
variable {X : Nat → Prop} {σ : Sto} {lid bid nid : Nat} {c : ByteArray → Int} {F : ByteArray → Prop}
theorem lexprs_ev (H : LkH S) (hF : S.sp 128 = some tfreeF) : ∀ n : Nat, 16 * n + 9 ≤ N → n ≤ 1000000000000 →
    ∀ (l : List Exp) (tok : Tok) (X : Nat → Prop) (σ : Sto) (c : ByteArray → Int) (F : ByteArray → Prop), expW l ≤ n → LAt X σ lid bid nid c F → (∀ s, 0 ≤ c s ∧ c s + (expW l : Nat) ≤ 1000000000000000) →
     CallW Tryz.prog (S.E N) 68 [.ptr lid 0, .sl (expR l) tok] σ (LPost X σ lid bid nid c fun s => F s ∨ (c s = 0 ∧ frEs l s)) := by
 intro n
 induction n with
 | zero =>
  intro hN _ l tok X σ c F hl h hc
  cases l with
  | cons x l => have := x.w_pos; simp only [expW] at hl; omega
  | nil =>
   refine CallW.startF (fn := Tryz.f68) (prim_none H.s7 H.b7) (codeOf H.code Tryz.func68 rfl (by kernel_rfl)) rfl H.m7 rfl (zL rfl) fun tm => ?_
   refine CW.hide fun R0 hR0 => ?_
   refine CW.seqK fun K hK => CW.region ?_
   simp (maxDischargeDepth := 16) [zY]
   refine hK _ _ ?_; clear hK K
   refine CW.seqK fun K hK => CW.region ?_
   simp (maxDischargeDepth := 16) [zY, expR]
   refine hK _ _ ?_; clear hK K
   refine CW.block (CW.hide fun R hR => ?_)
   refine CW.loopF (fun p : Unit => [(11, .sl [] tok), (12, intV 0), (13, intV 0)]) (fun p => σ ++ [.cells [.ptr lid 0] 149]) (fun p => True) (fun p => 0) () (by simp [sub, lk]) rfl trivial ?_
   rintro _ tm _
   refine CW.hide fun R2 hR2 => CW.seqK fun K4 hK4 => CW.region ?_
   simp (maxDischargeDepth := 16) [zY]
   refine hK4 _ _ ?_
   refine CW.seqK fun K3 hK3 => ?_
   refine CW.cond (t := false) (by simp [zT, zF, lk]) ?_
   refine CW.exit (hR2 _ _ _ (hR _ _ _ ?_))
   simp only [outOf, if_true]
   exact hR0 _ _ _ ⟨.tup [], by simp [zA, omap], rfl, (h.app _).set (fun _ => rfl) fun s => by simp [frEs], (ExtX.refl σ).push (fun p hp => (h.hX p hp).1) _⟩
 | succ n ih =>
  intro hN hn l tok X σ c F hl h hc
  have ih1 := ih (by omega) (by omega)
  obtain ⟨ty1, pm1⟩ := ltypes_ev (N := N) (lid := lid) (bid := bid) (nid := nid) H hF n (by omega) (by omega)
  refine CallW.startF (fn := Tryz.f68) (prim_none H.s7 H.b7) (codeOf H.code Tryz.func68 rfl (by kernel_rfl)) rfl H.m7 rfl (zL rfl) fun tm => ?_
  refine CW.hide fun R0 hR0 => ?_
  have hll := expW_len l
  have hB := h.box (.cells [.ptr lid 0] 149)
  have hxx : ExtX X σ (σ ++ [.cells [.ptr lid 0] 149]) := (ExtX.refl σ).push (fun p hp => (h.hX p hp).1) _
  refine CW.seqK fun K hK => CW.region ?_
  simp (maxDischargeDepth := 16) [zY]
  refine hK _ _ ?_; clear hK K
  refine CW.seqK fun K hK => CW.region ?_
  simp (maxDischargeDepth := 16) [zY]
  refine hK _ _ ?_; clear hK K
  refine CW.block (CW.hide fun R hR => ?_)
  refine CW.loopF (fun p : Nat × Sto => [(2, .ptr σ.length 0), (11, .sl (expR l) tok), (12, intV l.length), (13, intV p.1)]) (fun p => p.2) (fun p => p.1 ≤ l.length ∧ LAt (fun p => X p ∨ p = σ.length) p.2 lid bid nid c (fun s => F s ∨ (c s = 0 ∧ ∃ a ∈ l.take p.1, frE a s)) ∧ ExtX (fun p => X p ∨ p = σ.length) (σ ++ [.cells [.ptr lid 0] 149]) p.2) (fun p => l.length - p.1) (0, σ ++ [.cells [.ptr lid 0] 149]) (by simp [sub, lk]) rfl ⟨by simp, by simpa using hB, .refl _⟩ ?_
  rintro ⟨i, σ1⟩ tm ⟨hi, hb, hx⟩
  dsimp only at hi hb hx ⊢
  have hbx : σ1[σ.length]? = some (.cells [.ptr lid 0] 149) := (hx.keep _ (.inr rfl)).trans (by simp)
  refine CW.hide fun R2 hR2 => CW.seqK fun K4 hK4 => CW.region ?_
  rcases Nat.lt_or_ge i l.length with hlt | hge
  · simp (maxDischargeDepth := 16) [zY, hlt]
    refine hK4 _ _ ?_
    refine CW.seqK fun K3 hK3 => ?_
    refine CW.cond (t := true) (by simp [zT, zF, lk]) ?_
    refine CW.skip (hK3 _ _ ?_)
    refine CW.seqK fun K5 hK5 => CW.block ?_
    have ha := expR_get hlt
    have hgw := expW_get hlt
    have hfr := fun s => ex_take (P := fun a => frE a s) hlt
    have fin : ∀ (σ2 : Sto) (fr : List (Nat × AV)) (tm : List AV), LAt (fun p => X p ∨ p = σ.length) σ2 lid bid nid c (fun s => F s ∨ (c s = 0 ∧ ∃ a ∈ l.take (i + 1), frE a s)) → ExtX (fun p => X p ∨ p = σ.length) σ1 σ2 → sub [(2, .ptr σ.length 0), (11, .sl (expR l) tok), (12, intV l.length), (13, intV i)] fr → K5 (fm 77 fr tm) σ2 := by
     intro σ2 fr tm e x2 hfr
     rw [fm_sub hfr]
     refine hK5 _ _ ?_
     refine CW.region ?_
     simp (maxDischargeDepth := 16) [zY, wrap_succ (show i ≤ 1000000000000 by omega)]
     exact hR2 _ _ _ ⟨(i + 1, σ2), _, _, rfl, by simp [sub, lk], rfl, ⟨by show i + 1 ≤ _; omega, e, hx.trans x2⟩, by show l.length - (i + 1) < l.length - i; omega⟩
    generalize l[i] = x at ha hfr hgw
    obtain ⟨k, nm, ty, rh, ⟨amk, amnm, amng, amdg, amtr⟩, ar, bd⟩ := x
    simp only [Exp.w] at hgw
    have hcc := fun s => hc s
    simp only [Exp.cs] at ha
    refine CW.seqK fun K hK => CW.region ?_
    simp (maxDischargeDepth := 16) [zY, ha]
    refine hK _ _ ?_; clear hK K
    generalize hxo : AObj.cells [.lit (.int .u8 k), .lit (.string nm), .sl (tyR ty) .no, .sl (rhsR rh) .no, .lit (.int .u8 amk), .lit (.string amnm), .lit (.bool amng), .sl (limR amdg) .no, .lit (.bool amtr), .sl (armR ar) .no, .sl (expR bd) .no] 49 = xo
    have hb2 := hb.box xo
    have hl1 := (List.getElem?_eq_some_iff.1 hbx).1
    have hbx2 : (σ1 ++ [xo])[σ.length]? = some (.cells [.ptr lid 0] 149) := (st_old hl1).trans hbx
    have hxo2 : (σ1 ++ [xo])[σ1.length]? = some xo := List.getElem?_concat_length
    have hx2 : ExtX (fun p => X p ∨ p = σ.length) σ1 (σ1 ++ [xo]) := (ExtX.refl σ1).push (fun p hp => (hb.hX p hp).1) _
    subst hxo
    generalize hσ2 : σ1 ++ [AObj.cells [.lit (.int .u8 k), .lit (.string nm), .sl (tyR ty) .no, .sl (rhsR rh) .no, .lit (.int .u8 amk), .lit (.string amnm), .lit (.bool amng), .sl (limR amdg) .no, .lit (.bool amtr), .sl (armR ar) .no, .sl (expR bd) .no] 49] = σ2 at hb2 hbx2 hxo2 hx2 ⊢
    generalize hX2 : (fun p => (X p ∨ p = σ.length) ∨ p = σ1.length) = X2 at hb2
    have hx20 : ∀ p, (X p ∨ p = σ.length) → X2 p := by rw [← hX2]; exact fun p hp => .inl hp
    have hx2b : X2 σ.length := by rw [← hX2]; exact .inl (.inr rfl)
    have hx2x : X2 σ1.length := by rw [← hX2]; exact .inr rfl
    have hbs : ∀ {σk : Sto}, ExtX X2 σ2 σk → σk[σ.length]? = some (.cells [.ptr lid 0] 149) := fun hx => (hx.keep _ hx2b).trans hbx2
    have hxs : ∀ {σk : Sto}, ExtX X2 σ2 σk → σk[σ1.length]? = some (.cells [.lit (.int .u8 k), .lit (.string nm), .sl (tyR ty) .no, .sl (rhsR rh) .no, .lit (.int .u8 amk), .lit (.string amnm), .lit (.bool amng), .sl (limR amdg) .no, .lit (.bool amtr), .sl (armR ar) .no, .sl (expR bd) .no] 49) := fun hx => (hx.keep _ hx2x).trans hxo2
    generalize hF1 : (fun s => F s ∨ (c s = 0 ∧ ∃ a ∈ l.take i, frE a s)) = F1 at hb2
    -- the arms, the body
    have fin2 : ∀ (σ3 : Sto) (fr : List (Nat × AV)) (tm : List AV), ESt X2 σ2 lid bid nid c F1 (frE (.mk k nm ty rh (.mk amk amnm amng amdg amtr) ar bd)) σ3 → sub [(2, .ptr σ.length 0), (11, .sl (expR l) tok), (12, intV l.length), (13, intV i)] fr → K5 (fm 77 fr tm) σ3 := by
     intro σ3 fr tm e hsub
     refine fin σ3 fr tm ((e.a.less hx20 (.inl h.xl)).set (fun _ => rfl) fun s => ?_) (hx2.trans (e.x.less hx20)) hsub
     rw [hfr s, ← hF1, ← or_and_step]
    let OWN : ByteArray → Prop := fun s => ownK k = true ∧ frA (.mk amk amnm amng amdg amtr) s
    refine CW.seqK fun Ka hKa => ?_
    have keyA : ∀ (σ3 : Sto) (fr : List (Nat × AV)) (tm : List AV), ESt X2 σ2 lid bid nid c F1 OWN σ3 → sub [(2, .ptr σ.length 0), (5, .ptr σ1.length 0), (11, .sl (expR l) tok), (12, intV l.length), (13, intV i)] fr → Ka (fm 77 fr tm) σ3 := by
     intro σ3 fr tm e3 hsub
     rw [fm_sub hsub]
     refine hKa _ _ ?_; clear hKa Ka
     have k1 := hbs e3.x
     have k2 := hxs e3.x
     refine CW.seqK fun K hK => CW.region ?_
     simp (maxDischargeDepth := 16) [zY, k1, k2]
     refine (ty1 ty .no X2 σ3 c _ (by omega) e3.a (fun s => by have := hc s; omega)).mono ?_
     rintro r σ4 hp
     obtain ⟨rfl, e4⟩ := e3.step hp
     simp (maxDischargeDepth := 16) [zY]
     refine hK _ _ ?_; clear hK K
     have k1 := hbs e4.x
     have k2 := hxs e4.x
     refine CW.seqK fun Kb hKb => ?_
     have keyB : ∀ (σ5 : Sto) (fr : List (Nat × AV)) (tm : List AV), ESt X2 σ2 lid bid nid c F1 (fun s => (OWN s ∨ frYs ty s) ∨ frRs rh s) σ5 → sub [(2, .ptr σ.length 0), (5, .ptr σ1.length 0), (11, .sl (expR l) tok), (12, intV l.length), (13, intV i)] fr → Kb (fm 77 fr tm) σ5 := by
      intro σ5 fr tm e5 hsub
      rw [fm_sub hsub]
      refine hKb _ _ ?_; clear hKb Kb
      have k1 := hbs e5.x
      have k2 := hxs e5.x
      refine CW.seqK fun K hK => CW.region ?_
      simp (maxDischargeDepth := 16) [zY]
      refine hK _ _ ?_; clear hK K
      refine CW.seqK fun Kc hKc => ?_
      have keyC : ∀ (ns : List ByteArray) (fr : List (Nat × AV)) (tm : List AV), ns = (if k = 1 then [nm] else []) → sub [(2, .ptr σ.length 0), (5, .ptr σ1.length 0), (8, .sl (txtR ns) .full), (11, .sl (expR l) tok), (12, intV l.length), (13, intV i)] fr → Kc (fm 77 fr tm) σ5 := by
       intro ns fr tm hns hsub
       rw [fm_sub hsub]
       refine hKc _ _ ?_; clear hKc Kc
       have hnl : ns.length ≤ 1 := by rw [hns]; split <;> simp
       have hnm : ∀ s, s ∉ ns ↔ (k = 1 → s ≠ nm) := fun s => by rw [hns]; split <;> simp_all
       refine CW.seqK fun K hK => CW.region ?_
       simp (maxDischargeDepth := 16) [zY, k1]
       refine (lwithin_ev (N := N) H e5.a 106 [.ptr σ.length 0, .ptr σ1.length 0] (expW bd) (fun s => frEs bd s) ns .full (by omega) (fun s => by have := hc s; omega) ?_).mono ?_
       · intro Y σ6 c6 F6 hY h6 hc6 hx6
         have j1 := (hx6.keep _ hx2b).trans k1
         have j2 := (hx6.keep _ hx2x).trans k2
         refine CallW.startF (fn := Tryz.f106) (prim_none H.s11 H.b11) (codeOf H.code Tryz.func106 rfl (by kernel_rfl)) rfl H.m11 rfl (zL rfl) fun tm => ?_
         refine CW.hide fun R8 hR8 => CW.region ?_
         simp (maxDischargeDepth := 16) [zY, j1, j2]
         refine (ih1 bd .no Y σ6 c6 F6 (by omega) h6 (fun s => by have := hc6 s; omega)).mono ?_
         rintro r σ7 ⟨rfl, h7, x7⟩
         simp (maxDischargeDepth := 16) [zY]
         exact hR8 _ _ _ ⟨.tup [], by simp [zA, omap], rfl, h7, x7⟩
       rintro r σ6 hp
       obtain ⟨rfl, e6⟩ := e5.step hp
       simp (maxDischargeDepth := 16) [zY]
       refine hK _ _ ?_; clear hK K
       have e6 := e6.iff (G' := fun s => ((OWN s ∨ frYs ty s) ∨ frRs rh s) ∨ ((k = 1 → s ≠ nm) ∧ frEs bd s)) fun s => by rw [hnm s]
       have k1 := hbs e6.x
       have k2 := hxs e6.x
       refine CW.seqK fun K hK => CW.region ?_
       simp (maxDischargeDepth := 16) [zY, k2]
       refine hK _ _ ?_; clear hK K
       refine CW.block (CW.hide fun RI hRI => ?_)
       refine CW.loopF (fun p : Nat × Sto => [(2, .ptr σ.length 0), (5, .ptr σ1.length 0), (11, .sl (expR l) tok), (12, intV l.length), (13, intV i), (62, .sl (armR ar) .no), (63, intV ar.length), (64, intV p.1)]) (fun p => p.2) (fun p => p.1 ≤ ar.length ∧ ESt X2 σ2 lid bid nid c F1 (fun s => (((OWN s ∨ frYs ty s) ∨ frRs rh s) ∨ ((k = 1 → s ≠ nm) ∧ frEs bd s)) ∨ ∃ a ∈ ar.take p.1, frM a s) p.2) (fun p => ar.length - p.1) (0, σ6) (by simp [sub, lk]) rfl ⟨by simp, by simpa using e6⟩ ?_
       rintro ⟨q, σ7⟩ tm ⟨hq, e7⟩
       dsimp only at hq e7 ⊢
       have k1 := hbs e7.x
       refine CW.hide fun R2I hR2I => CW.seqK fun K4I hK4I => CW.region ?_
       rcases Nat.lt_or_ge q ar.length with hltI | hgeI
       · simp (maxDischargeDepth := 16) [zY, hltI]
         refine hK4I _ _ ?_
         refine CW.seqK fun K3I hK3I => ?_
         refine CW.cond (t := true) (by simp [zT, zF, lk]) ?_
         refine CW.skip (hK3I _ _ ?_)
         refine CW.seqK fun K5I hK5I => CW.block ?_
         have haI := armR_get hltI
         have hgwI := armW_get hltI
         have hawI := armW_len ar
         have hfrI := fun s => ex_take (P := fun a => frM a s) hltI
         generalize ar[q] = y at haI hgwI hfrI
         obtain ⟨cn, ns2, yb⟩ := y
         have hn2 := txtW_len ns2
         simp only [Arm.w] at hgwI
         simp only [Arm.cs] at haI
         refine CW.seqK fun K hK => CW.region ?_
         simp (maxDischargeDepth := 16) [zY, haI]
         refine hK _ _ ?_; clear hK K
         have hb8 := e7.a.box (.cells [.lit (.string cn), .sl (txtR ns2) .no, .sl (expR yb) .no] 56)
         have j1 : (σ7 ++ [.cells [.lit (.string cn), .sl (txtR ns2) .no, .sl (expR yb) .no] 56])[σ.length]? = some (.cells [.ptr lid 0] 149) := (st_old (List.getElem?_eq_some_iff.1 k1).1).trans k1
         have j2 : (σ7 ++ [.cells [.lit (.string cn), .sl (txtR ns2) .no, .sl (expR yb) .no] 56])[σ7.length]? = some (.cells [.lit (.string cn), .sl (txtR ns2) .no, .sl (expR yb) .no] 56) := List.getElem?_concat_length
         have hx8 : ExtX X2 σ7 (σ7 ++ [.cells [.lit (.string cn), .sl (txtR ns2) .no, .sl (expR yb) .no] 56]) := (ExtX.refl σ7).push (fun p hp => (e7.a.hX p hp).1) _
         refine CW.draw (by kernel_rfl) ?_
         simp (maxDischargeDepth := 16) [zY, j1]
         refine (lwithin_ev (N := N) H hb8 107 [.ptr σ.length 0, .ptr σ7.length 0] (expW yb) (fun s => frEs yb s) ns2 .no (by omega) (fun s => by have := hc s; omega) ?_).mono ?_
         · intro Y σ9 c9 F9 hY h9 hc9 hx9
           have i1 := (hx9.keep _ (.inl hx2b)).trans j1
           have i2 := (hx9.keep _ (.inr rfl)).trans j2
           refine CallW.startF (fn := Tryz.f107) (prim_none H.s12 H.b12) (codeOf H.code Tryz.func107 rfl (by kernel_rfl)) rfl H.m12 rfl (zL rfl) fun tm => ?_
           refine CW.hide fun R8 hR8 => CW.region ?_
           simp (maxDischargeDepth := 16) [zY, i1, i2]
           refine (ih1 yb .no Y σ9 c9 F9 (by omega) h9 (fun s => by have := hc9 s; omega)).mono ?_
           rintro r σ10 ⟨rfl, h10, x10⟩
           simp (maxDischargeDepth := 16) [zY]
           exact hR8 _ _ _ ⟨.tup [], by simp [zA, omap], rfl, h10, x10⟩
         rintro r σ9 hp
         obtain ⟨rfl, e9⟩ := e7.step (hp.less (X := X2) (fun p hp => .inl hp) (hx20 _ (.inl h.xl)) hx8)
         simp (maxDischargeDepth := 16) [zY]
         refine ⟨by kernel_rfl, hK5I _ _ ?_⟩
         refine CW.region ?_
         simp (maxDischargeDepth := 16) [zY, wrap_succ (show q ≤ 1000000000000 by omega)]
         refine hR2I _ _ _ ⟨(q + 1, σ9), _, _, rfl, by simp [sub, lk], rfl, ⟨by show q + 1 ≤ _; omega, e9.iff fun s => ?_⟩, by show ar.length - (q + 1) < ar.length - q; omega⟩
         show _ ↔ _ ∨ ∃ a ∈ ar.take (q + 1), frM a s
         rw [hfrI s, or_assoc]
         rfl
       · simp (maxDischargeDepth := 16) [zY, Nat.not_lt.2 hgeI]
         refine hK4I _ _ ?_
         refine CW.seqK fun K3I hK3I => ?_
         refine CW.cond (t := false) (by simp [zT, zF, lk]) ?_
         refine CW.exit (hR2I _ _ _ (hRI _ _ _ ?_))
         simp only [outOf, if_true]
         rw [List.take_of_length_le hgeI] at e7
         refine fin2 _ _ _ (e7.iff fun s => ?_) (by simp [sub, lk])
         rw [frE, frMs_ex]
      refine CW.seqK fun K hK => CW.region ?_
      simp (maxDischargeDepth := 16) [zY, k2]
      refine hK _ _ ?_; clear hK K
      rcases Classical.em (k = 1) with hk | hk
      · refine CW.cond (t := true) (by simp [zT, zF, lk, hk]) ?_
        refine CW.region ?_
        simp (maxDischargeDepth := 16) [zY, k2]
        exact keyC [nm] _ _ (by rw [if_pos hk]) (by simp [sub, lk, txtR])
      · refine CW.cond (t := false) (by simp [zT, zF, lk, hk]) ?_
        exact CW.skip (keyC [] _ _ (by rw [if_neg hk]) (by simp [sub, lk, txtR]))
     -- the right sides
     refine CW.seqK fun K hK => CW.region ?_
     simp (maxDischargeDepth := 16) [zY, k2]
     refine hK _ _ ?_; clear hK K
     refine CW.block (CW.hide fun RI hRI => ?_)
     refine CW.loopF (fun p : Nat × Sto => [(2, .ptr σ.length 0), (5, .ptr σ1.length 0), (11, .sl (expR l) tok), (12, intV l.length), (13, intV i), (29, .sl (rhsR rh) .no), (30, intV rh.length), (31, intV p.1)]) (fun p => p.2) (fun p => p.1 ≤ rh.length ∧ ESt X2 σ2 lid bid nid c F1 (fun s => (OWN s ∨ frYs ty s) ∨ ∃ a ∈ rh.take p.1, frR a s) p.2) (fun p => rh.length - p.1) (0, σ4) (by simp [sub, lk]) rfl ⟨by simp, by simpa using e4⟩ ?_
     rintro ⟨q, σ7⟩ tm ⟨hq, e7⟩
     dsimp only at hq e7 ⊢
     have k1 := hbs e7.x
     refine CW.hide fun R2I hR2I => CW.seqK fun K4I hK4I => CW.region ?_
     rcases Nat.lt_or_ge q rh.length with hltI | hgeI
     · simp (maxDischargeDepth := 16) [zY, hltI]
       refine hK4I _ _ ?_
       refine CW.seqK fun K3I hK3I => ?_
       refine CW.cond (t := true) (by simp [zT, zF, lk]) ?_
       refine CW.skip (hK3I _ _ ?_)
       refine CW.seqK fun K5I hK5I => CW.block ?_
       have haI := rhsR_get hltI
       have hgwI := rhsW_get hltI
       have hawI := rhsW_len rh
       have hfrI := fun s => ex_take (P := fun a => frR a s) hltI
       generalize rh[q] = y at haI hgwI hfrI
       obtain ⟨yk, ynm, yats, yps, yrs, yb, yts⟩ := y
       have hn2 := atmW_len yats
       simp only [Rhs.w] at hgwI
       simp only [Rhs.cs] at haI
       refine CW.seqK fun K hK => CW.region ?_
       simp (maxDischargeDepth := 16) [zY, haI]
       refine hK _ _ ?_; clear hK K
       generalize hro : AObj.cells [.lit (.int .u8 yk), .lit (.string ynm), .sl (atmR yats) .no, .sl (prmR yps) .no, .sl (tyR yrs) .no, .sl (expR yb) .no, .sl (trmR yts) .no] 52 = ro
       have hb8 := e7.a.box ro
       have j1 : (σ7 ++ [ro])[σ.length]? = some (.cells [.ptr lid 0] 149) := (st_old (List.getElem?_eq_some_iff.1 k1).1).trans k1
       have j2 : (σ7 ++ [ro])[σ7.length]? = some ro := List.getElem?_concat_length
       have hx8 : ExtX X2 σ7 (σ7 ++ [ro]) := (ExtX.refl σ7).push (fun p hp => (e7.a.hX p hp).1) _
       subst hro
       generalize σ7 ++ [AObj.cells [.lit (.int .u8 yk), .lit (.string ynm), .sl (atmR yats) .no, .sl (prmR yps) .no, .sl (tyR yrs) .no, .sl (expR yb) .no, .sl (trmR yts) .no] 52] = σ8 at hb8 j1 j2 hx8 ⊢
       generalize hX3 : (fun p => X2 p ∨ p = σ7.length) = X3 at hb8
       have hx30 : ∀ p, X2 p → X3 p := by rw [← hX3]; exact fun p hp => .inl hp
       have hx3x : X3 σ7.length := by rw [← hX3]; exact .inr rfl
       have e8 : ESt X3 σ8 lid bid nid c (fun s => F1 s ∨ (c s = 0 ∧ ((OWN s ∨ frYs ty s) ∨ ∃ a ∈ rh.take q, frR a s))) (fun _ => False) σ8 := ⟨hb8.set (fun _ => rfl) fun s => by simp, .refl _⟩
       refine CW.seqK fun K hK => CW.region ?_
       simp (maxDischargeDepth := 16) [zY, j1, j2]
       refine (latoms_ev (N := N) H e8.a yats .no (by omega)).mono ?_
       rintro r σ9 hp
       obtain ⟨rfl, e9⟩ := e8.step hp
       simp (maxDischargeDepth := 16) [zY]
       refine hK _ _ ?_; clear hK K
       have j3 := (e9.x.keep _ (hx30 _ hx2b)).trans j1
       have j4 := (e9.x.keep _ hx3x).trans j2
       refine CW.seqK fun K hK => CW.region ?_
       simp (maxDischargeDepth := 16) [zY, j3, j4]
       refine (lterms_ev (N := N) H hF e9.a yts .no (by omega) (by omega)).mono ?_
       rintro r σ10 hp
       obtain ⟨rfl, e10⟩ := e9.step hp
       simp (maxDischargeDepth := 16) [zY]
       refine hK _ _ ?_; clear hK K
       have j5 := (e10.x.keep _ (hx30 _ hx2b)).trans j1
       have j6 := (e10.x.keep _ hx3x).trans j2
       refine CW.region ?_
       simp (maxDischargeDepth := 16) [zY, j5, j6]
       refine (pm1 yps .no X3 σ10 c _ 104 [.ptr σ.length 0, .ptr σ7.length 0] (tyW yrs + expW yb) (fun s => frYs yrs s ∨ frEs yb s) (by omega) e10.a (fun s => by have := hc s; omega) ?_).mono ?_
       · intro Y σ11 c11 F11 hY h11 hc11 hx11
         have i1 := (hx11.keep _ (hx30 _ hx2b)).trans j5
         have i2 := (hx11.keep _ hx3x).trans j6
         refine CallW.startF (fn := Tryz.f104) (prim_none H.s10 H.b10) (codeOf H.code Tryz.func104 rfl (by kernel_rfl)) rfl H.m10 rfl (zL rfl) fun tm => ?_
         refine CW.hide fun R8 hR8 => ?_
         refine CW.seqK fun K hK => CW.region ?_
         simp (maxDischargeDepth := 16) [zY, i1, i2]
         refine (ty1 yrs .no Y σ11 c11 F11 (by omega) h11 (fun s => by have := hc11 s; omega)).mono ?_
         rintro r σ12 ⟨rfl, h12, x12⟩
         simp (maxDischargeDepth := 16) [zY]
         refine hK _ _ ?_; clear hK K
         have i3 := (x12.keep _ (hY _ (hx30 _ hx2b))).trans i1
         have i4 := (x12.keep _ (hY _ hx3x)).trans i2
         refine CW.region ?_
         simp (maxDischargeDepth := 16) [zY, i3, i4]
         refine (ih1 yb .no Y σ12 c11 _ (by omega) h12 (fun s => by have := hc11 s; omega)).mono ?_
         rintro r σ13 ⟨rfl, h13, x13⟩
         simp (maxDischargeDepth := 16) [zY]
         exact hR8 _ _ _ ⟨.tup [], by simp [zA, omap], rfl, h13.set (fun _ => rfl) fun s => or_and_step, x12.trans x13⟩
       rintro r σ11 hp
       obtain ⟨rfl, e11⟩ := e10.step hp
       simp (maxDischargeDepth := 16) [zY]
       refine hK5I _ _ ?_
       refine CW.region ?_
       simp (maxDischargeDepth := 16) [zY, wrap_succ (show q ≤ 1000000000000 by omega)]
       refine hR2I _ _ _ ⟨(q + 1, σ11), _, _, rfl, by simp [sub, lk], rfl, ⟨by show q + 1 ≤ _; omega, ⟨((e11.a.less hx30 (hx20 _ (.inl h.xl))).set (fun _ => rfl) fun s => ?_), e7.x.trans (hx8.trans (e11.x.less hx30))⟩⟩, by show rh.length - (q + 1) < rh.length - q; omega⟩
       show _ ↔ F1 s ∨ (c s = 0 ∧ ((OWN s ∨ frYs ty s) ∨ ∃ a ∈ rh.take (q + 1), frR a s))
       rw [hfrI s, or_and_step, frR]
       simp only [false_or, or_assoc]
     · simp (maxDischargeDepth := 16) [zY, Nat.not_lt.2 hgeI]
       refine hK4I _ _ ?_
       refine CW.seqK fun K3I hK3I => ?_
       refine CW.cond (t := false) (by simp [zT, zF, lk]) ?_
       refine CW.exit (hR2I _ _ _ (hRI _ _ _ ?_))
       simp only [outOf, if_true]
       rw [List.take_of_length_le hgeI] at e7
       refine keyB _ _ _ (e7.iff fun s => ?_) (by simp [sub, lk])
       rw [frRs_ex]
    have e2 : ESt X2 σ2 lid bid nid c F1 (fun _ => False) σ2 := ⟨hb2.set (fun _ => rfl) fun s => by simp, .refl _⟩
    refine CW.seqK fun K hK => CW.region ?_
    simp (maxDischargeDepth := 16) [zY, hxo2]
    refine call_sm (.mk k nm ty rh (.mk amk amnm amng amdg amtr) ar bd) H.ow exp1_inj (by simp only [nrmR, AV.nrm, tyR_nrm, rhsR_nrm, limR_nrm, armR_nrm, expR_nrm]; rfl) trivial (by omega) fun _ => ?_
    simp (maxDischargeDepth := 16) [zY, Exp.kd]
    refine hK _ _ ?_; clear hK K
    cases ho : ownK k with
    | true =>
     refine CW.cond (t := true) (by simp [zT, zF, lk]) ?_
     refine CW.region ?_
     simp (maxDischargeDepth := 16) [zY, hbx2, hxo2]
     refine (latoms_ev (N := N) H e2.a [.mk amk amnm amng amdg amtr] .full (by simp)).mono ?_
     rintro r σ3 hp
     obtain ⟨rfl, e3⟩ := e2.step hp
     simp (maxDischargeDepth := 16) [zY]
     refine keyA _ _ _ (e3.iff fun s => ?_) (by simp [sub, lk])
     simp [OWN, ho]
    | false =>
     refine CW.cond (t := false) (by simp [zT, zF, lk]) ?_
     refine CW.skip (keyA _ _ _ (e2.iff fun s => ?_) (by simp [sub, lk]))
     simp [OWN, ho]
  · simp (maxDischargeDepth := 16) [zY, Nat.not_lt.2 hge]
    refine hK4 _ _ ?_
    refine CW.seqK fun K3 hK3 => ?_
    refine CW.cond (t := false) (by simp [zT, zF, lk]) ?_
    refine CW.exit (hR2 _ _ _ (hR _ _ _ ?_))
    simp only [outOf, if_true]
    rw [List.take_of_length_le hge] at hb
    refine hR0 _ _ _ ⟨.tup [], by simp [zA, omap], rfl, (hb.less (fun p hp => .inl hp) h.xl).set (fun _ => rfl) fun s => ?_, hxx.trans (hx.less fun p hp => .inl hp)⟩
    rw [frEs_ex]
end Go.Proofs.YteajcnilihgheaaGreatDoor
