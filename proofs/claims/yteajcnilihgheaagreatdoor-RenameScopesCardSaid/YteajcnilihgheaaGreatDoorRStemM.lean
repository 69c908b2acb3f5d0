/-
 EV: the package rename: what a name begins with.
-/
import Derived.Test.YteajcnilihgheaaGreatDoorKSameM
import Derived.Test.YteajcnilihgheaaGreatDoorEvDeferM
import Derived.Test.YteajcnilihgheaaGreatDoorTBaseM
import Derived.Lib.ItoaLen
namespace Go.Proofs.YteajcnilihgheaaGreatDoor
set_option maxRecDepth 100000
set_option maxHeartbeats 8000000
set_option linter.unusedSimpArgs false
set_option linter.unusedVariables false
section
open Go.RowKit
variable {S : Sp} {N : Nat}
structure StH (S : Sp) : Prop where
 code : S.code = codeP Tryz.prog
 la : S.sp 123 = none
 lab : S.base 123 = some primLast
 tr : S.sp 124 = none
 trb : S.base 124 = some primTrim
abbrev strV (l : List UInt8) : AV := .lit (.string ⟨l.toArray⟩)
theorem call_last (H : StH S) {σ : Sto} {Q : ARes → Sto → Prop} (s : ByteArray) (c : Int) (h0 : s.size < 4611686018427387904) (hq : accW (S.E N) 123 [.lit (.string s), .lit (.int .u8 c)] σ (.ret (intV (Lib.lastIndexByte s c))) σ = .lcalls (fun _ => true) → Q (.ret (intV (Lib.lastIndexByte s c))) σ) : CallW Tryz.prog (S.E N) 123 [.lit (.string s), .lit (.int .u8 c)] σ Q := by
 have hp : ∀ σ, primLast [.lit (.string s), .lit (.int .u8 c)] σ = some (.ret (intV (Lib.lastIndexByte s c)), σ) := fun σ => by simp [primLast, h0]
 refine CallW.prim (g := primLast) (prim_base H.la H.lab) (hp σ) (hq ?_)
 have := accW_loc (E := S.E N) (f := 123) (g := primLast) (args := [.lit (.string s), .lit (.int .u8 c)]) (σ := σ) (prim_base H.la H.lab) rfl fun l => hp (σ ++ l)
 rw [kept_self] at this
 exact this
theorem call_trim (H : StH S) {σ : Sto} {Q : ARes → Sto → Prop} (s c : ByteArray) (h0 : s.size < 4611686018427387904) (hcd : c.data.toList = digs) (hq : accW (S.E N) 124 [.lit (.string s), .lit (.string c)] σ (.ret (strV (Lib.trimS s.data.toList digs))) σ = .lcalls (fun _ => true) → Q (.ret (strV (Lib.trimS s.data.toList digs))) σ) : CallW Tryz.prog (S.E N) 124 [.lit (.string s), .lit (.string c)] σ Q := by
 have hp : ∀ σ, primTrim [.lit (.string s), .lit (.string c)] σ = some (.ret (strV (Lib.trimS s.data.toList digs)), σ) := fun σ => by simp [primTrim, h0, hcd]
 refine CallW.prim (g := primTrim) (prim_base H.tr H.trb) (hp σ) (hq ?_)
 have := accW_loc (E := S.E N) (f := 124) (g := primTrim) (args := [.lit (.string s), .lit (.string c)]) (σ := σ) (prim_base H.tr H.trb) rfl fun l => hp (σ ++ l)
 rw [kept_self] at this
 exact this
theorem ext_take (s : ByteArray) (n : Nat) : (s.extract 0 n).data.toList = s.data.toList.take n := by
 simp [ByteArray.data_extract]
theorem ext_drop (s : ByteArray) (i : Nat) : (s.extract i s.size).data.toList = s.data.toList.drop i := by
 simp [ByteArray.data_extract]
 exact List.take_of_length_le (by rw [List.length_drop, Array.length_toList]; exact Nat.le_refl _)
abbrev stemF : FS := smF (fun s : ByteArray => [.lit (.string s)]) (fun s => strV (stemL s.data.toList)) (fun s => s.size ≤ 1000000000000) (fun _ => 0) 0
theorem stem_w (H : StH S) (hm : S.ms 92 = []) (s : ByteArray) (σ : Sto) (hs : s.size ≤ 1000000000000) :
    JC Tryz.prog (S.E N) 92 [.lit (.string s)] σ fun r σ' => Fgt σ r σ' (.ret (strV (stemL s.data.toList))) σ := by
 refine JC.startF (fn := Tryz.f92) (codeOf H.code Tryz.func92 rfl (by kernel_rfl)) rfl hm rfl (zL rfl) fun tm => ?_
 refine CW.hide fun R0 hR0 => ?_
 refine CW.seqK fun K hK => CW.region ?_
 simp (maxDischargeDepth := 16) [zY]
 refine hK _ _ ?_; clear hK K
 refine CW.seqK fun KB hKB => CW.seqK fun K hK => CW.region ?_
 simp (maxDischargeDepth := 16) [zY]
 refine call_last H s 95 (by omega) fun _ => ?_
 simp (maxDischargeDepth := 16) [zY]
 refine hK _ _ ?_; clear hK K
 have z30 : ∀ x : ByteArray, AV.lit (.string (x.extract 0 30)) = strV (x.data.toList.take 30) := fun x => by
  unfold strV; rw [← ext_take]
 have zle : ∀ x : ByteArray, x.size ≤ 30 → AV.lit (.string x) = strV (x.data.toList.take 30) := fun x h => by
  unfold strV
  rw [List.take_of_length_le (by rw [Array.length_toList]; exact h)]
 rcases stem_found s with ⟨h1, h2⟩ | ⟨i, hi, h1, h2⟩
 · rw [h1]
   refine CW.seqK fun K hK => CW.region ?_
   simp (maxDischargeDepth := 16) [zY]
   refine hK _ _ ?_; clear hK K
   refine CW.cond (t := false) (by simp [zT, zF, lk]) ?_
   refine CW.skip (hKB _ _ ?_); clear hKB KB
   rw [h2] at hR0
   rcases Nat.lt_or_ge 30 s.size with h30 | h30
   · have e1 : ((30 : Int) < (s.size : Int)) = True := eq_true (by omega)
     have e2 : ((30 : Int) ≤ (s.size : Int)) = True := eq_true (by omega)
     refine CW.seqK fun K hK => CW.region ?_
     simp (maxDischargeDepth := 16) [zY, es_min, e1, e2]
     refine hK _ _ ?_; clear hK K
     exact CW.ret (hR0 _ _ _ ⟨.lit (.string (s.extract 0 30)), by simp [zA, omap, zB, zF, lk], done0 rfl (z30 s)⟩)
   · have e1 : ((30 : Int) < (s.size : Int)) = False := eq_false (by omega)
     have e2 : (s.size ≤ 30) = True := eq_true (by omega)
     refine CW.seqK fun K hK => CW.region ?_
     simp (maxDischargeDepth := 16) [zY, es_min, e1, e2]
     refine hK _ _ ?_; clear hK K
     exact CW.ret (hR0 _ _ _ ⟨.lit (.string s), by simp [zA, omap, zB, zF, lk], done0 rfl (zle s h30)⟩)
 · rw [h1]
   have hw := wrap_succ (show i ≤ 1000000000000 by omega)
   generalize hj : i + 1 = j at hw h2
   rcases Nat.lt_or_ge j s.size with hlt | hge
   · have e1 : ((j : Int) < (s.size : Int)) = True := eq_true (by omega)
     have e2 : ((j : Int) ≤ (s.size : Int)) = True := eq_true (by omega)
     have e4 : (j < s.size) = True := eq_true (by omega)
     have e5 : (j ≤ s.size) = True := eq_true (by omega)
     refine CW.seqK fun K hK => CW.region ?_
     simp (maxDischargeDepth := 16) [zY, hw, e1, e2, e4, e5]
     refine call_trim H _ _ (by rw [ByteArray.size_extract]; omega) rfl fun _ => ?_
     rw [ext_drop]
     generalize hr : Lib.trimS _ digs = tr
     have hr2 : Lib.trimS (s.data.toList.drop j) [48, 49, 50, 51, 52, 53, 54, 55, 56, 57] = tr := hr
     rw [hr2] at h2
     cases tr with
     | nil =>
      simp (maxDischargeDepth := 16) [zY, hw, e1, e2, e4, e5]
      refine hK _ _ ?_; clear hK K
      refine CW.cond (t := true) (by simp [zT, zF, lk]) ?_
      have e6 : (i ≤ s.size) = True := eq_true (by omega)
      have e7 : ((i : Int) ≤ (s.size : Int)) = True := eq_true (by omega)
      refine CW.region ?_
      simp (maxDischargeDepth := 16) [zY, e6, e7]
      refine hKB _ _ ?_; clear hKB KB
      rw [if_pos ⟨hlt, rfl⟩, ← ext_take] at h2
      rw [h2] at hR0
      have hx : (s.extract 0 i).size ≤ 1000000000000 := by rw [ByteArray.size_extract]; omega
      generalize s.extract 0 i = x at *
      rcases Nat.lt_or_ge 30 x.size with h30 | h30
      · have e1 : ((30 : Int) < (x.size : Int)) = True := eq_true (by omega)
        have e2 : ((30 : Int) ≤ (x.size : Int)) = True := eq_true (by omega)
        refine CW.seqK fun K hK => CW.region ?_
        simp (maxDischargeDepth := 16) [zY, es_min, e1, e2]
        refine hK _ _ ?_; clear hK K
        exact CW.ret (hR0 _ _ _ ⟨.lit (.string (x.extract 0 30)), by simp [zA, omap, zB, zF, lk], done0 rfl (z30 x)⟩)
      · have e1 : ((30 : Int) < (x.size : Int)) = False := eq_false (by omega)
        have e2 : (x.size ≤ 30) = True := eq_true (by omega)
        refine CW.seqK fun K hK => CW.region ?_
        simp (maxDischargeDepth := 16) [zY, es_min, e1, e2]
        refine hK _ _ ?_; clear hK K
        exact CW.ret (hR0 _ _ _ ⟨.lit (.string x), by simp [zA, omap, zB, zF, lk], done0 rfl (zle x h30)⟩)
     | cons c tr =>
      simp (maxDischargeDepth := 16) [zY, hw, e1, e2, e4, e5]
      refine hK _ _ ?_; clear hK K
      refine CW.cond (t := false) (by simp [zT, zF, lk]) ?_
      refine CW.skip (hKB _ _ ?_); clear hKB KB
      rw [if_neg (fun h => by cases h.2)] at h2
      rw [h2] at hR0
      rcases Nat.lt_or_ge 30 s.size with h30 | h30
      · have e1 : ((30 : Int) < (s.size : Int)) = True := eq_true (by omega)
        have e2 : ((30 : Int) ≤ (s.size : Int)) = True := eq_true (by omega)
        refine CW.seqK fun K hK => CW.region ?_
        simp (maxDischargeDepth := 16) [zY, es_min, e1, e2]
        refine hK _ _ ?_; clear hK K
        exact CW.ret (hR0 _ _ _ ⟨.lit (.string (s.extract 0 30)), by simp [zA, omap, zB, zF, lk], done0 rfl (z30 s)⟩)
      · have e1 : ((30 : Int) < (s.size : Int)) = False := eq_false (by omega)
        have e2 : (s.size ≤ 30) = True := eq_true (by omega)
        refine CW.seqK fun K hK => CW.region ?_
        simp (maxDischargeDepth := 16) [zY, es_min, e1, e2]
        refine hK _ _ ?_; clear hK K
        exact CW.ret (hR0 _ _ _ ⟨.lit (.string s), by simp [zA, omap, zB, zF, lk], done0 rfl (zle s h30)⟩)
   · have e1 : ((j : Int) < (s.size : Int)) = False := eq_false (by omega)
     have e4 : (j < s.size) = False := eq_false (by omega)
     refine CW.seqK fun K hK => CW.region ?_
     simp (maxDischargeDepth := 16) [zY, hw, e1, e4]
     refine hK _ _ ?_; clear hK K
     refine CW.cond (t := false) (by simp [zT, zF, lk]) ?_
     refine CW.skip (hKB _ _ ?_); clear hKB KB
     rw [if_neg (fun h => by omega)] at h2
     rw [h2] at hR0
     rcases Nat.lt_or_ge 30 s.size with h30 | h30
     · have e1 : ((30 : Int) < (s.size : Int)) = True := eq_true (by omega)
       have e2 : ((30 : Int) ≤ (s.size : Int)) = True := eq_true (by omega)
       refine CW.seqK fun K hK => CW.region ?_
       simp (maxDischargeDepth := 16) [zY, es_min, e1, e2]
       refine hK _ _ ?_; clear hK K
       exact CW.ret (hR0 _ _ _ ⟨.lit (.string (s.extract 0 30)), by simp [zA, omap, zB, zF, lk], done0 rfl (z30 s)⟩)
     · have e1 : ((30 : Int) < (s.size : Int)) = False := eq_false (by omega)
       have e2 : (s.size ≤ 30) = True := eq_true (by omega)
       refine CW.seqK fun K hK => CW.region ?_
       simp (maxDischargeDepth := 16) [zY, es_min, e1, e2]
       refine hK _ _ ?_; clear hK K
       exact CW.ret (hR0 _ _ _ ⟨.lit (.string s), by simp [zA, omap, zB, zF, lk], done0 rfl (zle s h30)⟩)
end
section
open Go.RowKit
variable {S : Sp} {N : Nat}
def TokS (σ : Sto) (m : Nat) (e : TypeId) (tok : Tok) : Prop := (tok = .full ∧ m = 0) ∨ ∃ i, tok = .own i ∧ σ[i]? = some (.tok m e)
theorem app_own {P : Program} {M : List TypeId} {σ : Sto} {es fs : List (List AV)} {tok : Tok} {t e k by_ : Nat} (ht : P.underlying t = some (.slice e)) (hk : szOf P e = some (k + 1)) (hb : bytesOf P e = some by_) (hz : ((P.info? e).bind fun x => x.zero).map (fun z => z.cells.size) = some (k + 1))
    (htok : TokS σ (es.length * (k + 1)) e tok) (h1 : es.head?.all (·.length == k + 1) = true) (h2 : fs.head?.all (·.length == k + 1) = true) (hby : (es.length + fs.length) * by_ ≤ 140737488355328) (hle : es.length + fs.length ≤ 140737488355328) (hMt : M.contains t = false := by rfl) :
    ∃ t' σ' acc, TokS σ' ((es.length + fs.length) * (k + 1)) e t' ∧ σ.length ≤ σ'.length ∧ (∀ p, p < σ.length → tok ≠ .own p → σ'[p]? = σ[p]?) ∧ (∀ i, t' = .own i → tok = .own i ∨ σ.length ≤ i) ∧ ∀ (tm : List AV) (ds : Option Tmp) (ty : TypeId) (po : String) (af : Array Edge) (gu : Option (Nat × Bool)) (x y : Operand) (tk : Tok), evx tm x = some (.sl es tok) → evx tm y = some (.sl fs tk) →
     evStep P M (evx tm) σ ⟨ds, .call ⟨.builtin .append, #[x, y], #[t, t]⟩, ty, po, af, gu⟩ = some (.val (.sl (es ++ stripRows fs) t') σ' acc) := by
 have hlit : ∀ (tm : List AV) (ds : Option Tmp) (ty : TypeId) (po : String) (af : Array Edge) (gu : Option (Nat × Bool)) (x y : Operand), evx tm x = some (.sl es tok) → evLit P (evx tm) σ ⟨ds, .call ⟨.builtin .append, #[x, y], #[t, t]⟩, ty, po, af, gu⟩ = none := by
  intro tm ds ty po af gu x y hx
  unfold evLit
  simp [Op.operands, Call.operands, hx, conc, conc2]
 have hap : ∀ (tm : List AV) (ds : Option Tmp) (ty : TypeId) (po : String) (af : Array Edge) (gu : Option (Nat × Bool)) (x y : Operand), evx tm x = some (.sl es tok) → evStep P M (evx tm) σ ⟨ds, .call ⟨.builtin .append, #[x, y], #[t, t]⟩, ty, po, af, gu⟩ = evAppend P (evx tm) σ t x y := by
  intro tm ds ty po af gu x y hx
  unfold evStep
  rw [if_neg (by simp only [mutOp, hMt]; exact Bool.false_ne_true), hlit tm ds ty po af gu x y hx]
  simp [evPure, evMem]
 by_cases hf : fs.length = 0
 · obtain rfl := List.eq_nil_of_length_eq_zero hf
   refine ⟨tok, σ, .pure, by simpa using htok, Nat.le_refl _, fun _ _ _ => rfl, fun i h => .inl h, fun tm ds ty po af gu x y tk hx hy => ?_⟩
   rw [hap _ _ _ _ _ _ _ _ hx]
   unfold evAppend
   simp only [ht, hx, hy, hk, hb, hz]
   rw [if_pos ⟨trivial, h1, h2, hby, hle⟩, if_pos hf]
   simp [stripRows]
 rcases htok with ⟨rfl, h0⟩ | ⟨id, rfl, hσ⟩
 · refine ⟨.own σ.length, σ ++ [.tok ((es.length + fs.length) * (k + 1)) e], .news σ.length, .inr ⟨_, rfl, ?_⟩, ?_, ?_, fun i h => .inr (by injection h with h; omega), fun tm ds ty po af gu x y tk hx hy => ?_⟩
   rotate_left 3
   · rw [hap _ _ _ _ _ _ _ _ hx]
     unfold evAppend
     simp only [ht, hx, hy, hk, hb, hz]
     rw [if_pos ⟨trivial, h1, h2, hby, hle⟩, if_neg hf]
   · simp
   · simp
   · intro p hp _
     exact List.getElem?_append_left hp
 · refine ⟨.own σ.length, σ.set id .dead ++ [.tok ((es.length + fs.length) * (k + 1)) e], .any, .inr ⟨_, rfl, ?_⟩, ?_, ?_, fun i h => .inr (by injection h with h; omega), fun tm ds ty po af gu x y tk hx hy => ?_⟩
   rotate_left 3
   · rw [hap _ _ _ _ _ _ _ _ hx]
     unfold evAppend
     simp only [ht, hx, hy, hk, hb, hz]
     rw [if_pos ⟨trivial, h1, h2, hby, hle⟩, if_neg hf]
     simp only [hσ, and_self, if_true]
   · rw [List.getElem?_append_right (by simp)]; simp
   · simp
   · intro p hp hne
     rw [List.getElem?_append_left (by simpa using hp), List.getElem?_set_ne (fun h => hne (by rw [h]))]
structure NS where
 rid : Nat
 iid : Nat
 nid : Nat
 bid : Nat
 tok : Tok
 u : List ByteArray
def nextOk (u : List ByteArray) (nx : List (Value × AV)) : Prop := strK nx ∧ ∀ b : ByteArray, ∃ k : Nat, k ≤ u.length ∧ ((k = 0 ∧ mapGet (.string b) nx = none) ∨ mapGet (.string b) nx = some (intV k)) ∧ ∀ j, 1 ≤ j → j ≤ k → nameN b.data.toList j ∈ u
def isOk (u : List ByteArray) (is : List (Value × AV)) : Prop := strK is ∧ ∀ s, (s ∈ u ∧ mapGet (.string s) is = some (AV.lit (.bool true))) ∨ (s ∉ u ∧ mapGet (.string s) is = none)
structure NS.AtV (m : NS) (v : List ByteArray) (σ : Sto) : Prop where
 r : σ[m.rid]? = some (.cells [.sl (txtR m.u) m.tok, .mp m.iid, .mp m.nid, .mp m.bid] 99)
 t : TokS σ m.u.length 9 m.tok
 i : ∃ is, σ[m.iid]? = some (.map .str is) ∧ isOk m.u is
 n : ∃ nx, σ[m.nid]? = some (.map .str nx) ∧ nextOk v nx
 ne : m.iid ≠ m.nid
abbrev NS.At (m : NS) (σ : Sto) : Prop := m.AtV m.u σ
def NS.own (m : NS) (p : Nat) : Prop := p = m.rid ∨ p = m.iid ∨ p = m.nid ∨ m.tok = .own p
structure NS.Kp (m : NS) (σ σ' : Sto) : Prop where
 len : σ.length ≤ σ'.length
 keep : ∀ p, p < σ.length → ¬ m.own p → σ'[p]? = σ[p]?
theorem isOk.put {u : List ByteArray} {is : List (Value × AV)} (h : isOk u is) (s : ByteArray) : isOk (u ++ [s]) (mapPut (.string s) (.lit (.bool true)) is) := by
 refine ⟨h.1.put _ _, fun x => ?_⟩
 rw [mapGet_put h.1]
 by_cases e : x = s
 · subst e; exact .inl ⟨by simp, by simp⟩
 · rw [if_neg e]
   rcases h.2 x with ⟨a, b⟩ | ⟨a, b⟩
   · exact .inl ⟨List.mem_append_left _ a, b⟩
   · exact .inr ⟨by simp [a, e], b⟩
theorem nextOk.app {u : List ByteArray} {nx : List (Value × AV)} (h : nextOk u nx) (l : List ByteArray) : nextOk (u ++ l) nx := by
 refine ⟨h.1, fun b => ?_⟩
 obtain ⟨k, h1, h2, h3⟩ := h.2 b
 exact ⟨k, by rw [List.length_append]; omega, h2, fun j a b => List.mem_append_left _ (h3 j a b)⟩
theorem NS.AtV.app {m : NS} {σ : Sto} (h : m.At σ) (l : List ByteArray) : m.AtV (m.u ++ l) σ := by
 obtain ⟨nx, n1, n2⟩ := h.n
 exact ⟨h.r, h.t, h.i, ⟨nx, n1, n2.app l⟩, h.ne⟩
theorem use_ev (hc : S.code = codeP Tryz.prog) (hs : S.sp 30 = none) (hb : S.base 30 = none) (hm : S.ms 30 = []) (m : NS) (l : List ByteArray) (tk : Tok) (σ : Sto) (h : m.AtV (m.u ++ l) σ) (hl : m.u.length + l.length ≤ 1000000000000) :
    CallW Tryz.prog (S.E N) 30 [.ptr m.rid 0, .sl (txtR l) tk] σ fun r σ' => r = .ret (.tup []) ∧ ∃ tok', ({m with u := m.u ++ l, tok := tok'} : NS).At σ' ∧ (∀ i, tok' = .own i → m.tok = .own i ∨ σ.length ≤ i) ∧ m.Kp σ σ' := by
 refine CallW.startF (fn := Tryz.f30) (prim_none hs hb) (codeOf hc Tryz.func30 rfl (by kernel_rfl)) rfl hm rfl (zL rfl) fun tm => ?_
 refine CW.hide fun R0 hR0 => ?_
 obtain ⟨is0, i1, i2⟩ := h.i
 have hri : m.rid ≠ m.iid := fun e => by have := h.r; rw [e, i1] at this; cases this
 refine CW.seqK fun KL hKL => ?_
 refine CW.seqK fun K hK => CW.region ?_
 simp (maxDischargeDepth := 16) [zY]
 refine hK _ _ ?_; clear hK K
 refine CW.block (CW.hide fun R hR => ?_)
 have hset : σ.set m.iid (.map .str is0) = σ := by
  obtain ⟨q, e⟩ := List.getElem?_eq_some_iff.1 i1
  rw [← e, List.set_getElem_self]
 refine CW.loopF (fun p : Nat × List (Value × AV) => [(0, .ptr m.rid 0), (1, .sl (txtR l) tk), (6, .sl (txtR l) tk), (7, intV l.length), (8, intV p.1)]) (fun p => σ.set m.iid (.map .str p.2)) (fun p => p.1 ≤ l.length ∧ isOk (m.u ++ l.take p.1) p.2) (fun p => l.length - p.1) (0, is0) (by simp [sub, lk]) hset.symm ⟨by simp, by simpa using i2⟩ ?_
 rintro ⟨i, is⟩ tm ⟨hi, hk⟩
 dsimp only at hi hk ⊢
 have hil : m.iid < σ.length := (List.getElem?_eq_some_iff.1 i1).1
 have hr' : (σ.set m.iid (.map .str is))[m.rid]? = some (.cells [.sl (txtR m.u) m.tok, .mp m.iid, .mp m.nid, .mp m.bid] 99) := by rw [List.getElem?_set_ne hri.symm]; exact h.r
 have hi' : (σ.set m.iid (.map .str is))[m.iid]? = some (.map .str is) := by rw [List.getElem?_set_self hil]
 have hss : ∀ is', (σ.set m.iid (.map .str is)).set m.iid (.map .str is') = σ.set m.iid (.map .str is') := fun is' => List.set_set ..
 generalize hσ1 : σ.set m.iid (.map .str is) = σ1 at *
 refine CW.hide fun R2 hR2 => CW.seqK fun K4 hK4 => CW.region ?_
 rcases Nat.lt_or_ge i l.length with hlt | hge
 · simp (maxDischargeDepth := 16) [zY, hlt]
   refine hK4 _ _ ?_
   refine CW.seqK fun K3 hK3 => ?_
   refine CW.cond (t := true) (by simp [zT, zF, lk]) ?_
   refine CW.skip (hK3 _ _ ?_)
   refine CW.seqK fun K5 hK5 => CW.block ?_
   have ha := txtR_get hlt
   refine CW.seqK fun K hK => CW.region ?_
   simp (maxDischargeDepth := 16) [zY, ha]
   refine hK _ _ ?_; clear hK K
   refine CW.region ?_
   simp (maxDischargeDepth := 16) [zY, hr', hi', AV.notTup]
   refine hK5 _ _ ?_
   rw [hss]
   refine CW.region ?_
   simp (maxDischargeDepth := 16) [zY, wrap_succ (show i ≤ 1000000000000 by omega)]
   refine hR2 _ _ _ ⟨(i + 1, mapPut (.string l[i]) (.lit (.bool true)) is), _, _, rfl, by simp [sub, lk], rfl, ⟨by show i + 1 ≤ l.length; omega, ?_⟩, by show l.length - (i + 1) < l.length - i; omega⟩
   show isOk (m.u ++ l.take (i + 1)) _
   rw [List.take_succ_eq_append_getElem hlt, ← List.append_assoc]
   exact hk.put _
 · simp (maxDischargeDepth := 16) [zY, Nat.not_lt.2 hge]
   refine hK4 _ _ ?_
   refine CW.seqK fun K3 hK3 => ?_
   refine CW.cond (t := false) (by simp [zT, zF, lk]) ?_
   refine CW.exit (hR2 _ _ _ (hR _ _ _ ?_))
   simp only [outOf, if_true]
   refine hKL _ _ ?_
   rw [List.take_of_length_le hge] at hk
   have hmt : ∀ p, m.tok = .own p → p ≠ m.iid ∧ p ≠ m.rid ∧ p ≠ m.nid := fun p e => by
    rcases h.t with ⟨e2, _⟩ | ⟨q, e2, e3⟩
    · rw [e2] at e; cases e
    · rw [e2] at e
      cases e
      obtain ⟨nx, n1, _⟩ := h.n
      refine ⟨fun e => ?_, fun e => ?_, fun e => ?_⟩
      · rw [e, i1] at e3; cases e3
      · rw [e, h.r] at e3; cases e3
      · rw [e, n1] at e3; cases e3
   have ht1 : TokS σ1 ((txtR m.u).length * (0 + 1)) 9 m.tok := by
    have e : (txtR m.u).length * (0 + 1) = m.u.length := by simp [txtR]
    rw [e]
    rcases h.t with g | ⟨q, e2, e3⟩
    · exact .inl g
    · exact .inr ⟨q, e2, by rw [← hσ1, List.getElem?_set_ne (hmt q e2).1.symm]; exact e3⟩
   obtain ⟨tok', σ2, acc, q1, q2, q3, q4, hap⟩ := app_own (P := Tryz.prog) (M := []) (σ := σ1) (t := 23) (e := 9) (k := 0) (by_ := 16) (es := txtR m.u) (fs := txtR l) (by kernel_rfl) (by kernel_rfl) (by kernel_rfl) (by kernel_rfl) ht1 (by cases m.u <;> simp [txtR]) (by cases l <;> simp [txtR]) (by simp [txtR]; omega) (by simp [txtR]; omega)
   have e2 : stripRows (txtR l) = txtR l := txtR_stp l
   rw [e2] at hap
   have hrl : m.rid < σ1.length := (List.getElem?_eq_some_iff.1 hr').1
   have hr2 : σ2[m.rid]? = some (.cells [.sl (txtR m.u) m.tok, .mp m.iid, .mp m.nid, .mp m.bid] 99) := by rw [q3 _ hrl (fun e => (hmt _ e).2.1 rfl)]; exact hr'
   refine CW.region ?_
   simp (maxDischargeDepth := 16) [zY, hr', hap, hr2]
   have hll : σ1.length = σ.length := by rw [← hσ1]; simp
   have hrl2 : m.rid < σ2.length := by omega
   have hrn : m.rid ≠ m.nid := fun e => by obtain ⟨nx, n1, _⟩ := h.n; rw [← e, h.r] at n1; cases n1
   refine hR0 _ _ _ ⟨.tup [], by simp [zA, omap], rfl, tok', ⟨?_, ?_, ?_, ?_, h.ne⟩, fun p hp => by rw [← hll]; exact q4 p hp, ⟨by simp; omega, fun p hp hno => ?_⟩⟩
   · show (σ2.set m.rid _)[m.rid]? = _
     rw [List.getElem?_set_self hrl2]
     simp [txtR]
   · show TokS (σ2.set m.rid _) (m.u ++ l).length _ tok'
     have e : ((txtR m.u).length + (txtR l).length) * (0 + 1) = (m.u ++ l).length := by simp [txtR]
     rw [← e]
     rcases q1 with g | ⟨q, g1, g2⟩
     · exact .inl g
     · refine .inr ⟨q, g1, ?_⟩
       rw [List.getElem?_set_ne (fun e => by rw [← e, hr2] at g2; cases g2)]
       exact g2
   · refine ⟨is, ?_, hk⟩
     show (σ2.set m.rid _)[m.iid]? = _
     rw [List.getElem?_set_ne hri, q3 _ (by omega) (fun e => (hmt _ e).1 rfl)]
     exact hi'
   · obtain ⟨nx, n1, n2⟩ := h.n
     refine ⟨nx, ?_, n2⟩
     show (σ2.set m.rid _)[m.nid]? = _
     have hnl := (List.getElem?_eq_some_iff.1 n1).1
     rw [List.getElem?_set_ne hrn, q3 _ (by omega) (fun e => (hmt _ e).2.2 rfl), ← hσ1, List.getElem?_set_ne h.ne]
     exact n1
   · have a1 : m.rid ≠ p := fun e => hno (.inl e.symm)
     have a2 : m.iid ≠ p := fun e => hno (.inr (.inl e.symm))
     rw [List.getElem?_set_ne a1, q3 _ (by omega) (fun e => hno (.inr (.inr (.inr e)))), ← hσ1, List.getElem?_set_ne a2]
end
section
open Go.RowKit
variable {S : Sp} {N : Nat}
theorem call_itoa (hi : S.sp 93 = none) (hib : S.base 93 = some primItoa) {σ : Sto} {Q : ARes → Sto → Prop} (x : Int) (h0 : -9223372036854775808 ≤ x) (h1 : x ≤ 9223372036854775807) (hq : accW (S.E N) 93 [intV x] σ (.ret (.lit (.string ⟨(Lib.itoa x).toArray⟩))) σ = .lcalls (fun _ => true) → Q (.ret (.lit (.string ⟨(Lib.itoa x).toArray⟩))) σ) : CallW Tryz.prog (S.E N) 93 [intV x] σ Q := by
 have hp : ∀ σ, primItoa [intV x] σ = some (.ret (.lit (.string ⟨(Lib.itoa x).toArray⟩)), σ) := fun σ => by simp [primItoa, h0, h1]
 refine CallW.prim (g := primItoa) (prim_base hi hib) (hp σ) (hq ?_)
 have := accW_loc (E := S.E N) (f := 93) (g := primItoa) (args := [intV x]) (σ := σ) (prim_base hi hib) rfl fun l => hp (σ ++ l)
 rw [kept_self] at this
 exact this
structure FrH (S : Sp) : Prop extends StH S where
 st : S.sp 92 = some stemF
 it : S.sp 93 = none
 itb : S.base 93 = some primItoa
 us : S.sp 30 = none
 usb : S.base 30 = none
 usm : S.ms 30 = []
 fr : S.sp 58 = none
 frb : S.base 58 = none
 frm : S.ms 58 = []
theorem str1_inj (a b : ByteArray) (e : [AV.lit (.string a)] = [.lit (.string b)]) : a = b := by simpa using e
theorem used_le {u : List ByteArray} {b : List UInt8} {k : Nat} (h : ∀ j, 1 ≤ j → j ≤ k → nameN b j ∈ u) : k ≤ u.length := by
 have := sub_len _ u (range_nodup b k) fun x hx => by
  obtain ⟨i, hi, rfl⟩ := List.mem_map.1 hx
  exact h (i + 1) (by omega) (by have := List.mem_range.1 hi; omega)
 rwa [List.length_map, List.length_range] at this
theorem nextOk.put {u u' : List ByteArray} {nx : List (Value × AV)} (h : nextOk u nx) (hu : ∀ s ∈ u, s ∈ u') (hlen : u.length ≤ u'.length) (b : ByteArray) (k : Nat) (hk : ∀ j, 1 ≤ j → j ≤ k → nameN b.data.toList j ∈ u') : nextOk u' (mapPut (.string b) (intV k) nx) := by
 refine ⟨h.1.put _ _, fun c => ?_⟩
 rw [mapGet_put h.1]
 by_cases e : c = b
 · subst e
   exact ⟨k, used_le hk, .inr (by simp), hk⟩
 · rw [if_neg e]
   obtain ⟨q, h1, h2, h3⟩ := h.2 c
   exact ⟨q, by omega, h2, fun j a b => hu _ (h3 j a b)⟩
theorem name_app {bB : ByteArray} {b : List UInt8} (hb : bB.data.toList = b) (k : Nat) : bB ++ ⟨(Lib.itoa (k : Int)).toArray⟩ = nameN b k := by
 have h0 : ¬ ((k : Int) < 0) := by omega
 unfold nameN
 apply ByteArray.ext
 rw [ByteArray.data_append, ← hb]
 simp [Lib.itoa, h0]
theorem fresh_ev (H : FrH S) (m : NS) (s : ByteArray) (σ : Sto) (h : m.At σ) (hl : m.u.length ≤ 1000000000) (hs : s.size ≤ 1000000000) (hN : 0 < N) :
    CallW Tryz.prog (S.E N) 58 [.ptr m.rid 0, .lit (.string s)] σ fun r σ' => r = .ret (.lit (.string (freshB m.u s))) ∧ ∃ tok', ({m with u := m.u ++ [freshB m.u s], tok := tok'} : NS).At σ' ∧ (∀ i, tok' = .own i → m.tok = .own i ∨ σ.length ≤ i) ∧ m.Kp σ σ' := by
 refine CallW.startF (fn := Tryz.f58) (prim_none H.fr H.frb) (codeOf H.code Tryz.func58 rfl (by kernel_rfl)) rfl H.frm rfl (zL rfl) fun tm => ?_
 refine CW.hide fun R0 hR0 => ?_
 refine CW.seqK fun K hK => CW.region ?_
 simp (maxDischargeDepth := 16) [zY]
 refine hK _ _ ?_; clear hK K
 refine CW.seqK fun KL hKL => CW.region ?_
 simp (maxDischargeDepth := 16) [zY]
 refine call_sm s H.st str1_inj (by simp only [nrmR, AV.nrm]) (by omega) (by omega) fun _ => ?_
 have hst : (⟨(stemL s.data.toList).toArray⟩ : ByteArray).size + (⟨#[95]⟩ : ByteArray).size ≤ 140737488355328 := by
  have h1 : (⟨(stemL s.data.toList).toArray⟩ : ByteArray).size = (stemL s.data.toList).length := by show (stemL s.data.toList).toArray.size = _; simp
  have h2 : (stemL s.data.toList).length ≤ 30 := by unfold stemL; dsimp only; rw [List.length_take]; omega
  have h3 : (⟨#[95]⟩ : ByteArray).size = 1 := rfl
  omega
 have hst' := eq_true hst
 have hbl : ((⟨(stemL s.data.toList).toArray⟩ : ByteArray) ++ ⟨#[95]⟩).size ≤ 31 := by
  have h1 : (⟨(stemL s.data.toList).toArray⟩ : ByteArray).size = (stemL s.data.toList).length := by show (stemL s.data.toList).toArray.size = _; simp
  have h2 : (stemL s.data.toList).length ≤ 30 := by unfold stemL; dsimp only; rw [List.length_take]; omega
  have h3 : (⟨#[95]⟩ : ByteArray).size = 1 := rfl
  rw [ByteArray.size_append]; omega
 generalize hq : (⟨(stemL s.data.toList).toArray⟩ : ByteArray) = q at *
 simp (maxDischargeDepth := 16) [zY, hst', strV, hq]
 refine hKL _ _ ?_; clear hKL KL
 subst hq
 have hB : ((⟨(stemL s.data.toList).toArray⟩ : ByteArray) ++ ⟨#[95]⟩).data.toList = beginL s := by
  rw [ByteArray.data_append]; simp [beginL]
 generalize ((⟨(stemL s.data.toList).toArray⟩ : ByteArray) ++ ⟨#[95]⟩) = bB at *
 obtain ⟨nx0, n1, n2⟩ := h.n
 have hset : σ.set m.nid (.map .str nx0) = σ := by
  obtain ⟨q, e⟩ := List.getElem?_eq_some_iff.1 n1
  rw [← e, List.set_getElem_self]
 refine CW.block (CW.hide fun R hR => ?_)
 obtain ⟨k0, b1, b2, b3⟩ := n2.2 bB
 have get0 : (mapGet (.string bB) nx0).getD (intV 0) = intV k0 := by
  rcases b2 with ⟨rfl, b2⟩ | b2
  · rw [b2]; rfl
  · rw [b2]; rfl
 refine CW.loopF (fun p : Nat × List (Value × AV) => [(0, .ptr m.rid 0), (1, .lit (.string s)), (5, .lit (.string bB))]) (fun p => σ.set m.nid (.map .str p.2)) (fun p => nextOk m.u p.2 ∧ (mapGet (.string bB) p.2).getD (intV 0) = intV p.1 ∧ ∀ j, 1 ≤ j → j ≤ p.1 → nameN bB.data.toList j ∈ m.u) (fun p => m.u.length - p.1) (k0, nx0) (by simp [sub, lk]) hset.symm ⟨n2, get0, b3⟩ ?_
 rintro ⟨k, nx⟩ tm ⟨hk, hg, hj⟩
 dsimp only at hk hg hj ⊢
 obtain ⟨is, i1, i2⟩ := h.i
 have hku := used_le hj
 have hrn : m.rid ≠ m.nid := fun e => by rw [← e, h.r] at n1; cases n1
 have hnl : m.nid < σ.length := (List.getElem?_eq_some_iff.1 n1).1
 have hr' : ∀ nx, (σ.set m.nid (.map .str nx))[m.rid]? = some (.cells [.sl (txtR m.u) m.tok, .mp m.iid, .mp m.nid, .mp m.bid] 99) := fun nx => by rw [List.getElem?_set_ne hrn.symm]; exact h.r
 have hn' : ∀ nx, (σ.set m.nid (.map .str nx))[m.nid]? = some (.map .str nx) := fun nx => by rw [List.getElem?_set_self hnl]
 have hi' : ∀ nx, (σ.set m.nid (.map .str nx))[m.iid]? = some (.map .str is) := fun nx => by rw [List.getElem?_set_ne h.ne.symm]; exact i1
 have hss : ∀ nx nx', (σ.set m.nid (.map .str nx)).set m.nid (.map .str nx') = σ.set m.nid (.map .str nx') := fun nx nx' => List.set_set ..
 have hr1 := hr' nx
 have hn1 := hn' nx
 have hs1 := hss nx
 generalize hσ1 : σ.set m.nid (.map .str nx) = σ1 at hr1 hn1 hs1 ⊢
 have hw := wrap_succ (show k ≤ 1000000000000 by omega)
 obtain ⟨k', hk'⟩ : ∃ k', k' = k + 1 := ⟨_, rfl⟩
 rw [← hk'] at hw
 refine CW.hide fun R2 hR2 => CW.block (CW.hide fun R3 hR3 => ?_)
 refine CW.seqK fun K hK => CW.region ?_
 simp (maxDischargeDepth := 16) [zY, hr1, hn1, lookA, hg, hw, AV.notTup]
 refine hK _ _ ?_; clear hK K
 rw [hs1]
 have hg2 : (mapGet (.string bB) (mapPut (.string bB) (intV k') nx)).getD (intV 0) = intV k' := by rw [mapGet_put hk.1]; simp
 have hr2 := hr' (mapPut (.string bB) (intV k') nx)
 have hn2 := hn' (mapPut (.string bB) (intV k') nx)
 have hi2 := hi' (mapPut (.string bB) (intV k') nx)
 generalize hσ2 : σ.set m.nid (.map .str (mapPut (.string bB) (intV k') nx)) = σ2 at hr2 hn2 hi2 ⊢
 have hln := Lib.itoa_length_le (k' : Int) (by omega) (by omega)
 have hsz : bB.size + (⟨(Lib.itoa (k' : Int)).toArray⟩ : ByteArray).size ≤ 140737488355328 := by
  have h1 : (⟨(Lib.itoa (k' : Int)).toArray⟩ : ByteArray).size = (Lib.itoa (k' : Int)).length := by show (Lib.itoa (k' : Int)).toArray.size = _; simp
  omega
 have hname := name_app hB k'
 refine CW.seqK fun K hK => CW.region ?_
 simp (maxDischargeDepth := 16) [zY, hr2, hn2, lookA, hg2]
 refine call_itoa H.it H.itb (k' : Int) (by omega) (by omega) fun _ => ?_
 generalize (⟨(Lib.itoa (k' : Int)).toArray⟩ : ByteArray) = qB at *
 simp (maxDischargeDepth := 16) [zY, hsz, hname]
 refine hK _ _ ?_; clear hK K
 generalize hnm : nameN (beginL s) k' = nm at *
 rcases i2.2 nm with ⟨e1, e2⟩ | ⟨e1, e2⟩
 · refine CW.seqK fun K hK => CW.region ?_
   simp (maxDischargeDepth := 16) [zY, hr2, hi2, lookA, e2]
   refine hK _ _ ?_; clear hK K
   refine CW.cond (t := false) (by simp [zT, zF, lk]) ?_
   refine CW.skip (hR3 _ _ _ ?_)
   simp only [outOf]
   have hj' : ∀ j, 1 ≤ j → j ≤ k' → nameN bB.data.toList j ∈ m.u := fun j a b => by
    rcases Nat.lt_or_ge j k' with c | c
    · exact hj j a (by omega)
    · have : j = k' := by omega
      subst this
      rw [hB, hnm]; exact e1
   have hku' := used_le hj'
   exact hR2 _ _ _ ⟨(k', mapPut (.string bB) (intV k') nx), _, _, rfl, by simp [sub, lk], hσ2.symm, ⟨hk.put (fun _ h => h) (Nat.le_refl _) bB k' hj', hg2, hj'⟩, by show m.u.length - k' < m.u.length - k; omega⟩
 · refine CW.seqK fun K hK => CW.region ?_
   simp (maxDischargeDepth := 16) [zY, hr2, hi2, lookA, e2]
   refine hK _ _ ?_; clear hK K
   refine CW.cond (t := true) (by simp [zT, zF, lk]) ?_
   have hj' : ∀ j, 1 ≤ j → j ≤ k' → nameN bB.data.toList j ∈ m.u ++ [nm] := fun j a b => by
    rcases Nat.lt_or_ge j k' with c | c
    · exact List.mem_append_left _ (hj j a (by omega))
    · have : j = k' := by omega
      subst this
      rw [hB, hnm]; simp
   have hfr : freshB m.u s = nm := by
    unfold freshB
    rw [leastN_eq (n := k') (by omega) (by rw [hnm]; exact e1) (fun j a b => by rw [← hB]; exact hj j a (by omega)), hnm]
   refine CW.seqK fun K hK => CW.region ?_
   simp (maxDischargeDepth := 16) [zY]
   have h2 : m.AtV (m.u ++ [nm]) σ2 := by
    refine ⟨hr2, ?_, ⟨is, hi2, i2⟩, ⟨_, hn2, hk.put (fun _ h => List.mem_append_left _ h) (by simp) bB k' hj'⟩, h.ne⟩
    rcases h.t with g | ⟨q, e1, e2⟩
    · exact .inl g
    · refine .inr ⟨q, e1, ?_⟩
      rw [← hσ2, List.getElem?_set_ne (fun e => by rw [← e, n1] at e2; cases e2)]
      exact e2
   refine (use_ev (N := N) H.code H.us H.usb H.usm m [nm] .full σ2 h2 (by simp; omega)).mono ?_
   rintro r σ3 ⟨rfl, tok', g1, g2, g3⟩
   simp (maxDischargeDepth := 16) [zY]
   refine hK _ _ ?_; clear hK K
   refine CW.seqK fun K hK => CW.region ?_
   simp (maxDischargeDepth := 16) [zY]
   refine hK _ _ ?_; clear hK K
   have hll : σ2.length = σ.length := by rw [← hσ2]; simp
   refine CW.ret (hR3 _ _ _ (hR2 _ _ _ (hR _ _ _ (hR0 _ _ _ ⟨.lit (.string nm), by simp [zA, omap, zB, zF, lk], by rw [hfr], tok', by rw [hfr]; exact g1, fun p hp => by rw [← hll]; exact g2 p hp, ⟨by have := g3.len; omega, fun p hp hno => ?_⟩⟩))))
   rw [g3.keep p (by omega) hno, ← hσ2, List.getElem?_set_ne (fun e => hno (.inr (.inr (.inl e.symm))))]
end
end Go.Proofs.YteajcnilihgheaaGreatDoor
