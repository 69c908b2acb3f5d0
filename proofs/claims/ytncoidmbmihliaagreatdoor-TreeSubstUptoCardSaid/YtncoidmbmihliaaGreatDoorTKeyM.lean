/-
 EV: the package term: Key (stub).
-/
import Derived.Test.YtncoidmbmihliaaGreatDoorTr3M
import Derived.Test.YtncoidmbmihliaaGreatDoorStrsM
import Derived.Test.YtncoidmbmihliaaGreatDoorKOfM
namespace Go.Proofs.YtncoidmbmihliaaGreatDoor
set_option maxRecDepth 100000
set_option maxHeartbeats 8000000
set_option linter.unusedSimpArgs false
set_option linter.unusedVariables false
open Go.RowKit
def txtW : List ByteArray → Nat
 | [] => 0
 | x :: l => 1 + x.size + txtW l
theorem txtW_len (l : List ByteArray) : l.length ≤ txtW l := by induction l with | nil => exact Nat.le_refl _ | cons x l ih => simp only [List.length_cons, txtW]; omega
def rgW (k : Int) (dg : List Int) : Nat := if (0 ≤ k ∧ k < 256) ∧ ∀ d ∈ dg, 0 ≤ d ∧ d < 4294967296 then 0 else 10000000000000
mutual
def Trm.w : Trm → Nat
 | .mk k nm ng dg ks => 1 + nm.size + dg.length + trmW ks + rgW k dg
def trmW : List Trm → Nat
 | [] => 0
 | x :: l => x.w + trmW l
end
theorem Trm.w_pos (x : Trm) : 1 ≤ x.w := by obtain ⟨_, _, _, _, _⟩ := x; simp only [Trm.w]; omega
theorem trmW_len (l : List Trm) : l.length ≤ trmW l := by induction l with | nil => exact Nat.le_refl _ | cons x l ih => have := x.w_pos; simp only [List.length_cons, trmW]; omega
theorem trmW_get {l : List Trm} {i : Nat} (h : i < l.length) : l[i].w ≤ trmW l := by
 induction l generalizing i with
 | nil => simp at h
 | cons x l ih =>
  rw [trmW]
  cases i with
  | zero => simp only [List.getElem_cons_zero]; omega
  | succ i => have := ih (i := i) (by simpa using h); simp only [List.getElem_cons_succ]; omega
open Go.Sort
def catB : List ByteArray → List UInt8
 | [] => []
 | s :: l => s.data.toList ++ catB l
theorem catB_take_le : ∀ (l : List ByteArray) (n : Nat), (catB (l.take n)).length ≤ (catB l).length
 | [], n => by simp [catB]
 | s :: l, 0 => by simp [catB]
 | s :: l, n + 1 => by have := catB_take_le l n; simp only [List.take_succ_cons, catB, List.length_append]; omega
theorem catB_get : ∀ {l : List ByteArray} {n : Nat} (h : n < l.length), catB (l.take (n + 1)) = catB (l.take n) ++ l[n].data.toList
 | s :: l, 0, _ => by simp [catB]
 | s :: l, n + 1, h => by
  have := catB_get (l := l) (n := n) (by simpa using h)
  simp only [List.take_succ_cons, catB, List.getElem_cons_succ] at this ⊢
  rw [this, List.append_assoc]
theorem BldF.app {X : Nat → Prop} {σ : Sto} {id : Nat} {T : TypeId} {l : List UInt8} (h : BldF X σ id T l) (o : AObj) : BldF (fun p => X p ∨ p = σ.length) (σ ++ [o]) id T l := by
 rcases h with ⟨h1, h2, h3⟩ | ⟨h1, v, h2, h3⟩
 · exact .inl ⟨h1, h2, (st_old (List.getElem?_eq_some_iff.1 h3).1).trans h3⟩
 · refine .inr ⟨h1, v, (st_old (List.getElem?_eq_some_iff.1 h2).1).trans h2, ?_⟩
   rcases h3 with h3 | ⟨g, g1, g2, g3, g4⟩
   · exact .inl h3
   · have lg : g < σ.length := by rcases g4 with h | h <;> exact (List.getElem?_eq_some_iff.1 h).1
     refine .inr ⟨g, g1, g2, fun h => ?_, ?_⟩
     · rcases h with h | h
       · exact g3 h
       · omega
     · rw [List.getElem?_append_left lg]; exact g4
theorem BldF.less {X Y : Nat → Prop} {σ : Sto} {id : Nat} {T : TypeId} {l : List UInt8} (h : BldF Y σ id T l) (hXY : ∀ p, X p → Y p) : BldF X σ id T l := by
 rcases h with h | ⟨h1, v, h2, h3⟩
 · exact .inl h
 · refine .inr ⟨h1, v, h2, ?_⟩
   rcases h3 with h3 | ⟨g, g1, g2, g3, g4⟩
   · exact .inl h3
   · exact .inr ⟨g, g1, g2, fun h => g3 (hXY _ h), g4⟩
theorem BldF.appX {X : Nat → Prop} {σ : Sto} {id : Nat} {T : TypeId} {l : List UInt8} (h : BldF X σ id T l) (o : AObj) : BldF X (σ ++ [o]) id T l := (h.app o).less fun _ h => .inl h
theorem BldF.lt {X : Nat → Prop} {σ : Sto} {id : Nat} {T : TypeId} {l : List UInt8} (h : BldF X σ id T l) : id < σ.length := by
 rcases h with ⟨h1, h2, h3⟩ | ⟨h1, v, h2, h3⟩
 · exact (List.getElem?_eq_some_iff.1 h3).1
 · exact (List.getElem?_eq_some_iff.1 h2).1
theorem ExtX.less {X Y : Nat → Prop} {σ σ' : Sto} (h : ExtX Y σ σ') (hXY : ∀ p, X p → Y p) : ExtX X σ σ' := ⟨h.len, fun p hp => h.keep p (hXY p hp)⟩
structure WrH (S : Sp) : Prop extends BldH S where
 pt : S.sp 143 = none
 ptb : S.base 143 = none
 ptm : S.ms 143 = []
 tm : S.sp 126 = none
 tmb : S.base 126 = none
 tmm : S.ms 126 = []
 it : S.sp 144 = none
 itb : S.base 144 = some primItoa
variable {S : Sp} {N : Nat}
theorem call_itoa (H : WrH S) {σ : Sto} {Q : ARes → Sto → Prop} (x : Int) (h0 : -9223372036854775808 ≤ x) (h1 : x ≤ 9223372036854775807) (hq : accW (S.E N) 144 [intV x] σ (.ret (.lit (.string ⟨(Lib.itoa x).toArray⟩))) σ = .lcalls (fun _ => true) → Q (.ret (.lit (.string ⟨(Lib.itoa x).toArray⟩))) σ) : CallW Tryz.prog (S.E N) 144 [intV x] σ Q := by
 have hp : ∀ σ, primItoa [intV x] σ = some (.ret (.lit (.string ⟨(Lib.itoa x).toArray⟩)), σ) := fun σ => by simp [primItoa, h0, h1]
 refine CallW.prim (g := primItoa) (prim_base H.it H.itb) (hp σ) (hq ?_)
 have := accW_loc (E := S.E N) (f := 144) (g := primItoa) (args := [intV x]) (σ := σ) (prim_base H.it H.itb) rfl fun l => hp (σ ++ l)
 rw [kept_self] at this
 exact this
theorem put_ev (H : WrH S) {X : Nat → Prop} {σ : Sto} {id : Nat} {T : TypeId} {l : List UInt8} (h : BldF X σ id T l) (hX : ∀ p, X p → p < σ.length ∧ p ≠ id) (ws : List ByteArray) (tok : Tok) (hlen : l.length + (catB ws).length ≤ 140737488355328) (hw : ws.length ≤ 1000000000) :
    CallW Tryz.prog (S.E N) 143 [.ptr id 0, .sl (txtR ws) tok] σ fun r σ' => r = .ret (.tup []) ∧ BldF X σ' id T (l ++ catB ws) ∧ ExtX X σ σ' := by
 refine CallW.startF (fn := Tryz.f143) (prim_none H.pt H.ptb) (codeOf H.code Tryz.func143 rfl (by kernel_rfl)) rfl H.ptm rfl (zL rfl) fun tm => ?_
 refine CW.hide fun R0 hR0 => ?_
 refine CW.seqK fun K hK => CW.region ?_
 simp (maxDischargeDepth := 16) [zY]
 refine hK _ _ ?_; clear hK K
 refine CW.block (CW.hide fun R hR => ?_)
 refine CW.loopF (fun p : Nat × Sto => [(0, .ptr id 0), (6, .sl (txtR ws) tok), (7, intV ws.length), (8, intV p.1)]) (fun p => p.2) (fun p => p.1 ≤ ws.length ∧ BldF X p.2 id T (l ++ catB (ws.take p.1)) ∧ ExtX X σ p.2) (fun p => ws.length - p.1) (0, σ) (by simp [sub, lk]) rfl ⟨by simp, by simpa [catB] using h, .refl σ⟩ ?_
 rintro ⟨i, σ1⟩ tm ⟨hi, hb, hx⟩
 dsimp only at hi hb hx ⊢
 refine CW.hide fun R2 hR2 => CW.seqK fun K4 hK4 => CW.region ?_
 rcases Nat.lt_or_ge i ws.length with hlt | hge
 · simp (maxDischargeDepth := 16) [zY, hlt]
   refine hK4 _ _ ?_
   refine CW.seqK fun K3 hK3 => ?_
   refine CW.cond (t := true) (by simp [zT, zF, lk]) ?_
   refine CW.skip (hK3 _ _ ?_)
   refine CW.seqK fun K5 hK5 => CW.block ?_
   have ha := txtR_get hlt
   have hct := catB_get hlt
   have hct2 := catB_take_le ws (i + 1)
   rw [hct, List.length_append] at hct2
   have hsz : ws[i].data.toList.length = ws[i].size := by rw [Array.length_toList]; rfl
   refine CW.seqK fun K hK => CW.region ?_
   simp (maxDischargeDepth := 16) [zY, ha]
   refine hK _ _ ?_; clear hK K
   refine CW.region ?_
   simp (maxDischargeDepth := 16) [zY]
   refine (write_ev (N := N) H.toBldH hb (fun p hp => ⟨Nat.lt_of_lt_of_le (hX p hp).1 hx.len, (hX p hp).2⟩) ws[i] (by rw [List.length_append]; omega)).mono ?_
   rintro r σ2 ⟨⟨v, rfl⟩, hb2, hx2⟩
   simp (maxDischargeDepth := 16) [zY]
   refine hK5 _ _ ?_
   refine CW.region ?_
   simp (maxDischargeDepth := 16) [zY, wrap_succ (show i ≤ 1000000000000 by omega)]
   exact hR2 _ _ _ ⟨(i + 1, σ2), _, _, rfl, by simp [sub, lk], rfl, ⟨by show i + 1 ≤ ws.length; omega, by show BldF X σ2 id T (l ++ catB (ws.take (i + 1))); rw [hct, ← List.append_assoc]; exact .inr hb2, hx.trans hx2⟩, by show ws.length - (i + 1) < ws.length - i; omega⟩
 · simp (maxDischargeDepth := 16) [zY, Nat.not_lt.2 hge]
   refine hK4 _ _ ?_
   refine CW.seqK fun K3 hK3 => ?_
   refine CW.cond (t := false) (by simp [zT, zF, lk]) ?_
   refine CW.exit (hR2 _ _ _ (hR _ _ _ ?_))
   simp only [outOf, if_true]
   refine hR0 _ _ _ ⟨.tup [], by simp [zA, omap], rfl, ?_, hx⟩
   rw [List.take_of_length_le hge] at hb
   exact hb
abbrev wr64 (x : Int) : Int := IntKind.i64.wrap x
def dgL : List Int → List UInt8
 | [] => []
 | d :: l => Lib.itoa (IntKind.i64.wrap d) ++ [46] ++ dgL l
mutual
def keyL : Trm → List UInt8
 | .mk k nm ng dg ks => (Lib.itoa (IntKind.i64.wrap k) ++ ([32] ++ (Lib.itoa nm.size ++ ([58] ++ (nm.data.toList ++ [32]))))) ++ (if ng then [45] else []) ++ dgL dg ++ ([32] ++ (Lib.itoa ks.length ++ [59])) ++ keysL ks
def keysL : List Trm → List UInt8
 | [] => []
 | t :: l => keyL t ++ keysL l
end
theorem itoa_len (x : Int) (h0 : -9223372036854775808 ≤ x) (h1 : x ≤ 9223372036854775807) : (Lib.itoa x).length ≤ 21 := by
 have key : ∀ n : Nat, n < 18446744073709551616 → (Lib.decDigits n).length ≤ 20 := by
  intro n hn
  rw [Lib.decDigits_length]
  rcases Nat.eq_zero_or_pos n with h | h
  · subst h; rw [Lib.nDigits]; simp
  · have := Lib.numDigits_eq n h hn
    split at this <;> omega
 unfold Lib.itoa
 split
 · have := key x.natAbs (by omega); simp; omega
 · have := key x.toNat (by omega); omega
theorem wr_range (x : Int) : -9223372036854775808 ≤ wr64 x ∧ wr64 x ≤ 9223372036854775807 := by
 have := IntKind.wrap_i64 x
 unfold wr64
 rw [this]
 omega
theorem dgL_len : ∀ l : List Int, (dgL l).length ≤ 22 * l.length
 | [] => by simp [dgL]
 | d :: l => by
  have := dgL_len l
  have : (Lib.itoa (IntKind.i64.wrap d)).length ≤ 21 := itoa_len _ (wr_range d).1 (wr_range d).2
  simp only [dgL, List.length_append, List.length_cons, List.length_nil] at *
  omega
theorem dgL_app : ∀ a b : List Int, dgL (a ++ b) = dgL a ++ dgL b
 | [], b => rfl
 | s :: a, b => by rw [List.cons_append, dgL, dgL, dgL_app a b]; simp
theorem keysL_app : ∀ a b : List Trm, keysL (a ++ b) = keysL a ++ keysL b
 | [], b => by simp [keysL]
 | s :: a, b => by rw [List.cons_append, keysL, keysL, keysL_app a b]; simp
mutual
theorem keyL_len : ∀ t : Trm, t.w ≤ 1000000000000 → (keyL t).length ≤ 100 * t.w
 | .mk k nm ng dg ks, h => by
  simp only [Trm.w] at h
  have h1 : (Lib.itoa (IntKind.i64.wrap k)).length ≤ 21 := itoa_len _ (wr_range k).1 (wr_range k).2
  have h2 := itoa_len nm.size (by omega) (by omega)
  have h4 := trmW_len ks
  have h3 := itoa_len ks.length (by omega) (by omega)
  have h5 := dgL_len dg
  have h6 := keysL_len ks (by omega)
  have h7 : nm.data.toList.length = nm.size := by rw [Array.length_toList]; rfl
  have h8 : (if ng = true then [(45 : UInt8)] else []).length ≤ 1 := by split <;> simp
  simp only [keyL, Trm.w, List.length_append, List.length_cons, List.length_nil] at *
  omega
theorem keysL_len : ∀ l : List Trm, trmW l ≤ 1000000000000 → (keysL l).length ≤ 100 * trmW l
 | [], _ => by simp [keysL]
 | t :: l, h => by
  simp only [trmW] at h
  have h1 := keyL_len t (by omega)
  have h2 := keysL_len l (by omega)
  simp only [keysL, trmW, List.length_append]
  omega
end
theorem keysL_take_le : ∀ (l : List Trm) (n : Nat), (keysL (l.take n)).length ≤ (keysL l).length
 | [], n => by simp [keysL]
 | s :: l, 0 => by simp [keysL]
 | s :: l, n + 1 => by have := keysL_take_le l n; simp only [List.take_succ_cons, keysL, List.length_append]; omega
theorem dgL_take_le : ∀ (l : List Int) (n : Nat), (dgL (l.take n)).length ≤ (dgL l).length
 | [], n => by simp [dgL]
 | s :: l, 0 => by simp [dgL]
 | s :: l, n + 1 => by have := dgL_take_le l n; simp only [List.take_succ_cons, dgL, List.length_append]; omega
abbrev strB (l : List UInt8) : ByteArray := ⟨l.toArray⟩
structure KSt (X : Nat → Prop) (σ : Sto) (bx : AObj) (id : Nat) (T : TypeId) (l : List UInt8) (σ1 : Sto) (m : List UInt8) : Prop where
 b : BldF (fun p => X p ∨ p = σ.length) σ1 id T (l ++ m)
 x : ExtX (fun p => X p ∨ p = σ.length) (σ ++ [bx]) σ1
 hX : ∀ p, X p → p < σ.length ∧ p ≠ id
 hid : id < σ.length
theorem KSt.get {X : Nat → Prop} {σ : Sto} {bx : AObj} {id : Nat} {T : TypeId} {l : List UInt8} {σ1 : Sto} {m : List UInt8} (s : KSt X σ bx id T l σ1 m) : σ1[σ.length]? = some bx := (s.x.keep _ (.inr rfl)).trans (by simp)
theorem KSt.lt {X : Nat → Prop} {σ : Sto} {bx : AObj} {id : Nat} {T : TypeId} {l : List UInt8} {σ1 : Sto} {m : List UInt8} (s : KSt X σ bx id T l σ1 m) : σ.length < σ1.length := by have := s.x.len; simp at this; omega
theorem KSt.hXX {X : Nat → Prop} {σ : Sto} {bx : AObj} {id : Nat} {T : TypeId} {l : List UInt8} {σ1 : Sto} {m : List UInt8} (s : KSt X σ bx id T l σ1 m) : ∀ p, (X p ∨ p = σ.length) → p < σ1.length ∧ p ≠ id := fun p hp => by
 have h1 := s.lt
 have h2 := s.hid
 rcases hp with hp | hp
 · have := s.hX p hp; exact ⟨by omega, this.2⟩
 · subst hp; exact ⟨by omega, by omega⟩
theorem put_k (H : WrH S) {X : Nat → Prop} {σ : Sto} {bx : AObj} {id : Nat} {T : TypeId} {l : List UInt8} {σ1 : Sto} {m : List UInt8} (s : KSt X σ bx id T l σ1 m) (ws : List ByteArray) (tok : Tok) (hw : ws.length ≤ 1000000000) (hlen : l.length + m.length + (catB ws).length ≤ 140737488355328) :
    CallW Tryz.prog (S.E N) 143 [.ptr id 0, .sl (txtR ws) tok] σ1 fun r σ2 => r = .ret (.tup []) ∧ KSt X σ bx id T l σ2 (m ++ catB ws) := by
 refine (put_ev (N := N) H s.b s.hXX ws tok (by rw [List.length_append]; omega) hw).mono ?_
 rintro r σ2 ⟨h1, h2, h3⟩
 exact ⟨h1, by rw [← List.append_assoc]; exact h2, s.x.trans h3, s.hX, s.hid⟩
theorem wterm_ev (H : WrH S) : ∀ (n : Nat) (t : Trm), t.w ≤ n → ∀ {X : Nat → Prop} {σ : Sto} {id : Nat} {T : TypeId} {l : List UInt8}, BldF X σ id T l → (∀ p, X p → p < σ.length ∧ p ≠ id) → t.w ≤ 1000000000000 → l.length + (keyL t).length ≤ 140737488355328 →
    CallW Tryz.prog (S.E N) 126 [.ptr id 0, .agg t.cs] σ fun r σ' => r = .ret (.tup []) ∧ BldF X σ' id T (l ++ keyL t) ∧ ExtX X σ σ' := by
 intro n
 induction n with
 | zero => intro t ht; have := t.w_pos; omega
 | succ n ih =>
 rintro ⟨k, nm, ng, dg, ks⟩ ht X σ id T l h hX hw hlen
 simp only [Trm.w] at ht hw
 have hkw := trmW_len ks
 refine CallW.startF (fn := Tryz.f126) (prim_none H.tm H.tmb) (codeOf H.code Tryz.func126 rfl (by kernel_rfl)) rfl H.tmm rfl (zL rfl) fun tm => ?_
 refine CW.hide fun R0 hR0 => ?_
 simp only [Trm.cs]
 simp only [keyL, List.length_append] at hlen ⊢
 have s0 : KSt X σ (.cells [.lit (.int .u8 k), .lit (.string nm), .lit (.bool ng), .sl (limR dg) .no, .sl (trmR ks) .no] 54) id T l (σ ++ [.cells [.lit (.int .u8 k), .lit (.string nm), .lit (.bool ng), .sl (limR dg) .no, .sl (trmR ks) .no] 54]) [] := ⟨by simpa using h.app _, .refl _, hX, h.lt⟩
 refine CW.seqK fun K hK => CW.region ?_
 simp (maxDischargeDepth := 16) [zY]
 refine hK _ _ ?_; clear hK K
 refine CW.seqK fun K hK => CW.draw (by kernel_rfl) ?_
 simp (maxDischargeDepth := 16) [zY]
 refine call_itoa H (wr64 k) (wr_range k).1 (wr_range k).2 fun ha1 => ?_
 simp (maxDischargeDepth := 16) [zY, ha1]
 refine call_itoa H nm.size (by omega) (by omega) fun ha2 => ?_
 simp (maxDischargeDepth := 16) [zY, ha2]
 have hnl : nm.data.toList.length = nm.size := by rw [Array.length_toList]; rfl
 simp only [wr64, List.length_cons, List.length_nil] at hlen ⊢
 refine (put_k (N := N) H s0 [strB (Lib.itoa (IntKind.i64.wrap k)), ⟨#[32]⟩, strB (Lib.itoa nm.size), ⟨#[58]⟩, nm, ⟨#[32]⟩] .full (by simp) (by simp only [catB, List.length_append, List.length_cons, List.length_nil]; omega)).mono ?_
 rintro r σ1 ⟨rfl, s1⟩
 simp (maxDischargeDepth := 16) [zY]
 refine ⟨by kernel_rfl, hK _ _ ?_⟩; clear hK K
 have hA1 : catB [strB (Lib.itoa (IntKind.i64.wrap k)), ⟨#[32]⟩, strB (Lib.itoa nm.size), ⟨#[58]⟩, nm, ⟨#[32]⟩] = Lib.itoa (IntKind.i64.wrap k) ++ ([32] ++ (Lib.itoa nm.size ++ ([58] ++ (nm.data.toList ++ [32])))) := by simp [catB]
 rw [List.nil_append, hA1] at s1
 have hA2 : (Lib.itoa (IntKind.i64.wrap k) ++ ([32] ++ (Lib.itoa nm.size ++ ([58] ++ (nm.data.toList ++ [32]))))).length = (Lib.itoa (IntKind.i64.wrap k)).length + (1 + ((Lib.itoa nm.size).length + (1 + (nm.data.toList.length + 1)))) := by simp only [List.length_append, List.length_cons, List.length_nil]
 generalize hE1 : (Lib.itoa (IntKind.i64.wrap k) ++ ([32] ++ (Lib.itoa nm.size ++ ([58] ++ (nm.data.toList ++ [32]))))) = A1 at s1 hA2 ⊢
 clear ha1 ha2 hA1 s0
 have hlen2 : l.length + A1.length + (if ng = true then [(45 : UInt8)] else []).length + (dgL dg).length + (1 + ((Lib.itoa ks.length).length + 1)) + (keysL ks).length ≤ 140737488355328 := by omega
 clear hlen hA2
 generalize hA2 : (if ng = true then [(45 : UInt8)] else []) = A2 at hlen2 ⊢
 -- the sign
 refine CW.seqK fun K hK => ?_
 have key : ∀ (σ2 : Sto) (fr : List (Nat × AV)) (tm : List AV), KSt X σ (.cells [.lit (.int .u8 k), .lit (.string nm), .lit (.bool ng), .sl (limR dg) .no, .sl (trmR ks) .no] 54) id T l σ2 (A1 ++ A2) → sub [(0, .ptr id 0), (3, .ptr σ.length 0)] fr → K (fm 60 fr tm) σ2 := by
  intro σ2 fr tm s2 hfr
  rw [fm_sub hfr]
  refine hK _ _ ?_; clear hK K
  have g2 := s2.get
  have hA3 : (A1 ++ A2).length = A1.length + A2.length := List.length_append
  generalize hE2 : A1 ++ A2 = B2 at s2 hA3 ⊢
  refine CW.seqK fun K hK => ?_
  have key2 : ∀ (σ3 : Sto) (fr : List (Nat × AV)) (tm : List AV), KSt X σ (.cells [.lit (.int .u8 k), .lit (.string nm), .lit (.bool ng), .sl (limR dg) .no, .sl (trmR ks) .no] 54) id T l σ3 (B2 ++ dgL dg) → sub [(0, .ptr id 0), (3, .ptr σ.length 0)] fr → K (fm 60 fr tm) σ3 := by
   intro σ3 fr tm s3 hfr
   rw [fm_sub hfr]
   refine hK _ _ ?_; clear hK K
   have g3 := s3.get
   have hA4 : (B2 ++ dgL dg).length = B2.length + (dgL dg).length := List.length_append
   generalize hE3 : B2 ++ dgL dg = B3 at s3 hA4 ⊢
   refine CW.seqK fun K hK => CW.region ?_
   simp (maxDischargeDepth := 16) [zY, g3]
   refine call_itoa H ks.length (by omega) (by omega) fun ha1 => ?_
   simp (maxDischargeDepth := 16) [zY]
   refine (put_k (N := N) H s3 [⟨#[32]⟩, strB (Lib.itoa ks.length), ⟨#[59]⟩] .full (by simp) (by simp only [catB, List.length_append, List.length_cons, List.length_nil]; omega)).mono ?_
   rintro r σ4 ⟨rfl, s4⟩
   simp (maxDischargeDepth := 16) [zY]
   refine hK _ _ ?_; clear hK K
   have hA5 : catB [⟨#[32]⟩, strB (Lib.itoa ks.length), ⟨#[59]⟩] = [32] ++ (Lib.itoa ks.length ++ [59]) := by simp [catB]
   rw [hA5] at s4
   have hA6 : (B3 ++ ([32] ++ (Lib.itoa ks.length ++ [59]))).length = B3.length + (1 + ((Lib.itoa ks.length).length + 1)) := by simp only [List.length_append, List.length_cons, List.length_nil]
   generalize hE4 : B3 ++ ([32] ++ (Lib.itoa ks.length ++ [59])) = B4 at s4 hA6 ⊢
   have g4 := s4.get
   refine CW.seqK fun K hK => CW.region ?_
   simp (maxDischargeDepth := 16) [zY, g4]
   refine hK _ _ ?_; clear hK K
   refine CW.block (CW.hide fun R hR => ?_)
   refine CW.loopF (fun p : Nat × Sto => [(0, .ptr id 0), (50, .sl (trmR ks) .no), (51, intV ks.length), (52, intV p.1)]) (fun p => p.2) (fun p => p.1 ≤ ks.length ∧ KSt X σ (.cells [.lit (.int .u8 k), .lit (.string nm), .lit (.bool ng), .sl (limR dg) .no, .sl (trmR ks) .no] 54) id T l p.2 (B4 ++ keysL (ks.take p.1))) (fun p => ks.length - p.1) (0, σ4) (by simp [sub, lk]) rfl ⟨by simp, by simpa [keysL] using s4⟩ ?_
   rintro ⟨i, σ5⟩ tm ⟨hi, s5⟩
   dsimp only at hi s5 ⊢
   refine CW.hide fun R2 hR2 => CW.seqK fun K4 hK4 => CW.region ?_
   rcases Nat.lt_or_ge i ks.length with hlt | hge
   · simp (maxDischargeDepth := 16) [zY, hlt]
     refine hK4 _ _ ?_
     refine CW.seqK fun K3 hK3 => ?_
     refine CW.cond (t := true) (by simp [zT, zF, lk]) ?_
     refine CW.skip (hK3 _ _ ?_)
     refine CW.seqK fun K5 hK5 => CW.block ?_
     have ha := trmR_get hlt
     have hgw := trmW_get hlt
     have hkt : keysL (ks.take (i + 1)) = keysL (ks.take i) ++ keyL ks[i] := by rw [List.take_succ_eq_append_getElem hlt, keysL_app]; simp [keysL]
     have hkl := keysL_take_le ks (i + 1)
     rw [hkt, List.length_append] at hkl
     refine CW.seqK fun K hK => CW.region ?_
     simp (maxDischargeDepth := 16) [zY, ha, Trm.len, Trm.tk, Trm.put]
     refine hK _ _ ?_; clear hK K
     refine CW.region ?_
     simp (maxDischargeDepth := 16) [zY, Trm.len, Trm.tk]
     refine (ih ks[i] (by omega) (s5.b.appX _) (fun p hp => ⟨by have := (s5.hXX p hp).1; simp; omega, (s5.hXX p hp).2⟩) (by omega) (by rw [List.length_append, List.length_append]; omega)).mono ?_
     rintro r σ6 ⟨rfl, hb6, hx6⟩
     simp (maxDischargeDepth := 16) [zY]
     refine hK5 _ _ ?_
     refine CW.region ?_
     simp (maxDischargeDepth := 16) [zY, wrap_succ (show i ≤ 1000000000000 by omega)]
     refine hR2 _ _ _ ⟨(i + 1, σ6), _, _, rfl, by simp [sub, lk], rfl, ⟨by show i + 1 ≤ ks.length; omega, ?_⟩, by show ks.length - (i + 1) < ks.length - i; omega⟩
     refine ⟨by show BldF _ σ6 id T (l ++ (B4 ++ keysL (ks.take (i + 1)))); rw [hkt, ← List.append_assoc B4, ← List.append_assoc l]; exact hb6, ?_, s5.hX, s5.hid⟩
     exact s5.x.trans (((ExtX.refl σ5).push (fun p hp => (s5.hXX p hp).1) _).trans hx6)
   · simp (maxDischargeDepth := 16) [zY, Nat.not_lt.2 hge]
     refine hK4 _ _ ?_
     refine CW.seqK fun K3 hK3 => ?_
     refine CW.cond (t := false) (by simp [zT, zF, lk]) ?_
     refine CW.exit (hR2 _ _ _ (hR _ _ _ ?_))
     simp only [outOf, if_true]
     rw [List.take_of_length_le hge] at s5
     have hk2 : keyL (.mk k nm ng dg ks) = B4 ++ keysL ks := by rw [← hE4, ← hE3, ← hE2, ← hE1, ← hA2]; simp [keyL]
     refine hR0 _ _ _ ⟨.tup [], by simp [zA, omap], rfl, ?_, ?_⟩
     · rw [hk2]; exact s5.b.less fun _ h => .inl h
     · exact ((ExtX.refl σ).push (fun p hp => (hX p hp).1) _).trans (s5.x.less fun _ h => .inl h)
  -- the digits
  refine CW.seqK fun K hK => CW.region ?_
  simp (maxDischargeDepth := 16) [zY, g2]
  refine hK _ _ ?_; clear hK K
  refine CW.block (CW.hide fun R hR => ?_)
  refine CW.loopF (fun p : Nat × Sto => [(0, .ptr id 0), (3, .ptr σ.length 0), (29, .sl (limR dg) .no), (30, intV dg.length), (31, intV p.1)]) (fun p => p.2) (fun p => p.1 ≤ dg.length ∧ KSt X σ (.cells [.lit (.int .u8 k), .lit (.string nm), .lit (.bool ng), .sl (limR dg) .no, .sl (trmR ks) .no] 54) id T l p.2 (B2 ++ dgL (dg.take p.1))) (fun p => dg.length - p.1) (0, σ2) (by simp [sub, lk]) rfl ⟨by simp, by simpa [dgL] using s2⟩ ?_
  rintro ⟨i, σ5⟩ tm ⟨hi, s5⟩
  dsimp only at hi s5 ⊢
  refine CW.hide fun R2 hR2 => CW.seqK fun K4 hK4 => CW.region ?_
  rcases Nat.lt_or_ge i dg.length with hlt | hge
  · simp (maxDischargeDepth := 16) [zY, hlt]
    refine hK4 _ _ ?_
    refine CW.seqK fun K3 hK3 => ?_
    refine CW.cond (t := true) (by simp [zT, zF, lk]) ?_
    refine CW.skip (hK3 _ _ ?_)
    refine CW.seqK fun K5 hK5 => CW.block ?_
    have ha := limR_get hlt
    have hkt : dgL (dg.take (i + 1)) = dgL (dg.take i) ++ (Lib.itoa (IntKind.i64.wrap dg[i]) ++ [46]) := by rw [List.take_succ_eq_append_getElem hlt, dgL_app]; simp [dgL]
    have hkl := dgL_take_le dg (i + 1)
    rw [hkt, List.length_append, List.length_append, List.length_cons, List.length_nil] at hkl
    refine CW.seqK fun K hK => CW.region ?_
    simp (maxDischargeDepth := 16) [zY, ha]
    refine hK _ _ ?_; clear hK K
    refine CW.region ?_
    simp (maxDischargeDepth := 16) [zY]
    refine call_itoa H (wr64 dg[i]) (wr_range _).1 (wr_range _).2 fun ha1 => ?_
    simp (maxDischargeDepth := 16) [zY]
    refine (put_k (N := N) H s5 [strB (Lib.itoa (IntKind.i64.wrap dg[i])), ⟨#[46]⟩] .full (by simp) (by simp only [catB, List.length_append, List.length_cons, List.length_nil]; omega)).mono ?_
    rintro r σ6 ⟨rfl, s6⟩
    simp (maxDischargeDepth := 16) [zY]
    refine hK5 _ _ ?_
    refine CW.region ?_
    simp (maxDischargeDepth := 16) [zY, wrap_succ (show i ≤ 1000000000000 by omega)]
    refine hR2 _ _ _ ⟨(i + 1, σ6), _, _, rfl, by simp [sub, lk], rfl, ⟨by show i + 1 ≤ dg.length; omega, ?_⟩, by show dg.length - (i + 1) < dg.length - i; omega⟩
    show KSt _ _ _ _ _ _ σ6 (B2 ++ dgL (dg.take (i + 1)))
    have hc2 : catB [strB (Lib.itoa (IntKind.i64.wrap dg[i])), ⟨#[46]⟩] = Lib.itoa (IntKind.i64.wrap dg[i]) ++ [46] := by simp [catB]
    rw [hkt, ← List.append_assoc, ← hc2]
    exact s6
  · simp (maxDischargeDepth := 16) [zY, Nat.not_lt.2 hge]
    refine hK4 _ _ ?_
    refine CW.seqK fun K3 hK3 => ?_
    refine CW.cond (t := false) (by simp [zT, zF, lk]) ?_
    refine CW.exit (hR2 _ _ _ (hR _ _ _ ?_))
    simp only [outOf, if_true]
    rw [List.take_of_length_le hge] at s5
    exact key2 _ _ _ s5 (by simp [sub, lk])
 -- the sign's walk
 have g1 := s1.get
 refine CW.seqK fun K hK => CW.region ?_
 simp (maxDischargeDepth := 16) [zY, g1]
 refine hK _ _ ?_; clear hK K
 cases ng with
 | true =>
  refine CW.cond (t := true) (by simp [zT, zF, lk]) ?_
  refine CW.region ?_
  simp (maxDischargeDepth := 16) [zY]
  refine (put_k (N := N) H s1 [⟨#[45]⟩] .full (by simp) (by simp only [catB, List.length_append, List.length_cons, List.length_nil, ← hA2] at *; simp at hlen2 ⊢; omega)).mono ?_
  rintro r σ4 ⟨rfl, s4⟩
  simp (maxDischargeDepth := 16) [zY]
  refine key _ _ _ ?_ (by simp [sub, lk])
  rw [← hA2]
  simpa [catB] using s4
 | false =>
  refine CW.cond (t := false) (by simp [zT, zF, lk]) ?_
  refine CW.skip (key _ _ _ ?_ (by simp [sub, lk]))
  rw [← hA2]
  simpa using s1
noncomputable def keyT (t : Trm) : ByteArray := strB (keyL t)
abbrev keyF : FS := smF (fun t : Trm => [.agg t.cs]) (fun t => .lit (.string (strB (keyL t)))) (fun t => t.w ≤ 1000000000000) Trm.w 1
theorem keyL_ne (t : Trm) : keyL t ≠ [] := by
 obtain ⟨k, nm, ng, dg, ks⟩ := t
 simp [keyL]
theorem Key_w (H : WrH S) (hm : S.ms 112 = []) : SmOk Tryz.prog S N 112 (fun t : Trm => [.agg t.cs]) (fun t => .lit (.string (strB (keyL t)))) (fun t => t.w ≤ 1000000000000) Trm.w 1 := by
 intro t σ hw hN
 have hl := keyL_len t hw
 refine JC.startF (fn := Tryz.f112) (codeOf H.code Tryz.func112 rfl (by kernel_rfl)) rfl hm rfl (zL rfl) fun tm => ?_
 refine CW.hide fun R0 hR0 => ?_
 refine CW.seqK fun K hK => CW.region ?_
 simp (maxDischargeDepth := 16) [zY]
 refine hK _ _ ?_; clear hK K
 refine CW.seqK fun K hK => CW.region ?_
 simp (maxDischargeDepth := 16) [zY]
 refine hK _ _ ?_; clear hK K
 refine CW.seqK fun K hK => CW.region ?_
 simp (maxDischargeDepth := 16) [zY, Trm.len, Trm.tk]
 refine (wterm_ev (N := N) H t.w t (Nat.le_refl _) (X := fun p => p < σ.length) (σ := σ ++ [.cells t.cs 54, .cells [.lit (.pointer none), .sl [] .full] 172]) (id := σ.length + 1) (T := 172) (l := []) (.inl ⟨rfl, rfl, by simp [zF]⟩) (fun p hp => ⟨by simp; omega, by omega⟩) hw (by simp; omega)).mono ?_
 rintro r σ1 ⟨rfl, hb, hx⟩
 simp (maxDischargeDepth := 16) [zY]
 refine hK _ _ ?_; clear hK K
 rw [List.nil_append] at hb
 rcases hb with ⟨_, h, _⟩ | hb
 · exact absurd h (keyL_ne t)
 refine CW.seqK fun K hK => CW.region ?_
 simp (maxDischargeDepth := 16) [zY]
 refine (string_ev (N := N) H.toBldH hb (keyL_ne t) (by omega)).mono ?_
 rintro r σ2 ⟨rfl, hb2, hx2⟩
 simp (maxDischargeDepth := 16) [zY]
 refine hK _ _ (CW.ret (hR0 _ _ _ ⟨.lit (.string (strB (keyL t))), by simp [zA, omap, zB, zF, lk], ?_⟩))
 have hx3 := hx.trans hx2
 have hext : Ext σ σ2 := by
  have h1 := hx3.len
  refine ⟨σ2.drop σ.length, ?_⟩
  refine List.ext_getElem? fun i => ?_
  rcases Nat.lt_or_ge i σ.length with hi | hi
  · rw [hx3.keep i hi, List.getElem?_append_left hi, List.getElem?_append_left hi]
  · rw [List.getElem?_append_right hi, List.getElem?_drop, Nat.add_sub_cancel' hi]
 exact Fgt.pure hext (Frz.nrm rfl)
end Go.Proofs.YtncoidmbmihliaaGreatDoor
