/-
 EV: FUNCTIONS TAKEN ON THEIR CONTRACT, where the contract is a relation; what they made is forgotten.
-/
import Derived.Test.YtncoidmbmihliaaGreatDoorEvChM
import Derived.Test.YtncoidmbmihliaaGreatDoorEvSymM
namespace Go.Proofs.YtncoidmbmihliaaGreatDoor
set_option linter.unusedSimpArgs false
set_option linter.unusedVariables false
section
open Go.RowKit
noncomputable def relPrim (S : List AV → Sto → ARes → Sto → Prop) (args : List AV) (σ : Sto) : Option (ARes × Sto) :=
 @dite _ (∃ p : ARes × Sto, S args σ p.1 p.2) (Classical.propDecidable _) (fun h => some h.choose) fun _ => none
theorem relPrim_spec {S : List AV → Sto → ARes → Sto → Prop} {args : List AV} {σ σ' : Sto} {r : ARes} (h : relPrim S args σ = some (r, σ')) : S args σ r σ' := by
 unfold relPrim at h
 split at h
 · rename_i hx
   have := hx.choose_spec
   rw [Option.some.inj h] at this
   exact this
 · cases h
theorem relPrim_eq {S : List AV → Sto → ARes → Sto → Prop} (hS : ∀ args σ r σ' r2 σ2, S args σ r σ' → S args σ r2 σ2 → r = r2 ∧ σ' = σ2) {args : List AV} {σ σ' : Sto} {r : ARes} (h : S args σ r σ') : relPrim S args σ = some (r, σ') := by
 have hx : ∃ p : ARes × Sto, S args σ p.1 p.2 := ⟨(r, σ'), h⟩
 unfold relPrim
 rw [dif_pos hx]
 obtain ⟨h1, h2⟩ := hS _ _ _ _ _ _ hx.choose_spec h
 congr 1
 exact Prod.ext h1 h2
theorem JC.startW {P : Program} {E : Env} {M : List TypeId} {f : FuncId} {fn : Func} {c : Code} {args : List AV} {σ : Sto} {Q : ARes → Sto → Prop} (hf : E.code f = some fn) (hc : fn.body = some c) (hm : E.ms f = M) (hn : args.length ≤ fn.ntmps)
    (h : ∀ tm : List AV, tm.length = fn.ntmps → (∀ (i : Nat) (d : AV), args[i]? = some d → slot tm i = d) → CW P E M c tm σ (bodyW P fn Q)) : JC P E f args σ Q :=
 JC.start hf hc hm hn fun tm hl hs => J.cw (h tm hl hs)
theorem Fgt.pure {σ σ' : Sto} {v v2 : AV} (hx : Ext σ σ') (hf : Frz σ' σ.length v v2) : Fgt σ (.ret v) σ' (.ret v2) σ := by
 obtain ⟨g, rfl⟩ := hx
 exact ⟨.inl ⟨v, v2, rfl, rfl, hf⟩, rfl, fun id h => List.getElem?_append_left h, fun id o h => .inl h⟩
theorem Fgt.wrote {σ σ' : Sto} {v v2 : AV} {id : Nat} {o o' : AObj} (hx : Ext (σ.set id o) σ') (hid : σ[id]? = some o') (hl : o'.live) (hb : BelO σ.length o) (hf : Frz σ' σ.length v v2) : Fgt σ (.ret v) σ' (.ret v2) (σ.set id o) := by
 obtain ⟨g, rfl⟩ := hx
 refine ⟨.inl ⟨v, v2, rfl, rfl, hf⟩, by simp, fun i h => List.getElem?_append_left (by simpa using h), fun i p h => ?_⟩
 by_cases e : id = i
 · subst e
   rw [List.getElem?_set_self (List.getElem?_eq_some_iff.1 hid).1] at h
   cases h
   exact .inr ⟨⟨o', hid, hl⟩, hb⟩
 · rw [List.getElem?_set_ne e] at h
   exact .inl h
def still : AV → Prop := Bel 0
theorem Bel.mono {n m : Nat} (h : n ≤ m) {d : AV} (hd : Bel n d) : Bel m d := by
 induction hd with
 | lit v => exact .lit v
 | ptr id off hl => exact .ptr id off (by omega)
 | eptr row off _ ih => exact .eptr row off ih
 | sl es tok ht _ ih => exact .sl es tok (by cases tok <;> first | trivial | (have : _ < n := ht; exact Nat.lt_of_lt_of_le this h)) ih
 | asl id off m k hl => exact .asl id off m k (by omega)
 | mp id hl => exact .mp id (by omega)
 | fn f a b _ _ ih1 ih2 => exact .fn f a b ih1 ih2
 | ifc t d _ ih => exact .ifc t d ih
 | agg ds _ ih => exact .agg ds ih
 | tup ds _ ih => exact .tup ds ih
theorem Frz.still {σ : Sto} {n : Nat} {d : AV} (h : Go.Proofs.YtncoidmbmihliaaGreatDoor.still d) : Frz σ n d d := .same d (Bel.mono (Nat.zero_le n) h)
theorem Frz.rows {σ : Sto} {n : Nat} {es : List (List AV)} {tok : Tok} (h : ∀ e ∈ es, ∀ d ∈ e, Go.Proofs.YtncoidmbmihliaaGreatDoor.still d) : Frz σ n (.sl es tok) (.sl es .no) :=
 .sl es es tok rfl (fun i e f he hf => by rw [he] at hf; cases hf; rfl) fun i j e f d d' he hf hd hd' => by
  rw [he] at hf; cases hf
  rw [hd] at hd'; cases hd'
  exact Frz.still (h e (List.mem_of_getElem? he) d (List.mem_of_getElem? hd))
end
section
open Go.RowKit
def lk (i : Nat) : List (Nat × AV) → AV → AV
 | [], d => d
 | p :: l, d => if p.1 = i then p.2 else lk i l d
def pt (d : Nat) (v : AV) : List (Nat × AV) → List (Nat × AV)
 | [] => [(d, v)]
 | p :: l => if p.1 = d then (d, v) :: l else p :: pt d v l
def ov : List (Nat × AV) → List AV → List AV
 | [], tm => tm
 | p :: l, tm => (ov l tm).set p.1 p.2
def fm (n : Nat) (fr : List (Nat × AV)) (tm : List AV) : List AV := ov fr (tm.take n ++ List.replicate (n - tm.length) (.tup []))
def old (n : Nat) (tm : List AV) (i : Nat) : AV := slot (fm n [] tm) i
def sub : List (Nat × AV) → List (Nat × AV) → Prop
 | [], _ => True
 | p :: l, fr => (∀ d, lk p.1 fr d = p.2) ∧ sub l fr
def num (i : Nat) : List AV → List (Nat × AV)
 | [] => []
 | a :: l => (i, a) :: num (i + 1) l
theorem ov_len : ∀ (fr : List (Nat × AV)) (tm : List AV), (ov fr tm).length = tm.length
 | [], _ => rfl
 | p :: l, tm => by rw [ov, List.length_set, ov_len l]
theorem fm_len {n : Nat} {fr : List (Nat × AV)} {tm : List AV} : (fm n fr tm).length = n := by
 unfold fm
 rw [ov_len]
 simp
 omega
theorem ov_slot {i : Nat} : ∀ (fr : List (Nat × AV)) (tm : List AV), i < tm.length → slot (ov fr tm) i = lk i fr (slot tm i)
 | [], _, _ => rfl
 | p :: l, tm, h => by
  rw [ov, lk]
  split
  · rename_i e
    subst e
    exact slot_eq (by rw [ov_len]; exact h)
  · rename_i e
    rw [slot_ne e, ov_slot l tm h]
theorem slot_fm {n i : Nat} {fr : List (Nat × AV)} {tm : List AV} (h : i < n) : slot (fm n fr tm) i = lk i fr (old n tm i) := by
 unfold old fm
 rw [ov_slot _ _ (by simp; omega)]
 rfl
theorem ov_set {d : Nat} {v : AV} : ∀ (fr : List (Nat × AV)) (tm : List AV), (ov fr tm).set d v = ov (pt d v fr) tm
 | [], _ => rfl
 | p :: l, tm => by
  rw [pt]
  split
  · rename_i e
    subst e
    rw [ov, ov, List.set_set]
  · rename_i e
    rw [ov, ov, ← ov_set l tm, List.set_comm _ _ e]
theorem set_fm {n d : Nat} {v : AV} {fr : List (Nat × AV)} {tm : List AV} : (fm n fr tm).set d v = fm n (pt d v fr) tm := ov_set _ _
theorem slot_ext {a b : List AV} (hl : a.length = b.length) (h : ∀ i, i < a.length → slot a i = slot b i) : a = b := by
 refine List.ext_getElem hl fun i h1 h2 => ?_
 have := h i h1
 unfold slot at this
 rw [List.getD_eq_getElem?_getD, List.getD_eq_getElem?_getD, List.getElem?_eq_getElem h1, List.getElem?_eq_getElem h2] at this
 exact this
theorem fm_sub {n : Nat} {l fr : List (Nat × AV)} {tm : List AV} (h : sub l fr) : fm n fr tm = fm n l (fm n fr tm) := by
 refine slot_ext (by rw [fm_len, fm_len]) fun i hi => ?_
 rw [fm_len] at hi
 have e : old n (fm n fr tm) i = slot (fm n fr tm) i := by
  unfold old
  have : fm n [] (fm n fr tm) = fm n fr tm := by
   show (fm n fr tm).take n ++ _ = _
   rw [fm_len, Nat.sub_self, List.take_of_length_le (by rw [fm_len]; exact Nat.le_refl _)]
   simp
  rw [this]
 rw [slot_fm hi, slot_fm hi (fr := l), e, slot_fm hi]
 clear e
 induction l with
 | nil => rfl
 | cons p l ih =>
  rw [lk]
  split
  · rename_i e
    subst e
    exact h.1 _
  · exact ih h.2
theorem lk_none {i : Nat} : ∀ {fr : List (Nat × AV)} {d : AV}, (∀ p ∈ fr, p.1 ≠ i) → lk i fr d = d
 | [], _, _ => rfl
 | p :: l, d, h => by rw [lk, if_neg (h p (by simp)), lk_none fun q hq => h q (by simp [hq])]
def sel (ks : List Nat) : List (Nat × AV) → List (Nat × AV)
 | [] => []
 | p :: l => if ks.contains p.1 then p :: sel ks l else sel ks l
theorem sel_mem {ks : List Nat} : ∀ {fr : List (Nat × AV)} {p : Nat × AV}, p ∈ sel ks fr → ks.contains p.1 = true
 | [], _, h => by cases h
 | q :: l, p, h => by
  rw [sel] at h
  split at h
  · rename_i hq
    rcases List.mem_cons.1 h with rfl | h
    · exact hq
    · exact sel_mem h
  · exact sel_mem h
theorem lk_sel {ks : List Nat} {i : Nat} (hi : ks.contains i = true) : ∀ {fr : List (Nat × AV)} {d : AV}, lk i (sel ks fr) d = lk i fr d
 | [], _ => rfl
 | p :: l, d => by
  rw [sel]
  split
  · rw [lk, lk]; split
    · rfl
    · exact lk_sel hi
  · rename_i h
    rw [lk, if_neg (fun e => h (by rw [e]; exact hi))]
    exact lk_sel hi
theorem fm_sel {n : Nat} (ks : List Nat) {fr : List (Nat × AV)} {tm : List AV} : fm n fr tm = fm n (sel ks fr) (fm n fr tm) := by
 refine slot_ext (by rw [fm_len, fm_len]) fun i hi => ?_
 rw [fm_len] at hi
 have e : old n (fm n fr tm) i = slot (fm n fr tm) i := by
  unfold old
  have : fm n [] (fm n fr tm) = fm n fr tm := by
   show (fm n fr tm).take n ++ _ = _
   rw [fm_len, Nat.sub_self, List.take_of_length_le (by rw [fm_len]; exact Nat.le_refl _)]
   simp
  rw [this]
 rw [slot_fm hi (fr := sel ks fr), e, slot_fm hi]
 cases hk : ks.contains i with
 | true =>
  rw [lk_sel hk]
  clear e
  induction fr with
  | nil => rfl
  | cons p l ih =>
   rw [lk, lk]
   split
   · rfl
   · exact ih
 | false =>
  refine (lk_none (fr := sel ks fr) fun p hp e => ?_).symm
  have := sel_mem hp
  simp only [e, hk] at this
  cases this
theorem num_ov : ∀ (args : List AV) (i : Nat) (tm : List AV) (k : Nat), (∀ (j : Nat) (d : AV), args[j]? = some d → tm[i + j]? = some d) → ov (num i args) tm = tm
 | [], _, _, _, _ => rfl
 | a :: l, i, tm, k, h => by
  rw [num, ov, num_ov l (i + 1) tm k fun j d hd => by rw [show i + 1 + j = i + (j + 1) by omega]; exact h (j + 1) d (by simpa using hd)]
  have h0 := h 0 a (by simp)
  rw [Nat.add_zero] at h0
  refine List.ext_getElem? fun j => ?_
  rw [List.getElem?_set]
  split
  · rename_i e; subst e
    rw [if_pos (List.getElem?_eq_some_iff.1 h0).1, h0]
  · rfl
theorem num_fm {args : List AV} {n : Nat} (h : args.length ≤ n) : args ++ List.replicate (n - args.length) (.tup []) = fm n (num 0 args) args := by
 unfold fm
 rw [List.take_of_length_le h, num_ov args 0 _ 0]
 intro j d hd
 rw [Nat.zero_add, List.getElem?_append_left (List.getElem?_eq_some_iff.1 hd).1, hd]
section
variable {P : Program} {E : Env} {M : List TypeId} {n : Nat} {fr : List (Nat × AV)} {tm : List AV} {σ : Sto} {Q : AExit → List AV → Sto → Prop}
theorem CallW.startF {f : FuncId} {fn : Func} {c : Code} {args : List AV} {Q : ARes → Sto → Prop} (hp : E.prim f = none) (hf : E.code f = some fn) (hc : fn.body = some c) (hm : E.ms f = M) (hk : fn.ntmps = n) (hn : args.length ≤ n)
    (h : ∀ tm : List AV, CW P E M c (fm n (num 0 args) tm) σ (bodyW P fn Q)) : CallW P E f args σ Q :=
 CallW.body hp hf hc (by rw [hk, num_fm hn, hm]; exact h _)
theorem JC.startF {f : FuncId} {fn : Func} {c : Code} {args : List AV} {Q : ARes → Sto → Prop} (hf : E.code f = some fn) (hc : fn.body = some c) (hm : E.ms f = M) (hk : fn.ntmps = n) (hn : args.length ≤ n)
    (h : ∀ tm : List AV, CW P E M c (fm n (num 0 args) tm) σ (bodyW P fn Q)) : JC P E f args σ Q :=
 J.body hf hc (by rw [hk, num_fm hn, hm]; exact J.cw (h _))
theorem JC.startG {f : FuncId} {fn : Func} {c : Code} {args : List AV} {Q : ARes → Sto → Prop} (hf : E.code f = some fn) (hc : fn.body = some c) (hm : E.ms f = M) (hk : fn.ntmps = n) (hn : args.length ≤ n)
    (h : ∀ tm : List AV, JD P E M c (fm n (num 0 args) tm) σ (bodyW P fn Q)) : JC P E f args σ Q :=
 J.body hf hc (by rw [hk, num_fm hn, hm]; exact h _)
theorem CW.keep (ks : List Nat) {c : Code} (h : ∀ tm, CW P E M c (fm n (sel ks fr) tm) σ Q) : CW P E M c (fm n fr tm) σ Q := by
 rw [fm_sel ks]; exact h _
theorem CW.loopF {α : Type} (F : α → List (Nat × AV)) (S : α → Sto) (G : α → Prop) (μ : α → Nat) {c : Code} (a : α) (h0 : sub (F a) fr) (hs : σ = S a) (hg : G a)
    (round : ∀ a tm, G a → CW P E M c (fm n (F a) tm) (S a) (andThen (fun tm1 σ1 => ∃ a' fr' tm', tm1 = fm n fr' tm' ∧ sub (F a') fr' ∧ σ1 = S a' ∧ G a' ∧ μ a' < μ a) Q)) : CW P E M (.loop c) (fm n fr tm) σ Q := by
 refine CW.loopI (fun k tm σ => ∃ a fr' tm', k = μ a ∧ tm = fm n fr' tm' ∧ sub (F a) fr' ∧ σ = S a ∧ G a) ?_ (μ a) _ _ ⟨a, fr, tm, rfl, rfl, h0, hs, hg⟩
 rintro k tm σ ⟨a, fr', tm', rfl, rfl, h1, rfl, h2⟩
 rw [fm_sub h1]
 refine (round a _ h2).mono fun x tm1 σ1 h => ?_
 cases x with
 | normal =>
  obtain ⟨a', fr', tm', e1, e2, e3, e4, e5⟩ := h
  exact ⟨μ a', e5, a', fr', tm', rfl, e1, e2, e3, e4⟩
 | _ => exact h
end
theorem st_get0 {σ l : Sto} {n : Nat} (h : n = σ.length) : (σ ++ l)[n]? = l[0]? := by
 subst h; rw [List.getElem?_append_right (Nat.le_refl _), Nat.sub_self]
theorem st_getk {σ l : Sto} {n k : Nat} (h : n = σ.length) : (σ ++ l)[n + k]? = l[k]? := by
 subst h; rw [List.getElem?_append_right (by omega), Nat.add_sub_cancel_left]
theorem st_old {σ l : Sto} {i : Nat} (h : i < σ.length) : (σ ++ l)[i]? = σ[i]? := List.getElem?_append_left h
theorem st_set0 {σ l : Sto} {n : Nat} {o : AObj} (h : n = σ.length) : (σ ++ l).set n o = σ ++ l.set 0 o := by
 subst h; rw [List.set_append_right _ _ (Nat.le_refl _), Nat.sub_self]
theorem st_setk {σ l : Sto} {n k : Nat} {o : AObj} (h : n = σ.length) : (σ ++ l).set (n + k) o = σ ++ l.set k o := by
 subst h; rw [List.set_append_right _ _ (by omega), Nat.add_sub_cancel_left]
theorem st_setold {σ l : Sto} {i : Nat} {o : AObj} (h : i < σ.length) : (σ ++ l).set i o = σ.set i o ++ l := List.set_append_left _ _ h
theorem st_same {σ : Sto} {i : Nat} {o : AObj} (h : i < σ.length) : (σ.set i o)[i]? = some o := List.getElem?_set_self h
theorem extB_self (σ : Sto) : extB σ σ = true := extB_of ⟨[], by simp⟩
set_option linter.defProp false in
def zF := (And.intro (And.intro @slot_fm @fm_len) (And.intro @set_fm (And.intro @st_get0 (And.intro @st_getk (And.intro @st_set0 @st_setk)))))
section
variable {K : List AV → Sto → Prop} {Q : AExit → List AV → Sto → Prop} {tm : List AV} {σ : Sto}
theorem andThen_n : andThen K Q .normal tm σ = K tm σ := rfl
theorem andThen_r : andThen K Q .ret tm σ = Q .ret tm σ := rfl
theorem andThen_p {v : AV} : andThen K Q (.pan v) tm σ = Q (.pan v) tm σ := rfl
theorem andThen_e {i : Nat} : andThen K Q (.exit i) tm σ = Q (.exit i) tm σ := rfl
theorem outOf_n {i : Nat} : outOf i Q .normal tm σ = Q .normal tm σ := rfl
theorem outOf_r {i : Nat} : outOf i Q .ret tm σ = Q .ret tm σ := rfl
theorem outOf_p {i : Nat} {v : AV} : outOf i Q (.pan v) tm σ = Q (.pan v) tm σ := rfl
theorem outOf_e {i j : Nat} : outOf i Q (.exit j) tm σ = if j = i then Q .normal tm σ else Q (.exit j) tm σ := rfl
theorem retK_r {A B : AV → Sto → Prop} {v : AV} : retK A B (.ret v) σ = A v σ := rfl
theorem retK_p {A B : AV → Sto → Prop} {v : AV} : retK A B (.pan v) σ = B v σ := rfl
end
set_option linter.defProp false in
def zX := And.intro symB (And.intro zF (And.intro (And.intro @lk.eq_1 (And.intro @lk.eq_2 (And.intro @pt.eq_1 (And.intro @pt.eq_2 (And.intro @num.eq_1 @num.eq_2))))) (And.intro (And.intro @sel.eq_1 (And.intro @sel.eq_2 (And.intro @sub.eq_1 (And.intro @sub.eq_2 @extB_self)))) (And.intro (And.intro @andThen_n (And.intro @andThen_r (And.intro @andThen_p @andThen_e))) (And.intro (And.intro @outOf_n (And.intro @outOf_r (And.intro @outOf_p @outOf_e))) (And.intro @retK_r @retK_p))))))
theorem len_setV (l : List AV) (i : Nat) (a : AV) : (l.set i a).length = l.length := List.length_set
theorem len_setO (l : List AObj) (i : Nat) (a : AObj) : (l.set i a).length = l.length := List.length_set
theorem zL {n m : Nat} (h : n.ble m = true) : n ≤ m := Nat.le_of_ble_eq_true h
set_option linter.defProp false in
def zY := And.intro zX (And.intro len_setV len_setO)
def Apd (σ : Sto) (e : TypeId) (m : Nat) (tok : Tok) (g : List AObj) : Prop := (tok = .full ∧ m = 0) ∨ ∃ i, tok = .own (σ.length + i) ∧ g[i]? = some (.tok m e)
theorem Apd.nil (σ : Sto) (e : TypeId) (g : List AObj) : Apd σ e 0 .full g := .inl ⟨rfl, rfl⟩
theorem Apd.push {σ : Sto} {e : TypeId} {m : Nat} {tok : Tok} {g : List AObj} (h : Apd σ e m tok g) (l : List AObj) : Apd σ e m tok (g ++ l) := by
 rcases h with h | ⟨i, h1, h2⟩
 · exact .inl h
 · exact .inr ⟨i, h1, by rw [List.getElem?_append_left (List.getElem?_eq_some_iff.1 h2).1]; exact h2⟩
theorem apdN {P : Program} {M : List TypeId} {σ : Sto} {g : List AObj} {tok : Tok} {t e k by_ : Nat} (es fs : List (List AV)) (hA : Apd σ e (es.length * (k + 1)) tok g) (ht : P.underlying t = some (.slice e)) (hk : szOf P e = some (k + 1)) (hb : bytesOf P e = some by_) (hz : ((P.info? e).bind fun x => x.zero).map (fun z => z.cells.size) = some (k + 1))
    (h1 : es.head?.all (·.length == k + 1) = true) (h2 : fs.head?.all (·.length == k + 1) = true) (hf : fs.length ≠ 0) (hby : (es.length + fs.length) * by_ ≤ 140737488355328) (hle : es.length + fs.length ≤ 140737488355328) (hMt : M.contains t = false := by rfl) :
    ∃ tok' g' acc, Apd σ e ((es.length + fs.length) * (k + 1)) tok' g' ∧ (∀ (ρ : Operand → Option AV) (ds : Option Tmp) (ty : TypeId) (po : String) (af : Array Edge) (gu : Option (Nat × Bool)) (x y : Operand) (tk : Tok), ρ x = some (.sl es tok) → ρ y = some (.sl fs tk) →
     evStep P M ρ (σ ++ g) ⟨ds, .call ⟨.builtin .append, #[x, y], #[t, t]⟩, ty, po, af, gu⟩ = some (.val (.sl (es ++ stripRows fs) tok') (σ ++ g') acc)) ∧ (∀ K, ¬ Acc.lcalls K = acc) ∧ ∀ a, ¬ Acc.reads a = acc := by
 have hap : ∀ (ρ : Operand → Option AV) (ds : Option Tmp) (ty : TypeId) (po : String) (af : Array Edge) (gu : Option (Nat × Bool)) (x y : Operand), ρ x = some (.sl es tok) → evStep P M ρ (σ ++ g) ⟨ds, .call ⟨.builtin .append, #[x, y], #[t, t]⟩, ty, po, af, gu⟩ = evAppend P ρ (σ ++ g) t x y := by
  intro ρ ds ty po af gu x y hx
  have hlit : evLit P ρ (σ ++ g) ⟨ds, .call ⟨.builtin .append, #[x, y], #[t, t]⟩, ty, po, af, gu⟩ = none := by
   unfold evLit
   simp [Op.operands, Call.operands, hx, conc, conc2]
  unfold evStep
  rw [if_neg (by simp only [mutOp, hMt]; exact Bool.false_ne_true), hlit]
  simp [evPure, evMem]
 rcases hA with ⟨rfl, h0⟩ | ⟨i, rfl, hg⟩
 · refine ⟨.own (σ.length + g.length), g ++ [.tok ((es.length + fs.length) * (k + 1)) e], .news (σ ++ g).length, .inr ⟨_, rfl, by simp⟩, fun ρ ds ty po af gu x y tk hx hy => ?_, (fun K e => by cases e), (fun a e => by cases e)⟩
   rw [hap _ _ _ _ _ _ _ _ hx]
   unfold evAppend
   simp only [ht, hx, hy, hk, hb, hz]
   rw [if_pos ⟨trivial, h1, h2, hby, hle⟩, if_neg hf]
   simp
 · refine ⟨.own (σ.length + g.length), g.set i .dead ++ [.tok ((es.length + fs.length) * (k + 1)) e], .any, .inr ⟨_, rfl, by rw [List.getElem?_append_right (by simp)]; simp⟩, fun ρ ds ty po af gu x y tk hx hy => ?_, (fun K e => by cases e), (fun a e => by cases e)⟩
   rw [hap _ _ _ _ _ _ _ _ hx]
   unfold evAppend
   simp only [ht, hx, hy, hk, hb, hz]
   rw [if_pos ⟨trivial, h1, h2, hby, hle⟩, if_neg hf]
   simp only [st_getk rfl, hg, and_self, if_true, st_setk rfl]
   simp
theorem apd {P : Program} {M : List TypeId} {σ : Sto} {g : List AObj} {tok : Tok} {t e k by_ : Nat} (es fs : List (List AV)) (hA : Apd σ e (es.length * (k + 1)) tok g) (ht : P.underlying t = some (.slice e)) (hk : szOf P e = some (k + 1)) (hb : bytesOf P e = some by_) (hz : ((P.info? e).bind fun x => x.zero).map (fun z => z.cells.size) = some (k + 1))
    (h1 : es.head?.all (·.length == k + 1) = true) (h2 : fs.head?.all (·.length == k + 1) = true) (hf : fs.length ≠ 0) (hby : (es.length + fs.length) * by_ ≤ 140737488355328) (hle : es.length + fs.length ≤ 140737488355328) (hMt : M.contains t = false := by rfl) :
    ∃ tok' g' acc, Apd σ e ((es.length + fs.length) * (k + 1)) tok' g' ∧ ∀ (ρ : Operand → Option AV) (ds : Option Tmp) (ty : TypeId) (po : String) (af : Array Edge) (gu : Option (Nat × Bool)) (x y : Operand) (tk : Tok), ρ x = some (.sl es tok) → ρ y = some (.sl fs tk) →
     evStep P M ρ (σ ++ g) ⟨ds, .call ⟨.builtin .append, #[x, y], #[t, t]⟩, ty, po, af, gu⟩ = some (.val (.sl (es ++ stripRows fs) tok') (σ ++ g') acc) := by
 obtain ⟨a, b, c, h1, h2, _⟩ := apdN es fs hA ht hk hb hz h1 h2 hf hby hle hMt
 exact ⟨a, b, c, h1, h2⟩
theorem apd0 {P : Program} {M : List TypeId} {σ : Sto} {es : List (List AV)} {tok tk : Tok} {t e k by_ : Nat} {ρ : Operand → Option AV} {ds : Option Tmp} {ty : TypeId} {po : String} {af : Array Edge} {gu : Option (Nat × Bool)} {x y : Operand} (ht : P.underlying t = some (.slice e)) (hk : szOf P e = some (k + 1)) (hb : bytesOf P e = some by_) (hz : ((P.info? e).bind fun x => x.zero).map (fun z => z.cells.size) = some (k + 1))
    (h1 : es.head?.all (·.length == k + 1) = true) (hby : es.length * by_ ≤ 140737488355328) (hle : es.length ≤ 140737488355328) (hx : ρ x = some (.sl es tok)) (hy : ρ y = some (.sl [] tk)) (hMt : M.contains t = false := by rfl) :
    evStep P M ρ σ ⟨ds, .call ⟨.builtin .append, #[x, y], #[t, t]⟩, ty, po, af, gu⟩ = some (.val (.sl es tok) σ .pure) := by
 have hlit : evLit P ρ σ ⟨ds, .call ⟨.builtin .append, #[x, y], #[t, t]⟩, ty, po, af, gu⟩ = none := by
  unfold evLit
  simp [Op.operands, Call.operands, hx, conc, conc2]
 unfold evStep
 rw [if_neg (by simp only [mutOp, hMt]; exact Bool.false_ne_true), hlit]
 simp only [evPure, evMem, List.toList_toArray]
 simp [evAppend, ht, hx, hy, hk, hb, hz, h1, hby, hle]
mutual
def AV.nrm : AV → AV
 | .sl es _ => .sl (nrmRR es) .no
 | .agg cs => .agg (nrmR cs)
 | .tup cs => .tup (nrmR cs)
 | .ifc t v => .ifc t v.nrm
 | v => v
def nrmR : List AV → List AV
 | [] => []
 | v :: l => v.nrm :: nrmR l
def nrmRR : List (List AV) → List (List AV)
 | [] => []
 | r :: l => nrmR r :: nrmRR l
end
mutual
def AV.pln : AV → Bool
 | .lit _ => true
 | .sl es _ => plnRR es
 | .agg cs => plnR cs
 | .tup cs => plnR cs
 | .fn (.func _) f c => f.isEmpty && c.isEmpty
 | _ => false
def plnR : List AV → Bool
 | [] => true
 | v :: l => v.pln && plnR l
def plnRR : List (List AV) → Bool
 | [] => true
 | r :: l => plnR r && plnRR l
end
theorem nrmR_map (l : List AV) : nrmR l = l.map AV.nrm := by induction l with | nil => rfl | cons a l ih => rw [nrmR, ih]; rfl
theorem nrmRR_map (l : List (List AV)) : nrmRR l = l.map nrmR := by induction l with | nil => rfl | cons a l ih => rw [nrmRR, ih]; rfl
theorem plnR_iff (l : List AV) : plnR l = true ↔ ∀ v ∈ l, v.pln = true := by induction l with | nil => simp [plnR] | cons a l ih => simp [plnR, ih]
theorem plnRR_iff (l : List (List AV)) : plnRR l = true ↔ ∀ v ∈ l, plnR v = true := by induction l with | nil => simp [plnRR] | cons a l ih => simp [plnRR, ih]
theorem AV.nrm_one (v : AV) : v.nrm.one = v.one := by cases v <;> rfl
theorem VR.nrm {ι : List Nat} {Z : Nat → Nat → Prop} {w : World} {d : AV} {u : Value} (h : VR ι Z w d u) : VR ι Z w d.nrm u := by
 induction h with
 | lit v h => exact .lit v h
 | ptr id off b h => exact .ptr id off b h
 | eptr row off b o U h h' ih => exact .eptr row off b o U h h'
 | nils a c tok h g => exact .nils a c .no h (.inl rfl)
 | frs t k c b h1 h2 h3 => exact .nils _ c .no (fun h => by cases h) (.inl rfl)
 | sl b o n c k es tok U h1 h2 h3 h4 h5 h6 h7 h8 ih =>
  have key : ∀ {i : Nat} {e : List AV}, (nrmRR es)[i]? = some e → ∃ e', es[i]? = some e' ∧ e = nrmR e' := fun {i e} he => by
   rw [nrmRR_map, List.getElem?_map, Option.map_eq_some_iff] at he
   obtain ⟨e', h1, h2⟩ := he
   exact ⟨e', h1, h2.symm⟩
  have keyr : ∀ {j : Nat} {e : List AV} {d : AV}, (nrmR e)[j]? = some d → ∃ d', e[j]? = some d' ∧ d = d'.nrm := fun {j e d} hd => by
   rw [nrmR_map, List.getElem?_map, Option.map_eq_some_iff] at hd
   obtain ⟨e', h1, h2⟩ := hd
   exact ⟨e', h1, h2.symm⟩
  refine .sl b o n c k _ .no U (by rw [nrmRR_map, List.length_map]; exact h1) h2 h3 h4 (fun i e he => ?_) (fun i j e d he hd => ?_) trivial fun i j e d he hd => ?_
  · obtain ⟨e', h, rfl⟩ := key he
    rw [nrmR_map, List.length_map]; exact h5 i e' h
  · obtain ⟨e', h, rfl⟩ := key he
    obtain ⟨d', h', rfl⟩ := keyr hd
    rw [AV.nrm_one]; exact h6 i j e' d' h h'
  · obtain ⟨e', h, rfl⟩ := key he
    obtain ⟨d', h', rfl⟩ := keyr hd
    exact ih i j e' d' h h'
 | asl id off n k c b h1 h2 h3 h4 => exact .asl id off n k c b h1 h2 h3 h4
 | mp id b h => exact .mp id b h
 | fn f first cap fs cs h1 h2 h3 h4 => exact .fn f first cap fs cs h1 h2 h3 h4
 | ifc t d u h ih => exact .ifc t _ u ih
 | agg ds cs h1 h2 h3 ih =>
  have key : ∀ {j : Nat} {d : AV}, (nrmR ds)[j]? = some d → ∃ d', ds[j]? = some d' ∧ d = d'.nrm := fun {j d} hd => by
   rw [nrmR_map, List.getElem?_map, Option.map_eq_some_iff] at hd
   obtain ⟨e', h1, h2⟩ := hd
   exact ⟨e', h1, h2.symm⟩
  refine .agg _ cs (by rw [nrmR_map, List.length_map]; exact h1) (fun i d hd => ?_) fun i d u hd hu => ?_
  · obtain ⟨d', h, rfl⟩ := key hd
    rw [AV.nrm_one]; exact h2 i d' h
  · obtain ⟨d', h, rfl⟩ := key hd
    exact ih i d' u h hu
 | tup ds cs h1 h2 ih =>
  have key : ∀ {j : Nat} {d : AV}, (nrmR ds)[j]? = some d → ∃ d', ds[j]? = some d' ∧ d = d'.nrm := fun {j d} hd => by
   rw [nrmR_map, List.getElem?_map, Option.map_eq_some_iff] at hd
   obtain ⟨e', h1, h2⟩ := hd
   exact ⟨e', h1, h2.symm⟩
  refine .tup _ cs (by rw [nrmR_map, List.length_map]; exact h1) fun i d u hd hu => ?_
  obtain ⟨d', h, rfl⟩ := key hd
  exact ih i d' u h hu
theorem Frz.nrm' {σ : Sto} {n : Nat} : ∀ (v : AV), v.pln = true → Frz σ n v v.nrm
 | .lit v, _ => .same _ (.lit v)
 | .sl es t, h => by
  rw [AV.pln, plnRR_iff] at h
  rw [AV.nrm]
  refine .sl es _ t (by rw [nrmRR_map, List.length_map]) (fun i e f he hf => ?_) fun i j e f d d' he hf hd hd' => ?_
  · rw [nrmRR_map, List.getElem?_map, he] at hf
    cases hf
    rw [nrmR_map, List.length_map]
  · rw [nrmRR_map, List.getElem?_map, he] at hf
    cases hf
    rw [nrmR_map, List.getElem?_map, hd] at hd'
    cases hd'
    have hm := List.mem_of_getElem? he
    have hm2 := List.mem_of_getElem? hd
    have := List.sizeOf_lt_of_mem hm
    have := List.sizeOf_lt_of_mem hm2
    exact Frz.nrm' d ((plnR_iff _).1 (h e hm) d hm2)
 | .agg cs, h => by
  rw [AV.pln, plnR_iff] at h
  rw [AV.nrm]
  refine .agg cs _ (by rw [nrmR_map, List.length_map]) fun j d d' hd hd' => ?_
  rw [nrmR_map, List.getElem?_map, hd] at hd'
  cases hd'
  have hm2 := List.mem_of_getElem? hd
  have := List.sizeOf_lt_of_mem hm2
  exact Frz.nrm' d (h d hm2)
 | .tup cs, h => by
  rw [AV.pln, plnR_iff] at h
  rw [AV.nrm]
  refine .tup cs _ (by rw [nrmR_map, List.length_map]) fun j d d' hd hd' => ?_
  rw [nrmR_map, List.getElem?_map, hd] at hd'
  cases hd'
  have hm2 := List.mem_of_getElem? hd
  have := List.sizeOf_lt_of_mem hm2
  exact Frz.nrm' d (h d hm2)
 | .fn (.func g) f c, h => by
  rw [AV.pln, Bool.and_eq_true] at h
  obtain rfl := List.isEmpty_iff.1 h.1
  obtain rfl := List.isEmpty_iff.1 h.2
  exact .same _ (.fn _ _ _ (fun j d hd => by simp at hd) fun j d hd => by simp at hd)
 | .ptr .., h | .eptr .., h | .asl .., h | .mp .., h | .ifc .., h => by simp [AV.pln] at h
termination_by v => SizeOf.sizeOf v
decreasing_by all_goals (simp_wf; omega)
theorem Frz.nrm {σ : Sto} {n : Nat} {v : AV} (h : v.pln = true) : Frz σ n v v.nrm := Frz.nrm' v h
end
section
open Go.RowKit
def Lets (ids : List Nat) : Prop := ∀ (i j a b : Nat), ids[i]? = some a → ids[j]? = some b → i ≠ j → a ≠ b
theorem Lets.nil : Lets [] := fun i j a b h => by simp at h
theorem Lets.cons {a : Nat} {l : List Nat} (h : a ∉ l) (hl : Lets l) : Lets (a :: l) := by
 intro i j x y hx hy hij e
 subst e
 cases i with
 | zero =>
  cases j with
  | zero => exact hij rfl
  | succ j => simp at hx hy; subst hx; exact h (List.mem_of_getElem? hy)
 | succ i =>
  cases j with
  | zero => simp at hx hy; subst hy; exact h (List.mem_of_getElem? hx)
  | succ j => exact hl i j x x (by simpa using hx) (by simpa using hy) (by omega) rfl
inductive Sim (ids : List Nat) : Acc → Acc → Prop
 | pure : Sim ids .pure .pure
 | reads (i a : Nat) : ids[i]? = some a → Sim ids (.reads a) (.reads i)
 | writes (i a : Nat) : ids[i]? = some a → Sim ids (.writes a) (.writes i)
 | news (i a : Nat) : ids[i]? = some a → Sim ids (.news a) (.news i)
 | calls (n m : Nat) (K K' : Nat → Bool) : (∀ i a, ids[i]? = some a → K' i = true → i < m → K a = true ∧ a < n) → (∀ i a, ids[i]? = some a → K' i = true → K a = true) → Sim ids (.calls n K) (.calls m K')
 | lcalls (K K' : Nat → Bool) : (∀ i a, ids[i]? = some a → K' i = true → K a = true) → Sim ids (.lcalls K) (.lcalls K')
 | any (x : Acc) : Sim ids x .any
theorem Sim.clash {ids : List Nat} (hl : Lets ids) {x y x' y' : Acc} (hx : Sim ids x x') (hy : Sim ids y y') (h : Go.Proofs.YtncoidmbmihliaaGreatDoor.clash x' y' = false) : Go.Proofs.YtncoidmbmihliaaGreatDoor.clash x y = false := by
 have hq : ∀ {i j a b : Nat}, ids[i]? = some a → ids[j]? = some b → (i == j) = false → (a == b) = false := fun ha hb e => beq_eq_false_iff_ne.2 (hl _ _ _ _ ha hb (beq_eq_false_iff_ne.1 e))
 cases hx with
 | pure => cases y <;> rfl
 | any => cases y' <;> simp [Go.Proofs.YtncoidmbmihliaaGreatDoor.clash] at h; cases hy; cases x <;> rfl
 | reads i a ha =>
  cases hy with
  | pure => rfl
  | any => simp [Go.Proofs.YtncoidmbmihliaaGreatDoor.clash] at h
  | reads j b hb => rfl
  | writes j b hb => exact hq ha hb h
  | news j b hb => exact hq ha hb h
  | calls n m K K' h1 h2 =>
   simp only [Go.Proofs.YtncoidmbmihliaaGreatDoor.clash, Bool.not_eq_false'] at h ⊢
   exact h2 _ _ ha h
  | lcalls K K' h2 =>
   simp only [Go.Proofs.YtncoidmbmihliaaGreatDoor.clash, Bool.not_eq_false'] at h ⊢
   exact h2 _ _ ha h
 | writes i a ha =>
  cases hy with
  | pure => rfl
  | any => simp [Go.Proofs.YtncoidmbmihliaaGreatDoor.clash] at h
  | reads j b hb => exact hq ha hb h
  | writes j b hb => exact hq ha hb h
  | news j b hb => exact hq ha hb h
  | calls n m K K' h1 h2 => simp [Go.Proofs.YtncoidmbmihliaaGreatDoor.clash] at h
  | lcalls K K' h2 => simp [Go.Proofs.YtncoidmbmihliaaGreatDoor.clash] at h
 | news i a ha =>
  cases hy with
  | pure => rfl
  | any => simp [Go.Proofs.YtncoidmbmihliaaGreatDoor.clash] at h
  | reads j b hb => exact hq ha hb h
  | writes j b hb => exact hq ha hb h
  | news j b hb => simp [Go.Proofs.YtncoidmbmihliaaGreatDoor.clash] at h
  | calls n m K K' h1 h2 => simp [Go.Proofs.YtncoidmbmihliaaGreatDoor.clash] at h
  | lcalls K K' h2 => simp [Go.Proofs.YtncoidmbmihliaaGreatDoor.clash] at h
 | calls n m K K' h1 h2 =>
  cases hy with
  | pure => rfl
  | any => simp [Go.Proofs.YtncoidmbmihliaaGreatDoor.clash] at h
  | reads j b hb =>
   simp only [Go.Proofs.YtncoidmbmihliaaGreatDoor.clash, Bool.not_eq_false', Bool.and_eq_true, decide_eq_true_eq] at h ⊢
   exact h1 _ _ hb h.1 h.2
  | writes j b hb => simp [Go.Proofs.YtncoidmbmihliaaGreatDoor.clash] at h
  | news j b hb => simp [Go.Proofs.YtncoidmbmihliaaGreatDoor.clash] at h
  | calls => simp [Go.Proofs.YtncoidmbmihliaaGreatDoor.clash] at h
  | lcalls K K' h2 => simp [Go.Proofs.YtncoidmbmihliaaGreatDoor.clash] at h
 | lcalls K K' h2 =>
  cases hy with
  | pure => rfl
  | any => simp [Go.Proofs.YtncoidmbmihliaaGreatDoor.clash] at h
  | reads j b hb =>
   simp only [Go.Proofs.YtncoidmbmihliaaGreatDoor.clash, Bool.not_eq_false'] at h ⊢
   exact h2 _ _ hb h
  | writes j b hb => simp [Go.Proofs.YtncoidmbmihliaaGreatDoor.clash] at h
  | news j b hb => rfl
  | calls => simp [Go.Proofs.YtncoidmbmihliaaGreatDoor.clash] at h
  | lcalls => simp [Go.Proofs.YtncoidmbmihliaaGreatDoor.clash] at h
inductive Sims (ids : List Nat) : List Acc → List Acc → Prop
 | nil : Sims ids [] []
 | cons {x y : Acc} {l m : List Acc} : Sim ids x y → Sims ids l m → Sims ids (x :: l) (y :: m)
theorem Sims.at {ids : List Nat} {l m : List Acc} (h : Sims ids l m) (n : Nat) : Sim ids (l.getD n .any) (m.getD n .any) := by
 induction h generalizing n with
 | nil => exact .any _
 | cons h _ ih =>
  cases n with
  | zero => simpa using h
  | succ n => simpa using ih n
theorem Sims.len {ids : List Nat} {l m : List Acc} (h : Sims ids l m) : l.length = m.length := by
 induction h with
 | nil => rfl
 | cons _ _ ih => simp [ih]
theorem drawOk_sim {ops : Array Oper} (ids : List Nat) (m : List Acc) {l : List Acc} (hl : Lets ids) (h : Sims ids l m) (hd : drawOk ops m = true) : drawOk ops l = true := by
 unfold drawOk at hd ⊢
 simp only [List.all_eq_true, List.mem_range] at hd ⊢
 intro i hi k hk
 have := hd i (by rw [← h.len]; exact hi) k hk
 unfold freeAt at this ⊢
 rw [Bool.or_eq_true] at this ⊢
 rcases this with this | this
 · exact .inl this
 · right
   split at this
   · rename_i x y h1 h2
     simp only [Bool.and_eq_true, Bool.not_eq_true'] at this ⊢
     exact ⟨this.1, (h.at k).clash hl (h.at i) this.2⟩
   · cases this
theorem Sim.keeps {ids : List Nat} {n m : Nat} {K : Nat → Bool} (h : ∀ a ∈ ids, K a = true ∧ a < n) : Sim ids (.calls n K) (.calls m fun _ => true) :=
 .calls n m K _ (fun i a ha _ _ => h a (List.mem_of_getElem? ha)) fun i a ha _ => (h a (List.mem_of_getElem? ha)).1
end
section
open Go.RowKit
structure FS where
 α : Type
 args : α → List AV
 pre : α → Sto → Prop
 post : α → Sto → ARes × Sto
 sz : α → Nat
def FS.S (s : FS) (N : Nat) (args : List AV) (σ : Sto) (r : ARes) (σ' : Sto) : Prop := ∃ a, nrmR args = s.args a ∧ s.pre a σ ∧ s.sz a < N ∧ s.post a σ = (r, σ')
def FS.uniq (s : FS) : Prop := ∀ a b σ, s.args a = s.args b → s.pre a σ → s.pre b σ → s.post a σ = s.post b σ
def FS.Ok (P : Program) (s : FS) (f : FuncId) (a : s.α) (σ : Sto) : Prop := Tells P (.call f (s.args a) σ fun r1 σ1 => Fgt σ r1 σ1 (s.post a σ).1 (s.post a σ).2)
structure Sp where
 code : FuncId → Option Func
 ms : FuncId → List TypeId
 base : FuncId → Option (List AV → Sto → Option (ARes × Sto))
 sp : FuncId → Option FS
noncomputable def Sp.E (S : Sp) (N : Nat) : Env := { code := S.code, ms := S.ms, prim := fun f => match S.sp f with | some s => some (relPrim (s.S N)) | none => S.base f }
theorem fs_sound {P : Program} {s : FS} {N : Nat} {f : FuncId} (h : ∀ a σ, s.pre a σ → s.sz a < N → s.Ok P f a σ) : CallSound P fun f' args σ => if f' = f then relPrim (s.S N) args σ else none := by
 intro f' args σ r σ' hr ι Z w us hM hl hargs
 dsimp only at hr
 split at hr
 · rename_i e
   subst e
   obtain ⟨a, e1, e2, e3, e4⟩ := relPrim_spec hr
   have hk := h a σ e2 e3 ι Z w us hM (by rw [← e1, nrmR_map, List.length_map]; exact hl) fun i d u hd hu => by
    rw [← e1, nrmR_map, List.getElem?_map, Option.map_eq_some_iff] at hd
    obtain ⟨d', h1, rfl⟩ := hd
    exact (hargs i d' u h1 hu).nrm
   obtain ⟨h1, h2⟩ := hk
   refine ⟨h1, h2.mono fun e w' hx => ?_⟩
   obtain ⟨r1, σ1, ι', Z', hF, hEv, hM', hR⟩ := hx
   rw [e4] at hF
   exact forget hM hEv hM' hR hF
 · cases hr
theorem Sp.ok {P : Program} {S : Sp} (hc : ∀ (f : FuncId) (fn : Func), S.code f = some fn → P.funcs[f]? = some fn ∧ ∀ args w, (callFunc f args).run P w = .ok (.enter f args) w)
    (hb : ∀ (f : FuncId) (g : List AV → Sto → Option (ARes × Sto)), S.base f = some g → CallSound P fun f' args σ => if f' = f then g args σ else none)
    (hw : ∀ N, EnvOk P (S.E N) → ∀ f s, S.sp f = some s → ∀ a σ, s.pre a σ → s.sz a ≤ N → s.Ok P f a σ) : ∀ N, EnvOk P (S.E N) := by
 have step : ∀ N, (∀ f s, S.sp f = some s → ∀ a σ, s.pre a σ → s.sz a < N → s.Ok P f a σ) → EnvOk P (S.E N) := fun N h => {
  code := hc
  prim := fun f g hg => by
   have hg : (match S.sp f with | some s => some (relPrim (s.S N)) | none => S.base f) = some g := hg
   split at hg
   · rename_i s hs
     cases hg
     exact fs_sound (h f s hs)
   · exact hb f g hg }
 intro N
 induction N with
 | zero => exact step 0 fun f s hs a σ hp hl => absurd hl (Nat.not_lt_zero _)
 | succ N ih => exact step (N + 1) fun f s hs a σ hp hl => hw N ih f s hs a σ hp (Nat.le_of_lt_succ hl)
theorem call_sp {P : Program} {S : Sp} {N : Nat} {f : FuncId} {s : FS} {args : List AV} {σ : Sto} {Q : ARes → Sto → Prop} (a : s.α) (hs : S.sp f = some s) (hu : s.uniq) (ha : nrmR args = s.args a) (hp : s.pre a σ) (hN : s.sz a < N) (hq : Q (s.post a σ).1 (s.post a σ).2) : CallW P (S.E N) f args σ Q := by
 have hp' : (S.E N).prim f = some (relPrim (s.S N)) := by show (match S.sp f with | some s => some (relPrim (s.S N)) | none => S.base f) = _; rw [hs]
 refine CallW.prim hp' (relPrim_eq ?_ ⟨a, ha, hp, hN, rfl⟩) hq
 rintro args σ r σ' r2 σ2 ⟨a, h1, h2, h3, h4⟩ ⟨b, g1, g2, g3, g4⟩
 have := hu a b σ (h1.symm.trans g1) h2 g2
 rw [h4, g4] at this
 exact ⟨congrArg Prod.fst this, congrArg Prod.snd this⟩
theorem acc_sp {S : Sp} {N : Nat} {f : FuncId} {s : FS} {args : List AV} {σ : Sto} (a : s.α) (hs : S.sp f = some s) (hu : s.uniq) (ha : nrmR args = s.args a) (hN : s.sz a < N) (hl : (s.post a σ).2.length = σ.length) (hq : ∀ l, s.pre a (σ ++ l) ∧ s.post a (σ ++ l) = ((s.post a σ).1, (s.post a σ).2 ++ l)) :
    accW (S.E N) f args σ (s.post a σ).1 (s.post a σ).2 = .lcalls (keptB σ (s.post a σ).2) := by
 have hp' : (S.E N).prim f = some (relPrim (s.S N)) := by show (match S.sp f with | some s => some (relPrim (s.S N)) | none => S.base f) = _; rw [hs]
 refine accW_loc hp' hl fun l => relPrim_eq ?_ ⟨a, ha, (hq l).1, hN, (hq l).2⟩
 rintro args σ r σ' r2 σ2 ⟨a, h1, h2, h3, h4⟩ ⟨b, g1, g2, g3, g4⟩
 have := hu a b σ (h1.symm.trans g1) h2 g2
 rw [h4, g4] at this
 exact ⟨congrArg Prod.fst this, congrArg Prod.snd this⟩
theorem keptB_iff {σ σ' : Sto} {a : Nat} : (keptB σ σ' a = true) = (σ'[a]? = σ[a]?) := propext ⟨keptB_to, keptB_of⟩
def loose : Acc → Acc
 | .lcalls _ => .lcalls fun _ => true
 | x => x
theorem clash_loose {x y : Acc} (hx : ∀ K, x = .lcalls K → ∀ a, y = .reads a → K a = true) (hy : ∀ K, y = .lcalls K → ∀ a, x = .reads a → K a = true) (h : clash (loose x) (loose y) = false) : clash x y = false := by
 cases x <;> cases y <;> simp_all [clash, loose]
theorem drawOk_keep {ops : Array Oper} {accs : List Acc} (h : ∀ K, .lcalls K ∈ accs → ∀ a, .reads a ∈ accs → K a = true) (hd : drawOk ops (accs.map loose) = true) : drawOk ops accs = true := by
 unfold drawOk at hd ⊢
 simp only [List.all_eq_true, List.mem_range, List.length_map] at hd ⊢
 intro i hi k hk
 have := hd i hi k hk
 unfold freeAt at this ⊢
 rw [Bool.or_eq_true] at this ⊢
 rcases this with this | this
 · exact .inl this
 · right
   have g : ∀ n, n < accs.length → (accs.map loose).getD n .any = loose (accs.getD n .any) ∧ accs.getD n .any ∈ accs := fun n hn => by
    rw [List.getD_eq_getElem?_getD, List.getD_eq_getElem?_getD, List.getElem?_map, List.getElem?_eq_getElem hn]
    exact ⟨rfl, List.getElem_mem hn⟩
   obtain ⟨e1, m1⟩ := g k (by omega)
   obtain ⟨e2, m2⟩ := g i hi
   rw [e1, e2] at this
   split at this
   · rename_i x y h1 h2
     simp only [Bool.and_eq_true, Bool.not_eq_true'] at this ⊢
     exact ⟨this.1, clash_loose (fun K hK a ha => h K (hK ▸ m1) a (ha ▸ m2)) (fun K hK a ha => h K (hK ▸ m2) a (ha ▸ m1)) this.2⟩
   · cases this
theorem kept_self (σ : Sto) : keptB σ σ = fun _ => true := by funext a; exact keptB_of rfl
theorem done {σ g : Sto} {v v2 : AV} (hp : v.pln = true) (hv : v.nrm = v2) : Fgt σ (.ret v) (σ ++ g) (.ret v2) σ := Fgt.pure ⟨g, rfl⟩ (hv ▸ Frz.nrm hp)
theorem done0 {σ : Sto} {v v2 : AV} (hp : v.pln = true) (hv : v.nrm = v2) : Fgt σ (.ret v) σ (.ret v2) σ := Fgt.pure (Ext.refl _) (hv ▸ Frz.nrm hp)
def codeP (P : Program) (f : FuncId) : Option Func := (P.funcs[f]?).bind fun fn => if fn.body.isSome && !(fn.name == "runtime.NumGoroutine") then some fn else none
theorem codeP_ok {P : Program} (f : FuncId) (fn : Func) (h : codeP P f = some fn) : P.funcs[f]? = some fn ∧ ∀ args w, (callFunc f args).run P w = .ok (.enter f args) w := by
 unfold codeP at h
 obtain ⟨g, h1, h2⟩ := Option.bind_eq_some_iff.1 h
 split at h2
 · rename_i hb
   cases h2
   refine ⟨h1, fun args w => ?_⟩
   rw [Bool.and_eq_true, Bool.not_eq_true'] at hb
   have hn : fn.body ≠ none := by intro hx; rw [hx] at hb; cases hb.1
   have h2 : fn.name ≠ "runtime.NumGoroutine" := by simpa using hb.2
   unfold callFunc
   simp [Sem.run, program, h1, h2, hn, bind, pure, Sem.bind]
 · cases h2
theorem codeOf {P : Program} {S : Sp} (hc : S.code = codeP P) {f : FuncId} {fn : Func} (h : P.funcs[f]? = some fn) (hb : fn.body.isSome = true) (hn : (fn.name == "runtime.NumGoroutine") = false) {N : Nat} : (S.E N).code f = some fn := by
 show S.code f = _
 rw [hc]; unfold codeP; rw [h]
 show (if (fn.body.isSome && !(fn.name == "runtime.NumGoroutine")) = true then some fn else none) = _
 rw [hb, hn]; rfl
abbrev pureF {α : Type} (A : α → List AV) (R : α → AV) (n : α → Nat) (r : Nat) : FS := ⟨α, A, fun p _ => n p ≤ 1000000000, fun p σ => (.ret (R p), σ), fun p => 16 * n p + r⟩
theorem call_pure {P : Program} {S : Sp} {N r : Nat} {f : FuncId} {α : Type} {A : α → List AV} {R : α → AV} {n : α → Nat} {args : List AV} {σ : Sto} {Q : ARes → Sto → Prop} (x : α) (h : S.sp f = some (pureF A R n r)) (hi : ∀ a b : α, A a = A b → a = b) (ha : nrmR args = A x) (hb : n x ≤ 1000000000) (hN : 16 * n x + r < N)
    (hq : accW (S.E N) f args σ (.ret (R x)) σ = .lcalls (fun _ => true) → Q (.ret (R x)) σ) : CallW P (S.E N) f args σ Q :=
 have hu : FS.uniq (pureF A R n r) := fun a b σ e _ _ => by cases hi _ _ e; rfl
 call_sp x h hu ha hb hN (hq (by have := acc_sp (σ := σ) x h hu ha hN rfl (fun l => ⟨hb, rfl⟩); rw [kept_self] at this; exact this))
abbrev PureOk (P : Program) (S : Sp) (N : Nat) (f : FuncId) {α : Type} (A : α → List AV) (R : α → AV) (n : α → Nat) (r : Nat) : Prop := ∀ (a : α) (σ : Sto), n a ≤ 1000000000 → 16 * n a + r ≤ N → JC P (S.E N) f (A a) σ fun r σ' => Fgt σ r σ' (.ret (R a)) σ
end
end Go.Proofs.YtncoidmbmihliaaGreatDoor
