/-
 EV: FRAMES AS ROWS OF SLOTS AND VALUES; stores told out; functions taken on exact contracts, by measure.
-/
import Derived.Test.YtmmgjaheffbpaaaGreatDoorEvJQ
import Derived.Test.YtmmgjaheffbpaaaGreatDoorEvSymQ
import Derived.RangeFuncLeaves
import Derived.RangeFuncRecord
namespace Go.Proofs.YtmmgjaheffbpaaaGreatDoor
set_option linter.unusedSimpArgs false
set_option linter.unusedVariables false
set_option linter.unusedSectionVars false
section
open Go.RowKit
def lk (i : Nat) : List (Nat × AV) → AV → AV
 | [], d => d
 | p :: l, d => if p.1 = i then p.2 else lk i l d
def pt (d : Nat) (v : AV) : List (Nat × AV) → List (Nat × AV)
 | [] => [(d, v)]
 | p :: l => if p.1 = d then (d, v) :: l else p :: pt d v l
def ov : List (Nat × AV) → List AV → List AV
 | [], tm => tm
 | p :: l, tm => (ov l tm).set p.1 p.2
def fm (n : Nat) (fr : List (Nat × AV)) (tm : List AV) : List AV := ov fr (tm.take n ++ List.replicate (n - tm.length) (.tup []))
def old (n : Nat) (tm : List AV) (i : Nat) : AV := slot (fm n [] tm) i
def sub : List (Nat × AV) → List (Nat × AV) → Prop
 | [], _ => True
 | p :: l, fr => (∀ d, lk p.1 fr d = p.2) ∧ sub l fr
def num (i : Nat) : List AV → List (Nat × AV)
 | [] => []
 | a :: l => (i, a) :: num (i + 1) l
theorem ov_len : ∀ (fr : List (Nat × AV)) (tm : List AV), (ov fr tm).length = tm.length
 | [], _ => rfl
 | p :: l, tm => by rw [ov, List.length_set, ov_len l]
theorem fm_len {n : Nat} {fr : List (Nat × AV)} {tm : List AV} : (fm n fr tm).length = n := by
 unfold fm
 rw [ov_len]
 simp
 omega
theorem ov_slot {i : Nat} : ∀ (fr : List (Nat × AV)) (tm : List AV), i < tm.length → slot (ov fr tm) i = lk i fr (slot tm i)
 | [], _, _ => rfl
 | p :: l, tm, h => by
  rw [ov, lk]
  split
  · rename_i e
    subst e
    exact slot_eq (by rw [ov_len]; exact h)
  · rename_i e
    rw [slot_ne e, ov_slot l tm h]
theorem slot_fm {n i : Nat} {fr : List (Nat × AV)} {tm : List AV} (h : i < n) : slot (fm n fr tm) i = lk i fr (old n tm i) := by
 unfold old fm
 rw [ov_slot _ _ (by simp; omega)]
 rfl
theorem ov_set {d : Nat} {v : AV} : ∀ (fr : List (Nat × AV)) (tm : List AV), (ov fr tm).set d v = ov (pt d v fr) tm
 | [], _ => rfl
 | p :: l, tm => by
  rw [pt]
  split
  · rename_i e
    subst e
    rw [ov, ov, List.set_set]
  · rename_i e
    rw [ov, ov, ← ov_set l tm, List.set_comm _ _ e]
theorem set_fm {n d : Nat} {v : AV} {fr : List (Nat × AV)} {tm : List AV} : (fm n fr tm).set d v = fm n (pt d v fr) tm := ov_set _ _
theorem slot_ext {a b : List AV} (hl : a.length = b.length) (h : ∀ i, i < a.length → slot a i = slot b i) : a = b := by
 refine List.ext_getElem hl fun i h1 h2 => ?_
 have := h i h1
 unfold slot at this
 rw [List.getD_eq_getElem?_getD, List.getD_eq_getElem?_getD, List.getElem?_eq_getElem h1, List.getElem?_eq_getElem h2] at this
 exact this
theorem fm_sub {n : Nat} {l fr : List (Nat × AV)} {tm : List AV} (h : sub l fr) : fm n fr tm = fm n l (fm n fr tm) := by
 refine slot_ext (by rw [fm_len, fm_len]) fun i hi => ?_
 rw [fm_len] at hi
 have e : old n (fm n fr tm) i = slot (fm n fr tm) i := by
  unfold old
  have : fm n [] (fm n fr tm) = fm n fr tm := by
   show (fm n fr tm).take n ++ _ = _
   rw [fm_len, Nat.sub_self, List.take_of_length_le (by rw [fm_len]; exact Nat.le_refl _)]
   simp
  rw [this]
 rw [slot_fm hi, slot_fm hi (fr := l), e, slot_fm hi]
 clear e
 induction l with
 | nil => rfl
 | cons p l ih =>
  rw [lk]
  split
  · rename_i e
    subst e
    exact h.1 _
  · exact ih h.2
theorem lk_none {i : Nat} : ∀ {fr : List (Nat × AV)} {d : AV}, (∀ p ∈ fr, p.1 ≠ i) → lk i fr d = d
 | [], _, _ => rfl
 | p :: l, d, h => by rw [lk, if_neg (h p (by simp)), lk_none fun q hq => h q (by simp [hq])]
def sel (ks : List Nat) : List (Nat × AV) → List (Nat × AV)
 | [] => []
 | p :: l => if ks.contains p.1 then p :: sel ks l else sel ks l
theorem sel_mem {ks : List Nat} : ∀ {fr : List (Nat × AV)} {p : Nat × AV}, p ∈ sel ks fr → ks.contains p.1 = true
 | [], _, h => by cases h
 | q :: l, p, h => by
  rw [sel] at h
  split at h
  · rename_i hq
    rcases List.mem_cons.1 h with rfl | h
    · exact hq
    · exact sel_mem h
  · exact sel_mem h
theorem lk_sel {ks : List Nat} {i : Nat} (hi : ks.contains i = true) : ∀ {fr : List (Nat × AV)} {d : AV}, lk i (sel ks fr) d = lk i fr d
 | [], _ => rfl
 | p :: l, d => by
  rw [sel]
  split
  · rw [lk, lk]; split
    · rfl
    · exact lk_sel hi
  · rename_i h
    rw [lk, if_neg (fun e => h (by rw [e]; exact hi))]
    exact lk_sel hi
theorem fm_sel {n : Nat} (ks : List Nat) {fr : List (Nat × AV)} {tm : List AV} : fm n fr tm = fm n (sel ks fr) (fm n fr tm) := by
 refine slot_ext (by rw [fm_len, fm_len]) fun i hi => ?_
 rw [fm_len] at hi
 have e : old n (fm n fr tm) i = slot (fm n fr tm) i := by
  unfold old
  have : fm n [] (fm n fr tm) = fm n fr tm := by
   show (fm n fr tm).take n ++ _ = _
   rw [fm_len, Nat.sub_self, List.take_of_length_le (by rw [fm_len]; exact Nat.le_refl _)]
   simp
  rw [this]
 rw [slot_fm hi (fr := sel ks fr), e, slot_fm hi]
 cases hk : ks.contains i with
 | true =>
  rw [lk_sel hk]
  clear e
  induction fr with
  | nil => rfl
  | cons p l ih =>
   rw [lk, lk]
   split
   · rfl
   · exact ih
 | false =>
  refine (lk_none (fr := sel ks fr) fun p hp e => ?_).symm
  have := sel_mem hp
  simp only [e, hk] at this
  cases this
theorem num_ov : ∀ (args : List AV) (i : Nat) (tm : List AV) (k : Nat), (∀ (j : Nat) (d : AV), args[j]? = some d → tm[i + j]? = some d) → ov (num i args) tm = tm
 | [], _, _, _, _ => rfl
 | a :: l, i, tm, k, h => by
  rw [num, ov, num_ov l (i + 1) tm k fun j d hd => by rw [show i + 1 + j = i + (j + 1) by omega]; exact h (j + 1) d (by simpa using hd)]
  have h0 := h 0 a (by simp)
  rw [Nat.add_zero] at h0
  refine List.ext_getElem? fun j => ?_
  rw [List.getElem?_set]
  split
  · rename_i e; subst e
    rw [if_pos (List.getElem?_eq_some_iff.1 h0).1, h0]
  · rfl
theorem num_fm {args : List AV} {n : Nat} (h : args.length ≤ n) : args ++ List.replicate (n - args.length) (.tup []) = fm n (num 0 args) args := by
 unfold fm
 rw [List.take_of_length_le h, num_ov args 0 _ 0]
 intro j d hd
 rw [Nat.zero_add, List.getElem?_append_left (List.getElem?_eq_some_iff.1 hd).1, hd]
section
variable {P : Program} {E : Env} {M : List TypeId} {n : Nat} {fr : List (Nat × AV)} {tm : List AV} {σ : Sto} {Q : AExit → List AV → Sto → Prop}
theorem CallW.startF {f : FuncId} {fn : Func} {c : Code} {args : List AV} {Q : ARes → Sto → Prop} (hp : E.prim f = none) (hf : E.code f = some fn) (hc : fn.body = some c) (hm : E.ms f = M) (hk : fn.ntmps = n) (hn : args.length ≤ n)
    (h : ∀ tm : List AV, CW P E M c (fm n (num 0 args) tm) σ (bodyW P fn Q)) : CallW P E f args σ Q :=
 CallW.body hp hf hc (by rw [hk, num_fm hn, hm]; exact h _)
theorem JC.startF {f : FuncId} {fn : Func} {c : Code} {args : List AV} {Q : ARes → Sto → Prop} (hf : E.code f = some fn) (hc : fn.body = some c) (hm : E.ms f = M) (hk : fn.ntmps = n) (hn : args.length ≤ n)
    (h : ∀ tm : List AV, CW P E M c (fm n (num 0 args) tm) σ (bodyW P fn Q)) : JC P E f args σ Q :=
 J.body hf hc (by rw [hk, num_fm hn, hm]; exact J.cw (h _))
theorem JC.startG {f : FuncId} {fn : Func} {c : Code} {args : List AV} {Q : ARes → Sto → Prop} (hf : E.code f = some fn) (hc : fn.body = some c) (hm : E.ms f = M) (hk : fn.ntmps = n) (hn : args.length ≤ n)
    (h : ∀ tm : List AV, JD P E M c (fm n (num 0 args) tm) σ (bodyW P fn Q)) : JC P E f args σ Q :=
 J.body hf hc (by rw [hk, num_fm hn, hm]; exact h _)
theorem CW.keep (ks : List Nat) {c : Code} (h : ∀ tm, CW P E M c (fm n (sel ks fr) tm) σ Q) : CW P E M c (fm n fr tm) σ Q := by
 rw [fm_sel ks]; exact h _
theorem CW.loopF {α : Type} (F : α → List (Nat × AV)) (S : α → Sto) (G : α → Prop) (μ : α → Nat) {c : Code} (a : α) (h0 : sub (F a) fr) (hs : σ = S a) (hg : G a)
    (round : ∀ a tm, G a → CW P E M c (fm n (F a) tm) (S a) (andThen (fun tm1 σ1 => ∃ a' fr' tm', tm1 = fm n fr' tm' ∧ sub (F a') fr' ∧ σ1 = S a' ∧ G a' ∧ μ a' < μ a) Q)) : CW P E M (.loop c) (fm n fr tm) σ Q := by
 refine CW.loopI (fun k tm σ => ∃ a fr' tm', k = μ a ∧ tm = fm n fr' tm' ∧ sub (F a) fr' ∧ σ = S a ∧ G a) ?_ (μ a) _ _ ⟨a, fr, tm, rfl, rfl, h0, hs, hg⟩
 rintro k tm σ ⟨a, fr', tm', rfl, rfl, h1, rfl, h2⟩
 rw [fm_sub h1]
 refine (round a _ h2).mono fun x tm1 σ1 h => ?_
 cases x with
 | normal =>
  obtain ⟨a', fr', tm', e1, e2, e3, e4, e5⟩ := h
  exact ⟨μ a', e5, a', fr', tm', rfl, e1, e2, e3, e4⟩
 | _ => exact h
end
theorem st_get0 {σ l : Sto} {n : Nat} (h : n = σ.length) : (σ ++ l)[n]? = l[0]? := by
 subst h; rw [List.getElem?_append_right (Nat.le_refl _), Nat.sub_self]
theorem st_getk {σ l : Sto} {n k : Nat} (h : n = σ.length) : (σ ++ l)[n + k]? = l[k]? := by
 subst h; rw [List.getElem?_append_right (by omega), Nat.add_sub_cancel_left]
theorem st_set0 {σ l : Sto} {n : Nat} {o : AObj} (h : n = σ.length) : (σ ++ l).set n o = σ ++ l.set 0 o := by
 subst h; rw [List.set_append_right _ _ (Nat.le_refl _), Nat.sub_self]
theorem st_setk {σ l : Sto} {n k : Nat} {o : AObj} (h : n = σ.length) : (σ ++ l).set (n + k) o = σ ++ l.set k o := by
 subst h; rw [List.set_append_right _ _ (by omega), Nat.add_sub_cancel_left]
theorem extB_self (σ : Sto) : extB σ σ = true := extB_of ⟨[], by simp⟩
set_option linter.defProp false in
def zF := (And.intro (And.intro @slot_fm @fm_len) (And.intro @set_fm (And.intro @st_get0 (And.intro @st_getk (And.intro @st_set0 @st_setk)))))
section
variable {K : List AV → Sto → Prop} {Q : AExit → List AV → Sto → Prop} {tm : List AV} {σ : Sto}
theorem andThen_n : andThen K Q .normal tm σ = K tm σ := rfl
theorem andThen_r : andThen K Q .ret tm σ = Q .ret tm σ := rfl
theorem andThen_p {v : AV} : andThen K Q (.pan v) tm σ = Q (.pan v) tm σ := rfl
theorem andThen_e {i : Nat} : andThen K Q (.exit i) tm σ = Q (.exit i) tm σ := rfl
theorem outOf_n {i : Nat} : outOf i Q .normal tm σ = Q .normal tm σ := rfl
theorem outOf_r {i : Nat} : outOf i Q .ret tm σ = Q .ret tm σ := rfl
theorem outOf_p {i : Nat} {v : AV} : outOf i Q (.pan v) tm σ = Q (.pan v) tm σ := rfl
theorem outOf_e {i j : Nat} : outOf i Q (.exit j) tm σ = if j = i then Q .normal tm σ else Q (.exit j) tm σ := rfl
theorem retK_r {A B : AV → Sto → Prop} {v : AV} : retK A B (.ret v) σ = A v σ := rfl
theorem retK_p {A B : AV → Sto → Prop} {v : AV} : retK A B (.pan v) σ = B v σ := rfl
end
set_option linter.defProp false in
def zX := And.intro symB (And.intro zF (And.intro (And.intro @lk.eq_1 (And.intro @lk.eq_2 (And.intro @pt.eq_1 (And.intro @pt.eq_2 (And.intro @num.eq_1 @num.eq_2))))) (And.intro (And.intro @sel.eq_1 (And.intro @sel.eq_2 (And.intro @sub.eq_1 (And.intro @sub.eq_2 @extB_self)))) (And.intro (And.intro @andThen_n (And.intro @andThen_r (And.intro @andThen_p @andThen_e))) (And.intro (And.intro @outOf_n (And.intro @outOf_r (And.intro @outOf_p @outOf_e))) (And.intro @retK_r @retK_p))))))
theorem len_setV (l : List AV) (i : Nat) (a : AV) : (l.set i a).length = l.length := List.length_set
theorem len_setO (l : List AObj) (i : Nat) (a : AObj) : (l.set i a).length = l.length := List.length_set
theorem zL {n m : Nat} (h : n.ble m = true) : n ≤ m := Nat.le_of_ble_eq_true h
set_option linter.defProp false in
def zY := And.intro zX (And.intro len_setV len_setO)
def Apd (σ : Sto) (e : TypeId) (m : Nat) (tok : Tok) (g : List AObj) : Prop := (tok = .full ∧ m = 0) ∨ ∃ i, tok = .own (σ.length + i) ∧ g[i]? = some (.tok m e)
theorem Apd.nil (σ : Sto) (e : TypeId) (g : List AObj) : Apd σ e 0 .full g := .inl ⟨rfl, rfl⟩
theorem Apd.push {σ : Sto} {e : TypeId} {m : Nat} {tok : Tok} {g : List AObj} (h : Apd σ e m tok g) (l : List AObj) : Apd σ e m tok (g ++ l) := by
 rcases h with h | ⟨i, h1, h2⟩
 · exact .inl h
 · exact .inr ⟨i, h1, by rw [List.getElem?_append_left (List.getElem?_eq_some_iff.1 h2).1]; exact h2⟩
theorem apd0 {P : Program} {M : List TypeId} {σ : Sto} {es : List (List AV)} {tok tk : Tok} {t e k by_ : Nat} {ρ : Operand → Option AV} {ds : Option Tmp} {ty : TypeId} {po : String} {af : Array Edge} {gu : Option (Nat × Bool)} {x y : Operand} (ht : P.underlying t = some (.slice e)) (hk : szOf P e = some (k + 1)) (hb : bytesOf P e = some by_) (hz : ((P.info? e).bind fun x => x.zero).map (fun z => z.cells.size) = some (k + 1))
    (h1 : es.head?.all (·.length == k + 1) = true) (hby : es.length * by_ ≤ 140737488355328) (hle : es.length ≤ 140737488355328) (hx : ρ x = some (.sl es tok)) (hy : ρ y = some (.sl [] tk)) (hMt : M.contains t = false := by rfl) :
    evStep P M ρ σ ⟨ds, .call ⟨.builtin .append, #[x, y], #[t, t]⟩, ty, po, af, gu⟩ = some (.val (.sl es tok) σ .pure) := by
 have hlit : evLit P ρ σ ⟨ds, .call ⟨.builtin .append, #[x, y], #[t, t]⟩, ty, po, af, gu⟩ = none := by
  unfold evLit
  simp [Op.operands, Call.operands, hx, conc, conc2]
 unfold evStep
 rw [if_neg (by simp only [mutOp, hMt]; exact Bool.false_ne_true), hlit]
 simp only [evPure, evMem, List.toList_toArray]
 simp [evAppend, ht, hx, hy, hk, hb, hz, h1, hby, hle]
theorem Frz.nrm' {σ : Sto} {n : Nat} : ∀ (v : AV), v.pln = true → Frz σ n v v.nrm
 | .lit v, _ => .same _ (.lit v)
 | .sl es t, h => by
  rw [AV.pln, plnRR_iff] at h
  rw [AV.nrm]
  refine .sl es _ t (by rw [nrmRR_map, List.length_map]) (fun i e f he hf => ?_) fun i j e f d d' he hf hd hd' => ?_
  · rw [nrmRR_map, List.getElem?_map, he] at hf
    cases hf
    rw [nrmR_map, List.length_map]
  · rw [nrmRR_map, List.getElem?_map, he] at hf
    cases hf
    rw [nrmR_map, List.getElem?_map, hd] at hd'
    cases hd'
    have hm := List.mem_of_getElem? he
    have hm2 := List.mem_of_getElem? hd
    have := List.sizeOf_lt_of_mem hm
    have := List.sizeOf_lt_of_mem hm2
    exact Frz.nrm' d ((plnR_iff _).1 (h e hm) d hm2)
 | .rsl es g, h => by
  rw [AV.pln, plnRR_iff] at h
  rw [AV.nrm]
  refine .rsl es _ g (by rw [nrmRR_map, List.length_map]) (fun i e f he hf => ?_) fun i j e f d d' he hf hd hd' => ?_
  · rw [nrmRR_map, List.getElem?_map, he] at hf
    cases hf
    rw [nrmR_map, List.length_map]
  · rw [nrmRR_map, List.getElem?_map, he] at hf
    cases hf
    rw [nrmR_map, List.getElem?_map, hd] at hd'
    cases hd'
    have hm := List.mem_of_getElem? he
    have hm2 := List.mem_of_getElem? hd
    have := List.sizeOf_lt_of_mem hm
    have := List.sizeOf_lt_of_mem hm2
    exact Frz.nrm' d ((plnR_iff _).1 (h e hm) d hm2)
 | .agg cs, h => by
  rw [AV.pln, plnR_iff] at h
  rw [AV.nrm]
  refine .agg cs _ (by rw [nrmR_map, List.length_map]) fun j d d' hd hd' => ?_
  rw [nrmR_map, List.getElem?_map, hd] at hd'
  cases hd'
  have hm2 := List.mem_of_getElem? hd
  have := List.sizeOf_lt_of_mem hm2
  exact Frz.nrm' d (h d hm2)
 | .tup cs, h => by
  rw [AV.pln, plnR_iff] at h
  rw [AV.nrm]
  refine .tup cs _ (by rw [nrmR_map, List.length_map]) fun j d d' hd hd' => ?_
  rw [nrmR_map, List.getElem?_map, hd] at hd'
  cases hd'
  have hm2 := List.mem_of_getElem? hd
  have := List.sizeOf_lt_of_mem hm2
  exact Frz.nrm' d (h d hm2)
 | .fn (.func g) f c, h => by
  rw [AV.pln, Bool.and_eq_true] at h
  obtain rfl := List.isEmpty_iff.1 h.1
  obtain rfl := List.isEmpty_iff.1 h.2
  exact .same _ (.fn _ _ _ (fun j d hd => by simp at hd) fun j d hd => by simp at hd)
 | .ptr .., h | .eptr .., h | .asl .., h | .mp .., h | .ifc .., h => by simp [AV.pln] at h
termination_by v => SizeOf.sizeOf v
decreasing_by all_goals (simp_wf; omega)
theorem Frz.nrm {σ : Sto} {n : Nat} {v : AV} (h : v.pln = true) : Frz σ n v v.nrm := Frz.nrm' v h
end
section
open Go.RowKit
def Lets (ids : List Nat) : Prop := ∀ (i j a b : Nat), ids[i]? = some a → ids[j]? = some b → i ≠ j → a ≠ b
theorem Lets.nil : Lets [] := fun i j a b h => by simp at h
theorem Lets.cons {a : Nat} {l : List Nat} (h : a ∉ l) (hl : Lets l) : Lets (a :: l) := by
 intro i j x y hx hy hij e
 subst e
 cases i with
 | zero =>
  cases j with
  | zero => exact hij rfl
  | succ j => simp at hx hy; subst hx; exact h (List.mem_of_getElem? hy)
 | succ i =>
  cases j with
  | zero => simp at hx hy; subst hy; exact h (List.mem_of_getElem? hx)
  | succ j => exact hl i j x x (by simpa using hx) (by simpa using hy) (by omega) rfl
inductive Sim (ids : List Nat) : Acc → Acc → Prop
 | pure : Sim ids .pure .pure
 | reads (i a : Nat) : ids[i]? = some a → Sim ids (.reads a) (.reads i)
 | writes (i a : Nat) : ids[i]? = some a → Sim ids (.writes a) (.writes i)
 | news (i a : Nat) : ids[i]? = some a → Sim ids (.news a) (.news i)
 | calls (n m : Nat) (K K' : Nat → Bool) : (∀ i a, ids[i]? = some a → K' i = true → i < m → K a = true ∧ a < n) → (∀ i a, ids[i]? = some a → K' i = true → K a = true) → Sim ids (.calls n K) (.calls m K')
 | lcalls (K K' : Nat → Bool) : (∀ i a, ids[i]? = some a → K' i = true → K a = true) → Sim ids (.lcalls K) (.lcalls K')
 | any (x : Acc) : Sim ids x .any
theorem Sim.clash {ids : List Nat} (hl : Lets ids) {x y x' y' : Acc} (hx : Sim ids x x') (hy : Sim ids y y') (h : Go.Proofs.YtmmgjaheffbpaaaGreatDoor.clash x' y' = false) : Go.Proofs.YtmmgjaheffbpaaaGreatDoor.clash x y = false := by
 have hq : ∀ {i j a b : Nat}, ids[i]? = some a → ids[j]? = some b → (i == j) = false → (a == b) = false := fun ha hb e => beq_eq_false_iff_ne.2 (hl _ _ _ _ ha hb (beq_eq_false_iff_ne.1 e))
 cases hx with
 | pure => cases y <;> rfl
 | any => cases y' <;> simp [Go.Proofs.YtmmgjaheffbpaaaGreatDoor.clash] at h; cases hy; cases x <;> rfl
 | reads i a ha =>
  cases hy with
  | pure => rfl
  | any => simp [Go.Proofs.YtmmgjaheffbpaaaGreatDoor.clash] at h
  | reads j b hb => rfl
  | writes j b hb => exact hq ha hb h
  | news j b hb => exact hq ha hb h
  | calls n m K K' h1 h2 =>
   simp only [Go.Proofs.YtmmgjaheffbpaaaGreatDoor.clash, Bool.not_eq_false'] at h ⊢
   exact h2 _ _ ha h
  | lcalls K K' h2 =>
   simp only [Go.Proofs.YtmmgjaheffbpaaaGreatDoor.clash, Bool.not_eq_false'] at h ⊢
   exact h2 _ _ ha h
 | writes i a ha =>
  cases hy with
  | pure => rfl
  | any => simp [Go.Proofs.YtmmgjaheffbpaaaGreatDoor.clash] at h
  | reads j b hb => exact hq ha hb h
  | writes j b hb => exact hq ha hb h
  | news j b hb => exact hq ha hb h
  | calls n m K K' h1 h2 => simp [Go.Proofs.YtmmgjaheffbpaaaGreatDoor.clash] at h
  | lcalls K K' h2 => simp [Go.Proofs.YtmmgjaheffbpaaaGreatDoor.clash] at h
 | news i a ha =>
  cases hy with
  | pure => rfl
  | any => simp [Go.Proofs.YtmmgjaheffbpaaaGreatDoor.clash] at h
  | reads j b hb => exact hq ha hb h
  | writes j b hb => exact hq ha hb h
  | news j b hb => simp [Go.Proofs.YtmmgjaheffbpaaaGreatDoor.clash] at h
  | calls n m K K' h1 h2 => simp [Go.Proofs.YtmmgjaheffbpaaaGreatDoor.clash] at h
  | lcalls K K' h2 => simp [Go.Proofs.YtmmgjaheffbpaaaGreatDoor.clash] at h
 | calls n m K K' h1 h2 =>
  cases hy with
  | pure => rfl
  | any => simp [Go.Proofs.YtmmgjaheffbpaaaGreatDoor.clash] at h
  | reads j b hb =>
   simp only [Go.Proofs.YtmmgjaheffbpaaaGreatDoor.clash, Bool.not_eq_false', Bool.and_eq_true, decide_eq_true_eq] at h ⊢
   exact h1 _ _ hb h.1 h.2
  | writes j b hb => simp [Go.Proofs.YtmmgjaheffbpaaaGreatDoor.clash] at h
  | news j b hb => simp [Go.Proofs.YtmmgjaheffbpaaaGreatDoor.clash] at h
  | calls => simp [Go.Proofs.YtmmgjaheffbpaaaGreatDoor.clash] at h
  | lcalls K K' h2 => simp [Go.Proofs.YtmmgjaheffbpaaaGreatDoor.clash] at h
 | lcalls K K' h2 =>
  cases hy with
  | pure => rfl
  | any => simp [Go.Proofs.YtmmgjaheffbpaaaGreatDoor.clash] at h
  | reads j b hb =>
   simp only [Go.Proofs.YtmmgjaheffbpaaaGreatDoor.clash, Bool.not_eq_false'] at h ⊢
   exact h2 _ _ hb h
  | writes j b hb => simp [Go.Proofs.YtmmgjaheffbpaaaGreatDoor.clash] at h
  | news j b hb => rfl
  | calls => simp [Go.Proofs.YtmmgjaheffbpaaaGreatDoor.clash] at h
  | lcalls => simp [Go.Proofs.YtmmgjaheffbpaaaGreatDoor.clash] at h
inductive Sims (ids : List Nat) : List Acc → List Acc → Prop
 | nil : Sims ids [] []
 | cons {x y : Acc} {l m : List Acc} : Sim ids x y → Sims ids l m → Sims ids (x :: l) (y :: m)
theorem Sims.at {ids : List Nat} {l m : List Acc} (h : Sims ids l m) (n : Nat) : Sim ids (l.getD n .any) (m.getD n .any) := by
 induction h generalizing n with
 | nil => exact .any _
 | cons h _ ih =>
  cases n with
  | zero => simpa using h
  | succ n => simpa using ih n
theorem Sims.len {ids : List Nat} {l m : List Acc} (h : Sims ids l m) : l.length = m.length := by
 induction h with
 | nil => rfl
 | cons _ _ ih => simp [ih]
theorem Sim.keeps {ids : List Nat} {n m : Nat} {K : Nat → Bool} (h : ∀ a ∈ ids, K a = true ∧ a < n) : Sim ids (.calls n K) (.calls m fun _ => true) :=
 .calls n m K _ (fun i a ha _ _ => h a (List.mem_of_getElem? ha)) fun i a ha _ => (h a (List.mem_of_getElem? ha)).1
end
section
open Go.RowKit
structure FS where
 α : Type
 args : α → List AV
 pre : α → Sto → Prop
 post : α → Sto → ARes × Sto
 sz : α → Nat
def FS.key (s : FS) (args : List AV) (a : s.α) : Prop := nrmR args = s.args a ∨ (flatR args = s.args a ∧ ∀ b, nrmR args ≠ s.args b)
theorem FS.key_eq {s : FS} {args : List AV} {a b : s.α} (h : s.key args a) (k : s.key args b) : s.args a = s.args b := by
 rcases h with h | ⟨h, h2⟩ <;> rcases k with k | ⟨k, k2⟩
 · exact h.symm.trans k
 · exact absurd h (k2 a)
 · exact absurd k (h2 b)
 · exact h.symm.trans k
def FS.S (s : FS) (N : Nat) (args : List AV) (σ : Sto) (r : ARes) (σ' : Sto) : Prop := ∃ a, s.key args a ∧ s.pre a σ ∧ s.sz a < N ∧ s.post a σ = (r, σ')
def FS.uniq (s : FS) : Prop := ∀ a b σ, s.args a = s.args b → s.pre a σ → s.pre b σ → s.post a σ = s.post b σ
def FS.Ok (P : Program) (s : FS) (f : FuncId) (a : s.α) (σ : Sto) : Prop := Tells P (.call f (s.args a) σ fun r1 σ1 => Fgt σ r1 σ1 (s.post a σ).1 (s.post a σ).2)
structure Sp where
 code : FuncId → Option Func
 ms : FuncId → List TypeId
 base : FuncId → Option (List AV → Sto → Option (ARes × Sto))
 sp : FuncId → Option FS
noncomputable def Sp.E (S : Sp) (N : Nat) : Env := { code := S.code, ms := S.ms, prim := fun f => match S.sp f with | some s => some (relPrim (s.S N)) | none => S.base f }
theorem fs_sound {P : Program} {s : FS} {N : Nat} {f : FuncId} (h : ∀ a σ, s.pre a σ → s.sz a < N → s.Ok P f a σ) : CallSound P fun f' args σ => if f' = f then relPrim (s.S N) args σ else none := by
 intro f' args σ r σ' hr ι Z w us hM hl hargs
 dsimp only at hr
 split at hr
 · rename_i e
   subst e
   obtain ⟨a, e1, e2, e3, e4⟩ := relPrim_spec hr
   have hlen : (s.args a).length = us.size := by
    rcases e1 with e1 | ⟨e1, _⟩
    · rw [← e1, nrmR_map, List.length_map]; exact hl
    · rw [← e1, flatR_map, List.length_map]; exact hl
   have hk := h a σ e2 e3 ι Z w us hM hlen fun i d u hd hu => by
    rcases e1 with e1 | ⟨e1, _⟩
    · rw [← e1, nrmR_map, List.getElem?_map, Option.map_eq_some_iff] at hd
      obtain ⟨d', h1, rfl⟩ := hd
      exact (hargs i d' u h1 hu).nrm
    · rw [← e1, flatR_map, List.getElem?_map, Option.map_eq_some_iff] at hd
      obtain ⟨d', h1, rfl⟩ := hd
      exact (hargs i d' u h1 hu).flat
   obtain ⟨h1, h2⟩ := hk
   refine ⟨h1, h2.mono fun e w' hx => ?_⟩
   obtain ⟨r1, σ1, ι', Z', hF, hEv, hM', hR⟩ := hx
   rw [e4] at hF
   exact forget hM hEv hM' hR hF
 · cases hr
theorem Sp.ok {P : Program} {S : Sp} (hc : ∀ (f : FuncId) (fn : Func), S.code f = some fn → P.funcs[f]? = some fn ∧ ∀ args w, (callFunc f args).run P w = .ok (.enter f args) w)
    (hb : ∀ (f : FuncId) (g : List AV → Sto → Option (ARes × Sto)), S.base f = some g → CallSound P fun f' args σ => if f' = f then g args σ else none)
    (hw : ∀ N, EnvOk P (S.E N) → ∀ f s, S.sp f = some s → ∀ a σ, s.pre a σ → s.sz a ≤ N → s.Ok P f a σ) : ∀ N, EnvOk P (S.E N) := by
 have step : ∀ N, (∀ f s, S.sp f = some s → ∀ a σ, s.pre a σ → s.sz a < N → s.Ok P f a σ) → EnvOk P (S.E N) := fun N h => {
  code := hc
  prim := fun f g hg => by
   have hg : (match S.sp f with | some s => some (relPrim (s.S N)) | none => S.base f) = some g := hg
   split at hg
   · rename_i s hs
     cases hg
     exact fs_sound (h f s hs)
   · exact hb f g hg }
 intro N
 induction N with
 | zero => exact step 0 fun f s hs a σ hp hl => absurd hl (Nat.not_lt_zero _)
 | succ N ih => exact step (N + 1) fun f s hs a σ hp hl => hw N ih f s hs a σ hp (Nat.le_of_lt_succ hl)
theorem call_spK {P : Program} {S : Sp} {N : Nat} {f : FuncId} {s : FS} {args : List AV} {σ : Sto} {Q : ARes → Sto → Prop} (a : s.α) (hs : S.sp f = some s) (hu : s.uniq) (ha : s.key args a) (hp : s.pre a σ) (hN : s.sz a < N) (hq : Q (s.post a σ).1 (s.post a σ).2) : CallW P (S.E N) f args σ Q := by
 have hp' : (S.E N).prim f = some (relPrim (s.S N)) := by show (match S.sp f with | some s => some (relPrim (s.S N)) | none => S.base f) = _; rw [hs]
 refine CallW.prim hp' (relPrim_eq ?_ ⟨a, ha, hp, hN, rfl⟩) hq
 rintro args σ r σ' r2 σ2 ⟨a, h1, h2, h3, h4⟩ ⟨b, g1, g2, g3, g4⟩
 have := hu a b σ (FS.key_eq h1 g1) h2 g2
 rw [h4, g4] at this
 exact ⟨congrArg Prod.fst this, congrArg Prod.snd this⟩
theorem call_sp {P : Program} {S : Sp} {N : Nat} {f : FuncId} {s : FS} {args : List AV} {σ : Sto} {Q : ARes → Sto → Prop} (a : s.α) (hs : S.sp f = some s) (hu : s.uniq) (ha : nrmR args = s.args a) (hp : s.pre a σ) (hN : s.sz a < N) (hq : Q (s.post a σ).1 (s.post a σ).2) : CallW P (S.E N) f args σ Q :=
 call_spK a hs hu (.inl ha) hp hN hq
theorem acc_spK {S : Sp} {N : Nat} {f : FuncId} {s : FS} {args : List AV} {σ : Sto} (a : s.α) (hs : S.sp f = some s) (hu : s.uniq) (ha : s.key args a) (hN : s.sz a < N) (hl : (s.post a σ).2.length = σ.length) (hq : ∀ l, s.pre a (σ ++ l) ∧ s.post a (σ ++ l) = ((s.post a σ).1, (s.post a σ).2 ++ l)) :
    accW (S.E N) f args σ (s.post a σ).1 (s.post a σ).2 = .lcalls (keptB σ (s.post a σ).2) := by
 have hp' : (S.E N).prim f = some (relPrim (s.S N)) := by show (match S.sp f with | some s => some (relPrim (s.S N)) | none => S.base f) = _; rw [hs]
 refine accW_loc hp' hl fun l => relPrim_eq ?_ ⟨a, ha, (hq l).1, hN, (hq l).2⟩
 rintro args σ r σ' r2 σ2 ⟨a, h1, h2, h3, h4⟩ ⟨b, g1, g2, g3, g4⟩
 have := hu a b σ (FS.key_eq h1 g1) h2 g2
 rw [h4, g4] at this
 exact ⟨congrArg Prod.fst this, congrArg Prod.snd this⟩
theorem acc_sp {S : Sp} {N : Nat} {f : FuncId} {s : FS} {args : List AV} {σ : Sto} (a : s.α) (hs : S.sp f = some s) (hu : s.uniq) (ha : nrmR args = s.args a) (hN : s.sz a < N) (hl : (s.post a σ).2.length = σ.length) (hq : ∀ l, s.pre a (σ ++ l) ∧ s.post a (σ ++ l) = ((s.post a σ).1, (s.post a σ).2 ++ l)) :
    accW (S.E N) f args σ (s.post a σ).1 (s.post a σ).2 = .lcalls (keptB σ (s.post a σ).2) := acc_spK a hs hu (.inl ha) hN hl hq
def loose : Acc → Acc
 | .lcalls _ => .lcalls fun _ => true
 | x => x
theorem clash_loose {x y : Acc} (hx : ∀ K, x = .lcalls K → ∀ a, y = .reads a → K a = true) (hy : ∀ K, y = .lcalls K → ∀ a, x = .reads a → K a = true) (h : clash (loose x) (loose y) = false) : clash x y = false := by
 cases x <;> cases y <;> simp_all [clash, loose]
theorem drawOk_keep {ops : Array Oper} {accs : List Acc} (h : ∀ K, .lcalls K ∈ accs → ∀ a, .reads a ∈ accs → K a = true) (hd : drawOk ops (accs.map loose) = true) : drawOk ops accs = true := by
 unfold drawOk at hd ⊢
 simp only [List.all_eq_true, List.mem_range, List.length_map] at hd ⊢
 intro i hi k hk
 have := hd i hi k hk
 unfold freeAt at this ⊢
 rw [Bool.or_eq_true] at this ⊢
 rcases this with this | this
 · exact .inl this
 · right
   have g : ∀ n, n < accs.length → (accs.map loose).getD n .any = loose (accs.getD n .any) ∧ accs.getD n .any ∈ accs := fun n hn => by
    rw [List.getD_eq_getElem?_getD, List.getD_eq_getElem?_getD, List.getElem?_map, List.getElem?_eq_getElem hn]
    exact ⟨rfl, List.getElem_mem hn⟩
   obtain ⟨e1, m1⟩ := g k (by omega)
   obtain ⟨e2, m2⟩ := g i hi
   rw [e1, e2] at this
   split at this
   · rename_i x y h1 h2
     simp only [Bool.and_eq_true, Bool.not_eq_true'] at this ⊢
     exact ⟨this.1, clash_loose (fun K hK a ha => h K (hK ▸ m1) a (ha ▸ m2)) (fun K hK a ha => h K (hK ▸ m2) a (ha ▸ m1)) this.2⟩
   · cases this
theorem kept_self (σ : Sto) : keptB σ σ = fun _ => true := by funext a; exact keptB_of rfl
theorem done {σ g : Sto} {v v2 : AV} (hp : v.pln = true) (hv : v.nrm = v2) : Fgt σ (.ret v) (σ ++ g) (.ret v2) σ := Fgt.pure ⟨g, rfl⟩ (hv ▸ Frz.nrm hp)
theorem done0 {σ : Sto} {v v2 : AV} (hp : v.pln = true) (hv : v.nrm = v2) : Fgt σ (.ret v) σ (.ret v2) σ := Fgt.pure (Ext.refl _) (hv ▸ Frz.nrm hp)
def codeP (P : Program) (f : FuncId) : Option Func := (P.funcs[f]?).bind fun fn => if fn.body.isSome && !(fn.name == "runtime.NumGoroutine") then some fn else none
theorem codeP_ok {P : Program} (f : FuncId) (fn : Func) (h : codeP P f = some fn) : P.funcs[f]? = some fn ∧ ∀ args w, (callFunc f args).run P w = .ok (.enter f args) w := by
 unfold codeP at h
 obtain ⟨g, h1, h2⟩ := Option.bind_eq_some_iff.1 h
 split at h2
 · rename_i hb
   cases h2
   refine ⟨h1, fun args w => ?_⟩
   rw [Bool.and_eq_true, Bool.not_eq_true'] at hb
   have hn : fn.body ≠ none := by intro hx; rw [hx] at hb; cases hb.1
   have h2 : fn.name ≠ "runtime.NumGoroutine" := by simpa using hb.2
   unfold callFunc
   simp [Sem.run, program, h1, h2, hn, bind, pure, Sem.bind]
 · cases h2
theorem codeOf {P : Program} {S : Sp} (hc : S.code = codeP P) {f : FuncId} {fn : Func} (h : P.funcs[f]? = some fn) (hb : fn.body.isSome = true) (hn : (fn.name == "runtime.NumGoroutine") = false) {N : Nat} : (S.E N).code f = some fn := by
 show S.code f = _
 rw [hc]; unfold codeP; rw [h]
 show (if (fn.body.isSome && !(fn.name == "runtime.NumGoroutine")) = true then some fn else none) = _
 rw [hb, hn]; rfl
abbrev pureF {α : Type} (A : α → List AV) (R : α → AV) (n : α → Nat) (r : Nat) : FS := ⟨α, A, fun p _ => n p ≤ 1000000000, fun p σ => (.ret (R p), σ), fun p => 16 * n p + r⟩
end
section
open Go.RowKit
def noCells : Obj → Bool
 | .cells .. => false
 | _ => true
theorem Match.laid {σ : Sto} {ι : List Nat} {Z : Nat → Nat → Prop} {w : World} (h : Match σ ι Z w) (x : Obj) : Evo ι Z w ι Z (w.alloc x) ∧ Match σ ι Z (w.alloc x) := by
 have e := Evo.alloc h x [] Z (by simp) (fun _ _ h => h) (fun _ _ h _ => h)
 rw [List.append_nil] at e
 exact ⟨e, h.same e fun id b hb => Below.heap_alloc _ _ _ (h.ilt id b hb)⟩
section
variable {σ : Sto} {ι : List Nat} {Z : Nat → Nat → Prop} {w : World} {k : Nat} {o x : Obj}
theorem putObj_other {b : Nat} (h : b ≠ k) : (w.putObj k x).heap[b]? = w.heap[b]? := World.putObj_heap_other h
theorem putObj_size : (w.putObj k x).heap.size = w.heap.size := by simp [World.putObj]
theorem turned_W (hk : w.heap[k]? = some o) (ho : noCells o = true) (hx : noCells x = true) (hz : ∀ j, ¬ Z k j) : EvoW ι Z w ι Z (w.putObj k x) where
 pre := fun _ _ h => h
 zmono := fun _ _ h => h
 zsame := fun b j h => World.cell?_of_block (putObj_other fun e => hz j (by rw [← show b = k from e]; exact h))
 csz := fun b hb => by
  by_cases e : b = k
  · subst e
    have h2 : (w.putObj b x).heap[b]? = some x := by simp [World.putObj, hb]
    unfold cellsz
    rw [hk, h2]
    cases o <;> first | (simp [noCells] at ho; done) | (cases x <;> first | rfl | (simp [noCells] at hx; done))
  · unfold cellsz; rw [putObj_other e]
theorem Match.turned (h : Match σ ι Z w) (hk : w.heap[k]? = some o) (ho : noCells o = true) (hx : noCells x = true) (hι : ∀ id : Nat, ι[id]? ≠ some k) (hz : ∀ j, ¬ Z k j) : Match σ ι Z (w.putObj k x) where
 len := h.len
 obj := fun id o' b ho' hb => (h.obj id o' b ho' hb).evoW (turned_W hk ho hx hz) (putObj_other fun e => hι id (e ▸ hb)) fun _ hj => hj
 inj := h.inj
 zlt := fun b j hj => by rw [putObj_size]; exact h.zlt b j hj
 glob := fun g l hg => ⟨(h.glob g l hg).1.evoW (turned_W hk ho hx hz), by rw [putObj_size]; exact (h.glob g l hg).2.1, ((turned_W (ι := ι) hk ho hx hz).csz g (h.glob g l hg).2.1).trans (h.glob g l hg).2.2⟩
 ilt := fun id b hb => by rw [putObj_size]; exact h.ilt id b hb
theorem Evo.turned {ι0 : List Nat} {Z0 : Nat → Nat → Prop} {w0 : World} (e : Evo ι0 Z0 w0 ι Z w) (hk : w0.heap.size ≤ k) (hz : ∀ j, ¬ Z k j) : Evo ι0 Z0 w0 ι Z (w.putObj k x) where
 pre := e.pre
 img := e.img
 zmono := e.zmono
 zsame := fun b j h => (World.cell?_of_block (putObj_other fun q => hz j (by rw [← show b = k from q]; exact e.zmono b j h))).trans (e.zsame b j h)
 csz := fun b hb => by
  have : cellsz (w.putObj k x) b = cellsz w b := by unfold cellsz; rw [putObj_other (by omega)]
  rw [this]; exact e.csz b hb
 size := by rw [putObj_size]; exact e.size
 keep := fun b hb hn => (putObj_other (by omega)).trans (e.keep b hb hn)
 os := e.os
 tape := e.tape
 output := e.output
 znew := e.znew
 inew := fun id b h => by rw [putObj_size]; exact e.inew id b h
end
structure Marked (ι0 : List Nat) (Z0 : Nat → Nat → Prop) (w0 : World) (D : Nat) (ι : List Nat) (Z : Nat → Nat → Prop) (w : World) : Prop where
 evo : Evo ι0 Z0 w0 ι Z w
 ge : w0.heap.size ≤ D
 obj : w.heap[D]? = some (.deferred (some []))
 no : ∀ id : Nat, ι[id]? ≠ some D
 noz : ∀ j, ¬ Z D j
theorem Marked.go {ι0 ι ι' : List Nat} {Z0 Z Z' : Nat → Nat → Prop} {w0 w w' : World} {D : Nat} (h : Marked ι0 Z0 w0 D ι Z w) (e : Evo ι Z w ι' Z' w') : Marked ι0 Z0 w0 D ι' Z' w' := by
 have hD := (Array.getElem?_eq_some_iff.1 h.obj).1
 refine ⟨h.evo.trans e, h.ge, (e.keep D hD h.no).trans h.obj, fun id hid => ?_, fun j hj => ?_⟩
 · obtain ⟨i, hi⟩ := e.img id D hid hD
   exact h.no i hi
 · rcases e.znew D j hj hD with hz | ⟨id, hid⟩
   · exact h.noz j hz
   · exact h.no id hid
theorem wp_range0 {P : Program} {E : Env} (hm : P.follows .mixedOrders = true) (hE : EnvOk P E) {g : Operand} {ps : Array Tmp} {assign body : Code} {tm cap : List AV} {σ : Sto} {f : FuncId} {R : Sto → Prop} (hg : evx tm g = some (.fn (.func f) [] cap))
    (hit : ∀ l : Nat, JC P E f (.fn (.yield l) [] [] :: cap) σ fun r σ' => (∃ v, r = .ret v) ∧ R σ') {ι0 ι : List Nat} {Z0 Z : Nat → Nat → Prop} {w0 w : World} {a : Act} (hev : Evo ι0 Z0 w0 ι Z w) (hM : Match σ ι Z w) (hF : FR ι Z w tm a.tmps) {K : Exit → Act → World → Prop}
    (hK : ∀ σ' ι' Z' w' D, R σ' → Marked ι0 Z0 w0 D ι' Z' w' → Match σ' ι' Z' w' → FR ι' Z' w' tm a.tmps → K .normal { a with defers := { target := .collected D, args := #[] } :: a.defers } w') :
    (Code.rangeFunc g ps assign body).wp P K a w := by
 refine (wpIn_wide (n := 1)).1 (wpIn_rangeFunc (F := Fence.wide) ?_)
 intro fn hfn
 have hgv := evx_rel hM hF g _ hg
 generalize hv : a.eval g = gv at hgv
 cases hgv with
 | fn _ _ _ fs cs hfs hcs _ hcap =>
 have hfs0 : fs = #[] := by
  have : fs.size = 0 := by simpa using hfs.symm
  exact Array.eq_empty_of_size_eq_zero this
 subst hfs0
 let D := w.heap.size
 let rec' : LoopState → Option Code → Loop := fun st pe => { state := st, pending := pe, fn, tmps := a.tmps, params := ps, assign, body, defers := w.heap.size }
 obtain ⟨e1, m1⟩ := hM.laid (.deferred (some []))
 obtain ⟨e2, m2⟩ := m1.laid (.loop (rec' .ready none))
 let W1 : World := (w.alloc (.deferred (some []))).alloc (.loop (rec' .ready none))
 have hs1 : (w.alloc (.deferred (some []))).heap.size = w.heap.size + 1 := by simp
 have hL1 : W1.heap[w.heap.size + 1]? = some (.loop (rec' .ready none)) := by
  have := World.alloc_heap_new (w.alloc (.deferred (some []))) (.loop (rec' .ready none)); rwa [hs1] at this
 have hD1 : W1.heap[w.heap.size]? = some (.deferred (some [])) := (Below.heap_alloc _ _ _ (by simp)).trans (World.alloc_heap_new w _)
 have e12 := e1.trans e2
 have hcall := J.tells hm hE (hit (w.heap.size + 1)) ι Z W1 (#[.func (.yield (w.heap.size + 1)) #[] #[]] ++ cs) m2 (by simp [hcs]; omega) (fun i d u hd hu => by
  cases i with
  | zero =>
   have hu' : u = .func (.yield (w.heap.size + 1)) #[] #[] := by
    rw [Array.getElem?_append_left (by simp)] at hu
    simpa using hu.symm
   have hd' : d = .fn (.yield (w.heap.size + 1)) [] [] := by simpa using hd.symm
   subst hu'; subst hd'
   exact .fn _ _ _ _ _ rfl rfl (fun i d u h => by simp at h) fun i d u h => by simp at h
  | succ i =>
   have hd' : cap[i]? = some d := by simpa using hd
   have hu' : cs[i]? = some u := by
    rw [Array.getElem?_append_right (by simp)] at hu
    simpa using hu
   exact (hcap i d u hd' hu').evo e12)
 refine ⟨w.heap.size + 1, [{ target := .collected w.heap.size, args := #[] }], W1, { target := .fn (.func f) cs, args := #[.func (.yield (w.heap.size + 1)) #[] #[]] }, W1, f, #[.func (.yield (w.heap.size + 1)) #[] #[]] ++ cs, W1, ?_, ?_, fun _ _ => trivial, ?_, fun h => by simp [Fence.wide] at h, ?_⟩
 · exact run_enterLoop_outer fn a.tmps ps assign body
 · simp only [resolve, hv]
   simp [go_sem]
 · have := hcall.1
   simp [invoke, go_sem, this, W1]
 · refine callsIn_wide.2 (hcall.2.mono ?_)
   rintro e w' ⟨r, σ', ι', Z', ⟨⟨v, rfl⟩, hR⟩, e3, m3, u, rfl, hu⟩
   have hlt1 : w.heap.size + 1 < W1.heap.size := (Array.getElem?_eq_some_iff.1 hL1).1
   have hno1 : ∀ id : Nat, ι[id]? ≠ some (w.heap.size + 1) := fun id h => by have := hM.ilt id _ h; omega
   have hno0 : ∀ id : Nat, ι[id]? ≠ some w.heap.size := fun id h => by have := hM.ilt id _ h; omega
   have hz1 : ∀ j, ¬ Z (w.heap.size + 1) j := fun j h => by have := hM.zlt _ j h; omega
   have hz0 : ∀ j, ¬ Z w.heap.size j := fun j h => by have := hM.zlt _ j h; omega
   have hM1 : Marked ι0 Z0 w0 w.heap.size ι Z W1 := ⟨hev.trans e12, hev.size, hD1, hno0, hz0⟩
   have hM2 := hM1.go e3
   have hL2 : w'.heap[w.heap.size + 1]? = some (.loop (rec' .ready none)) := (e3.keep _ hlt1 hno1).trans hL1
   have hnoL : ∀ id : Nat, ι'[id]? ≠ some (w.heap.size + 1) := fun id h => by
    obtain ⟨i, hi⟩ := e3.img id _ h hlt1
    exact hno1 i hi
   have hzL : ∀ j, ¬ Z' (w.heap.size + 1) j := fun j h => by
    rcases e3.znew _ j h hlt1 with hz | ⟨id, hid⟩
    · exact hz1 j hz
    · exact hno1 id hid
   refine ⟨none, _, run_endLoop hL2 (by simp [rec']), ?_⟩
   refine hK σ' ι' Z' _ w.heap.size hR ?_ (m3.turned hL2 rfl rfl hnoL hzL) ?_
   · refine ⟨hM2.evo.turned (by have := hev.size; omega) hzL, hev.size, (putObj_other (by omega)).trans hM2.obj, hM2.no, hM2.noz⟩
   · refine ⟨hF.1, fun i d u hd hu => ?_⟩
     exact (((hF.2 i d u hd hu).evo e12).evo e3).evoW (turned_W hL2 rfl rfl hzL)
end
end Go.Proofs.YtmmgjaheffbpaaaGreatDoor
