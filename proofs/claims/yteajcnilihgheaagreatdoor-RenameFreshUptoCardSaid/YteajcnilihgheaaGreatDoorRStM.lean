/-
 EV: the package rename: the whole state: the names used, the stacks; what a call may touch.
-/
import Derived.Test.YteajcnilihgheaaGreatDoorRStemM
import Derived.Test.YteajcnilihgheaaGreatDoorEvRange3M
import Derived.Test.YteajcnilihgheaaGreatDoorEvChM
import Derived.Test.YteajcnilihgheaaGreatDoorEvDraw2M
namespace Go.Proofs.YteajcnilihgheaaGreatDoor
set_option linter.unusedSimpArgs false
set_option linter.unusedVariables false
section
open Go.RowKit
structure RQ where
 rid : Nat
 iid : Nat
 nid : Nat
 bid : Nat
structure St (q : RQ) (u : List ByteArray) (st : ByteArray → List ByteArray) (σ : Sto) : Prop where
 a : ∃ tok, (⟨q.rid, q.iid, q.nid, q.bid, tok, u⟩ : NS).At σ
 b : ∃ bs, σ[q.bid]? = some (.map .str bs) ∧ BS st bs σ
 h : ∀ s, (st s).length ≤ u.length
 ib : q.iid ≠ q.bid
 nb : q.nid ≠ q.bid
def Own (q : RQ) (σ : Sto) (p : Nat) : Prop :=
 p = q.rid ∨ p = q.iid ∨ p = q.nid ∨ p = q.bid ∨ (∃ u x y z, σ[q.rid]? = some (.cells [.sl u (.own p), x, y, z] 99)) ∨ ∃ bs s n, σ[q.bid]? = some (.map .str bs) ∧ mapGet (.string s) bs = some (.asl p 0 n 1)
structure Fr (q : RQ) (V : Nat → Prop) (σ σ' : Sto) : Prop where
 len : σ.length ≤ σ'.length
 keep : ∀ p, p < σ.length → ¬ Own q σ p → ¬ V p → σ'[p]? = σ[p]?
 own : ∀ p, Own q σ' p → Own q σ p ∨ σ.length ≤ p
def nV : Nat → Prop := fun _ => False
theorem Fr.refl (q : RQ) (V : Nat → Prop) (σ : Sto) : Fr q V σ σ := ⟨Nat.le_refl _, fun _ _ _ _ => rfl, fun _ h => .inl h⟩
theorem Fr.trans {q : RQ} {V V' : Nat → Prop} {σ σ1 σ2 : Sto} (h : Fr q V σ σ1) (g : Fr q V' σ1 σ2) (hV : ∀ p, V' p → V p ∨ σ.length ≤ p) : Fr q V σ σ2 := by
 refine ⟨Nat.le_trans h.len g.len, fun p hp ho hv => ?_, fun p hp => ?_⟩
 · have h1 := h.len
   rw [g.keep p (by omega) (fun o => ?_) (fun v => ?_), h.keep p hp ho hv]
   · rcases h.own p o with o | o
     · exact ho o
     · omega
   · rcases hV p v with v | v
     · exact hv v
     · omega
 · have h1 := h.len
   rcases g.own p hp with o | o
   · exact h.own p o
   · exact .inr (by omega)
theorem Fr.trans0 {q : RQ} {V : Nat → Prop} {σ σ1 σ2 : Sto} (h : Fr q V σ σ1) (g : Fr q V σ1 σ2) : Fr q V σ σ2 := h.trans g fun _ h => .inl h
theorem Fr.more {q : RQ} {V V' : Nat → Prop} {σ σ1 : Sto} (h : Fr q V σ σ1) (hV : ∀ p, V p → V' p ∨ σ.length ≤ p) : Fr q V' σ σ1 := (Fr.refl q V' σ).trans h hV
theorem Fr.none {q : RQ} {V : Nat → Prop} {σ σ1 : Sto} (h : Fr q nV σ σ1) : Fr q V σ σ1 := h.more fun _ h => h.elim
variable {q : RQ} {u : List ByteArray} {st : ByteArray → List ByteArray} {σ σ' : Sto} {V : Nat → Prop}
theorem own_keep (h : ∀ p, Own q σ p → σ'[p]? = σ[p]?) (p : Nat) : Own q σ' p ↔ Own q σ p := by
 have h1 := h q.rid (.inl rfl)
 have h2 := h q.bid (.inr (.inr (.inr (.inl rfl))))
 unfold Own
 rw [h1, h2]
theorem St.get (h : St q u st σ) : ∃ tok bs is nx, σ[q.rid]? = some (.cells [.sl (txtR u) tok, .mp q.iid, .mp q.nid, .mp q.bid] 99) ∧ TokS σ u.length 9 tok ∧ σ[q.iid]? = some (.map .str is) ∧ isOk u is ∧ σ[q.nid]? = some (.map .str nx) ∧ nextOk u nx ∧ σ[q.bid]? = some (.map .str bs) ∧ BS st bs σ := by
 obtain ⟨tok, a⟩ := h.a
 obtain ⟨bs, b1, b2⟩ := h.b
 obtain ⟨is, i1, i2⟩ := a.i
 obtain ⟨nx, n1, n2⟩ := a.n
 exact ⟨tok, bs, is, nx, a.r, a.t, i1, i2, n1, n2, b1, b2⟩
theorem St.keep (h : St q u st σ) (hk : ∀ p, Own q σ p → σ'[p]? = σ[p]?) : St q u st σ' := by
 obtain ⟨tok, a⟩ := h.a
 obtain ⟨bs, b1, b2⟩ := h.b
 refine ⟨⟨tok, ?_, ?_, ?_, ?_, a.ne⟩, ⟨bs, by rw [hk _ (.inr (.inr (.inr (.inl rfl))))]; exact b1, b2.k, fun s => ?_, b2.inj⟩, h.h, h.ib, h.nb⟩
 · show σ'[q.rid]? = _
   rw [hk _ (.inl rfl)]; exact a.r
 · rcases a.t with g | ⟨i, e1, e2⟩
   · exact .inl g
   · refine .inr ⟨i, e1, ?_⟩
     have hr := a.r
     dsimp only at hr e1
     rw [e1] at hr
     rw [hk i (.inr (.inr (.inr (.inr (.inl ⟨_, _, _, _, hr⟩)))))]
     exact e2
 · obtain ⟨is, i1, i2⟩ := a.i
   exact ⟨is, by show σ'[q.iid]? = _; rw [hk _ (.inr (.inl rfl))]; exact i1, i2⟩
 · obtain ⟨nx, n1, n2⟩ := a.n
   exact ⟨nx, by show σ'[q.nid]? = _; rw [hk _ (.inr (.inr (.inl rfl)))]; exact n1, n2⟩
 · rcases b2.g s with g | ⟨id, cs, g1, g2, g3⟩
   · exact .inl g
   · exact .inr ⟨id, cs, g1, by rw [hk id (.inr (.inr (.inr (.inr (.inr ⟨bs, s, _, b1, g1⟩)))))]; exact g2, g3⟩
theorem St.lt (h : St q u st σ) {p : Nat} (hp : Own q σ p) : p < σ.length := by
 obtain ⟨tok, bs, is, nx, r, t, i1, i2, n1, n2, b1, b2⟩ := h.get
 rcases hp with rfl | rfl | rfl | rfl | ⟨_, _, _, _, e⟩ | ⟨bs', s, n, e1, e2⟩
 · exact (List.getElem?_eq_some_iff.1 r).1
 · exact (List.getElem?_eq_some_iff.1 i1).1
 · exact (List.getElem?_eq_some_iff.1 n1).1
 · exact (List.getElem?_eq_some_iff.1 b1).1
 · rw [r] at e
   simp only [Option.some.injEq, AObj.cells.injEq, List.cons.injEq, AV.sl.injEq, and_true] at e
   rcases t with ⟨t1, _⟩ | ⟨i, t1, t2⟩
   · rw [t1] at e; cases e.1.2
   · rw [t1] at e
     cases e.1.2
     exact (List.getElem?_eq_some_iff.1 t2).1
 · rw [b1] at e1
   cases e1
   rcases b2.g s with ⟨g, _⟩ | ⟨id, cs, g1, g2, _⟩
   · rw [g] at e2; cases e2
   · rw [g1] at e2
     cases e2
     exact (List.getElem?_eq_some_iff.1 g2).1
theorem St.new (h : St q u st σ) : ¬ Own q σ σ.length := fun e => by have := h.lt e; omega
theorem St.app (h : St q u st σ) (l : Sto) : St q u st (σ ++ l) := h.keep fun p hp => List.getElem?_append_left (h.lt hp)
theorem St.frA (h : St q u st σ) (V : Nat → Prop) (l : Sto) : Fr q V σ (σ ++ l) :=
 ⟨by simp, fun p hp _ _ => List.getElem?_append_left hp, fun p hp => .inl ((own_keep (fun p hp => List.getElem?_append_left (h.lt hp)) p).1 hp)⟩
theorem St.set (h : St q u st σ) {p : Nat} (hp : ¬ Own q σ p) (o : AObj) : St q u st (σ.set p o) := h.keep fun x hx => List.getElem?_set_ne (fun e => hp (by rw [e]; exact hx))
theorem St.frS (h : St q u st σ) {p : Nat} (hp : ¬ Own q σ p) (hV : V p ∨ σ.length ≤ p) (o : AObj) : Fr q V σ (σ.set p o) :=
 ⟨by simp, fun x hx _ hv => List.getElem?_set_ne (fun e => by
  subst e
  rcases hV with hV | hV
  · exact hv hV
  · omega), fun x hx => .inl ((own_keep (fun x hx => List.getElem?_set_ne (fun e => hp (by rw [e]; exact hx))) x).1 hx)⟩
theorem Fr.not (h : Fr q V σ σ') {p : Nat} (hp : ¬ Own q σ p) (hl : p < σ.length) : ¬ Own q σ' p := fun o => by
 rcases h.own p o with o | o
 · exact hp o
 · omega
theorem Fr.not' (h : Fr q V σ σ') {p : Nat} (hp : ¬ Own q σ p ∧ p < σ.length) : ¬ Own q σ' p ∧ p < σ'.length := ⟨h.not hp.1 hp.2, Nat.lt_of_lt_of_le hp.2 h.len⟩
theorem St.names (h : St q u st σ) {m : NS} {u' : List ByteArray} (hm : m = ⟨q.rid, q.iid, q.nid, q.bid, m.tok, u⟩) (hA : m.At σ) (tok' : Tok) (hA' : (⟨q.rid, q.iid, q.nid, q.bid, tok', u'⟩ : NS).At σ') (ht : ∀ i, tok' = .own i → m.tok = .own i ∨ σ.length ≤ i) (hk : m.Kp σ σ') (hu : u.length ≤ u'.length) : St q u' st σ' ∧ Fr q nV σ σ' := by
 obtain ⟨tok, bs, is, nx, r, t, i1, i2, n1, n2, b1, b2⟩ := h.get
 have hr := hA.r
 have hrid : m.rid = q.rid := by rw [hm]
 have hiid : m.iid = q.iid := by rw [hm]
 have hnid : m.nid = q.nid := by rw [hm]
 rw [hrid, r] at hr
 simp only [Option.some.injEq, AObj.cells.injEq, List.cons.injEq, AV.sl.injEq, and_true] at hr
 have htk : m.tok = tok := hr.1.2.symm
 have hno : ∀ p, m.own p → p = q.rid ∨ p = q.iid ∨ p = q.nid ∨ tok = .own p := fun p hp => by
  rcases hp with e | e | e | e
  · exact .inl (e.trans hrid)
  · exact .inr (.inl (e.trans hiid))
  · exact .inr (.inr (.inl (e.trans hnid)))
  · exact .inr (.inr (.inr (by rw [← htk]; exact e)))
 have hbo : ¬ m.own q.bid := fun hp => by
  rcases hno _ hp with e | e | e | e
  · rw [← e] at r; rw [r] at b1; cases b1
  · exact h.ib e.symm
  · exact h.nb e.symm
  · rcases t with ⟨t1, _⟩ | ⟨i, t1, t2⟩
    · rw [t1] at e; cases e
    · rw [t1] at e
      cases e
      rw [t2] at b1; cases b1
 have hbl := (List.getElem?_eq_some_iff.1 b1).1
 have b1' : σ'[q.bid]? = some (.map .str bs) := by rw [hk.keep _ hbl hbo]; exact b1
 have hst : ∀ (s : ByteArray) (id n : Nat), mapGet (.string s) bs = some (.asl id 0 n 1) → σ'[id]? = σ[id]? := fun s id n e => by
  rcases b2.g s with ⟨g, _⟩ | ⟨id', cs, g1, g2, _⟩
  · rw [g] at e; cases e
  · rw [g1] at e
    cases e
    refine hk.keep _ (List.getElem?_eq_some_iff.1 g2).1 fun hp => ?_
    rcases hno _ hp with e | e | e | e
    · rw [← e, g2] at r; cases r
    · rw [← e, g2] at i1; cases i1
    · rw [← e, g2] at n1; cases n1
    · rcases t with ⟨t1, _⟩ | ⟨i, t1, t2⟩
      · rw [t1] at e; cases e
      · rw [t1] at e
        cases e
        rw [t2] at g2; cases g2
 refine ⟨⟨⟨tok', hA'⟩, ⟨bs, b1', b2.k, fun s => ?_, b2.inj⟩, fun s => Nat.le_trans (h.h s) hu, h.ib, h.nb⟩, hk.len, fun p hp ho _ => hk.keep p hp fun hm' => ho ?_, fun p hp => ?_⟩
 · rcases b2.g s with g | ⟨id, cs, g1, g2, g3⟩
   · exact .inl g
   · exact .inr ⟨id, cs, g1, by rw [hst s id _ g1]; exact g2, g3⟩
 · rcases hno p hm' with e | e | e | e
   · exact .inl e
   · exact .inr (.inl e)
   · exact .inr (.inr (.inl e))
   · rw [e] at r; exact .inr (.inr (.inr (.inr (.inl ⟨_, _, _, _, r⟩))))
 · rcases hp with e | e | e | e | ⟨_, _, _, _, e⟩ | ⟨bs', s, n, e1, e2⟩
   · exact .inl (.inl e)
   · exact .inl (.inr (.inl e))
   · exact .inl (.inr (.inr (.inl e)))
   · exact .inl (.inr (.inr (.inr (.inl e))))
   · have := hA'.r
     dsimp only at this
     rw [this] at e
     simp only [Option.some.injEq, AObj.cells.injEq, List.cons.injEq, AV.sl.injEq, and_true] at e
     rcases ht p e.1.2 with g | g
     · rw [htk] at g
       rw [g] at r
       exact .inl (.inr (.inr (.inr (.inr (.inl ⟨_, _, _, _, r⟩)))))
     · exact .inr g
   · rw [b1'] at e1
     cases e1
     exact .inl (.inr (.inr (.inr (.inr (.inr ⟨bs, s, n, b1, e2⟩)))))
def Top (l : Bnd) (st : ByteArray → List ByteArray) : Prop := ∀ s, nowB l s = (st s).getLast?.getD s
theorem St.rs (h : St q u st σ) {l : Bnd} (hl : Top l st) (hu : u.length ≤ 1000000000) : (⟨q.rid, l⟩ : RS).At σ := by
 obtain ⟨tok, bs, is, nx, r, t, i1, i2, n1, n2, b1, b2⟩ := h.get
 exact ⟨_, _, _, _, bs, r, b1, fun s => by show topB σ bs s (nowB l s); rw [hl s]; exact b2.top (fun s => Nat.le_trans (h.h s) hu) s⟩
def pushN (st : ByteArray → List ByteArray) (l : Bnd) : ByteArray → List ByteArray := fun s => st s ++ (l.filter fun p => decide (p.1 = s)).map (·.2)
theorem pushN_len (st : ByteArray → List ByteArray) (l : Bnd) (s : ByteArray) : (pushN st l s).length ≤ (st s).length + l.length := by
 unfold pushN
 rw [List.length_append, List.length_map]
 have := List.length_filter_le (fun p : ByteArray × ByteArray => decide (p.1 = s)) l
 omega
theorem pushN_nil (st : ByteArray → List ByteArray) : pushN st [] = st := by funext s; simp [pushN]
theorem pushN_take (st : ByteArray → List ByteArray) (l : Bnd) {i : Nat} (h : i < l.length) : pushN st (l.take (i + 1)) = upd (pushN st (l.take i)) l[i].1 (pushN st (l.take i) l[i].1 ++ [l[i].2]) := by
 funext s
 unfold pushN upd
 rw [List.take_succ_eq_append_getElem h, List.filter_append, List.map_append, ← List.append_assoc]
 by_cases e : s = l[i].1
 · subst e
   rw [if_pos rfl]
   congr 1
   rw [List.filter_cons, if_pos (by simp)]
   rfl
 · rw [if_neg e, List.filter_cons, if_neg (by simpa using fun h => e h.symm)]
   simp
theorem now_push (s : ByteArray) : ∀ (k l : Bnd), nowB (k.reverse ++ l) s = ((k.filter fun p => decide (p.1 = s)).map (·.2)).getLast?.getD (nowB l s)
 | [], l => rfl
 | p :: k, l => by
  rw [List.reverse_cons, List.append_assoc, List.singleton_append, now_push s k (p :: l), List.filter_cons]
  by_cases e : p.1 = s
  · rw [if_pos (by simpa using e), List.map_cons, List.getLast?_cons, Option.getD_some, nowB, if_pos e]
  · rw [if_neg (by simpa using e), nowB, if_neg e]
theorem Top.push {l : Bnd} (h : Top l st) (k : Bnd) : Top (k.reverse ++ l) (pushN st k) := by
 intro s
 rw [now_push s k l, h s]
 unfold pushN
 rw [List.getLast?_append]
 generalize ((k.filter fun p => decide (p.1 = s)).map (·.2)).getLast? = o
 cases o <;> rfl
def popN (st : ByteArray → List ByteArray) (l : Bnd) (j : Nat) : ByteArray → List ByteArray := fun s => (pushN st l s).take ((st s).length + ((l.drop j).filter fun p => decide (p.1 = s)).length)
theorem popN_zero (st : ByteArray → List ByteArray) (l : Bnd) : popN st l 0 = pushN st l := by
 funext s
 unfold popN
 rw [List.take_of_length_le]
 simp [pushN]
theorem popN_end (st : ByteArray → List ByteArray) (l : Bnd) {j : Nat} (h : l.length ≤ j) : popN st l j = st := by
 funext s
 unfold popN pushN
 rw [List.drop_eq_nil_of_le h]
 simp
theorem popN_step (st : ByteArray → List ByteArray) (l : Bnd) {j : Nat} (h : j < l.length) : ∃ x, popN st l j l[j].1 = popN st l (j + 1) l[j].1 ++ [x] ∧ popN st l (j + 1) = upd (popN st l j) l[j].1 (popN st l (j + 1) l[j].1) := by
 have hd : l.drop j = l[j] :: l.drop (j + 1) := List.drop_eq_getElem_cons h
 have hlen : ∀ s, ((l.drop j).filter fun p => decide (p.1 = s)).length ≤ (l.filter fun p => decide (p.1 = s)).length := fun s => by
  have := (List.drop_sublist j l).filter (fun p => decide (p.1 = s))
  exact this.length_le
 have hpl : ∀ s, (pushN st l s).length = (st s).length + (l.filter fun p => decide (p.1 = s)).length := fun s => by unfold pushN; simp
 have hn : ((l.drop j).filter fun p => decide (p.1 = l[j].1)).length = ((l.drop (j + 1)).filter fun p => decide (p.1 = l[j].1)).length + 1 := by
  rw [hd, List.filter_cons, if_pos (by simp)]; rfl
 have h1 := hlen l[j].1
 have h2 := hpl l[j].1
 have hlt : (st l[j].1).length + ((l.drop (j + 1)).filter fun p => decide (p.1 = l[j].1)).length < (pushN st l l[j].1).length := by omega
 refine ⟨(pushN st l l[j].1)[(st l[j].1).length + ((l.drop (j + 1)).filter fun p => decide (p.1 = l[j].1)).length], ?_, ?_⟩
 · unfold popN
   rw [hn, ← Nat.add_assoc, List.take_succ_eq_append_getElem hlt]
 · funext s
   unfold upd
   by_cases e : s = l[j].1
   · subst e; rw [if_pos rfl]
   · rw [if_neg e]
     unfold popN
     rw [hd, List.filter_cons, if_neg (by simpa using fun h => e h.symm)]
end
section
open Go.RowKit
def Acc.ren (ids : List Nat) : Acc → Acc
 | .pure => .pure
 | .reads i => .reads (ids.getD i 0)
 | .writes i => .writes (ids.getD i 0)
 | .news i => .news (ids.getD i 0)
 | .grows k n => .grows (k.map fun i => ids.getD i 0) (ids.getD n 0)
 | .calls n b => .calls n b
 | .lcalls b => .lcalls b
 | .any => .any
def Acc.under (n : Nat) : Acc → Bool
 | .reads i | .writes i | .news i => decide (i < n)
 | .grows none i => decide (i < n)
 | .grows (some k) i => decide (k < n) && decide (i < n)
 | .calls _ _ => false
 | .lcalls _ => false
 | _ => true
theorem getD_inj {ids : List Nat} (h : ids.Nodup) {i j : Nat} (hi : i < ids.length) (hj : j < ids.length) : (ids.getD i 0 == ids.getD j 0) = (i == j) := by
 rw [List.getD_eq_getElem?_getD, List.getD_eq_getElem?_getD, List.getElem?_eq_getElem hi, List.getElem?_eq_getElem hj]
 simp only [Option.getD_some]
 by_cases e : i = j
 · subst e; simp
 · have hne : ids[i] ≠ ids[j] := by
    rcases Nat.lt_or_gt_of_ne e with hlt | hgt
    · exact List.pairwise_iff_getElem.1 h i j hi hj hlt
    · exact Ne.symm (List.pairwise_iff_getElem.1 h j i hj hi hgt)
   rw [beq_eq_false_iff_ne.2 hne, beq_eq_false_iff_ne.2 e]
theorem clash_ren {ids : List Nat} (h : ids.Nodup) {a b : Acc} (ha : a.under ids.length = true) (hb : b.under ids.length = true) : clash (a.ren ids) (b.ren ids) = clash a b := by
 have key : ∀ {i j : Nat}, i < ids.length → j < ids.length → (ids.getD i 0 == ids.getD j 0) = (i == j) := fun hi hj => getD_inj h hi hj
 have keyo : ∀ {i j : Nat}, i < ids.length → j < ids.length → (some (ids.getD i 0) == some (ids.getD j 0)) = (some i == some j) := fun {i j} hi hj => key hi hj
 have keyn : ∀ {i j : Nat}, ((none : Option Nat) == some (ids.getD j 0)) = ((none : Option Nat) == some j) := fun {i j} => rfl
 rcases a with _ | i | i | i | ⟨_ | k, i⟩ | ⟨m, c⟩ | c | _ <;> rcases b with _ | j | j | j | ⟨_ | l, j⟩ | ⟨m', c'⟩ | c' | _ <;> (try rfl) <;> (try (first | (cases ha; done) | (cases hb; done))) <;> simp only [Acc.under, Bool.and_eq_true, decide_eq_true_eq] at ha hb <;> simp only [Acc.ren, clash, Option.map_some, Option.map_none]
 all_goals first
  | exact key ha hb
  | (rw [key ha hb]; rfl)
  | (rw [key hb ha]; rfl)
  | (rw [keyo hb.1 ha, key ha hb.2])
  | (rw [keyo ha.1 hb, key hb ha.2])
theorem drawOk_ren {ops : Array Oper} (ids : List Nat) (h : ids.Nodup) (l : List Acc) (hl : l.all (Acc.under ids.length) = true) (hd : drawOk ops l = true) : drawOk ops (l.map (Acc.ren ids)) = true := by
 unfold drawOk at hd ⊢
 simp only [List.length_map, List.all_eq_true, List.mem_range] at hd ⊢
 intro i hi k hk
 have := hd i hi k hk
 unfold freeAt at this ⊢
 have g : ∀ n : Nat, (l.map (Acc.ren ids)).getD n .any = (l.getD n .any).ren ids := by
  intro n
  rw [List.getD_eq_getElem?_getD, List.getD_eq_getElem?_getD, List.getElem?_map]
  cases l[n]? <;> rfl
 have u : ∀ n : Nat, (l.getD n .any).under ids.length = true := by
  intro n
  rw [List.getD_eq_getElem?_getD]
  cases hn : l[n]? with
  | none => rfl
  | some a => exact List.all_eq_true.1 hl a (List.mem_of_getElem? hn)
 rw [g, g, clash_ren h (u k) (u i)]
 exact this
end
section
open Go.RowKit
def leA (x a : Acc) : Prop := a = .any ∨ x = a
theorem leA_clash {x y a b : Acc} (hx : leA x a) (hy : leA y b) (h : clash a b = false) : clash x y = false := by
 rcases hx with rfl | rfl <;> rcases hy with rfl | rfl
 · simp [clash] at h
 · cases y <;> first | rfl | (simp [clash] at h; done) | (cases x <;> rfl)
 · cases x <;> first | rfl | (simp [clash] at h; done)
 · exact h
def quietA (kp : List Nat) : Acc → Bool
 | .pure => true
 | .reads a => kp.contains a
 | _ => false
section
variable (P : Program) (E : Env) (M : List TypeId) (ops : Array Oper) (C : Nat → Bool) (A : Nat → Acc) (Kp : List Nat) (Q : AExit → List AV → Sto → Prop)
def RunR : List Nat → List AV × Sto → Prop
 | [], s => Q .normal s.1 s.2
 | i :: l, s =>
  if C i = true then ∃ o f args R, ops[i]? = some o ∧ Region.wanted o (yieldedA ops s.1) = true ∧ evStep P M (evx s.1) s.2 o = some (.enter f args) ∧ J P E (.call f args s.2 R) ∧ (∀ v σ', ¬ R (.pan v) σ') ∧ ∀ v σ', R (.ret v) σ' → (∀ a ∈ Kp, σ'[a]? = s.2[a]?) ∧ RunR l (putA s.1 o.dst v, σ')
  else ∃ acc s', ops1 P M noCall ops i s = some (acc, s') ∧ leA acc (A i) ∧ RunR l s'
def FreeR (k i : Nat) : Prop := ∃ x y, ops[k]? = some x ∧ ops[i]? = some y ∧ Oper.apart ops x y = true ∧ C k = false ∧ (if C i = true then quietA Kp (A k) = true else clash (A k) (A i) = false)
end
section
variable {P : Program} {E : Env} {M : List TypeId} {ops : Array Oper} {C : Nat → Bool} {A : Nat → Acc} {Kp : List Nat} {Q : AExit → List AV → Sto → Prop}
theorem quiet_spec {acc a : Acc} (h : leA acc a) (hq : quietA Kp a = true) : acc = .pure ∨ ∃ id ∈ Kp, acc = .reads id := by
 rcases h with rfl | rfl
 · cases hq
 · cases acc with
   | pure => exact .inl rfl
   | reads id => exact .inr ⟨id, by simpa [quietA] using hq, rfl⟩
   | _ => cases hq
theorem RunR.front {i : Nat} : ∀ {l r : List Nat} {s : List AV × Sto}, RunR P E M ops C A Kp Q (l ++ i :: r) s → (∀ k ∈ l, FreeR ops C A Kp k i) → RunR P E M ops C A Kp Q (i :: (l ++ r)) s
 | [], r, s, h, _ => h
 | k :: l, r, s, h, hf => by
  obtain ⟨x, y, hx, hy, ha, hck, hcl⟩ := hf k (by simp)
  rw [List.cons_append, RunR, if_neg (by rw [hck]; simp)] at h
  obtain ⟨ak, s1, h1, hle, h2⟩ := h
  have h3 := RunR.front (l := l) h2 fun q hq => hf q (by simp [hq])
  obtain ⟨tm, σ⟩ := s
  obtain ⟨tm1, σ1⟩ := s1
  obtain ⟨o, ho, e1⟩ := ops1_some h1
  obtain rfl : o = x := by rw [hx] at ho; exact (Option.some.inj ho).symm
  cases hci : C i with
  | false =>
   rw [hci, if_neg (by simp)] at hcl
   rw [RunR, if_neg (by rw [hci]; simp)] at h3
   obtain ⟨ai, s2, g1, gle, g2⟩ := h3
   obtain ⟨s1', q1, q2⟩ := swap hx hy ha (leA_clash hle gle hcl) h1 g1
   rw [RunR, if_neg (by rw [hci]; simp)]
   refine ⟨ai, s1', q1, gle, ?_⟩
   rw [List.cons_append, RunR, if_neg (by rw [hck]; simp)]
   exact ⟨ak, s2, q2, hle, g2⟩
  | true =>
   rw [hci, if_pos rfl] at hcl
   rw [RunR, if_pos hci] at h3
   obtain ⟨o', f, args, R, ho', hw, hs, hJ, hp, hret⟩ := h3
   obtain rfl : o' = y := by rw [hy] at ho'; exact (Option.some.inj ho').symm
   obtain ⟨d1, d2, d3⟩ := Oper.apart_spec ha
   dsimp only at e1 hw hs hJ hret
   obtain ⟨vk, rfl, lk⟩ := evOp_local e1
   have hla : ∀ t ∈ o'.looksAt ops, tm[t]? = (putA tm o.dst vk)[t]? := fun t ht => (putA_other fun e => d1 t e ht).symm
   have hσ : σ1 = σ := by
    obtain ⟨_, l2⟩ := lk tm fun t ht => rfl
    rcases quiet_spec hle hcl with rfl | ⟨id, _, rfl⟩
    · exact l2.1
    · exact l2.1
   subst hσ
   rw [RunR, if_pos hci]
   refine ⟨o', f, args, R, hy, (wanted_congr hla).trans hw, ?_, hJ, hp, fun v σ' hR => ?_⟩
   · have hc := evx_congr hla
     unfold evStep at hs ⊢
     dsimp only at hs ⊢
     rw [← evLit_congr hc, ← evPure_congr hc, ← evMem_congr hc, ← evMut_congr hc]
     exact hs
   · obtain ⟨hk, hr⟩ := hret v σ' hR
     refine ⟨hk, ?_⟩
     rw [List.cons_append, RunR, if_neg (by rw [hck]; simp)]
     obtain ⟨l1, l2⟩ := lk (putA tm o'.dst v) fun t ht => putA_other fun e => d3 t e ht
     have fin : evOp P M noCall ops o (putA tm o'.dst v) σ' = some (.inr (putA (putA tm o'.dst v) o.dst vk, ak), σ') := by
      rcases quiet_spec hle hcl with rfl | ⟨id, hid, rfl⟩
      · exact l2.2 σ'
      · exact l2.2.2 σ' (hk id hid)
     rw [putA_comm (fun d e1 e2 => d2 d e2 e1)] at fin
     exact ⟨ak, _, ops1_mk hx fin, hle, hr⟩
def unl (listed : Array Bool) (i : Nat) : Bool := !listed.getD i true
theorem unl_split {L : List Nat} {listed : Array Bool} {i : Nat} (hnd : L.Nodup) (hi : i ∈ L) (hs : i < listed.size) (hl : listed.getD i true = false) :
    ∃ l1 l2, L.filter (unl listed) = l1 ++ i :: l2 ∧ L.filter (unl (listed.setIfInBounds i true)) = l1 ++ l2 ∧ (∀ k ∈ l1, listed.getD k true = false ∧ k ≠ i) ∧ ∃ a b, L = a ++ i :: b ∧ (∀ k ∈ l1, k ∈ a) := by
 obtain ⟨a, b, rfl⟩ := List.append_of_mem hi
 rw [List.nodup_append] at hnd
 obtain ⟨n1, n2, n3⟩ := hnd
 rw [List.nodup_cons] at n2
 have hcong : ∀ m : List Nat, i ∉ m → m.filter (unl (listed.setIfInBounds i true)) = m.filter (unl listed) := fun m hm => by
  refine List.filter_congr fun k hk => ?_
  unfold unl
  rw [getD_set hs, if_neg (fun e => hm (by rw [← e]; exact hk))]
 have hia : i ∉ a := fun h => n3 i h i (by simp) rfl
 refine ⟨a.filter (unl listed), b.filter (unl listed), ?_, ?_, fun k hk => ?_, a, b, rfl, fun k hk => (List.mem_filter.1 hk).1⟩
 · rw [List.filter_append, List.filter_cons, if_pos (by unfold unl; rw [hl]; rfl)]
 · rw [List.filter_append, List.filter_cons, if_neg (by unfold unl; rw [getD_set hs, if_pos rfl]; simp), hcong a hia, hcong b n2.1]
 · obtain ⟨h1, h2⟩ := List.mem_filter.1 hk
   exact ⟨by simpa [unl] using h2, fun e => hia (by rw [← e]; exact h1)⟩
def Before (L : List Nat) (k i : Nat) : Prop := ∃ a b, L = a ++ i :: b ∧ k ∈ a
theorem ready_mask {listed : Array Bool} (hsz : listed.size = ops.size) (hcl : Closed ops listed) {i : Nat} (hi : i ∈ Region.ready .any ops listed) : ∀ k, ((masks ops.toList []).getD i 0).testBit k = true → listed.getD k true = true := by
 obtain ⟨hlt, hul, hpre⟩ := ready_spec hsz hi
 obtain ⟨o, ho⟩ : ∃ o, ops[i]? = some o := ⟨_, Array.getElem?_eq_getElem hlt⟩
 exact mask_closed (fun k => listed.getD k true = true) (fun j q hq hj e hem hb => hcl j q hq hj e hem hb) i o ho (fun e hem hb => hpre o ho e hem hb)
theorem listed_mask {listed : Array Bool} (hcl : Closed ops listed) {i : Nat} (hlt : i < ops.size) (hi : listed.getD i true = true) : ∀ k, ((masks ops.toList []).getD i 0).testBit k = true → listed.getD k true = true := by
 obtain ⟨o, ho⟩ : ∃ o, ops[i]? = some o := ⟨_, Array.getElem?_eq_getElem hlt⟩
 exact mask_closed (fun k => listed.getD k true = true) (fun j q hq hj e hem hb => hcl j q hq hj e hem hb) i o ho (fun e hem hb => hcl i o ho hi e hem hb)
theorem J.drawR (he : edgesOk ops.toList 0 = true) {L : List Nat} (n1 : L.Nodup) (m1 : ∀ i, i ∈ L ↔ i < ops.size) (ex : Nat → Nat → Prop)
    (f1 : ∀ k i, Before L k i → ex k i ∨ ((masks ops.toList []).getD i 0).testBit k = true ∨ FreeR ops C A Kp k i) :
    ∀ (fuel : Nat) (listed : Array Bool) (s : List AV × Sto), listed.size = ops.size → Closed ops listed → (∀ k i, ex k i → listed.getD k true = true) → fuel = (L.filter (unl listed)).length → RunR P E M ops C A Kp Q (L.filter (unl listed)) s → J P E (.any M ops fuel listed s.1 s.2 Q)
 | 0, listed, s, hsz, hcl, hex, hf, h1 => by
  have hnil : L.filter (unl listed) = [] := List.eq_nil_of_length_eq_zero hf.symm
  rw [hnil] at h1
  refine J.anyDone ?_ h1
  apply List.eq_nil_iff_forall_not_mem.2
  intro i hi
  obtain ⟨q1, q2, _⟩ := ready_spec hsz hi
  have : i ∈ L.filter (unl listed) := List.mem_filter.2 ⟨(m1 i).2 q1, by simp [unl, q2]⟩
  rw [hnil] at this; simp at this
 | fuel + 1, listed, s, hsz, hcl, hex, hf, h1 => by
  have hne : Region.ready .any ops listed ≠ [] := fun hr => by
   have hl := ready_nil he hsz hr
   have : L.filter (unl listed) = [] := by
    apply List.eq_nil_iff_forall_not_mem.2
    intro i hi
    obtain ⟨q1, q2⟩ := List.mem_filter.1 hi
    have : i ∈ left listed ops.size := mem_left.2 ⟨(m1 i).1 q1, by simpa [unl] using q2⟩
    rw [hl] at this; simp at this
   rw [this] at hf; simp at hf
  have key : ∀ i, ∃ D : StepD, i ∈ Region.ready .any ops listed → ops[i]? = some D.o ∧
      (C i = false → evOp P M noCall ops D.o s.1 s.2 = some (.inr (D.tm, D.acc), D.σ) ∧ J P E (.any M ops fuel (listed.setIfInBounds i true) D.tm D.σ Q)) ∧
      (C i = true → (Region.wanted D.o (yieldedA ops s.1) = true ∧ evStep P M (evx s.1) s.2 D.o = some (.enter D.f D.args)) ∧ J P E (.call D.f D.args s.2 D.R) ∧ (∀ v σ', D.R (.ret v) σ' → J P E (.any M ops fuel (listed.setIfInBounds i true) (putA s.1 D.o.dst v) σ' Q)) ∧ ∀ v σ', ¬ D.R (.pan v) σ') := by
   intro i
   refine Classical.byCases (p := i ∈ Region.ready .any ops listed) (fun hi => ?_) (fun hi => ⟨⟨default, [], [], .any, default, [], fun _ _ => False⟩, fun h => (hi h).elim⟩)
   obtain ⟨hlt, hul, hpre⟩ := ready_spec hsz hi
   have hcl' : Closed ops (listed.setIfInBounds i true) := hcl.set (by omega) hpre
   have hmask := ready_mask hsz hcl hi
   have hsz' : (listed.setIfInBounds i true).size = ops.size := by simpa using hsz
   obtain ⟨a1, b1, e1, e1', u1, p1⟩ := unl_split (listed := listed) n1 ((m1 i).2 hlt) (by omega) hul
   have hf' : fuel = (L.filter (unl (listed.setIfInBounds i true))).length := by
    rw [e1] at hf; rw [e1']; simp at hf ⊢; omega
   have hex' : ∀ k j, ex k j → (listed.setIfInBounds i true).getD k true = true := fun k j h => by
    rw [getD_set (by omega)]
    split
    · rfl
    · exact hex k j h
   have go : ∀ (tm : List AV) (σ : Sto), RunR P E M ops C A Kp Q (L.filter (unl (listed.setIfInBounds i true))) (tm, σ) → J P E (.any M ops fuel (listed.setIfInBounds i true) tm σ Q) :=
    fun tm σ r1 => J.drawR he n1 m1 ex f1 fuel _ (tm, σ) hsz' hcl' hex' hf' r1
   have hfr : ∀ k ∈ a1, FreeR ops C A Kp k i := fun k hk => by
    obtain ⟨x, y, q1, q2⟩ := p1
    rcases f1 k i ⟨x, y, q1, q2 k hk⟩ with h | h | h
    · have := hex k i h; rw [(u1 k hk).1] at this; cases this
    · have := hmask k h; rw [(u1 k hk).1] at this; cases this
    · exact h
   rw [e1] at h1
   have h3 := h1.front hfr
   rw [← e1'] at h3
   cases hci : C i with
   | true =>
    rw [RunR, if_pos hci] at h3
    obtain ⟨o', f, args, R, ho', hw, hs, hJ, hp, hret⟩ := h3
    exact ⟨⟨o', [], [], .any, f, args, R⟩, fun _ => ⟨ho', fun e => (by cases e), fun _ => ⟨⟨hw, hs⟩, hJ, fun v σ' hR => go _ _ (hret v σ' hR).2, hp⟩⟩⟩
   | false =>
    rw [RunR, if_neg (by rw [hci]; simp)] at h3
    obtain ⟨acc, s', q1, q2, q3⟩ := h3
    obtain ⟨o', ho', q4⟩ := ops1_some q1
    exact ⟨⟨o', s'.1, s'.2, acc, default, [], fun _ _ => False⟩, fun _ => ⟨ho', fun _ => ⟨q4, go _ _ q3⟩, fun e => by cases e⟩⟩
  obtain ⟨D, hD⟩ := Classical.skolem.1 key
  exact J.anyStepC _ C D rfl hne (fun i hi => (hD i hi).1) (fun i hi hc => ((hD i hi).2.1 hc).1) (fun i hi hc => ((hD i hi).2.1 hc).2) (fun i hi hc => ((hD i hi).2.2 hc).1) (fun i hi hc => ((hD i hi).2.2 hc).2.1) (fun i hi hc => ((hD i hi).2.2 hc).2.2.1) (fun i hi hc => ((hD i hi).2.2 hc).2.2.2)
theorem J.drawR2 {A2 : Nat → Acc} (he : edgesOk ops.toList 0 = true) {L1 L2 : List Nat} {z c : Nat} (n1 : L1.Nodup) (n2 : L2.Nodup) (m1 : ∀ i, i ∈ L1 ↔ i < ops.size) (m2 : ∀ i, i ∈ L2 ↔ i < ops.size) (hz : z < ops.size) (hc : c < ops.size)
    (hC : ∀ i, C i = true → i = c) (hzc : z ≠ c)
    (f1 : ∀ k i, Before L1 k i → (i = c ∧ (k = z ∨ ((masks ops.toList []).getD z 0).testBit k = true)) ∨ ((masks ops.toList []).getD i 0).testBit k = true ∨ FreeR ops C A Kp k i)
    (f2 : ∀ k i, Before L2 k i → (i = z ∧ (k = c ∨ ((masks ops.toList []).getD c 0).testBit k = true)) ∨ ((masks ops.toList []).getD i 0).testBit k = true ∨ FreeR ops C A2 Kp k i) :
    ∀ (fuel : Nat) (listed : Array Bool) (s : List AV × Sto), listed.size = ops.size → Closed ops listed → listed.getD z true = false → listed.getD c true = false → fuel = (L1.filter (unl listed)).length → fuel = (L2.filter (unl listed)).length → RunR P E M ops C A Kp Q (L1.filter (unl listed)) s → RunR P E M ops C A2 Kp Q (L2.filter (unl listed)) s → J P E (.any M ops fuel listed s.1 s.2 Q)
 | 0, listed, s, hsz, hcl, hnz, hnc, hf, _, h1, h2 => by
  have hnil : L1.filter (unl listed) = [] := List.eq_nil_of_length_eq_zero hf.symm
  have : z ∈ L1.filter (unl listed) := List.mem_filter.2 ⟨(m1 z).2 hz, by simp [unl, hnz]⟩
  rw [hnil] at this; simp at this
 | fuel + 1, listed, s, hsz, hcl, hnz, hnc, hf, hff, h1, h2 => by
  have hne : Region.ready .any ops listed ≠ [] := fun hr => by
   have hl := ready_nil he hsz hr
   have : z ∈ left listed ops.size := mem_left.2 ⟨hz, hnz⟩
   rw [hl] at this; simp at this
  have key : ∀ i, ∃ D : StepD, i ∈ Region.ready .any ops listed → ops[i]? = some D.o ∧
      (C i = false → evOp P M noCall ops D.o s.1 s.2 = some (.inr (D.tm, D.acc), D.σ) ∧ J P E (.any M ops fuel (listed.setIfInBounds i true) D.tm D.σ Q)) ∧
      (C i = true → (Region.wanted D.o (yieldedA ops s.1) = true ∧ evStep P M (evx s.1) s.2 D.o = some (.enter D.f D.args)) ∧ J P E (.call D.f D.args s.2 D.R) ∧ (∀ v σ', D.R (.ret v) σ' → J P E (.any M ops fuel (listed.setIfInBounds i true) (putA s.1 D.o.dst v) σ' Q)) ∧ ∀ v σ', ¬ D.R (.pan v) σ') := by
   intro i
   refine Classical.byCases (p := i ∈ Region.ready .any ops listed) (fun hi => ?_) (fun hi => ⟨⟨default, [], [], .any, default, [], fun _ _ => False⟩, fun h => (hi h).elim⟩)
   obtain ⟨hlt, hul, hpre⟩ := ready_spec hsz hi
   have hcl' : Closed ops (listed.setIfInBounds i true) := hcl.set (by omega) hpre
   have hmask := ready_mask hsz hcl hi
   have hsz' : (listed.setIfInBounds i true).size = ops.size := by simpa using hsz
   obtain ⟨a1, b1, e1, e1', u1, p1⟩ := unl_split (listed := listed) n1 ((m1 i).2 hlt) (by omega) hul
   obtain ⟨a2, b2, g1, g1', u2, p2⟩ := unl_split (listed := listed) n2 ((m2 i).2 hlt) (by omega) hul
   have hf' : fuel = (L1.filter (unl (listed.setIfInBounds i true))).length := by
    rw [e1] at hf; rw [e1']; simp at hf ⊢; omega
   have hff' : fuel = (L2.filter (unl (listed.setIfInBounds i true))).length := by
    rw [g1] at hff; rw [g1']; simp at hff ⊢; omega
   have setI : (listed.setIfInBounds i true).getD i true = true := by rw [getD_set (by omega), if_pos rfl]
   have setN : ∀ j, j ≠ i → (listed.setIfInBounds i true).getD j true = listed.getD j true := fun j hj => by rw [getD_set (by omega), if_neg hj]
   by_cases hic : i = c
   · -- the call comes first
     have hfr : ∀ k ∈ a2, FreeR ops C A2 Kp k i := fun k hk => by
      obtain ⟨x, y, q1, q2⟩ := p2
      rcases f2 k i ⟨x, y, q1, q2 k hk⟩ with ⟨e, _⟩ | h | h
      · exact absurd (e.symm.trans hic) hzc
      · have := hmask k h; rw [(u2 k hk).1] at this; cases this
      · exact h
     have hlc : (listed.setIfInBounds i true).getD c true = true := by rw [← hic]; exact setI
     have go : ∀ (tm : List AV) (σ : Sto), RunR P E M ops C A2 Kp Q (L2.filter (unl (listed.setIfInBounds i true))) (tm, σ) → J P E (.any M ops fuel (listed.setIfInBounds i true) tm σ Q) :=
      fun tm σ r1 => J.drawR he n2 m2 (fun k j => j = z ∧ (k = c ∨ ((masks ops.toList []).getD c 0).testBit k = true)) f2 fuel _ (tm, σ) hsz' hcl' (fun k j h => by
       rcases h.2 with e | e
       · rw [e]; exact hlc
       · exact listed_mask hcl' hc hlc k e) hff' r1
     rw [g1] at h2
     have h3 := h2.front hfr
     rw [← g1'] at h3
     cases hci : C i with
     | true =>
      rw [RunR, if_pos hci] at h3
      obtain ⟨o', f, args, R, ho', hw, hs, hJ, hp, hret⟩ := h3
      exact ⟨⟨o', [], [], .any, f, args, R⟩, fun _ => ⟨ho', fun e => (by cases e), fun _ => ⟨⟨hw, hs⟩, hJ, fun v σ' hR => go _ _ (hret v σ' hR).2, hp⟩⟩⟩
     | false =>
      rw [RunR, if_neg (by rw [hci]; simp)] at h3
      obtain ⟨acc, s', q1, q2, q3⟩ := h3
      obtain ⟨o', ho', q4⟩ := ops1_some q1
      exact ⟨⟨o', s'.1, s'.2, acc, default, [], fun _ _ => False⟩, fun _ => ⟨ho', fun _ => ⟨q4, go _ _ q3⟩, fun e => by cases e⟩⟩
   · have hci : C i = false := by
      cases h : C i with
      | false => rfl
      | true => exact absurd (hC i h) hic
     have hfr : ∀ k ∈ a1, FreeR ops C A Kp k i := fun k hk => by
      obtain ⟨x, y, q1, q2⟩ := p1
      rcases f1 k i ⟨x, y, q1, q2 k hk⟩ with ⟨e, _⟩ | h | h
      · exact absurd e hic
      · have := hmask k h; rw [(u1 k hk).1] at this; cases this
      · exact h
     rw [e1] at h1
     have h3 := h1.front hfr
     rw [← e1'] at h3
     rw [RunR, if_neg (by rw [hci]; simp)] at h3
     obtain ⟨acc, s', q1, q2, q3⟩ := h3
     obtain ⟨o', ho', q4⟩ := ops1_some q1
     refine ⟨⟨o', s'.1, s'.2, acc, default, [], fun _ _ => False⟩, fun _ => ⟨ho', fun _ => ⟨q4, ?_⟩, fun e => by rw [hci] at e; cases e⟩⟩
     by_cases hiz : i = z
     · have hlz : (listed.setIfInBounds i true).getD z true = true := by rw [← hiz]; exact setI
       exact J.drawR he n1 m1 (fun k j => j = c ∧ (k = z ∨ ((masks ops.toList []).getD z 0).testBit k = true)) f1 fuel _ s' hsz' hcl' (fun k j h => by
        rcases h.2 with e | e
        · rw [e]; exact hlz
        · exact listed_mask hcl' hz hlz k e) hf' q3
     · have hfr2 : ∀ k ∈ a2, FreeR ops C A2 Kp k i := fun k hk => by
        obtain ⟨x, y, q1, q2⟩ := p2
        rcases f2 k i ⟨x, y, q1, q2 k hk⟩ with ⟨e, _⟩ | h | h
        · exact absurd e hiz
        · have := hmask k h; rw [(u2 k hk).1] at this; cases this
        · exact h
       rw [g1] at h2
       have h4 := h2.front hfr2
       rw [← g1'] at h4
       rw [RunR, if_neg (by rw [hci]; simp)] at h4
       obtain ⟨acc2, s2, r1, r2, r3⟩ := h4
       rw [q1] at r1
       cases r1
       exact J.drawR2 he n1 n2 m1 m2 hz hc hC hzc f1 f2 fuel _ s' hsz' hcl' (by rw [setN z (fun e => hiz e.symm)]; exact hnz) (by rw [setN c (fun e => hic e.symm)]; exact hnc) hf' hff' q3 r3
  obtain ⟨D, hD⟩ := Classical.skolem.1 key
  exact J.anyStepC _ C D rfl hne (fun i hi => (hD i hi).1) (fun i hi hc => ((hD i hi).2.1 hc).1) (fun i hi hc => ((hD i hi).2.1 hc).2) (fun i hi hc => ((hD i hi).2.2 hc).1) (fun i hi hc => ((hD i hi).2.2 hc).2.1) (fun i hi hc => ((hD i hi).2.2 hc).2.2.1) (fun i hi hc => ((hD i hi).2.2 hc).2.2.2)
end
end
end Go.Proofs.YteajcnilihgheaaGreatDoor
