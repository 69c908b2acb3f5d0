/-
 EV: WHAT A CALL MADE MAY BE FORGOTTEN: its result is data that nobody writes any more; the objects are those that were there.
-/
import Derived.Test.YteajcnilihgheaaGreatDoorEvSymM
import Derived.Test.YteajcnilihgheaaGreatDoorEvChM
namespace Go.Proofs.YteajcnilihgheaaGreatDoor
set_option linter.unusedSimpArgs false
set_option linter.unusedVariables false
section
open Go.RowKit
def Tok.bel (n : Nat) : Tok → Prop
 | .own t => t < n
 | .fresh t _ => t < n
 | _ => True
inductive Bel (n : Nat) : AV → Prop
 | lit (v : Value) : Bel n (.lit v)
 | ptr (id off : Nat) : id < n → Bel n (.ptr id off)
 | eptr (row : List AV) (off : Nat) : (∀ (j : Nat) (d : AV), row[j]? = some d → Bel n d) → Bel n (.eptr row off)
 | sl (es : List (List AV)) (tok : Tok) : tok.bel n → (∀ (i j : Nat) (e : List AV) (d : AV), es[i]? = some e → e[j]? = some d → Bel n d) → Bel n (.sl es tok)
 | asl (id off m k : Nat) : id < n → Bel n (.asl id off m k)
 | mp (id : Nat) : id < n → Bel n (.mp id)
 | fn (f : Fn) (first cap : List AV) : (∀ (j : Nat) (d : AV), first[j]? = some d → Bel n d) → (∀ (j : Nat) (d : AV), cap[j]? = some d → Bel n d) → Bel n (.fn f first cap)
 | ifc (t : TypeId) (d : AV) : Bel n d → Bel n (.ifc t d)
 | agg (ds : List AV) : (∀ (j : Nat) (d : AV), ds[j]? = some d → Bel n d) → Bel n (.agg ds)
 | tup (ds : List AV) : (∀ (j : Nat) (d : AV), ds[j]? = some d → Bel n d) → Bel n (.tup ds)
def BelO (n : Nat) : AObj → Prop
 | .cells cs _ => ∀ (j : Nat) (d : AV), cs[j]? = some d → Bel n d
 | .buf cs _ => ∀ (j : Nat) (d : AV), cs[j]? = some d → Bel n d
 | .map _ es => ∀ (j : Nat) (k : Value) (d : AV), es[j]? = some (k, d) → Bel n d
 | _ => True
section
variable {ι : List Nat} {Z Z2 : Nat → Nat → Prop} {w : World}
theorem lt_of_get {ι : List Nat} {id b : Nat} (h : ι[id]? = some b) : id < ι.length := (List.getElem?_eq_some_iff.1 h).1
theorem arr_at {cs : Array Value} {n j : Nat} {d : AV} {ds : List AV} (hl : ds.length = cs.size) (hd : ds[j]? = some d) : ∃ u, cs[j]? = some u := by
 have : j < cs.size := by rw [← hl]; exact (List.getElem?_eq_some_iff.1 hd).1
 exact ⟨_, Array.getElem?_eq_getElem this⟩
theorem VR.bel {d : AV} {u : Value} (h : VR ι Z w d u) : Bel ι.length d := by
 induction h with
 | lit v h => exact .lit v
 | ptr id off b h => exact .ptr id off (lt_of_get h)
 | eptr row off b o U h _ ih => exact .eptr row off fun j d hd => ih j d hd
 | nils a c tok h g => exact .sl [] tok (by rcases g with rfl | ⟨rfl, _⟩ <;> trivial) fun i j e d he => by simp at he
 | frs t k c b h1 h2 h3 => exact .sl [] _ (lt_of_get h1) fun i j e d he => by simp at he
 | sl b o n c k es tok U h1 h2 h3 h4 h5 h6 h7 _ ih =>
  refine .sl es tok ?_ fun i j e d he hd => ih i j e d he hd
  cases tok with
  | own t => obtain ⟨b', hb, _⟩ := h7; exact lt_of_get hb
  | fresh t k => exact h7.elim
  | _ => trivial
 | asl id off n k c b h1 h2 h3 h4 => exact .asl id off n k (lt_of_get h1)
 | mp id b h => exact .mp id (lt_of_get h)
 | fn f first cap fs cs h1 h2 _ _ ih1 ih2 =>
  refine .fn f first cap (fun j d hd => ?_) fun j d hd => ?_
  · obtain ⟨u, hu⟩ := arr_at (n := 0) h1 hd; exact ih1 j d u hd hu
  · obtain ⟨u, hu⟩ := arr_at (n := 0) h2 hd; exact ih2 j d u hd hu
 | ifc t d u _ ih => exact .ifc t d ih
 | agg ds cs h1 h2 _ ih => exact .agg ds fun j d hd => by obtain ⟨u, hu⟩ := arr_at (n := 0) h1 hd; exact ih j d u hd hu
 | tup ds cs h1 _ ih => exact .tup ds fun j d hd => by obtain ⟨u, hu⟩ := arr_at (n := 0) h1 hd; exact ih j d u hd hu
theorem take_get {ι : List Nat} {n id b : Nat} (h : ι[id]? = some b) (hn : id < n) : (ι.take n)[id]? = some b := by rw [List.getElem?_take, if_pos hn]; exact h
theorem VR.cut {n : Nat} (hZ : ∀ b j, Z b j → Z2 b j) {d : AV} {u : Value} (h : VR ι Z w d u) : Bel n d → VR (ι.take n) Z2 w d u := by
 induction h with
 | lit v h => exact fun _ => .lit v h
 | ptr id off b h => intro hb; cases hb with | ptr _ _ hl => exact .ptr id off b (take_get h hl)
 | eptr row off b o U h _ ih =>
  intro hb
  cases hb with
  | eptr _ _ hl => exact .eptr row off b o U (fun j d hd => ⟨(h j d hd).1, hZ _ _ (h j d hd).2.1, (h j d hd).2.2⟩) fun j d hd => ih j d hd (hl j d hd)
 | nils a c tok h g => exact fun _ => .nils a c tok h g
 | frs t k c b h1 h2 h3 => intro hb; cases hb with | sl _ _ ht _ => exact .frs t k c b (take_get h1 ht) h2 h3
 | sl b o n' c k es tok U h1 h2 h3 h4 h5 h6 h7 _ ih =>
  intro hb
  cases hb with
  | sl _ _ ht hl =>
   refine .sl b o n' c k es tok U h1 h2 h3 h4 h5 (fun i j x d hx hd => ⟨(h6 i j x d hx hd).1, hZ _ _ (h6 i j x d hx hd).2.1, (h6 i j x d hx hd).2.2⟩) ?_ fun i j x d hx hd => ih i j x d hx hd (hl i j x d hx hd)
   cases tok with
   | own t => obtain ⟨b', q1, q2, q3⟩ := h7; exact ⟨b', take_get q1 ht, q2, q3⟩
   | fresh t k => exact h7.elim
   | no => trivial
   | full => exact h7
 | asl id off n k c b h1 h2 h3 h4 => intro hb; cases hb with | asl _ _ _ _ hl => exact .asl id off n k c b (take_get h1 hl) h2 h3 h4
 | mp id b h => intro hb; cases hb with | mp _ hl => exact .mp id b (take_get h hl)
 | fn f first cap fs cs h1 h2 _ _ ih1 ih2 => intro hb; cases hb with | fn _ _ _ q1 q2 => exact .fn f first cap fs cs h1 h2 (fun i d u hd hu => ih1 i d u hd hu (q1 i d hd)) fun i d u hd hu => ih2 i d u hd hu (q2 i d hd)
 | ifc t d u _ ih => intro hb; cases hb with | ifc _ _ q => exact .ifc t d u (ih q)
 | agg ds cs h1 h2 _ ih => intro hb; cases hb with | agg _ q => exact .agg ds cs h1 h2 fun i d u hd hu => ih i d u hd hu (q i d hd)
 | tup ds cs h1 _ ih => intro hb; cases hb with | tup _ q => exact .tup ds cs h1 fun i d u hd hu => ih i d u hd hu (q i d hd)
end
inductive Frz (σ : Sto) (n : Nat) : AV → AV → Prop
 | same (d : AV) : Bel n d → Frz σ n d d
 | sl (es fs : List (List AV)) (tok : Tok) : es.length = fs.length → (∀ (i : Nat) (e f : List AV), es[i]? = some e → fs[i]? = some f → e.length = f.length) →
     (∀ (i j : Nat) (e f : List AV) (d d' : AV), es[i]? = some e → fs[i]? = some f → e[j]? = some d → f[j]? = some d' → Frz σ n d d') → Frz σ n (.sl es tok) (.sl fs .no)
 | asl (id off m k : Nat) (cs : List AV) (T : TypeId) (fs : List (List AV)) (D : Nat → Nat → AV) : σ[id]? = some (.cells cs T) → n ≤ id → fs.length = m → (∀ (i : Nat) (f : List AV), fs[i]? = some f → f.length = k) →
     (∀ (i j : Nat) (f : List AV) (d' : AV), fs[i]? = some f → f[j]? = some d' → cs[off + i * k + j]? = some (D i j)) → (∀ (i j : Nat) (f : List AV) (d' : AV), fs[i]? = some f → f[j]? = some d' → Frz σ n (D i j) d') → Frz σ n (.asl id off m k) (.sl fs .no)
 | agg (ds es : List AV) : ds.length = es.length → (∀ (j : Nat) (d d' : AV), ds[j]? = some d → es[j]? = some d' → Frz σ n d d') → Frz σ n (.agg ds) (.agg es)
 | tup (ds es : List AV) : ds.length = es.length → (∀ (j : Nat) (d d' : AV), ds[j]? = some d → es[j]? = some d' → Frz σ n d d') → Frz σ n (.tup ds) (.tup es)
theorem Frz.one {σ : Sto} {n : Nat} {d d' : AV} (h : Frz σ n d d') (h1 : d.one = true) : d'.one = true := by
 cases h with
 | same => exact h1
 | sl => rfl
 | asl => rfl
 | agg => simp [AV.one] at h1
 | tup => simp [AV.one] at h1
theorem list_at {α β : Type} {l : List α} {m : List β} {j : Nat} {b : β} (hl : l.length = m.length) (h : m[j]? = some b) : ∃ a, l[j]? = some a := by
 have : j < l.length := by rw [hl]; exact (List.getElem?_eq_some_iff.1 h).1
 exact ⟨_, List.getElem?_eq_getElem this⟩
theorem Frz.rel {σ : Sto} {ι : List Nat} {Z Z2 : Nat → Nat → Prop} {w : World} {n : Nat} (hM : Match σ ι Z w) (hZ : ∀ b j, Z b j → Z2 b j) (hnew : ∀ (id b j : Nat) (o : AObj), n ≤ id → ι[id]? = some b → σ[id]? = some o → o.live → b < w.heap.size → Z2 b j) {d d' : AV} (h : Frz σ n d d') :
    ∀ {u : Value}, VR ι Z w d u → VR (ι.take n) Z2 w d' u := by
 induction h with
 | same d hb => exact fun hv => hv.cut hZ hb
 | sl es fs tok h1 h2 h3 ih =>
  intro u hv
  cases hv with
  | nils a c tok g1 g2 =>
   obtain rfl : fs = [] := List.eq_nil_of_length_eq_zero (by simpa using h1.symm)
   exact .nils a c .no g1 (.inl rfl)
  | frs t k c b g1 g2 g3 =>
   obtain rfl : fs = [] := List.eq_nil_of_length_eq_zero (by simpa using h1.symm)
   exact .nils _ c .no (fun e => by cases e) (.inl rfl)
  | sl b o n' c k _ tok U g1 g2 g3 g4 g5 g6 g7 g8 =>
   refine .sl b o n' c k fs .no U (by omega) g2 g3 g4 (fun i f hf => ?_) (fun i j f d' hf hd => ?_) trivial fun i j f d' hf hd => ?_
   · obtain ⟨e, he⟩ := list_at h1 hf
     rw [← h2 i e f he hf]; exact g5 i e he
   · obtain ⟨e, he⟩ := list_at h1 hf
     obtain ⟨d, hd2⟩ := list_at (h2 i e f he hf) hd
     obtain ⟨q1, q2, q3⟩ := g6 i j e d he hd2
     exact ⟨(h3 i j e f d d' he hf hd2 hd).one q1, hZ _ _ q2, q3⟩
   · obtain ⟨e, he⟩ := list_at h1 hf
     obtain ⟨d, hd2⟩ := list_at (h2 i e f he hf) hd
     exact ih i j e f d d' he hf hd2 hd (g8 i j e d he hd2)
 | asl id off m k cs T fs D h1 h2 h3 h4 h5 h6 ih =>
  intro u hv
  cases hv with
  | asl _ _ _ _ c b g1 g2 g3 g4 =>
   obtain ⟨arr, a1, a2, a3, a4⟩ := hM.obj id _ b h1 g1
   have hlt : b < w.heap.size := (Array.getElem?_eq_some_iff.1 a1).1
   rcases Nat.eq_zero_or_pos m with h0 | h0
   · subst h0
     obtain rfl : fs = [] := List.eq_nil_of_length_eq_zero h3
     exact .nils _ c .no (fun e => by cases e) (.inl rfl)
   · have cell : ∀ (i j : Nat) (f : List AV) (d' : AV), fs[i]? = some f → f[j]? = some d' → ∃ x, arr[off + i * k + j]? = some x ∧ (D i j).one = true ∧ VR ι Z w (D i j) x := by
      intro i j f d' hf hd
      have hc := h5 i j f d' hf hd
      have hlt2 : off + i * k + j < arr.size := by have := (List.getElem?_eq_some_iff.1 hc).1; omega
      obtain ⟨q1, q2⟩ := a3 _ _ _ hc (Array.getElem?_eq_getElem hlt2)
      exact ⟨_, Array.getElem?_eq_getElem hlt2, q1, q2⟩
     refine .sl b off m c k fs .no (fun i j => (arr[off + i * k + j]?).getD undef) h3 h0 g2 g3 (fun i f hf => h4 i f hf) (fun i j f d' hf hd => ?_) trivial fun i j f d' hf hd => ?_
     · obtain ⟨x, q1, q2, q3⟩ := cell i j f d' hf hd
       refine ⟨(h6 i j f d' hf hd).one q2, hnew id b _ _ h2 g1 h1 trivial hlt, ?_⟩
       rw [q1]
       simp [World.cell?, a1, q1]
     · obtain ⟨x, q1, q2, q3⟩ := cell i j f d' hf hd
       rw [q1]
       exact ih i j f d' hf hd q3
 | agg ds es h1 h2 ih =>
  intro u hv
  cases hv with
  | agg _ cs g1 g2 g3 =>
   refine .agg es cs (by omega) (fun j d' hd => ?_) fun j d' u hd hu => ?_
   · obtain ⟨d, hd2⟩ := list_at h1 hd
     exact (h2 j d d' hd2 hd).one (g2 j d hd2)
   · obtain ⟨d, hd2⟩ := list_at h1 hd
     exact ih j d d' hd2 hd (g3 j d u hd2 hu)
 | tup ds es h1 h2 ih =>
  intro u hv
  cases hv with
  | tup _ cs g1 g3 =>
   refine .tup es cs (by omega) fun j d' u hd hu => ?_
   obtain ⟨d, hd2⟩ := list_at h1 hd
   exact ih j d d' hd2 hd (g3 j d u hd2 hu)
structure Fgt (σ : Sto) (r : ARes) (σ' : Sto) (r2 : ARes) (σ2 : Sto) : Prop where
 res : (∃ v v2, r = .ret v ∧ r2 = .ret v2 ∧ Frz σ' σ.length v v2) ∨ (∃ v v2, r = .pan v ∧ r2 = .pan v2 ∧ Frz σ' σ.length v v2)
 len : σ2.length = σ.length
 same : ∀ id, id < σ.length → σ'[id]? = σ2[id]?
 bel : ∀ (id : Nat) (o : AObj), σ2[id]? = some o → σ[id]? = some o ∨ ((∃ o', σ[id]? = some o' ∧ o'.live) ∧ BelO σ.length o)
theorem ObjM.cut {ι : List Nat} {Z Z2 : Nat → Nat → Prop} {w : World} {b n : Nat} {o : AObj} (hZ : ∀ b j, Z b j → Z2 b j) (hno : o.live → ∀ j, ¬ Z b j → ¬ Z2 b j) (h : ObjM ι Z w b o) (hb : BelO n o) : ObjM (ι.take n) Z2 w b o := by
 cases o with
 | cells cs T =>
  obtain ⟨c, h1, h2, h3, h4⟩ := h
  exact ⟨c, h1, h2, fun j d u hd hu => ⟨(h3 j d u hd hu).1, (h3 j d u hd hu).2.cut hZ (hb j d hd)⟩, fun j => hno trivial j (h4 j)⟩
 | tok m t =>
  obtain ⟨c, h1, h2, h3⟩ := h
  exact ⟨c, h1, h2, fun j hj => hno trivial j (h3 j hj)⟩
 | buf cs T =>
  obtain ⟨c, fz, h1, h0, h2, h3, h4⟩ := h
  exact ⟨c, fz, h1, h0, h2, fun j d u hd hu => ⟨(h3 j d u hd hu).1, (h3 j d u hd hu).2.cut hZ (hb j d hd)⟩, fun j => hno trivial j (h4 j)⟩
 | map q es =>
  obtain ⟨arr, h1, h2, h3, h4⟩ := h
  exact ⟨arr, h1, h2, fun i k v a hi ha => ⟨(h3 i k v a hi ha).1, (h3 i k v a hi ha).2.1, (h3 i k v a hi ha).2.2.1, (h3 i k v a hi ha).2.2.2.cut hZ (hb i k v hi)⟩, fun j => hno trivial j (h4 j)⟩
 | dead => trivial
theorem ObjM.bel {ι : List Nat} {Z : Nat → Nat → Prop} {w : World} {b : Nat} {o : AObj} (h : ObjM ι Z w b o) : BelO ι.length o := by
 cases o with
 | cells cs T =>
  obtain ⟨c, h1, h2, h3, h4⟩ := h
  intro j d hd
  have hl : j < c.size := by have := (List.getElem?_eq_some_iff.1 hd).1; omega
  exact (h3 j d _ hd (Array.getElem?_eq_getElem hl)).2.bel
 | buf cs T =>
  obtain ⟨c, fz, h1, h0, h2, h3, h4⟩ := h
  intro j d hd
  have hl : j < c.size := by have := (List.getElem?_eq_some_iff.1 hd).1; omega
  exact (h3 j d _ hd (Array.getElem?_eq_getElem hl)).2.bel
 | map q es =>
  obtain ⟨arr, h1, h2, h3, h4⟩ := h
  intro j k d hd
  have hl : j < arr.size := by have := (List.getElem?_eq_some_iff.1 hd).1; omega
  exact (h3 j k d _ hd (Array.getElem?_eq_getElem hl)).2.2.2.bel
 | _ => trivial
theorem forget {σ σ' σ2 : Sto} {ι ι' : List Nat} {Z Z' : Nat → Nat → Prop} {w w' : World} {r r2 : ARes} {e : Ending} (hM : Match σ ι Z w) (hE : Evo ι Z w ι' Z' w') (hM' : Match σ' ι' Z' w') (hR : ERel ι' Z' w' r e) (hF : Fgt σ r σ' r2 σ2) :
    ∃ ι2 Z2, Evo ι Z w ι2 Z2 w' ∧ Match σ2 ι2 Z2 w' ∧ ERel ι2 Z2 w' r2 e := by
 have hlen : σ.length ≤ ι'.length := by
  rcases Nat.eq_zero_or_pos σ.length with h0 | h0
  · omega
  · have h1 : σ.length - 1 < σ2.length := by rw [hF.len]; omega
    have h2 := hF.same (σ.length - 1) (by omega)
    rw [List.getElem?_eq_getElem h1] at h2
    have := (List.getElem?_eq_some_iff.1 h2).1
    rw [hM'.len]; omega
 have htake : ι'.take σ.length = ι := by
  apply List.ext_getElem?
  intro i
  rcases Nat.lt_or_ge i σ.length with hi | hi
  · have hi' : i < ι.length := by rw [hM.len]; exact hi
    rw [List.getElem?_take, if_pos hi, List.getElem?_eq_getElem hi']
    exact hE.pre i _ (List.getElem?_eq_getElem hi')
  · rw [List.getElem?_eq_none (by rw [List.length_take]; omega), List.getElem?_eq_none (by rw [hM.len]; exact hi)]
 let Z2 : Nat → Nat → Prop := fun b j => Z' b j ∨ ((∃ (id : Nat) (o : AObj), σ.length ≤ id ∧ ι'[id]? = some b ∧ σ'[id]? = some o ∧ o.live) ∧ b < w'.heap.size)
 have hZ : ∀ b j, Z' b j → Z2 b j := fun b j h => .inl h
 have hE2 : Evo ι Z w ι Z2 w' := {
  pre := fun id b h => h
  img := fun id b h _ => ⟨id, h⟩
  zmono := fun b j h => .inl (hE.zmono b j h)
  zsame := hE.zsame
  csz := hE.csz
  size := hE.size
  keep := hE.keep
  os := hE.os
  tape := hE.tape
  output := hE.output
  znew := fun b j h hb => by
   rcases h with h | ⟨⟨id, o, _, h2, _⟩, _⟩
   · exact hE.znew b j h hb
   · exact .inr (hE.img id b h2 hb) }
 have up : ∀ {id b : Nat}, ι[id]? = some b → id < σ.length ∧ ι'[id]? = some b := fun {id b} h => ⟨by rw [← hM.len]; exact lt_of_get h, hE.pre id b h⟩
 have hrel : ∀ {v v2 : AV} {u : Value}, Frz σ' σ.length v v2 → VR ι' Z' w' v u → VR ι Z2 w' v2 u := fun {v v2 u} hf hv => by
  have := hf.rel (Z2 := Z2) hM' hZ (fun id b j o h1 h2 h3 h4 h5 => .inr ⟨⟨id, o, h1, h2, h3, h4⟩, h5⟩) hv
  rwa [htake] at this
 refine ⟨ι, Z2, hE2, ⟨by rw [hM.len, hF.len], fun id o b ho hb => ?_, fun i j b o p hi hj ho hp lo lp => ?_, fun b j h => ?_, fun g l hg => ?_, fun id b hb => Nat.lt_of_lt_of_le (hM.ilt id b hb) hE.size⟩, ?_⟩
 · obtain ⟨hid, hb'⟩ := up hb
   have ho' : σ'[id]? = some o := by rw [hF.same id hid]; exact ho
   have hob := hM'.obj id o b ho' hb'
   have hbel : BelO σ.length o := by
    rcases hF.bel id o ho with h | ⟨_, h⟩
    · have := (hM.obj id o b h hb).bel
      rwa [hM.len] at this
    · exact h
   have := hob.cut (n := σ.length) (Z2 := Z2) hZ (fun lo j hn => ?_) hbel
   · rwa [htake] at this
   · rintro (h | ⟨⟨id2, o2, q1, q2, q3, q4⟩, _⟩)
     · exact hn h
     · have := hM'.inj id id2 b o o2 hb' q2 ho' q3 lo q4
       omega
 · obtain ⟨h1, h1'⟩ := up hi
   obtain ⟨h2, h2'⟩ := up hj
   exact hM'.inj i j b o p h1' h2' (by rw [hF.same i h1]; exact ho) (by rw [hF.same j h2]; exact hp) lo lp
 · rcases h with h | ⟨_, h⟩
   · exact hM'.zlt b j h
   · exact h
 · obtain ⟨g1, g2, g3⟩ := hM'.glob g l hg
   refine ⟨?_, g2, g3⟩
   have := g1.cut (n := σ.length) hZ (.eptr _ _ fun j d hd => by
    rw [List.getElem?_map, Option.map_eq_some_iff] at hd
    obtain ⟨v, _, rfl⟩ := hd
    exact .lit v)
   rwa [htake] at this
 · rcases hF.res with ⟨v, v2, rfl, rfl, hf⟩ | ⟨v, v2, rfl, rfl, hf⟩
   · obtain ⟨u, rfl, hu⟩ := hR
     exact ⟨u, rfl, hrel hf hu⟩
   · obtain ⟨u, rfl, hu⟩ := hR
     exact ⟨u, rfl, hrel hf hu⟩
end
section
open Go.RowKit
noncomputable def relPrim (S : List AV → Sto → ARes → Sto → Prop) (args : List AV) (σ : Sto) : Option (ARes × Sto) :=
 @dite _ (∃ p : ARes × Sto, S args σ p.1 p.2) (Classical.propDecidable _) (fun h => some h.choose) fun _ => none
theorem relPrim_spec {S : List AV → Sto → ARes → Sto → Prop} {args : List AV} {σ σ' : Sto} {r : ARes} (h : relPrim S args σ = some (r, σ')) : S args σ r σ' := by
 unfold relPrim at h
 split at h
 · rename_i hx
   have := hx.choose_spec
   rw [Option.some.inj h] at this
   exact this
 · cases h
theorem relPrim_eq {S : List AV → Sto → ARes → Sto → Prop} (hS : ∀ args σ r σ' r2 σ2, S args σ r σ' → S args σ r2 σ2 → r = r2 ∧ σ' = σ2) {args : List AV} {σ σ' : Sto} {r : ARes} (h : S args σ r σ') : relPrim S args σ = some (r, σ') := by
 have hx : ∃ p : ARes × Sto, S args σ p.1 p.2 := ⟨(r, σ'), h⟩
 unfold relPrim
 rw [dif_pos hx]
 obtain ⟨h1, h2⟩ := hS _ _ _ _ _ _ hx.choose_spec h
 congr 1
 exact Prod.ext h1 h2
theorem JC.startW {P : Program} {E : Env} {M : List TypeId} {f : FuncId} {fn : Func} {c : Code} {args : List AV} {σ : Sto} {Q : ARes → Sto → Prop} (hf : E.code f = some fn) (hc : fn.body = some c) (hm : E.ms f = M) (hn : args.length ≤ fn.ntmps)
    (h : ∀ tm : List AV, tm.length = fn.ntmps → (∀ (i : Nat) (d : AV), args[i]? = some d → slot tm i = d) → CW P E M c tm σ (bodyW P fn Q)) : JC P E f args σ Q :=
 JC.start hf hc hm hn fun tm hl hs => J.cw (h tm hl hs)
theorem Fgt.pure {σ σ' : Sto} {v v2 : AV} (hx : Ext σ σ') (hf : Frz σ' σ.length v v2) : Fgt σ (.ret v) σ' (.ret v2) σ := by
 obtain ⟨g, rfl⟩ := hx
 exact ⟨.inl ⟨v, v2, rfl, rfl, hf⟩, rfl, fun id h => List.getElem?_append_left h, fun id o h => .inl h⟩
theorem Fgt.wrote {σ σ' : Sto} {v v2 : AV} {id : Nat} {o o' : AObj} (hx : Ext (σ.set id o) σ') (hid : σ[id]? = some o') (hl : o'.live) (hb : BelO σ.length o) (hf : Frz σ' σ.length v v2) : Fgt σ (.ret v) σ' (.ret v2) (σ.set id o) := by
 obtain ⟨g, rfl⟩ := hx
 refine ⟨.inl ⟨v, v2, rfl, rfl, hf⟩, by simp, fun i h => List.getElem?_append_left (by simpa using h), fun i p h => ?_⟩
 by_cases e : id = i
 · subst e
   rw [List.getElem?_set_self (List.getElem?_eq_some_iff.1 hid).1] at h
   cases h
   exact .inr ⟨⟨o', hid, hl⟩, hb⟩
 · rw [List.getElem?_set_ne e] at h
   exact .inl h
def still : AV → Prop := Bel 0
theorem Bel.mono {n m : Nat} (h : n ≤ m) {d : AV} (hd : Bel n d) : Bel m d := by
 induction hd with
 | lit v => exact .lit v
 | ptr id off hl => exact .ptr id off (by omega)
 | eptr row off _ ih => exact .eptr row off ih
 | sl es tok ht _ ih => exact .sl es tok (by cases tok <;> first | trivial | (have : _ < n := ht; exact Nat.lt_of_lt_of_le this h)) ih
 | asl id off m k hl => exact .asl id off m k (by omega)
 | mp id hl => exact .mp id (by omega)
 | fn f a b _ _ ih1 ih2 => exact .fn f a b ih1 ih2
 | ifc t d _ ih => exact .ifc t d ih
 | agg ds _ ih => exact .agg ds ih
 | tup ds _ ih => exact .tup ds ih
theorem Frz.still {σ : Sto} {n : Nat} {d : AV} (h : Go.Proofs.YteajcnilihgheaaGreatDoor.still d) : Frz σ n d d := .same d (Bel.mono (Nat.zero_le n) h)
theorem Frz.rows {σ : Sto} {n : Nat} {es : List (List AV)} {tok : Tok} (h : ∀ e ∈ es, ∀ d ∈ e, Go.Proofs.YteajcnilihgheaaGreatDoor.still d) : Frz σ n (.sl es tok) (.sl es .no) :=
 .sl es es tok rfl (fun i e f he hf => by rw [he] at hf; cases hf; rfl) fun i j e f d d' he hf hd hd' => by
  rw [he] at hf; cases hf
  rw [hd] at hd'; cases hd'
  exact Frz.still (h e (List.mem_of_getElem? he) d (List.mem_of_getElem? hd))
end
section
open Go.RowKit
def lk (i : Nat) : List (Nat × AV) → AV → AV
 | [], d => d
 | p :: l, d => if p.1 = i then p.2 else lk i l d
def pt (d : Nat) (v : AV) : List (Nat × AV) → List (Nat × AV)
 | [] => [(d, v)]
 | p :: l => if p.1 = d then (d, v) :: l else p :: pt d v l
def ov : List (Nat × AV) → List AV → List AV
 | [], tm => tm
 | p :: l, tm => (ov l tm).set p.1 p.2
def fm (n : Nat) (fr : List (Nat × AV)) (tm : List AV) : List AV := ov fr (tm.take n ++ List.replicate (n - tm.length) (.tup []))
def old (n : Nat) (tm : List AV) (i : Nat) : AV := slot (fm n [] tm) i
def sub : List (Nat × AV) → List (Nat × AV) → Prop
 | [], _ => True
 | p :: l, fr => (∀ d, lk p.1 fr d = p.2) ∧ sub l fr
def num (i : Nat) : List AV → List (Nat × AV)
 | [] => []
 | a :: l => (i, a) :: num (i + 1) l
theorem ov_len : ∀ (fr : List (Nat × AV)) (tm : List AV), (ov fr tm).length = tm.length
 | [], _ => rfl
 | p :: l, tm => by rw [ov, List.length_set, ov_len l]
theorem fm_len {n : Nat} {fr : List (Nat × AV)} {tm : List AV} : (fm n fr tm).length = n := by
 unfold fm
 rw [ov_len]
 simp
 omega
theorem ov_slot {i : Nat} : ∀ (fr : List (Nat × AV)) (tm : List AV), i < tm.length → slot (ov fr tm) i = lk i fr (slot tm i)
 | [], _, _ => rfl
 | p :: l, tm, h => by
  rw [ov, lk]
  split
  · rename_i e
    subst e
    exact slot_eq (by rw [ov_len]; exact h)
  · rename_i e
    rw [slot_ne e, ov_slot l tm h]
theorem slot_fm {n i : Nat} {fr : List (Nat × AV)} {tm : List AV} (h : i < n) : slot (fm n fr tm) i = lk i fr (old n tm i) := by
 unfold old fm
 rw [ov_slot _ _ (by simp; omega)]
 rfl
theorem ov_set {d : Nat} {v : AV} : ∀ (fr : List (Nat × AV)) (tm : List AV), (ov fr tm).set d v = ov (pt d v fr) tm
 | [], _ => rfl
 | p :: l, tm => by
  rw [pt]
  split
  · rename_i e
    subst e
    rw [ov, ov, List.set_set]
  · rename_i e
    rw [ov, ov, ← ov_set l tm, List.set_comm _ _ e]
theorem set_fm {n d : Nat} {v : AV} {fr : List (Nat × AV)} {tm : List AV} : (fm n fr tm).set d v = fm n (pt d v fr) tm := ov_set _ _
theorem slot_ext {a b : List AV} (hl : a.length = b.length) (h : ∀ i, i < a.length → slot a i = slot b i) : a = b := by
 refine List.ext_getElem hl fun i h1 h2 => ?_
 have := h i h1
 unfold slot at this
 rw [List.getD_eq_getElem?_getD, List.getD_eq_getElem?_getD, List.getElem?_eq_getElem h1, List.getElem?_eq_getElem h2] at this
 exact this
theorem fm_sub {n : Nat} {l fr : List (Nat × AV)} {tm : List AV} (h : sub l fr) : fm n fr tm = fm n l (fm n fr tm) := by
 refine slot_ext (by rw [fm_len, fm_len]) fun i hi => ?_
 rw [fm_len] at hi
 have e : old n (fm n fr tm) i = slot (fm n fr tm) i := by
  unfold old
  have : fm n [] (fm n fr tm) = fm n fr tm := by
   show (fm n fr tm).take n ++ _ = _
   rw [fm_len, Nat.sub_self, List.take_of_length_le (by rw [fm_len]; exact Nat.le_refl _)]
   simp
  rw [this]
 rw [slot_fm hi, slot_fm hi (fr := l), e, slot_fm hi]
 clear e
 induction l with
 | nil => rfl
 | cons p l ih =>
  rw [lk]
  split
  · rename_i e
    subst e
    exact h.1 _
  · exact ih h.2
theorem lk_none {i : Nat} : ∀ {fr : List (Nat × AV)} {d : AV}, (∀ p ∈ fr, p.1 ≠ i) → lk i fr d = d
 | [], _, _ => rfl
 | p :: l, d, h => by rw [lk, if_neg (h p (by simp)), lk_none fun q hq => h q (by simp [hq])]
def sel (ks : List Nat) : List (Nat × AV) → List (Nat × AV)
 | [] => []
 | p :: l => if ks.contains p.1 then p :: sel ks l else sel ks l
theorem sel_mem {ks : List Nat} : ∀ {fr : List (Nat × AV)} {p : Nat × AV}, p ∈ sel ks fr → ks.contains p.1 = true
 | [], _, h => by cases h
 | q :: l, p, h => by
  rw [sel] at h
  split at h
  · rename_i hq
    rcases List.mem_cons.1 h with rfl | h
    · exact hq
    · exact sel_mem h
  · exact sel_mem h
theorem lk_sel {ks : List Nat} {i : Nat} (hi : ks.contains i = true) : ∀ {fr : List (Nat × AV)} {d : AV}, lk i (sel ks fr) d = lk i fr d
 | [], _ => rfl
 | p :: l, d => by
  rw [sel]
  split
  · rw [lk, lk]; split
    · rfl
    · exact lk_sel hi
  · rename_i h
    rw [lk, if_neg (fun e => h (by rw [e]; exact hi))]
    exact lk_sel hi
theorem fm_sel {n : Nat} (ks : List Nat) {fr : List (Nat × AV)} {tm : List AV} : fm n fr tm = fm n (sel ks fr) (fm n fr tm) := by
 refine slot_ext (by rw [fm_len, fm_len]) fun i hi => ?_
 rw [fm_len] at hi
 have e : old n (fm n fr tm) i = slot (fm n fr tm) i := by
  unfold old
  have : fm n [] (fm n fr tm) = fm n fr tm := by
   show (fm n fr tm).take n ++ _ = _
   rw [fm_len, Nat.sub_self, List.take_of_length_le (by rw [fm_len]; exact Nat.le_refl _)]
   simp
  rw [this]
 rw [slot_fm hi (fr := sel ks fr), e, slot_fm hi]
 cases hk : ks.contains i with
 | true =>
  rw [lk_sel hk]
  clear e
  induction fr with
  | nil => rfl
  | cons p l ih =>
   rw [lk, lk]
   split
   · rfl
   · exact ih
 | false =>
  refine (lk_none (fr := sel ks fr) fun p hp e => ?_).symm
  have := sel_mem hp
  simp only [e, hk] at this
  cases this
theorem num_ov : ∀ (args : List AV) (i : Nat) (tm : List AV) (k : Nat), (∀ (j : Nat) (d : AV), args[j]? = some d → tm[i + j]? = some d) → ov (num i args) tm = tm
 | [], _, _, _, _ => rfl
 | a :: l, i, tm, k, h => by
  rw [num, ov, num_ov l (i + 1) tm k fun j d hd => by rw [show i + 1 + j = i + (j + 1) by omega]; exact h (j + 1) d (by simpa using hd)]
  have h0 := h 0 a (by simp)
  rw [Nat.add_zero] at h0
  refine List.ext_getElem? fun j => ?_
  rw [List.getElem?_set]
  split
  · rename_i e; subst e
    rw [if_pos (List.getElem?_eq_some_iff.1 h0).1, h0]
  · rfl
theorem num_fm {args : List AV} {n : Nat} (h : args.length ≤ n) : args ++ List.replicate (n - args.length) (.tup []) = fm n (num 0 args) args := by
 unfold fm
 rw [List.take_of_length_le h, num_ov args 0 _ 0]
 intro j d hd
 rw [Nat.zero_add, List.getElem?_append_left (List.getElem?_eq_some_iff.1 hd).1, hd]
section
variable {P : Program} {E : Env} {M : List TypeId} {n : Nat} {fr : List (Nat × AV)} {tm : List AV} {σ : Sto} {Q : AExit → List AV → Sto → Prop}
theorem CallW.startF {f : FuncId} {fn : Func} {c : Code} {args : List AV} {Q : ARes → Sto → Prop} (hp : E.prim f = none) (hf : E.code f = some fn) (hc : fn.body = some c) (hm : E.ms f = M) (hk : fn.ntmps = n) (hn : args.length ≤ n)
    (h : ∀ tm : List AV, CW P E M c (fm n (num 0 args) tm) σ (bodyW P fn Q)) : CallW P E f args σ Q :=
 CallW.body hp hf hc (by rw [hk, num_fm hn, hm]; exact h _)
theorem JC.startF {f : FuncId} {fn : Func} {c : Code} {args : List AV} {Q : ARes → Sto → Prop} (hf : E.code f = some fn) (hc : fn.body = some c) (hm : E.ms f = M) (hk : fn.ntmps = n) (hn : args.length ≤ n)
    (h : ∀ tm : List AV, CW P E M c (fm n (num 0 args) tm) σ (bodyW P fn Q)) : JC P E f args σ Q :=
 J.body hf hc (by rw [hk, num_fm hn, hm]; exact J.cw (h _))
theorem JC.startG {f : FuncId} {fn : Func} {c : Code} {args : List AV} {Q : ARes → Sto → Prop} (hf : E.code f = some fn) (hc : fn.body = some c) (hm : E.ms f = M) (hk : fn.ntmps = n) (hn : args.length ≤ n)
    (h : ∀ tm : List AV, JD P E M c (fm n (num 0 args) tm) σ (bodyW P fn Q)) : JC P E f args σ Q :=
 J.body hf hc (by rw [hk, num_fm hn, hm]; exact h _)
theorem CW.keep (ks : List Nat) {c : Code} (h : ∀ tm, CW P E M c (fm n (sel ks fr) tm) σ Q) : CW P E M c (fm n fr tm) σ Q := by
 rw [fm_sel ks]; exact h _
theorem CW.loopF {α : Type} (F : α → List (Nat × AV)) (S : α → Sto) (G : α → Prop) (μ : α → Nat) {c : Code} (a : α) (h0 : sub (F a) fr) (hs : σ = S a) (hg : G a)
    (round : ∀ a tm, G a → CW P E M c (fm n (F a) tm) (S a) (andThen (fun tm1 σ1 => ∃ a' fr' tm', tm1 = fm n fr' tm' ∧ sub (F a') fr' ∧ σ1 = S a' ∧ G a' ∧ μ a' < μ a) Q)) : CW P E M (.loop c) (fm n fr tm) σ Q := by
 refine CW.loopI (fun k tm σ => ∃ a fr' tm', k = μ a ∧ tm = fm n fr' tm' ∧ sub (F a) fr' ∧ σ = S a ∧ G a) ?_ (μ a) _ _ ⟨a, fr, tm, rfl, rfl, h0, hs, hg⟩
 rintro k tm σ ⟨a, fr', tm', rfl, rfl, h1, rfl, h2⟩
 rw [fm_sub h1]
 refine (round a _ h2).mono fun x tm1 σ1 h => ?_
 cases x with
 | normal =>
  obtain ⟨a', fr', tm', e1, e2, e3, e4, e5⟩ := h
  exact ⟨μ a', e5, a', fr', tm', rfl, e1, e2, e3, e4⟩
 | _ => exact h
end
theorem st_get0 {σ l : Sto} {n : Nat} (h : n = σ.length) : (σ ++ l)[n]? = l[0]? := by
 subst h; rw [List.getElem?_append_right (Nat.le_refl _), Nat.sub_self]
theorem st_getk {σ l : Sto} {n k : Nat} (h : n = σ.length) : (σ ++ l)[n + k]? = l[k]? := by
 subst h; rw [List.getElem?_append_right (by omega), Nat.add_sub_cancel_left]
theorem st_old {σ l : Sto} {i : Nat} (h : i < σ.length) : (σ ++ l)[i]? = σ[i]? := List.getElem?_append_left h
theorem st_set0 {σ l : Sto} {n : Nat} {o : AObj} (h : n = σ.length) : (σ ++ l).set n o = σ ++ l.set 0 o := by
 subst h; rw [List.set_append_right _ _ (Nat.le_refl _), Nat.sub_self]
theorem st_setk {σ l : Sto} {n k : Nat} {o : AObj} (h : n = σ.length) : (σ ++ l).set (n + k) o = σ ++ l.set k o := by
 subst h; rw [List.set_append_right _ _ (by omega), Nat.add_sub_cancel_left]
theorem extB_self (σ : Sto) : extB σ σ = true := extB_of ⟨[], by simp⟩
set_option linter.defProp false in
def zF := (And.intro (And.intro @slot_fm @fm_len) (And.intro @set_fm (And.intro @st_get0 (And.intro @st_getk (And.intro @st_set0 @st_setk)))))
section
variable {K : List AV → Sto → Prop} {Q : AExit → List AV → Sto → Prop} {tm : List AV} {σ : Sto}
theorem andThen_n : andThen K Q .normal tm σ = K tm σ := rfl
theorem andThen_r : andThen K Q .ret tm σ = Q .ret tm σ := rfl
theorem andThen_p {v : AV} : andThen K Q (.pan v) tm σ = Q (.pan v) tm σ := rfl
theorem andThen_e {i : Nat} : andThen K Q (.exit i) tm σ = Q (.exit i) tm σ := rfl
theorem outOf_n {i : Nat} : outOf i Q .normal tm σ = Q .normal tm σ := rfl
theorem outOf_r {i : Nat} : outOf i Q .ret tm σ = Q .ret tm σ := rfl
theorem outOf_p {i : Nat} {v : AV} : outOf i Q (.pan v) tm σ = Q (.pan v) tm σ := rfl
theorem outOf_e {i j : Nat} : outOf i Q (.exit j) tm σ = if j = i then Q .normal tm σ else Q (.exit j) tm σ := rfl
theorem retK_r {A B : AV → Sto → Prop} {v : AV} : retK A B (.ret v) σ = A v σ := rfl
theorem retK_p {A B : AV → Sto → Prop} {v : AV} : retK A B (.pan v) σ = B v σ := rfl
end
set_option linter.defProp false in
def zX := And.intro symB (And.intro zF (And.intro (And.intro @lk.eq_1 (And.intro @lk.eq_2 (And.intro @pt.eq_1 (And.intro @pt.eq_2 (And.intro @num.eq_1 @num.eq_2))))) (And.intro (And.intro @sel.eq_1 (And.intro @sel.eq_2 (And.intro @sub.eq_1 (And.intro @sub.eq_2 @extB_self)))) (And.intro (And.intro @andThen_n (And.intro @andThen_r (And.intro @andThen_p @andThen_e))) (And.intro (And.intro @outOf_n (And.intro @outOf_r (And.intro @outOf_p @outOf_e))) (And.intro @retK_r @retK_p))))))
theorem len_setV (l : List AV) (i : Nat) (a : AV) : (l.set i a).length = l.length := List.length_set
theorem len_setO (l : List AObj) (i : Nat) (a : AObj) : (l.set i a).length = l.length := List.length_set
theorem zL {n m : Nat} (h : n.ble m = true) : n ≤ m := Nat.le_of_ble_eq_true h
set_option linter.defProp false in
def zY := And.intro zX (And.intro len_setV len_setO)
def Apd (σ : Sto) (e : TypeId) (m : Nat) (tok : Tok) (g : List AObj) : Prop := (tok = .full ∧ m = 0) ∨ ∃ i, tok = .own (σ.length + i) ∧ g[i]? = some (.tok m e)
theorem Apd.nil (σ : Sto) (e : TypeId) (g : List AObj) : Apd σ e 0 .full g := .inl ⟨rfl, rfl⟩
theorem Apd.push {σ : Sto} {e : TypeId} {m : Nat} {tok : Tok} {g : List AObj} (h : Apd σ e m tok g) (l : List AObj) : Apd σ e m tok (g ++ l) := by
 rcases h with h | ⟨i, h1, h2⟩
 · exact .inl h
 · exact .inr ⟨i, h1, by rw [List.getElem?_append_left (List.getElem?_eq_some_iff.1 h2).1]; exact h2⟩
theorem apdN {P : Program} {M : List TypeId} {σ : Sto} {g : List AObj} {tok : Tok} {t e k by_ : Nat} (es fs : List (List AV)) (hA : Apd σ e (es.length * (k + 1)) tok g) (ht : P.underlying t = some (.slice e)) (hk : szOf P e = some (k + 1)) (hb : bytesOf P e = some by_) (hz : ((P.info? e).bind fun x => x.zero).map (fun z => z.cells.size) = some (k + 1))
    (h1 : es.head?.all (·.length == k + 1) = true) (h2 : fs.head?.all (·.length == k + 1) = true) (hf : fs.length ≠ 0) (hby : (es.length + fs.length) * by_ ≤ 140737488355328) (hle : es.length + fs.length ≤ 140737488355328) (hMt : M.contains t = false := by rfl) :
    ∃ tok' g' acc, Apd σ e ((es.length + fs.length) * (k + 1)) tok' g' ∧ (∀ (ρ : Operand → Option AV) (ds : Option Tmp) (ty : TypeId) (po : String) (af : Array Edge) (gu : Option (Nat × Bool)) (x y : Operand) (tk : Tok), ρ x = some (.sl es tok) → ρ y = some (.sl fs tk) →
     evStep P M ρ (σ ++ g) ⟨ds, .call ⟨.builtin .append, #[x, y], #[t, t]⟩, ty, po, af, gu⟩ = some (.val (.sl (es ++ stripRows fs) tok') (σ ++ g') acc)) ∧ (∀ K, ¬ Acc.lcalls K = acc) ∧ ∀ a, ¬ Acc.reads a = acc := by
 have hap : ∀ (ρ : Operand → Option AV) (ds : Option Tmp) (ty : TypeId) (po : String) (af : Array Edge) (gu : Option (Nat × Bool)) (x y : Operand), ρ x = some (.sl es tok) → evStep P M ρ (σ ++ g) ⟨ds, .call ⟨.builtin .append, #[x, y], #[t, t]⟩, ty, po, af, gu⟩ = evAppend P ρ (σ ++ g) t x y := by
  intro ρ ds ty po af gu x y hx
  have hlit : evLit P ρ (σ ++ g) ⟨ds, .call ⟨.builtin .append, #[x, y], #[t, t]⟩, ty, po, af, gu⟩ = none := by
   unfold evLit
   simp [Op.operands, Call.operands, hx, conc, conc2]
  unfold evStep
  rw [if_neg (by simp only [mutOp, hMt]; exact Bool.false_ne_true), hlit]
  simp [evPure, evMem]
 rcases hA with ⟨rfl, h0⟩ | ⟨i, rfl, hg⟩
 · refine ⟨.own (σ.length + g.length), g ++ [.tok ((es.length + fs.length) * (k + 1)) e], .news (σ ++ g).length, .inr ⟨_, rfl, by simp⟩, fun ρ ds ty po af gu x y tk hx hy => ?_, (fun K e => by cases e), (fun a e => by cases e)⟩
   rw [hap _ _ _ _ _ _ _ _ hx]
   unfold evAppend
   simp only [ht, hx, hy, hk, hb, hz]
   rw [if_pos ⟨trivial, h1, h2, hby, hle⟩, if_neg hf]
   simp
 · refine ⟨.own (σ.length + g.length), g.set i .dead ++ [.tok ((es.length + fs.length) * (k + 1)) e], .any, .inr ⟨_, rfl, by rw [List.getElem?_append_right (by simp)]; simp⟩, fun ρ ds ty po af gu x y tk hx hy => ?_, (fun K e => by cases e), (fun a e => by cases e)⟩
   rw [hap _ _ _ _ _ _ _ _ hx]
   unfold evAppend
   simp only [ht, hx, hy, hk, hb, hz]
   rw [if_pos ⟨trivial, h1, h2, hby, hle⟩, if_neg hf]
   simp only [st_getk rfl, hg, and_self, if_true, st_setk rfl]
   simp
theorem apd {P : Program} {M : List TypeId} {σ : Sto} {g : List AObj} {tok : Tok} {t e k by_ : Nat} (es fs : List (List AV)) (hA : Apd σ e (es.length * (k + 1)) tok g) (ht : P.underlying t = some (.slice e)) (hk : szOf P e = some (k + 1)) (hb : bytesOf P e = some by_) (hz : ((P.info? e).bind fun x => x.zero).map (fun z => z.cells.size) = some (k + 1))
    (h1 : es.head?.all (·.length == k + 1) = true) (h2 : fs.head?.all (·.length == k + 1) = true) (hf : fs.length ≠ 0) (hby : (es.length + fs.length) * by_ ≤ 140737488355328) (hle : es.length + fs.length ≤ 140737488355328) (hMt : M.contains t = false := by rfl) :
    ∃ tok' g' acc, Apd σ e ((es.length + fs.length) * (k + 1)) tok' g' ∧ ∀ (ρ : Operand → Option AV) (ds : Option Tmp) (ty : TypeId) (po : String) (af : Array Edge) (gu : Option (Nat × Bool)) (x y : Operand) (tk : Tok), ρ x = some (.sl es tok) → ρ y = some (.sl fs tk) →
     evStep P M ρ (σ ++ g) ⟨ds, .call ⟨.builtin .append, #[x, y], #[t, t]⟩, ty, po, af, gu⟩ = some (.val (.sl (es ++ stripRows fs) tok') (σ ++ g') acc) := by
 obtain ⟨a, b, c, h1, h2, _⟩ := apdN es fs hA ht hk hb hz h1 h2 hf hby hle hMt
 exact ⟨a, b, c, h1, h2⟩
theorem apd0 {P : Program} {M : List TypeId} {σ : Sto} {es : List (List AV)} {tok tk : Tok} {t e k by_ : Nat} {ρ : Operand → Option AV} {ds : Option Tmp} {ty : TypeId} {po : String} {af : Array Edge} {gu : Option (Nat × Bool)} {x y : Operand} (ht : P.underlying t = some (.slice e)) (hk : szOf P e = some (k + 1)) (hb : bytesOf P e = some by_) (hz : ((P.info? e).bind fun x => x.zero).map (fun z => z.cells.size) = some (k + 1))
    (h1 : es.head?.all (·.length == k + 1) = true) (hby : es.length * by_ ≤ 140737488355328) (hle : es.length ≤ 140737488355328) (hx : ρ x = some (.sl es tok)) (hy : ρ y = some (.sl [] tk)) (hMt : M.contains t = false := by rfl) :
    evStep P M ρ σ ⟨ds, .call ⟨.builtin .append, #[x, y], #[t, t]⟩, ty, po, af, gu⟩ = some (.val (.sl es tok) σ .pure) := by
 have hlit : evLit P ρ σ ⟨ds, .call ⟨.builtin .append, #[x, y], #[t, t]⟩, ty, po, af, gu⟩ = none := by
  unfold evLit
  simp [Op.operands, Call.operands, hx, conc, conc2]
 unfold evStep
 rw [if_neg (by simp only [mutOp, hMt]; exact Bool.false_ne_true), hlit]
 simp only [evPure, evMem, List.toList_toArray]
 simp [evAppend, ht, hx, hy, hk, hb, hz, h1, hby, hle]
theorem Frz.nrm' {σ : Sto} {n : Nat} : ∀ (v : AV), v.pln = true → Frz σ n v v.nrm
 | .lit v, _ => .same _ (.lit v)
 | .sl es t, h => by
  rw [AV.pln, plnRR_iff] at h
  rw [AV.nrm]
  refine .sl es _ t (by rw [nrmRR_map, List.length_map]) (fun i e f he hf => ?_) fun i j e f d d' he hf hd hd' => ?_
  · rw [nrmRR_map, List.getElem?_map, he] at hf
    cases hf
    rw [nrmR_map, List.length_map]
  · rw [nrmRR_map, List.getElem?_map, he] at hf
    cases hf
    rw [nrmR_map, List.getElem?_map, hd] at hd'
    cases hd'
    have hm := List.mem_of_getElem? he
    have hm2 := List.mem_of_getElem? hd
    have := List.sizeOf_lt_of_mem hm
    have := List.sizeOf_lt_of_mem hm2
    exact Frz.nrm' d ((plnR_iff _).1 (h e hm) d hm2)
 | .agg cs, h => by
  rw [AV.pln, plnR_iff] at h
  rw [AV.nrm]
  refine .agg cs _ (by rw [nrmR_map, List.length_map]) fun j d d' hd hd' => ?_
  rw [nrmR_map, List.getElem?_map, hd] at hd'
  cases hd'
  have hm2 := List.mem_of_getElem? hd
  have := List.sizeOf_lt_of_mem hm2
  exact Frz.nrm' d (h d hm2)
 | .tup cs, h => by
  rw [AV.pln, plnR_iff] at h
  rw [AV.nrm]
  refine .tup cs _ (by rw [nrmR_map, List.length_map]) fun j d d' hd hd' => ?_
  rw [nrmR_map, List.getElem?_map, hd] at hd'
  cases hd'
  have hm2 := List.mem_of_getElem? hd
  have := List.sizeOf_lt_of_mem hm2
  exact Frz.nrm' d (h d hm2)
 | .fn (.func g) f c, h => by
  rw [AV.pln, Bool.and_eq_true] at h
  obtain rfl := List.isEmpty_iff.1 h.1
  obtain rfl := List.isEmpty_iff.1 h.2
  exact .same _ (.fn _ _ _ (fun j d hd => by simp at hd) fun j d hd => by simp at hd)
 | .ptr .., h | .eptr .., h | .asl .., h | .mp .., h | .ifc .., h => by simp [AV.pln] at h
termination_by v => SizeOf.sizeOf v
decreasing_by all_goals (simp_wf; omega)
theorem Frz.nrm {σ : Sto} {n : Nat} {v : AV} (h : v.pln = true) : Frz σ n v v.nrm := Frz.nrm' v h
end
end Go.Proofs.YteajcnilihgheaaGreatDoor
