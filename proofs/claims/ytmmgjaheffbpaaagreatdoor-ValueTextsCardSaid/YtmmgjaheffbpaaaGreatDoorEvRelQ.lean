/-
 EV: WHAT ABSTRACT DATA STAND FOR IN A WORLD; how worlds go on.
-/
import Derived.Test.YtmmgjaheffbpaaaGreatDoorGlobQ
import Derived.Laws.CopyRow
import Derived.Laws.AppendOwn
import Derived.Laws.OwnMore
namespace Go.Proofs.YtmmgjaheffbpaaaGreatDoor
set_option linter.unusedSimpArgs false
set_option linter.unusedVariables false
open Go.RowKit
def cellsz (w : World) (b : Nat) : Nat := match w.heap[b]? with | some (.cells c _ _) => c.size | _ => 0
def TokR (ι : List Nat) (w : World) (k : Nat) (a : Option Addr) (n c : Nat) : Tok → Prop
 | .no => True
 | .full => c = n
 | .own t => ∃ b, ι[t]? = some b ∧ a = some ⟨b, 0, none⟩ ∧ c * k ≤ cellsz w b
 | .fresh _ _ => False
inductive VR (ι : List Nat) (Z : Nat → Nat → Prop) (w : World) : AV → Value → Prop
 | lit (v : Value) : scal v = true → VR ι Z w (.lit v) v
 | ptr (id off b : Nat) : ι[id]? = some b → VR ι Z w (.ptr id off) (.pointer (some ⟨b, off, none⟩))
 | eptr (row : List AV) (off b o : Nat) (U : Nat → Value) :
     (∀ (j : Nat) (d : AV), row[j]? = some d → d.one = true ∧ Z b (o + j) ∧ w.cell? ⟨b, o + j, none⟩ = some (U j)) →
     (∀ (j : Nat) (d : AV), row[j]? = some d → VR ι Z w d (U j)) → VR ι Z w (.eptr row off) (.pointer (some ⟨b, o + off, none⟩))
 | nils (a : Option Addr) (c : Nat) (tok : Tok) : (a = none → c = 0) → (tok = .no ∨ (tok = .full ∧ c = 0)) → VR ι Z w (.sl [] tok) (.slice a 0 c)
 | frs (t k c b : Nat) : ι[t]? = some b → c * k ≤ cellsz w b → c ≤ maxLen → VR ι Z w (.sl [] (.fresh t k)) (.slice (some ⟨b, 0, none⟩) 0 c)
 | sl (b o n c k : Nat) (es : List (List AV)) (tok : Tok) (U : Nat → Nat → Value) : es.length = n → 0 < n → n ≤ c → c ≤ maxLen → (∀ (i : Nat) (e : List AV), es[i]? = some e → e.length = k) →
     (∀ (i j : Nat) (e : List AV) (d : AV), es[i]? = some e → e[j]? = some d → d.one = true ∧ Z b (o + i * k + j) ∧ w.cell? ⟨b, o + i * k + j, none⟩ = some (U i j)) →
     TokR ι w k (some ⟨b, o, none⟩) n c tok →
     (∀ (i j : Nat) (e : List AV) (d : AV), es[i]? = some e → e[j]? = some d → VR ι Z w d (U i j)) → VR ι Z w (.sl es tok) (.slice (some ⟨b, o, none⟩) n c)
 | asl (id off n k c b : Nat) : ι[id]? = some b → n ≤ c → c ≤ maxLen → off + c * k ≤ cellsz w b → VR ι Z w (.asl id off n k) (.slice (some ⟨b, off, none⟩) n c)
 | mp (id b : Nat) : ι[id]? = some b → VR ι Z w (.mp id) (.map (some b))
 | fn (f : Fn) (first cap : List AV) (fs cs : Array Value) : first.length = fs.size → cap.length = cs.size → (∀ (i : Nat) (d : AV) (u : Value), first[i]? = some d → fs[i]? = some u → VR ι Z w d u) →
     (∀ (i : Nat) (d : AV) (u : Value), cap[i]? = some d → cs[i]? = some u → VR ι Z w d u) → VR ι Z w (.fn f first cap) (.func f fs cs)
 | ifc (t : TypeId) (d : AV) (u : Value) : VR ι Z w d u → VR ι Z w (.ifc t d) (.iface t u)
 | agg (ds : List AV) (cs : Array Value) : ds.length = cs.size → (∀ (i : Nat) (d : AV), ds[i]? = some d → d.one = true) → (∀ (i : Nat) (d : AV) (u : Value), ds[i]? = some d → cs[i]? = some u → VR ι Z w d u) → VR ι Z w (.agg ds) (.agg cs)
 | tup (ds : List AV) (cs : Array Value) : ds.length = cs.size → (∀ (i : Nat) (d : AV) (u : Value), ds[i]? = some d → cs[i]? = some u → VR ι Z w d u) → VR ι Z w (.tup ds) (.tuple cs)
 | rsl (b o c k : Nat) (es : List (List AV)) (g : Nat) (U : Nat → Nat → Value) : 0 < (es ++ roomRows g).length → (es ++ roomRows g).length ≤ c → c ≤ maxLen → (∀ (i : Nat) (e : List AV), (es ++ roomRows g)[i]? = some e → e.length = k) →
     (∀ (i j : Nat) (e : List AV) (d : AV), (es ++ roomRows g)[i]? = some e → e[j]? = some d → d.one = true ∧ Z b (o + i * k + j) ∧ w.cell? ⟨b, o + i * k + j, none⟩ = some (U i j)) →
     (∀ (i j : Nat) (e : List AV) (d : AV), (es ++ roomRows g)[i]? = some e → e[j]? = some d → VR ι Z w d (U i j)) → VR ι Z w (.rsl es g) (.slice (some ⟨b, o, none⟩) es.length c)
theorem VR.toSl {ι : List Nat} {Z : Nat → Nat → Prop} {w : World} {es : List (List AV)} {g : Nat} {u : Value} (h : VR ι Z w (.rsl es g) u) : VR ι Z w (.sl es .no) u := by
 cases h with
 | rsl b o c k _ _ U h2 h3 h4 h5 h6 h7 =>
  rcases Nat.eq_zero_or_pos es.length with h0 | h0
  · rw [h0]
    obtain rfl : es = [] := List.eq_nil_of_length_eq_zero h0
    exact .nils _ c .no (fun e => by cases e) (.inl rfl)
  · have hg : ∀ {i : Nat} {e : List AV}, es[i]? = some e → (es ++ roomRows g)[i]? = some e := fun {i e} he => by rw [List.getElem?_append_left (List.getElem?_eq_some_iff.1 he).1]; exact he
    refine .sl b o _ c k es .no U rfl h0 (by rw [List.length_append] at h3; omega) h4 (fun i e he => h5 i e (hg he)) (fun i j e d he hd => h6 i j e d (hg he) hd) trivial fun i j e d he hd => h7 i j e d (hg he) hd
theorem VR.toAll {ι : List Nat} {Z : Nat → Nat → Prop} {w : World} {es : List (List AV)} {g : Nat} {u : Value} (h : VR ι Z w (.rsl es g) u) : ∃ b o c, u = .slice (some ⟨b, o, none⟩) es.length c ∧ (es ++ roomRows g).length ≤ c ∧ VR ι Z w (.sl (es ++ roomRows g) .no) (.slice (some ⟨b, o, none⟩) (es ++ roomRows g).length c) := by
 cases h with
 | rsl b o c k _ _ U h2 h3 h4 h5 h6 h7 => exact ⟨b, o, c, rfl, h3, .sl b o _ c k _ .no U rfl h2 h3 h4 h5 h6 trivial h7⟩
structure Evo (ι : List Nat) (Z : Nat → Nat → Prop) (w : World) (ι' : List Nat) (Z' : Nat → Nat → Prop) (w' : World) : Prop where
 pre : ∀ (id b : Nat), ι[id]? = some b → ι'[id]? = some b
 img : ∀ (id b : Nat), ι'[id]? = some b → b < w.heap.size → ∃ j : Nat, ι[j]? = some b
 zmono : ∀ b j, Z b j → Z' b j
 zsame : ∀ b j, Z b j → w'.cell? ⟨b, j, none⟩ = w.cell? ⟨b, j, none⟩
 csz : ∀ b, b < w.heap.size → cellsz w' b = cellsz w b
 size : w.heap.size ≤ w'.heap.size
 keep : ∀ b, b < w.heap.size → (∀ id : Nat, ι[id]? ≠ some b) → w'.heap[b]? = w.heap[b]?
 os : w'.os = w.os
 tape : w'.tape = w.tape
 output : w'.output = w.output
 znew : ∀ b j, Z' b j → b < w.heap.size → Z b j ∨ ∃ id : Nat, ι[id]? = some b
 inew : ∀ (id b : Nat), ι'[id]? = some b → b < w'.heap.size ∨ ∃ j : Nat, ι[j]? = some b := by exact fun id b h => .inr ⟨id, h⟩
theorem Evo.refl (ι : List Nat) (Z : Nat → Nat → Prop) (w : World) : Evo ι Z w ι Z w :=
 ⟨fun _ _ h => h, fun id _ h _ => ⟨id, h⟩, fun _ _ h => h, fun _ _ _ => rfl, fun _ _ => rfl, Nat.le_refl _, fun _ _ _ => rfl, rfl, rfl, rfl, fun _ _ h _ => .inl h, fun id b h => .inr ⟨id, h⟩⟩
theorem Evo.trans {ι ι' ι'' : List Nat} {Z Z' Z'' : Nat → Nat → Prop} {w w' w'' : World} (h : Evo ι Z w ι' Z' w') (g : Evo ι' Z' w' ι'' Z'' w'') : Evo ι Z w ι'' Z'' w'' where
 pre := fun id b e => g.pre id b (h.pre id b e)
 img := fun id b e hb => by
  obtain ⟨j, hj⟩ := g.img id b e (Nat.lt_of_lt_of_le hb h.size)
  exact h.img j b hj hb
 zmono := fun b j e => g.zmono b j (h.zmono b j e)
 zsame := fun b j e => (g.zsame b j (h.zmono b j e)).trans (h.zsame b j e)
 csz := fun b hb => (g.csz b (Nat.lt_of_lt_of_le hb h.size)).trans (h.csz b hb)
 size := Nat.le_trans h.size g.size
 keep := fun b hb hn => (g.keep b (Nat.lt_of_lt_of_le hb h.size) fun id e => by
  obtain ⟨j, hj⟩ := h.img id b e hb
  exact hn j hj).trans (h.keep b hb hn)
 os := g.os.trans h.os
 tape := g.tape.trans h.tape
 output := g.output.trans h.output
 znew := fun b j hz hb => by
  rcases g.znew b j hz (Nat.lt_of_lt_of_le hb h.size) with h1 | ⟨id, h1⟩
  · exact h.znew b j h1 hb
  · exact .inr (h.img id b h1 hb)
 inew := fun id b e => by
  rcases g.inew id b e with h1 | ⟨j, h1⟩
  · exact .inl h1
  · rcases h.inew j b h1 with h2 | h2
    · exact .inl (Nat.lt_of_lt_of_le h2 g.size)
    · exact .inr h2
theorem cellsz_pos {w : World} {b : Nat} (h : 0 < cellsz w b) : b < w.heap.size := by
 unfold cellsz at h
 split at h
 · rename_i e; exact (Array.getElem?_eq_some_iff.1 e).1
 · simp at h
structure EvoW (ι : List Nat) (Z : Nat → Nat → Prop) (w : World) (ι' : List Nat) (Z' : Nat → Nat → Prop) (w' : World) : Prop where
 pre : ∀ (id b : Nat), ι[id]? = some b → ι'[id]? = some b
 zmono : ∀ b j, Z b j → Z' b j
 zsame : ∀ b j, Z b j → w'.cell? ⟨b, j, none⟩ = w.cell? ⟨b, j, none⟩
 csz : ∀ b, b < w.heap.size → cellsz w' b = cellsz w b
theorem Evo.toW {ι ι' : List Nat} {Z Z' : Nat → Nat → Prop} {w w' : World} (e : Evo ι Z w ι' Z' w') : EvoW ι Z w ι' Z' w' := ⟨e.pre, e.zmono, e.zsame, e.csz⟩
theorem TokR.evoW {ι ι' : List Nat} {Z Z' : Nat → Nat → Prop} {w w' : World} (e : EvoW ι Z w ι' Z' w') {k : Nat} {a : Option Addr} {n c : Nat} {tok : Tok} (h : TokR ι w k a n c tok) : TokR ι' w' k a n c tok := by
 cases tok with
 | no => trivial
 | full => exact h
 | fresh t k => exact h.elim
 | own t =>
  obtain ⟨b, hb, ha, hc⟩ := h
  refine ⟨b, e.pre t b hb, ha, ?_⟩
  rcases Nat.eq_zero_or_pos (c * k) with h0 | h0
  · omega
  · rw [e.csz b (cellsz_pos (Nat.lt_of_lt_of_le h0 hc))]; exact hc
theorem VR.evoW {ι ι' : List Nat} {Z Z' : Nat → Nat → Prop} {w w' : World} (e : EvoW ι Z w ι' Z' w') {d : AV} {u : Value} (h : VR ι Z w d u) : VR ι' Z' w' d u := by
 induction h with
 | lit v h => exact .lit v h
 | ptr id off b h => exact .ptr id off b (e.pre id b h)
 | eptr row off b o U h _ ih => exact .eptr row off b o U (fun j d hd => ⟨(h j d hd).1, e.zmono _ _ (h j d hd).2.1, by rw [e.zsame _ _ (h j d hd).2.1]; exact (h j d hd).2.2⟩) ih
 | nils a c tok h g => exact .nils a c tok h g
 | frs t k c b h1 h2 h3 =>
  refine .frs t k c b (e.pre t b h1) ?_ h3
  rcases Nat.eq_zero_or_pos (c * k) with h0 | h0
  · omega
  · rw [e.csz b (cellsz_pos (Nat.lt_of_lt_of_le h0 h2))]; exact h2
 | sl b o n c k es tok U h1 h2 h3 h4 h5 h6 h7 _ ih =>
  exact .sl b o n c k es tok U h1 h2 h3 h4 h5 (fun i j x d hx hd => ⟨(h6 i j x d hx hd).1, e.zmono _ _ (h6 i j x d hx hd).2.1, by rw [e.zsame _ _ (h6 i j x d hx hd).2.1]; exact (h6 i j x d hx hd).2.2⟩) (h7.evoW e) ih
 | asl id off n k c b h1 h2 h3 h4 =>
  refine .asl id off n k c b (e.pre id b h1) h2 h3 ?_
  rcases Nat.eq_zero_or_pos (off + c * k) with h0 | h0
  · omega
  · rw [e.csz b (cellsz_pos (Nat.lt_of_lt_of_le h0 h4))]; exact h4
 | mp id b h => exact .mp id b (e.pre id b h)
 | fn f first cap fs cs h1 h2 _ _ ih1 ih2 => exact .fn f first cap fs cs h1 h2 ih1 ih2
 | ifc t d u _ ih => exact .ifc t d u ih
 | agg ds cs h1 h2 _ ih => exact .agg ds cs h1 h2 ih
 | tup ds cs h1 _ ih => exact .tup ds cs h1 ih
 | rsl b o c k es g U h2 h3 h4 h5 h6 _ ih =>
  exact .rsl b o c k es g U h2 h3 h4 h5 (fun i j x d hx hd => ⟨(h6 i j x d hx hd).1, e.zmono _ _ (h6 i j x d hx hd).2.1, by rw [e.zsame _ _ (h6 i j x d hx hd).2.1]; exact (h6 i j x d hx hd).2.2⟩) fun i j x d hx hd => ih i j x d hx hd
theorem VR.evo {ι ι' : List Nat} {Z Z' : Nat → Nat → Prop} {w w' : World} (e : Evo ι Z w ι' Z' w') {d : AV} {u : Value} (h : VR ι Z w d u) : VR ι' Z' w' d u := h.evoW e.toW
theorem TokR.evo {ι ι' : List Nat} {Z Z' : Nat → Nat → Prop} {w w' : World} (e : Evo ι Z w ι' Z' w') {k : Nat} {a : Option Addr} {n c : Nat} {tok : Tok} (h : TokR ι w k a n c tok) : TokR ι' w' k a n c tok := h.evoW e.toW
def ObjM (ι : List Nat) (Z : Nat → Nat → Prop) (w : World) (b : Nat) : AObj → Prop
 | .cells cs T => ∃ c : Array Value, w.heap[b]? = some (.cells c T (0, 0)) ∧ cs.length ≤ c.size ∧ (∀ (j : Nat) (d : AV) (u : Value), cs[j]? = some d → c[j]? = some u → d.one = true ∧ VR ι Z w d u) ∧ ∀ j, ¬ Z b j
 | .tok m e => ∃ c : Array Value, w.heap[b]? = some (.cells c e (0, 0)) ∧ m ≤ c.size ∧ ∀ j, m ≤ j → ¬ Z b j
 | .buf cs T => ∃ (c : Array Value) (fz : Nat × Nat), w.heap[b]? = some (.cells c T fz) ∧ fz.2 ≤ cs.length ∧ cs.length ≤ c.size ∧ (∀ (j : Nat) (d : AV) (u : Value), cs[j]? = some d → c[j]? = some u → d.one = true ∧ VR ι Z w d u) ∧ ∀ j, ¬ Z b j
 | .map q es => ∃ arr : Array MapEntry, w.heap[b]? = some (.map arr arr.size) ∧ arr.size = es.length ∧ (∀ (i : Nat) (k : Value) (v : AV) (a : MapEntry), es[i]? = some (k, v) → arr[i]? = some a → a.key = k ∧ a.born = i ∧ q.fits k = true ∧ VR ι Z w v a.val) ∧ ∀ j, ¬ Z b j
 | .dead => True
def AObj.live : AObj → Prop
 | .dead => False
 | _ => True
structure Match (σ : Sto) (ι : List Nat) (Z : Nat → Nat → Prop) (w : World) : Prop where
 len : ι.length = σ.length
 obj : ∀ (id : Nat) (o : AObj) (b : Nat), σ[id]? = some o → ι[id]? = some b → ObjM ι Z w b o
 inj : ∀ (i j b : Nat) (o p : AObj), ι[i]? = some b → ι[j]? = some b → σ[i]? = some o → σ[j]? = some p → o.live → p.live → i = j
 zlt : ∀ b j, Z b j → b < w.heap.size
 glob : ∀ (g : Nat) (l : List Value), globRow g = some l → VR ι Z w (.eptr (l.map .lit) 0) (.pointer (some ⟨g, 0, none⟩)) ∧ g < w.heap.size ∧ cellsz w g = l.length
 ilt : ∀ (id b : Nat), ι[id]? = some b → b < w.heap.size
theorem ObjM.evoW {ι ι' : List Nat} {Z Z' : Nat → Nat → Prop} {w w' : World} (e : EvoW ι Z w ι' Z' w') {b : Nat} {o : AObj} (h : ObjM ι Z w b o) (hb : w'.heap[b]? = w.heap[b]?) (hz : ∀ j, Z' b j → Z b j) : ObjM ι' Z' w' b o := by
 cases o with
 | cells cs T =>
  obtain ⟨c, h1, h2, h3, h4⟩ := h
  exact ⟨c, hb.trans h1, h2, fun j d u hd hu => ⟨(h3 j d u hd hu).1, (h3 j d u hd hu).2.evoW e⟩, fun j hj => h4 j (hz j hj)⟩
 | tok m t =>
  obtain ⟨c, h1, h2, h3⟩ := h
  exact ⟨c, hb.trans h1, h2, fun j hj hj' => h3 j hj (hz j hj')⟩
 | buf cs T =>
  obtain ⟨c, fz, h1, h0, h2, h3, h4⟩ := h
  exact ⟨c, fz, hb.trans h1, h0, h2, fun j d u hd hu => ⟨(h3 j d u hd hu).1, (h3 j d u hd hu).2.evoW e⟩, fun j hj => h4 j (hz j hj)⟩
 | map q es =>
  obtain ⟨arr, h1, h2, h3, h4⟩ := h
  exact ⟨arr, hb.trans h1, h2, fun i k v a hi ha => ⟨(h3 i k v a hi ha).1, (h3 i k v a hi ha).2.1, (h3 i k v a hi ha).2.2.1, (h3 i k v a hi ha).2.2.2.evoW e⟩, fun j hj => h4 j (hz j hj)⟩
 | dead => trivial
theorem ObjM.evo {ι ι' : List Nat} {Z Z' : Nat → Nat → Prop} {w w' : World} (e : Evo ι Z w ι' Z' w') {b : Nat} {o : AObj} (h : ObjM ι Z w b o) (hb : w'.heap[b]? = w.heap[b]?) (hz : ∀ j, Z' b j → Z b j) : ObjM ι' Z' w' b o := h.evoW e.toW hb hz
theorem ObjM.lt {ι : List Nat} {Z : Nat → Nat → Prop} {w : World} {b : Nat} {o : AObj} (h : ObjM ι Z w b o) (hl : o.live) : b < w.heap.size := by
 cases o with
 | cells cs T => obtain ⟨c, h1, _⟩ := h; exact (Array.getElem?_eq_some_iff.1 h1).1
 | tok m t => obtain ⟨c, h1, _⟩ := h; exact (Array.getElem?_eq_some_iff.1 h1).1
 | buf cs T => obtain ⟨c, fz, h1, _⟩ := h; exact (Array.getElem?_eq_some_iff.1 h1).1
 | map q es => obtain ⟨arr, h1, _⟩ := h; exact (Array.getElem?_eq_some_iff.1 h1).1
 | dead => exact hl.elim
theorem Match.block {σ : Sto} {ι : List Nat} {Z : Nat → Nat → Prop} {w : World} (h : Match σ ι Z w) {id : Nat} {o : AObj} (ho : σ[id]? = some o) : ∃ b, ι[id]? = some b ∧ ObjM ι Z w b o := by
 have hl := (List.getElem?_eq_some_iff.1 ho).1
 have hl' : id < ι.length := by rw [h.len]; exact hl
 exact ⟨_, List.getElem?_eq_getElem hl', h.obj id o _ ho (List.getElem?_eq_getElem hl')⟩
theorem Evo.drew (ι : List Nat) (Z : Nat → Nat → Prop) (w : World) : Evo ι Z w ι Z w.drew :=
 ⟨fun _ _ h => h, fun id _ h _ => ⟨id, h⟩, fun _ _ h => h, fun _ _ _ => rfl, fun _ _ => rfl, Nat.le_refl _, fun _ _ _ => rfl, rfl, rfl, rfl, fun _ _ h _ => .inl h, fun id b h => .inr ⟨id, h⟩⟩
theorem Match.go {σ σ' : Sto} {ι ι' : List Nat} {Z Z' : Nat → Nat → Prop} {w w' : World} (h : Match σ ι Z w) (e : Evo ι Z w ι' Z' w') (hlen : ι'.length = σ'.length)
    (hobj : ∀ (id : Nat) (o : AObj) (b : Nat), σ'[id]? = some o → ι'[id]? = some b → o.live → ObjM ι' Z' w' b o ∨ (σ[id]? = some o ∧ w'.heap[b]? = w.heap[b]? ∧ ∀ j, Z' b j → Z b j))
    (hinj : ∀ (i j b : Nat) (o p : AObj), ι'[i]? = some b → ι'[j]? = some b → σ'[i]? = some o → σ'[j]? = some p → o.live → p.live → i = j)
    (hz : ∀ b j, Z' b j → b < w'.heap.size) : Match σ' ι' Z' w' where
 len := hlen
 obj := fun id o b ho hb => by
  cases o with
  | dead => trivial
  | _ =>
   rcases hobj id _ b ho hb trivial with h1 | ⟨h1, h2, h3⟩
   · exact h1
   · obtain ⟨b0, hb0, hm⟩ := h.block h1
     have : b0 = b := by have := e.pre id b0 hb0; rw [hb] at this; exact (Option.some.inj this).symm
     subst this
     exact hm.evo e h2 h3
 inj := hinj
 zlt := hz
 glob := fun g l hg => ⟨(h.glob g l hg).1.evo e, Nat.lt_of_lt_of_le (h.glob g l hg).2.1 e.size, (e.csz g (h.glob g l hg).2.1).trans (h.glob g l hg).2.2⟩
 ilt := fun id b hb => by
  rcases e.inew id b hb with h1 | ⟨j, hj⟩
  · exact h1
  · exact Nat.lt_of_lt_of_le (h.ilt j b hj) e.size
theorem Match.same {σ : Sto} {ι : List Nat} {Z : Nat → Nat → Prop} {w w' : World} (h : Match σ ι Z w) (e : Evo ι Z w ι Z w') (hb : ∀ (id b : Nat), ι[id]? = some b → w'.heap[b]? = w.heap[b]?) : Match σ ι Z w' :=
 h.go e h.len (fun id o b ho hb' _ => .inr ⟨ho, hb id b hb', fun _ hj => hj⟩) h.inj fun b j hj => Nat.lt_of_lt_of_le (h.zlt b j hj) e.size
theorem Match.drew {σ : Sto} {ι : List Nat} {Z : Nat → Nat → Prop} {w : World} (h : Match σ ι Z w) : Match σ ι Z w.drew := h.same (Evo.drew ι Z w) fun _ _ _ => rfl
theorem cellsz_alloc (w : World) (x : Obj) (b : Nat) (h : b < w.heap.size) : cellsz (w.alloc x) b = cellsz w b := by
 unfold cellsz; rw [Below.heap_alloc _ _ _ h]
theorem cell_alloc (w : World) (x : Obj) (b j : Nat) (h : b < w.heap.size) : (w.alloc x).cell? ⟨b, j, none⟩ = w.cell? ⟨b, j, none⟩ := World.cell?_of_block (Below.heap_alloc _ _ _ h)
theorem Evo.alloc {σ : Sto} {ι : List Nat} {Z : Nat → Nat → Prop} {w : World} (h : Match σ ι Z w) (x : Obj) (news : List Nat) (Z' : Nat → Nat → Prop) (hn : ∀ b, b ∈ news → b = w.heap.size) (hz : ∀ b j, Z b j → Z' b j) (hz2 : ∀ b j, Z' b j → b < w.heap.size → Z b j) : Evo ι Z w (ι ++ news) Z' (w.alloc x) where
 znew := fun b j h hb => .inl (hz2 b j h hb)
 inew := fun id b e => by
  rcases Nat.lt_or_ge id ι.length with hl | hl
  · rw [List.getElem?_append_left hl] at e; exact .inr ⟨id, e⟩
  · rw [List.getElem?_append_right hl] at e
    have := hn b (List.mem_of_getElem? e); subst this; exact .inl (by simp)
 pre := fun id b e => by rw [List.getElem?_append_left (List.getElem?_eq_some_iff.1 e).1]; exact e
 img := fun id b e hb => by
  rcases Nat.lt_or_ge id ι.length with hl | hl
  · rw [List.getElem?_append_left hl] at e; exact ⟨id, e⟩
  · rw [List.getElem?_append_right hl] at e
    have := hn b (List.mem_of_getElem? e); omega
 zmono := hz
 zsame := fun b j e => cell_alloc w x b j (h.zlt b j e)
 csz := fun b hb => cellsz_alloc w x b hb
 size := by simp
 keep := fun b hb _ => Below.heap_alloc _ _ _ hb
 os := rfl
 tape := rfl
 output := rfl
theorem Match.newCells {σ : Sto} {ι : List Nat} {Z : Nat → Nat → Prop} {w : World} (h : Match σ ι Z w) (cs : List AV) (c : Array Value) (T : TypeId) (hl : cs.length ≤ c.size)
    (hc : ∀ (j : Nat) (d : AV) (u : Value), cs[j]? = some d → c[j]? = some u → d.one = true ∧ VR ι Z w d u) : Evo ι Z w (ι ++ [w.heap.size]) Z (w.alloc (.cells c T)) ∧ Match (σ ++ [.cells cs T]) (ι ++ [w.heap.size]) Z (w.alloc (.cells c T)) := by
 have e := Evo.alloc h (.cells c T) [w.heap.size] Z (by simp) (fun _ _ h => h) (fun _ _ h _ => h)
 refine ⟨e, h.go e (by simp [h.len]) (fun id o b ho hb hlive => ?_) (fun i j b o p hi hj ho hp lo lp => ?_) fun b j hj => by have := h.zlt b j hj; simp; omega⟩
 · rcases Nat.lt_or_ge id σ.length with hl' | hl'
   · rw [List.getElem?_append_left hl'] at ho
     rw [List.getElem?_append_left (by rw [h.len]; exact hl')] at hb
     have := (h.obj id o b ho hb).lt hlive
     exact .inr ⟨ho, Below.heap_alloc _ _ _ this, fun _ hj => hj⟩
   · have hid : id = σ.length := by have := (List.getElem?_eq_some_iff.1 ho).1; simp at this; omega
     subst hid
     rw [List.getElem?_append_right (by omega)] at ho
     rw [List.getElem?_append_right (by rw [h.len]; omega)] at hb
     simp [h.len] at ho hb
     subst ho; subst hb
     refine .inl ⟨c, heap_alloc_new w _, hl, fun j d u hd hu => ⟨(hc j d u hd hu).1, (hc j d u hd hu).2.evo e⟩, fun j hj => ?_⟩
     have := h.zlt _ j hj; omega
 · have key : ∀ (i b : Nat) (o : AObj), (ι ++ [w.heap.size])[i]? = some b → (σ ++ [AObj.cells cs T])[i]? = some o → o.live → (i < σ.length ∧ ι[i]? = some b ∧ σ[i]? = some o ∧ b < w.heap.size) ∨ (i = σ.length ∧ b = w.heap.size) := by
    intro i b o hi ho lo
    rcases Nat.lt_or_ge i σ.length with hl' | hl'
    · rw [List.getElem?_append_left hl'] at ho
      rw [List.getElem?_append_left (by rw [h.len]; exact hl')] at hi
      exact .inl ⟨hl', hi, ho, (h.obj i o b ho hi).lt lo⟩
    · have hid : i = σ.length := by have := (List.getElem?_eq_some_iff.1 ho).1; simp at this; omega
      subst hid
      rw [List.getElem?_append_right (by rw [h.len]; omega)] at hi
      simp [h.len] at hi
      exact .inr ⟨rfl, hi.symm⟩
   rcases key i b o hi ho lo with ⟨_, a1, a2, a3⟩ | ⟨a1, a2⟩ <;> rcases key j b p hj hp lp with ⟨_, b1, b2, b3⟩ | ⟨b1, b2⟩
   · exact h.inj i j b o p a1 b1 a2 b2 lo lp
   · omega
   · omega
   · omega
theorem Match.newAny {σ : Sto} {ι : List Nat} {Z : Nat → Nat → Prop} {w : World} (h : Match σ ι Z w) (x : Obj) (o1 : AObj)
    (hc : Evo ι Z w (ι ++ [w.heap.size]) Z (w.alloc x) → (w.alloc x).heap[w.heap.size]? = some x → (∀ j, ¬ Z w.heap.size j) → ObjM (ι ++ [w.heap.size]) Z (w.alloc x) w.heap.size o1) :
    Evo ι Z w (ι ++ [w.heap.size]) Z (w.alloc x) ∧ Match (σ ++ [o1]) (ι ++ [w.heap.size]) Z (w.alloc x) := by
 have e := Evo.alloc h x [w.heap.size] Z (by simp) (fun _ _ h => h) (fun _ _ h _ => h)
 refine ⟨e, h.go e (by simp [h.len]) (fun id o b ho hb hlive => ?_) (fun i j b o p hi hj ho hp lo lp => ?_) fun b j hj => by have := h.zlt b j hj; simp; omega⟩
 · rcases Nat.lt_or_ge id σ.length with hl' | hl'
   · rw [List.getElem?_append_left hl'] at ho
     rw [List.getElem?_append_left (by rw [h.len]; exact hl')] at hb
     have := (h.obj id o b ho hb).lt hlive
     exact .inr ⟨ho, Below.heap_alloc _ _ _ this, fun _ hj => hj⟩
   · have hid : id = σ.length := by have := (List.getElem?_eq_some_iff.1 ho).1; simp at this; omega
     subst hid
     rw [List.getElem?_append_right (by omega)] at ho
     rw [List.getElem?_append_right (by rw [h.len]; omega)] at hb
     simp [h.len] at ho hb
     subst ho; subst hb
     exact .inl (hc e (heap_alloc_new w _) fun j hj => by have := h.zlt _ j hj; omega)
 · have key : ∀ (i b : Nat) (o : AObj), (ι ++ [w.heap.size])[i]? = some b → (σ ++ [o1])[i]? = some o → o.live → (i < σ.length ∧ ι[i]? = some b ∧ σ[i]? = some o ∧ b < w.heap.size) ∨ (i = σ.length ∧ b = w.heap.size) := by
    intro i b o hi ho lo
    rcases Nat.lt_or_ge i σ.length with hl' | hl'
    · rw [List.getElem?_append_left hl'] at ho
      rw [List.getElem?_append_left (by rw [h.len]; exact hl')] at hi
      exact .inl ⟨hl', hi, ho, (h.obj i o b ho hi).lt lo⟩
    · have hid : i = σ.length := by have := (List.getElem?_eq_some_iff.1 ho).1; simp at this; omega
      subst hid
      rw [List.getElem?_append_right (by rw [h.len]; omega)] at hi
      simp [h.len] at hi
      exact .inr ⟨rfl, hi.symm⟩
   rcases key i b o hi ho lo with ⟨_, a1, a2, a3⟩ | ⟨a1, a2⟩ <;> rcases key j b p hj hp lp with ⟨_, b1, b2, b3⟩ | ⟨b1, b2⟩
   · exact h.inj i j b o p a1 b1 a2 b2 lo lp
   · omega
   · omega
   · omega
theorem Match.setAny {σ : Sto} {ι : List Nat} {Z : Nat → Nat → Prop} {w w' : World} (h : Match σ ι Z w) {i g : Nat} {o0 o1 : AObj} {x0 x : Obj} (hσ : σ[i]? = some o0) (hl0 : o0.live) (hi : ι[i]? = some g) (hno : ∀ j, ¬ Z g j)
    (hg : w.heap[g]? = some x0) (hw : w' = { w with heap := w.heap.setIfInBounds g x }) (hcs : (match x with | .cells c _ _ => c.size | _ => 0) = (match x0 with | .cells c _ _ => c.size | _ => 0))
    (hc : Evo ι Z w ι Z w' → w'.heap[g]? = some x → ObjM ι Z w' g o1) : Evo ι Z w ι Z w' ∧ Match (σ.set i o1) ι Z w' := by
 have hlt : g < w.heap.size := (Array.getElem?_eq_some_iff.1 hg).1
 have hg' : w'.heap[g]? = some x := by subst hw; simp [hlt]
 have hother : ∀ b, b ≠ g → w'.heap[b]? = w.heap[b]? := fun b hb => by subst hw; simp [Ne.symm hb]
 have hsize : w'.heap.size = w.heap.size := by subst hw; simp
 have e : Evo ι Z w ι Z w' := {
  pre := fun id b e => e
  img := fun id b e _ => ⟨id, e⟩
  zmono := fun _ _ e => e
  zsame := fun b j e => World.cell?_of_block (hother b fun q => hno j (q ▸ e))
  csz := fun b hb => by
   by_cases q : b = g
   · subst q
     unfold cellsz
     rw [hg', hg]
     cases x <;> cases x0 <;> simp_all
   · unfold cellsz; rw [hother b q]
  size := by rw [hsize]; exact Nat.le_refl _
  keep := fun b hb hn => hother b fun q => hn i (by rw [q]; exact hi)
  os := by subst hw; rfl
  tape := by subst hw; rfl
  output := by subst hw; rfl
  znew := fun _ _ h _ => .inl h }
 have hil := (List.getElem?_eq_some_iff.1 hσ).1
 have key : ∀ (j b : Nat) (o : AObj), ι[j]? = some b → (σ.set i o1)[j]? = some o → o.live → (j = i ∧ b = g ∧ o = o1) ∨ (j ≠ i ∧ b ≠ g ∧ σ[j]? = some o) := by
  intro j b o hj ho lo
  by_cases hji : j = i
  · subst hji
    rw [hi] at hj
    rw [List.getElem?_set_self hil] at ho
    exact .inl ⟨rfl, (Option.some.inj hj).symm, (Option.some.inj ho).symm⟩
  · rw [List.getElem?_set_ne (Ne.symm hji)] at ho
    refine .inr ⟨hji, fun e => hji ?_, ho⟩
    subst e
    exact h.inj j i b o _ hj hi ho hσ lo hl0
 refine ⟨e, h.go e (by simp [h.len]) (fun j o b ho hb lo => ?_) (fun a j b o p ha hj ho hp lo lp => ?_) fun b j hj => by rw [hsize]; exact h.zlt b j hj⟩
 · rcases key j b o hb ho lo with ⟨rfl, rfl, rfl⟩ | ⟨_, h2, h3⟩
   · exact .inl (hc e hg')
   · exact .inr ⟨h3, hother b h2, fun _ h => h⟩
 · rcases key a b o ha ho lo with ⟨a1, a2, a3⟩ | ⟨a1, a2, a3⟩ <;> rcases key j b p hj hp lp with ⟨b1, b2, b3⟩ | ⟨b1, b2, b3⟩
   · omega
   · omega
   · omega
   · exact h.inj a j b o p ha hj a3 b3 lo lp
theorem Match.newFrozen {σ : Sto} {ι : List Nat} {Z : Nat → Nat → Prop} {w : World} (h : Match σ ι Z w) (c : Array Value) (T : TypeId) :
    Evo ι Z w ι (fun b j => Z b j ∨ (b = w.heap.size ∧ j < c.size)) (w.alloc (.cells c T)) ∧ Match σ ι (fun b j => Z b j ∨ (b = w.heap.size ∧ j < c.size)) (w.alloc (.cells c T)) := by
 have e := Evo.alloc h (.cells c T) [] (fun b j => Z b j ∨ (b = w.heap.size ∧ j < c.size)) (by simp) (fun _ _ h => .inl h) (fun b j h hb => by rcases h with h | ⟨h, _⟩; (· exact h); omega)
 rw [List.append_nil] at e
 refine ⟨e, h.go e h.len (fun id o b ho hb hlive => .inr ⟨ho, ?_, fun j hj => ?_⟩) h.inj fun b j hj => ?_⟩
 · exact Below.heap_alloc _ _ _ ((h.obj id o b ho hb).lt hlive)
 · have := (h.obj id o b ho hb).lt hlive
   rcases hj with hj | ⟨hj, _⟩
   · exact hj
   · omega
 · rcases hj with hj | ⟨rfl, _⟩
   · have := h.zlt b j hj; simp; omega
   · simp
theorem Match.newTok {σ : Sto} {ι : List Nat} {Z : Nat → Nat → Prop} {w : World} (h : Match σ ι Z w) (c : Array Value) (T : TypeId) (m : Nat) (hm : m ≤ c.size) :
    Evo ι Z w (ι ++ [w.heap.size]) (fun b j => Z b j ∨ (b = w.heap.size ∧ j < m)) (w.alloc (.cells c T)) ∧ Match (σ ++ [.tok m T]) (ι ++ [w.heap.size]) (fun b j => Z b j ∨ (b = w.heap.size ∧ j < m)) (w.alloc (.cells c T)) := by
 have e := Evo.alloc h (.cells c T) [w.heap.size] (fun b j => Z b j ∨ (b = w.heap.size ∧ j < m)) (by simp) (fun _ _ h => .inl h) (fun b j h hb => by rcases h with h | ⟨h, _⟩; (· exact h); omega)
 have key : ∀ (i b : Nat) (o : AObj), (ι ++ [w.heap.size])[i]? = some b → (σ ++ [AObj.tok m T])[i]? = some o → o.live → (i < σ.length ∧ ι[i]? = some b ∧ σ[i]? = some o ∧ b < w.heap.size) ∨ (i = σ.length ∧ b = w.heap.size ∧ o = .tok m T) := by
  intro i b o hi ho lo
  rcases Nat.lt_or_ge i σ.length with hl' | hl'
  · rw [List.getElem?_append_left hl'] at ho
    rw [List.getElem?_append_left (by rw [h.len]; exact hl')] at hi
    exact .inl ⟨hl', hi, ho, (h.obj i o b ho hi).lt lo⟩
  · have hid : i = σ.length := by have := (List.getElem?_eq_some_iff.1 ho).1; simp at this; omega
    subst hid
    rw [List.getElem?_append_right (by rw [h.len]; omega)] at hi
    rw [List.getElem?_append_right (by omega)] at ho
    simp [h.len] at hi ho
    exact .inr ⟨rfl, hi.symm, ho.symm⟩
 refine ⟨e, h.go e (by simp [h.len]) (fun id o b ho hb hlive => ?_) (fun i j b o p hi hj ho hp lo lp => ?_) fun b j hj => ?_⟩
 · rcases key id b o hb ho hlive with ⟨_, a1, a2, a3⟩ | ⟨rfl, rfl, rfl⟩
   · refine .inr ⟨a2, Below.heap_alloc _ _ _ a3, fun j hj => ?_⟩
     rcases hj with hj | ⟨hj, _⟩
     · exact hj
     · omega
   · refine .inl ⟨c, heap_alloc_new w _, hm, fun j hj hj' => ?_⟩
     rcases hj' with hj' | ⟨_, hj'⟩
     · have := h.zlt _ j hj'; omega
     · omega
 · rcases key i b o hi ho lo with ⟨_, a1, a2, a3⟩ | ⟨a1, a2, _⟩ <;> rcases key j b p hj hp lp with ⟨_, b1, b2, b3⟩ | ⟨b1, b2, _⟩
   · exact h.inj i j b o p a1 b1 a2 b2 lo lp
   · omega
   · omega
   · omega
 · rcases hj with hj | ⟨rfl, _⟩
   · have := h.zlt b j hj; simp; omega
   · simp
theorem Match.kill {σ : Sto} {ι : List Nat} {Z : Nat → Nat → Prop} {w : World} (h : Match σ ι Z w) (i : Nat) : Match (σ.set i .dead) ι Z w := by
 have key : ∀ (j : Nat) (o : AObj), (σ.set i .dead)[j]? = some o → o.live → σ[j]? = some o := by
  intro j o ho lo
  by_cases hji : i = j
  · subst hji
    have hl := (List.getElem?_eq_some_iff.1 ho).1
    rw [List.getElem?_set_self (by simpa using hl)] at ho
    cases ho; exact lo.elim
  · rwa [List.getElem?_set_ne hji] at ho
 refine ⟨by simp [h.len], fun j o b ho hb => ?_, fun a j b o p ha hj ho hp lo lp => h.inj a j b o p ha hj (key a o ho lo) (key j p hp lp) lo lp, h.zlt, h.glob, h.ilt⟩
 cases o with
 | dead => trivial
 | _ => exact h.obj j _ b (key j _ ho trivial) hb
theorem cellsz_setRow {w : World} {g : Nat} {old cs : Array Value} {T : TypeId} {fr : Nat × Nat} (hg : w.heap[g]? = some (.cells old T fr)) (hs : cs.size = old.size) (b : Nat) : cellsz (w.setRow g cs) b = cellsz w b := by
 unfold cellsz
 by_cases h : b = g
 · subst h; rw [setRow_heap w b old cs T fr hg, hg]; exact hs
 · rw [setRow_other w g b cs h]
theorem Evo.setRow {ι : List Nat} {Z : Nat → Nat → Prop} {w : World} {g i : Nat} {old cs : Array Value} {T : TypeId} {fz : Nat × Nat} (hi : ι[i]? = some g) (hg : w.heap[g]? = some (.cells old T fz)) (hs : cs.size = old.size)
    (hz : ∀ j, Z g j → cs[j]? = old[j]?) (news : List Nat) (Z' : Nat → Nat → Prop) (hn : ∀ b, b ∈ news → b = g) (hz' : ∀ b j, Z b j → Z' b j) (hz2 : ∀ b j, Z' b j → Z b j ∨ b = g) : Evo ι Z w (ι ++ news) Z' (w.setRow g cs) where
 znew := fun b j h _ => by
  rcases hz2 b j h with h | h
  · exact .inl h
  · exact .inr ⟨i, by rw [h]; exact hi⟩
 inew := fun id b e => by
  rcases Nat.lt_or_ge id ι.length with hl | hl
  · rw [List.getElem?_append_left hl] at e; exact .inr ⟨id, e⟩
  · rw [List.getElem?_append_right hl] at e
    have := hn b (List.mem_of_getElem? e); subst this; exact .inr ⟨i, hi⟩
 pre := fun id b e => by rw [List.getElem?_append_left (List.getElem?_eq_some_iff.1 e).1]; exact e
 img := fun id b e hb => by
  rcases Nat.lt_or_ge id ι.length with hl | hl
  · rw [List.getElem?_append_left hl] at e; exact ⟨id, e⟩
  · rw [List.getElem?_append_right hl] at e
    have := hn b (List.mem_of_getElem? e); subst this; exact ⟨i, hi⟩
 zmono := hz'
 zsame := fun b j e => by
  by_cases h : b = g
  · subst h
    rw [cell_setRow_same w b j old cs T fz hg, hz j e]
    simp [World.cell?, hg]
  · exact World.cell?_of_block (setRow_other w g b cs h)
 csz := fun b hb => cellsz_setRow hg hs b
 size := by simp
 keep := fun b hb hn' => setRow_other w g b cs fun e => hn' i (by rw [e]; exact hi)
 os := rfl
 tape := rfl
 output := rfl
theorem Match.setCells {σ : Sto} {ι : List Nat} {Z : Nat → Nat → Prop} {w : World} (h : Match σ ι Z w) {i g : Nat} {cs0 cs : List AV} {T : TypeId} {old c : Array Value} (hσ : σ[i]? = some (.cells cs0 T)) (hi : ι[i]? = some g)
    (hg : w.heap[g]? = some (.cells old T (0, 0))) (hs : c.size = old.size) (hl : cs.length ≤ c.size) (hc : ∀ (j : Nat) (d : AV) (u : Value), cs[j]? = some d → c[j]? = some u → d.one = true ∧ VR ι Z w d u) :
    Evo ι Z w ι Z (w.setRow g c) ∧ Match (σ.set i (.cells cs T)) ι Z (w.setRow g c) := by
 have hno : ∀ j, ¬ Z g j := by obtain ⟨_, _, _, _, h4⟩ := h.obj i _ g hσ hi; exact h4
 have e := Evo.setRow (Z := Z) hi hg hs (fun j hj => (hno j hj).elim) [] Z (by simp) (fun _ _ h => h) (fun _ _ h => .inl h)
 rw [List.append_nil] at e
 have hil := (List.getElem?_eq_some_iff.1 hσ).1
 have key : ∀ (j b : Nat) (o : AObj), ι[j]? = some b → (σ.set i (.cells cs T))[j]? = some o → o.live → (j = i ∧ b = g ∧ o = .cells cs T) ∨ (j ≠ i ∧ b ≠ g ∧ σ[j]? = some o) := by
  intro j b o hj ho lo
  by_cases hji : j = i
  · subst hji
    rw [hi] at hj
    rw [List.getElem?_set_self hil] at ho
    exact .inl ⟨rfl, (Option.some.inj hj).symm, (Option.some.inj ho).symm⟩
  · rw [List.getElem?_set_ne (Ne.symm hji)] at ho
    refine .inr ⟨hji, fun e => hji ?_, ho⟩
    subst e
    exact h.inj j i b o _ hj hi ho hσ lo trivial
 refine ⟨e, h.go e (by simp [h.len]) (fun j o b ho hb lo => ?_) (fun a j b o p ha hj ho hp lo lp => ?_) fun b j hj => by have := h.zlt b j hj; simpa using this⟩
 · rcases key j b o hb ho lo with ⟨rfl, rfl, rfl⟩ | ⟨_, h2, h3⟩
   · exact .inl ⟨c, setRow_heap w b old c T (0, 0) hg, hl, fun j d u hd hu => ⟨(hc j d u hd hu).1, (hc j d u hd hu).2.evo e⟩, hno⟩
   · exact .inr ⟨h3, setRow_other w g b c h2, fun _ h => h⟩
 · rcases key a b o ha ho lo with ⟨a1, a2, a3⟩ | ⟨a1, a2, a3⟩ <;> rcases key j b p hj hp lp with ⟨b1, b2, b3⟩ | ⟨b1, b2, b3⟩
   · omega
   · omega
   · omega
   · exact h.inj a j b o p ha hj a3 b3 lo lp
theorem Match.grow {σ : Sto} {ι : List Nat} {Z : Nat → Nat → Prop} {w : World} (h : Match σ ι Z w) {i g m m' : Nat} {T : TypeId} {old c : Array Value} (hσ : σ[i]? = some (.tok m T)) (hi : ι[i]? = some g)
    (hg : w.heap[g]? = some (.cells old T (0, 0))) (hs : c.size = old.size) (hm' : m' ≤ c.size) (hmm : m ≤ m') (hc : ∀ j, j < m → c[j]? = old[j]?) :
    Evo ι Z w (ι ++ [g]) (fun b j => Z b j ∨ (b = g ∧ j < m' ∧ m ≤ j)) (w.setRow g c) ∧ Match (σ.set i .dead ++ [.tok m' T]) (ι ++ [g]) (fun b j => Z b j ∨ (b = g ∧ j < m' ∧ m ≤ j)) (w.setRow g c) := by
 have hno : ∀ j, m ≤ j → ¬ Z g j := by obtain ⟨_, _, _, h4⟩ := h.obj i _ g hσ hi; exact h4
 have e := Evo.setRow (Z := Z) hi hg hs (fun j hj => hc j (by rcases Nat.lt_or_ge j m with h | h; exact h; exact (hno j h hj).elim)) [g] (fun b j => Z b j ∨ (b = g ∧ j < m' ∧ m ≤ j)) (by simp) (fun _ _ h => .inl h) (fun b j h => by rcases h with h | ⟨h, _⟩; (· exact .inl h); exact .inr h)
 have hil := (List.getElem?_eq_some_iff.1 hσ).1
 have key : ∀ (j b : Nat) (o : AObj), (ι ++ [g])[j]? = some b → (σ.set i .dead ++ [.tok m' T])[j]? = some o → o.live → (j = σ.length ∧ b = g ∧ o = .tok m' T) ∨ (j < σ.length ∧ b ≠ g ∧ σ[j]? = some o ∧ ι[j]? = some b) := by
  intro j b o hj ho lo
  rcases Nat.lt_or_ge j σ.length with hl | hl
  · rw [List.getElem?_append_left (by rw [h.len]; exact hl)] at hj
    rw [List.getElem?_append_left (by simpa using hl)] at ho
    by_cases hji : j = i
    · subst hji
      rw [List.getElem?_set_self hil] at ho
      cases ho; exact lo.elim
    · rw [List.getElem?_set_ne (Ne.symm hji)] at ho
      refine .inr ⟨hl, fun e => hji ?_, ho, hj⟩
      subst e
      exact h.inj j i b o _ hj hi ho hσ lo trivial
  · have hid : j = σ.length := by have := (List.getElem?_eq_some_iff.1 ho).1; simp at this; omega
    subst hid
    rw [List.getElem?_append_right (by rw [h.len]; omega)] at hj
    rw [List.getElem?_append_right (by simp)] at ho
    simp [h.len] at hj ho
    exact .inl ⟨rfl, hj.symm, ho.symm⟩
 refine ⟨e, h.go e (by simp [h.len]) (fun j o b ho hb lo => ?_) (fun a j b o p ha hj ho hp lo lp => ?_) fun b j hj => ?_⟩
 · rcases key j b o hb ho lo with ⟨rfl, rfl, rfl⟩ | ⟨_, h2, h3, h4⟩
   · refine .inl ⟨c, setRow_heap w b old c T (0, 0) hg, hm', fun j hj hj' => ?_⟩
     rcases hj' with hj' | ⟨_, hj', _⟩
     · exact hno j (by omega) hj'
     · omega
   · refine .inr ⟨h3, setRow_other w g b c h2, fun j hj => ?_⟩
     rcases hj with hj | ⟨hj, _⟩
     · exact hj
     · exact (h2 hj).elim
 · rcases key a b o ha ho lo with ⟨a1, a2, a3⟩ | ⟨a1, a2, a3, a4⟩ <;> rcases key j b p hj hp lp with ⟨b1, b2, b3⟩ | ⟨b1, b2, b3, b4⟩
   · omega
   · omega
   · omega
   · exact h.inj a j b o p a4 b4 a3 b3 lo lp
 · rcases hj with hj | ⟨rfl, _⟩
   · have := h.zlt b j hj; simpa using this
   · simpa using (Array.getElem?_eq_some_iff.1 hg).1
end Go.Proofs.YtmmgjaheffbpaaaGreatDoor
