/-
  EV: lex: trees, as abstract data; the functions that are taken on their contract; the table.
-/
import Derived.Test.YtcjjmejmpdhikaaGreatDoorEvOpen
import Derived.Test.YtcjjmejmpdhikaaGreatDoorEvTy
import Derived.Test.YtcjjmejmpdhikaaGreatDoorLexLaw
import Derived.Test.YtcjjmejmpdhikaaGreatDoorLexText
namespace Go.Proofs.YtcjjmejmpdhikaaGreatDoor
set_option linter.unusedSimpArgs false
set_option linter.unusedVariables false
open Go.RowKit

mutual
def rowOf : Tr → List AV
  | .mk x k r a => [.lit (.string ⟨x.toArray⟩), .sl (rowsOf k) .no, .lit (.bool r), .lit (.int .i64 a)]
def rowsOf : List Tr → List (List AV)
  | [] => []
  | t :: l => rowOf t :: rowsOf l
end
theorem rowsOf_map (l : List Tr) : rowsOf l = l.map rowOf := by
  induction l with
  | nil => rfl
  | cons t l ih => simp [rowsOf, ih]
theorem rowsOf_length (l : List Tr) : (rowsOf l).length = l.length := by rw [rowsOf_map, List.length_map]
theorem rowsOf_get {l : List Tr} {i : Nat} {t : Tr} (h : l[i]? = some t) : (rowsOf l)[i]? = some [.lit (.string ⟨t.word.toArray⟩), .sl (rowsOf t.kids) .no, .lit (.bool t.row), .lit (.int .i64 t.at_)] := by
  rw [rowsOf_map, List.getElem?_map, h]; cases t; rfl

mutual
/-- no row is too long -/
def smallTr : Tr → Prop
  | .mk _ k _ _ => k.length ≤ 2000000 ∧ smallT k
def smallT : List Tr → Prop
  | [] => True
  | t :: l => smallTr t ∧ smallT l
end
theorem smallT_get : ∀ {l : List Tr} {i : Nat} {t : Tr}, smallT l → l[i]? = some t → t.kids.length ≤ 2000000 ∧ smallT t.kids
  | t :: l, 0, t', h, ht => by
    simp at ht; subst ht
    cases t with | mk x k r a => exact h.1
  | t :: l, i + 1, t', h, ht => smallT_get h.2 (by simpa using ht)
  | [], i, t, _, ht => by simp at ht
theorem size_kids {xs : List Tr} {i : Nat} {t : Tr} (h : xs[i]? = some t) : SizeOf.sizeOf t.kids < SizeOf.sizeOf xs := by
  have h1 := List.sizeOf_lt_of_mem (List.mem_of_getElem? h)
  have h2 : SizeOf.sizeOf t.kids < SizeOf.sizeOf t := by cases t; simp [Tr.kids]; omega
  omega
theorem rowsOf_append (l m : List Tr) : rowsOf (l ++ m) = rowsOf l ++ rowsOf m := by simp [rowsOf_map]
theorem rowsOf_head (l : List Tr) : (rowsOf l).head?.all (·.length == 4) = true := by
  cases l with
  | nil => rfl
  | cons t l => cases t; rfl

mutual
theorem rowOf_inj : ∀ a b : Tr, rowOf a = rowOf b → a = b
  | .mk x k r c, .mk y l s d, h => by
    simp only [rowOf, List.cons.injEq, AV.lit.injEq, AV.sl.injEq, Value.string.injEq, Value.bool.injEq, Value.int.injEq, and_true, true_and] at h
    obtain ⟨h1, h2, h3, h4⟩ := h
    have h1' : x = y := by
      have := congrArg (fun b : ByteArray => b.data.toList) h1
      simpa using this
    have := rowsOf_inj k l h2
    subst h1'; subst this; subst h3; subst h4
    rfl
theorem rowsOf_inj : ∀ a b : List Tr, rowsOf a = rowsOf b → a = b
  | [], [], _ => rfl
  | a :: l, b :: m, h => by
    simp only [rowsOf, List.cons.injEq] at h
    rw [rowOf_inj a b h.1, rowsOf_inj l m h.2]
  | [], b :: m, h => by simp [rowsOf] at h
  | a :: l, [], h => by simp [rowsOf] at h
end

def primParse (args : List AV) (σ : Sto) : Option (ARes × Sto) :=
  match args with
  | [.lit (.string s)] => if s.size ≤ maxLen then some (.ret (.tup [.sl (rowsOf (parseT s.data.toList).1) .no, .lit (.int .i64 (parseT s.data.toList).2.1), .lit (.int .i64 (parseT s.data.toList).2.2)]), σ) else none
  | _ => none

section
variable {ι : List Nat} {Z : Nat → Nat → Prop} {w : World}

/-- trees that abstract data tell are there as the walks by hand want them -/
theorem VR.trees (n : Nat) : ∀ (xs : List Tr) (tok : Tok) (v : Value), SizeOf.sizeOf xs < n → VR ι Z w (.sl (rowsOf xs) tok) v → Rep w (fun b => b < w.heap.size) v (.sl (encTrs xs)) := by
  induction n with
  | zero => intro xs tok v h; omega
  | succ n ih =>
    intro xs tok v hn h
    generalize hes : rowsOf xs = es at h
    cases h with
    | nils a c _ h1 h2 =>
      cases xs with
      | nil => exact .empty a c h1
      | cons t l => simp [rowsOf] at hes
    | frs t k c b h1 h2 h3 =>
      cases xs with
      | nil => exact .empty _ c (fun h => by cases h)
      | cons t l => simp [rowsOf] at hes
    | sl b o m c k _ _ U h1 h2 h3 h4 h5 h6 h7 h8 =>
      subst hes
      rw [rowsOf_length] at h1
      have hk : k = 4 := by
        have hx := List.getElem?_eq_getElem (l := xs) (i := 0) (by omega)
        exact (h5 0 _ (rowsOf_get hx)).symm
      subst hk
      have cell : ∀ (i j : Nat), i < m → j < 4 → ∃ d, (rowsOf xs)[i]?.bind (fun r => r[j]?) = some d ∧ w.cell? ⟨b, o + i * 4 + j, none⟩ = some (U i j) := by
        intro i j hi hj
        have hx := List.getElem?_eq_getElem (l := xs) (i := i) (by omega)
        have hg := rowsOf_get hx
        have hl : j < ([.lit (.string ⟨xs[i].word.toArray⟩), .sl (rowsOf xs[i].kids) .no, .lit (.bool xs[i].row), .lit (.int .i64 xs[i].at_)] : List AV).length := by simpa using hj
        have hd := List.getElem?_eq_getElem hl
        exact ⟨_, by rw [hg]; exact hd, (h6 i j _ _ hg hd).2.2⟩
      have hb : b < w.heap.size := by
        obtain ⟨_, _, h⟩ := cell 0 0 h2 (by omega)
        have := World.block_lt_of_cell? w _ h
        exact this
      refine .sl b o m c 4 (encTrs xs) U (by rw [encTrs_length]; exact h1) h2 h3 h4 hb hb (fun i e he => ?_) (fun i j hi hj => ?_) (fun i j e d he hd => ?_)
      · rw [encTrs_map, List.getElem?_map, Option.map_eq_some_iff] at he
        obtain ⟨t, _, rfl⟩ := he
        exact encTr_length t
      · obtain ⟨_, _, h⟩ := cell i j hi hj
        exact h
      · rw [encTrs_map, List.getElem?_map, Option.map_eq_some_iff] at he
        obtain ⟨t, ht, rfl⟩ := he
        have hg := rowsOf_get ht
        have hsz := size_kids ht
        obtain ⟨x, kx, r, a⟩ := t
        simp only [Tr.word, Tr.kids, Tr.row, Tr.at_] at hg hsz
        rcases j with _ | _ | _ | _ | j
        · simp [encTr] at hd; subst hd
          have := h8 i 0 _ (.lit (.string ⟨x.toArray⟩)) hg rfl
          generalize U i 0 = u at this ⊢
          cases this
          exact .leaf _
        · simp [encTr] at hd; subst hd
          exact ih kx .no _ (by omega) (h8 i 1 _ (.sl (rowsOf kx) .no) hg rfl)
        · simp [encTr] at hd; subst hd
          have := h8 i 2 _ (.lit (.bool r)) hg rfl
          generalize U i 2 = u at this ⊢
          cases this
          exact .leaf _
        · simp [encTr] at hd; subst hd
          have := h8 i 3 _ (.lit (.int .i64 a)) hg rfl
          generalize U i 3 = u at this ⊢
          cases this
          exact .leaf _
        · simp [encTr] at hd

/-- trees in blocks that nobody will write, as abstract data -/
theorem VR.ofRep {N : Nat} (n : Nat) : ∀ (xs : List Tr) (v : Value), SizeOf.sizeOf xs < n → Rep w (fun k => N ≤ k) v (.sl (encTrs xs)) → (∀ b j, N ≤ b → b < w.heap.size → Z b j) → VR ι Z w (.sl (rowsOf xs) .no) v := by
  induction n with
  | zero => intro xs v h; omega
  | succ n ih =>
    intro xs v hn h hz
    generalize hes : encTrs xs = es at h
    cases h with
    | empty a c h1 =>
      cases xs with
      | nil => exact .nils a c .no h1 (.inl rfl)
      | cons t l => simp [encTrs] at hes
    | sl b o m c k _ U h1 h2 h3 h4 hN hlt h5 h6 h7 =>
      subst hes
      rw [encTrs_length] at h1
      have hk : k = 4 := by
        have hx := List.getElem?_eq_getElem (l := xs) (i := 0) (by omega)
        have := h5 0 (encTr xs[0]) (by rw [encTrs_map, List.getElem?_map, hx]; rfl)
        rw [encTr_length] at this; exact this.symm
      subst hk
      have row : ∀ (i : Nat) (e : List AV), (rowsOf xs)[i]? = some e → ∃ t, xs[i]? = some t ∧ e = rowOf t ∧ (encTrs xs)[i]? = some (encTr t) := by
        intro i e he
        rw [rowsOf_map, List.getElem?_map, Option.map_eq_some_iff] at he
        obtain ⟨t, ht, rfl⟩ := he
        exact ⟨t, ht, rfl, by rw [encTrs_map, List.getElem?_map, ht]; rfl⟩
      refine .sl b o m c 4 _ .no U (by rw [rowsOf_length]; exact h1) h2 h3 h4 (fun i e he => ?_) (fun i j e d he hd => ?_) trivial fun i j e d he hd => ?_
      · obtain ⟨t, _, rfl, _⟩ := row i e he
        cases t; rfl
      · obtain ⟨t, ht, rfl, _⟩ := row i e he
        have hi : i < m := by have := (List.getElem?_eq_some_iff.1 ht).1; omega
        obtain ⟨x, kx, r, a⟩ := t
        rcases j with _ | _ | _ | _ | j
        · simp [rowOf] at hd; subst hd; exact ⟨rfl, hz b _ hN hlt, h6 i 0 hi (by omega)⟩
        · simp [rowOf] at hd; subst hd; exact ⟨rfl, hz b _ hN hlt, h6 i 1 hi (by omega)⟩
        · simp [rowOf] at hd; subst hd; exact ⟨rfl, hz b _ hN hlt, h6 i 2 hi (by omega)⟩
        · simp [rowOf] at hd; subst hd; exact ⟨rfl, hz b _ hN hlt, h6 i 3 hi (by omega)⟩
        · simp [rowOf] at hd
      · obtain ⟨t, ht, rfl, hg⟩ := row i e he
        have hsz := size_kids ht
        obtain ⟨x, kx, r, a⟩ := t
        simp only [Tr.kids] at hsz
        rcases j with _ | _ | _ | _ | j
        · simp [rowOf] at hd; subst hd
          have := (h7 i 0 _ (.leaf (.string ⟨x.toArray⟩)) hg rfl).leaf_eq
          rw [this]; exact .lit _ rfl
        · simp [rowOf] at hd; subst hd
          exact ih kx _ (by omega) (h7 i 1 _ (.sl (encTrs kx)) hg rfl) hz
        · simp [rowOf] at hd; subst hd
          have := (h7 i 2 _ (.leaf (.bool r)) hg rfl).leaf_eq
          rw [this]; exact .lit _ rfl
        · simp [rowOf] at hd; subst hd
          have := (h7 i 3 _ (.leaf (.int .i64 a)) hg rfl).leaf_eq
          rw [this]; exact .lit _ rfl
        · simp [rowOf] at hd

/-- new blocks, which nobody will write -/
theorem Evo.fresh {σ : Sto} (h : Match σ ι Z w) {w' : World} (hb : Below w.heap.size w w') : Evo ι Z w ι (fun b j => Z b j ∨ (w.heap.size ≤ b ∧ b < w'.heap.size)) w' ∧ Match σ ι (fun b j => Z b j ∨ (w.heap.size ≤ b ∧ b < w'.heap.size)) w' := by
  have e : Evo ι Z w ι (fun b j => Z b j ∨ (w.heap.size ≤ b ∧ b < w'.heap.size)) w' :=
    { pre := fun _ _ h => h, img := fun id _ h _ => ⟨id, h⟩, zmono := fun _ _ h => .inl h, zsame := fun b j e => World.cell?_of_block (hb.block b (h.zlt b j e)), csz := fun b hl => by unfold cellsz; rw [hb.block b hl],
      size := hb.size, keep := fun b hl _ => hb.block b hl, os := hb.os, tape := hb.tape, output := hb.output }
  refine ⟨e, h.go e h.len (fun id o b ho hb' hl => .inr ⟨ho, hb.block b ((h.obj id o b ho hb').lt hl), fun j hj => ?_⟩) h.inj fun b j hj => ?_⟩
  · rcases hj with hj | hj
    · exact hj
    · have := (h.obj id o b ho hb').lt hl; omega
  · rcases hj with hj | hj
    · exact Nat.lt_of_lt_of_le (h.zlt b j hj) hb.size
    · exact hj.2

/-- a call that touches nothing that was -/
theorem Evo.ofBelow {σ : Sto} (h : Match σ ι Z w) {w' : World} (hb : Below w.heap.size w w') : Evo ι Z w ι Z w' where
  pre := fun _ _ h => h
  img := fun id _ h _ => ⟨id, h⟩
  zmono := fun _ _ h => h
  zsame := fun b j e => World.cell?_of_block (hb.block b (h.zlt b j e))
  csz := fun b hl => by unfold cellsz; rw [hb.block b hl]
  size := hb.size
  keep := fun b hl _ => hb.block b hl
  os := hb.os
  tape := hb.tape
  output := hb.output

theorem Match.below {σ : Sto} (h : Match σ ι Z w) {w' : World} (hb : Below w.heap.size w w') : Match σ ι Z w' := by
  refine h.go (Evo.ofBelow h hb) h.len (fun id o b ho hb' hl => .inr ⟨ho, hb.block b ((h.obj id o b ho hb').lt hl), fun _ hj => hj⟩) h.inj fun b j hj => Nat.lt_of_lt_of_le (h.zlt b j hj) hb.size
end

theorem primParse_sound : CallSound Tryz.prog fun f' args σ => if f' = 28 then primParse args σ else none := by
  intro f' args σ r σ' hr ι Z w us hM hl hargs
  dsimp only at hr
  split at hr
  · rename_i e
    subst e
    unfold primParse at hr
    split at hr
    · rename_i s
      split at hr
      · rename_i hx
        cases hr
        obtain ⟨v, rfl⟩ : ∃ v, us = #[v] := ⟨us[0]'(by simp at hl; omega), by
          apply Array.ext
          · simp at hl; simp; omega
          · intro i h1 h2; simp at h2; subst h2; rfl⟩
        have hv := hargs 0 _ v rfl rfl
        cases hv
        refine ⟨Tryz.call28 _ _, (parse_any s w hx).mono ?_⟩
        rintro e w' ⟨v, rfl, hrep, hb⟩
        obtain ⟨e1, m1⟩ := Evo.fresh hM hb
        refine ⟨ι, _, e1, m1, _, rfl, .tup _ _ rfl fun i d u hd hu => ?_⟩
        rcases i with _ | _ | _ | i
        · simp at hd hu; subst hd; subst hu
          exact VR.ofRep _ _ _ (Nat.lt_succ_self _) hrep fun b j h1 h2 => .inr ⟨h1, h2⟩
        · simp at hd hu; subst hd; subst hu; exact .lit _ rfl
        · simp at hd hu; subst hd; subst hu; exact .lit _ rfl
        · simp at hd
      · cases hr
    · cases hr
  · cases hr

end Go.Proofs.YtcjjmejmpdhikaaGreatDoor
