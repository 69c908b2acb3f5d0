/-
  EV: AN ARGUMENT AS THE STATEMENT READS IT, as abstract data.
-/
import Derived.Test.YtcjjmejmpdhikaaGreatDoorEvSym
import Derived.Lib.LaidTab
import GoSem.ClaimChange
namespace Go.Proofs.YtcjjmejmpdhikaaGreatDoor
set_option linter.unusedSimpArgs false
set_option linter.unusedVariables false
open Go.RowKit

/-- all cells that are there -/
def Zall (w : World) (b j : Nat) : Prop := (w.cell? ⟨b, j, none⟩).isSome = true

theorem Match.start (w : World) (hG : ∀ (g : Nat) (l : List Value), globRow g = some l → VR [] (Zall w) w (.eptr (l.map .lit) 0) (.pointer (some ⟨g, 0, none⟩)) ∧ g < w.heap.size ∧ cellsz w g = l.length := by intro g l h; cases h) : Match [] [] (Zall w) w :=
  ⟨rfl, fun id o b h => by simp at h, fun i j b o p h => by simp at h, fun b j h => by
    unfold Zall at h
    rw [Option.isSome_iff_exists] at h
    obtain ⟨u, hu⟩ := h
    have := World.block_lt_of_cell? w _ hu
    exact this, hG⟩

section
variable {H : Type} (P : Program)

def tiles : List Field → Nat → Option Nat
  | [], n => some n
  | f :: fs, n => if f.offset = n then tiles fs (n + P.cellsOf f.type) else none

def avFields (g : TypeId → DataW H → Option (List AV)) : List Field → List (DataW H) → Option (List AV)
  | [], [] => some []
  | f :: fs, d :: ds => match g f.type d, avFields g fs ds with | some a, some b => some (a ++ b) | _, _ => none
  | _, _ => none

/-- the cells of a datum -/
def avOf : Nat → TypeId → DataW H → Option (List AV)
  | 0, _, _ => none
  | n + 1, t, d =>
    match P.underlying t, d with
    | some .bool, .lit (.bool b) => some [.lit (.bool b)]
    | some (.int k), .lit (.int _ m) => some [.lit (.int k m)]
    | some .string, .lit (.string l) => some [.lit (.string ⟨l.toArray⟩)]
    | some (.slice _), .nil => some [.sl [] .no]
    | some (.slice e), .slice elems _ => (omap (avOf n e) elems).map fun rows => [.sl rows .no]
    | some (.struct fs), .agg parts => avFields (avOf n) fs.toList parts
    | _, _ => none

def okKind (S : List TypeId) (t : TypeId) : Bool :=
  match P.underlying t with
  | some .bool | some (.int _) | some .string => decide (P.cellsOf t = 1)
  | some (.slice e) => S.contains e && decide (0 < P.cellsOf e) && decide (P.cellsOf t = 1)
  | some (.struct fs) => fs.toList.all (fun f => S.contains f.type) && decide (tiles P fs.toList 0 = some (P.cellsOf t))
  | _ => false
end

theorem omap_some {α β : Type} {f : α → Option β} : ∀ {l : List α}, (∀ (i : Nat) (a : α), l[i]? = some a → ∃ b, f a = some b) → ∃ m, omap f l = some m
  | [], _ => ⟨[], rfl⟩
  | a :: l, h => by
    obtain ⟨b, hb⟩ := h 0 a rfl
    obtain ⟨m, hm⟩ := omap_some (l := l) fun i x hx => h (i + 1) x (by simpa using hx)
    exact ⟨b :: m, by rw [omap, hb, hm]⟩

theorem omap_at {α β : Type} {f : α → Option β} {l : List α} {m : List β} (h : omap f l = some m) (i : Nat) (a : α) (ha : l[i]? = some a) : ∃ b, m[i]? = some b ∧ f a = some b := by
  have hl : i < m.length := by rw [omap_len h]; exact (List.getElem?_eq_some_iff.1 ha).1
  obtain ⟨a', h1, h2⟩ := omap_get h i _ (List.getElem?_eq_getElem hl)
  rw [ha] at h1
  cases h1
  exact ⟨_, List.getElem?_eq_getElem hl, h2⟩

theorem avFields_cons {H : Type} {g : TypeId → DataW H → Option (List AV)} {f : Field} {fs : List Field} {parts : List (DataW H)} {acs : List AV} (h : avFields g (f :: fs) parts = some acs) : ∃ d ds a b, parts = d :: ds ∧ g f.type d = some a ∧ avFields g fs ds = some b ∧ acs = a ++ b := by
  cases parts with
  | nil => simp [avFields] at h
  | cons d ds =>
    rw [avFields] at h
    split at h
    · rename_i a b h1 h2
      cases h
      exact ⟨d, ds, a, b, rfl, h1, h2, rfl⟩
    · cases h
theorem avFields_nil {H : Type} {g : TypeId → DataW H → Option (List AV)} {parts : List (DataW H)} {acs : List AV} (h : avFields g [] parts = some acs) : parts = [] ∧ acs = [] := by
  cases parts with
  | nil => simp [avFields] at h; exact ⟨rfl, h⟩
  | cons d ds => simp [avFields] at h

theorem spot_none {w : World} {a : Addr} {u : Value} (h : w.cell? a = some u) : a = ⟨a.block, a.off, none⟩ := by
  obtain ⟨b, o, s⟩ := a
  cases s with
  | none => rfl
  | some s =>
    simp [World.cell?] at h
    split at h <;> simp at h
theorem add_none (b o n : Nat) : (⟨b, o, none⟩ : Addr).add n = ⟨b, o + n, none⟩ := by
  unfold Addr.add
  split
  · rename_i h; subst h; rfl
  · rfl

theorem cells_at {w : World} {base n : Nat} {a : Addr} {cs : List Value} (h : w.cells? base a n = some cs) : cs.length = n ∧ ∀ (j : Nat) (u : Value), cs[j]? = some u → w.cell? (a.add j) = some u := by
  unfold World.cells? at h
  split at h
  · rw [← omap_mapM] at h
    refine ⟨by rw [omap_len h]; simp, fun j u hu => ?_⟩
    obtain ⟨i, h1, h2⟩ := omap_get h j u hu
    have hj : j < n := by have := (List.getElem?_eq_some_iff.1 hu).1; rw [omap_len h] at this; simpa using this
    rw [List.getElem?_range hj] at h1
    cases h1
    exact h2
  · cases h

section
variable {H : Type} {enc : TypeId × Value → H} {P : Program} {w : World} {ι : List Nat}

theorem struct_open {n : Nat} {cs : List Value} (S : List TypeId)
    (ih : ∀ (t : TypeId) (c : List Value) (d : DataW H) (ps : List MemPlace), t ∈ S → DataW.trod enc P w 0 (fun _ => true) true n t c = some (d, ps) → ∃ acs, avOf P n t d = some acs ∧ CR ι (Zall w) w acs c ∧ acs.length = P.cellsOf t) :
    ∀ (fs : List Field) (o m : Nat) (xs : List (DataW H × List MemPlace)), tiles P fs o = some m → fs.all (fun f => S.contains f.type) = true → m ≤ cs.length → omap (fun f : Field => DataW.trod enc P w 0 (fun _ => true) true n f.type ((cs.drop f.offset).take (P.cellsOf f.type))) fs = some xs →
      ∃ acs, avFields (avOf P n) fs (xs.map (·.1)) = some acs ∧ CR ι (Zall w) w acs ((cs.drop o).take (m - o)) ∧ o + acs.length = m
  | [], o, m, xs, ht, hS, hm, hx => by
    simp [omap] at hx; subst hx
    simp [tiles] at ht; subst ht
    exact ⟨[], rfl, by simpa using CR.nil, by simp⟩
  | f :: fs, o, m, xs, ht, hS, hm, hx => by
    rw [tiles] at ht
    split at ht
    · rename_i hof
      subst hof
      rw [List.all_cons, Bool.and_eq_true] at hS
      rw [omap] at hx
      split at hx
      · rename_i b bs h1 h2
        cases hx
        obtain ⟨d, ps⟩ := b
        obtain ⟨a1, g1, g2, g3⟩ := ih f.type _ d ps (by simpa using hS.1) h1
        obtain ⟨a2, g4, g5, g6⟩ := struct_open S ih fs (f.offset + P.cellsOf f.type) m bs ht hS.2 hm h2
        refine ⟨a1 ++ a2, ?_, ?_, by simp; omega⟩
        · simp only [List.map_cons, avFields, g1, g4]
        · have := g2.append g5
          have e : m - f.offset = P.cellsOf f.type + (m - (f.offset + P.cellsOf f.type)) := by omega
          rw [e, List.take_add, List.drop_drop]
          exact this
      · cases hx
    · cases ht


theorem open_any (S : List TypeId) (hS : S.all (okKind P S) = true) : ∀ (n : Nat) (t : TypeId) (c : List Value) (d : DataW H) (ps : List MemPlace), t ∈ S → DataW.trod enc P w 0 (fun _ => true) true n t c = some (d, ps) →
    ∃ acs, avOf P n t d = some acs ∧ CR ι (Zall w) w acs c ∧ acs.length = P.cellsOf t
  | 0, t, c, d, ps, ht, h => by simp [DataW.trod] at h
  | n + 1, t, c, d, ps, ht, h => by
    have hk := List.all_eq_true.1 hS t ht
    rw [DataW.trod_step] at h
    unfold DataW.trodStep at h
    unfold okKind at hk
    split at h
    · rename_i bb hu
      simp [hu] at hk
      cases h
      exact ⟨[.lit (.bool bb)], by simp [avOf, hu], ⟨rfl, fun j d u hd hu' => by
        cases j with
        | zero => simp at hd hu'; subst hd; subst hu'; exact ⟨rfl, .lit _ rfl⟩
        | succ j => simp at hd⟩, by simp [hk]⟩
    · rename_i k k' m hu
      simp [hu] at hk
      split at h
      · rename_i hc
        obtain ⟨rfl, _⟩ := hc
        cases h
        exact ⟨[.lit (.int k' m)], by simp [avOf, hu], ⟨rfl, fun j d u hd hu' => by
          cases j with
          | zero => simp at hd hu'; subst hd; subst hu'; exact ⟨rfl, .lit _ rfl⟩
          | succ j => simp at hd⟩, by simp [hk]⟩
      · cases h
    · rename_i hu; simp [hu] at hk
    · rename_i s hu
      simp [hu] at hk
      split at h
      · cases h
        exact ⟨[.lit (.string s)], by simp [avOf, hu], ⟨rfl, fun j d u hd hu' => by
          cases j with
          | zero => simp at hd hu'; subst hd; subst hu'; exact ⟨rfl, .lit _ rfl⟩
          | succ j => simp at hd⟩, by simp [hk]⟩
      · cases h
    · rename_i hu; simp [hu] at hk
    · rename_i hu; simp [hu] at hk
    · rename_i e hu
      simp [hu] at hk
      cases h
      exact ⟨[.sl [] .no], by simp [avOf, hu], ⟨rfl, fun j d u hd hu' => by
        cases j with
        | zero => simp at hd hu'; subst hd; subst hu'; exact ⟨rfl, .nils _ _ _ (fun _ => rfl) (.inl rfl)⟩
        | succ j => simp at hd⟩, by simp [hk]⟩
    · rename_i e a len cap hu
      simp [hu] at hk
      obtain ⟨⟨hk1, hk2⟩, hk3⟩ := hk
      dsimp only at h
      split at h
      · rename_i hc
        obtain ⟨_, hc1, hc2⟩ := hc
        rw [Option.bind_eq_some_iff] at h
        obtain ⟨elems, h1, h2⟩ := h
        rw [Option.map_eq_some_iff] at h2
        obtain ⟨rest, h2, h3⟩ := h2
        cases h3
        have hlen : elems.length = len := by rw [← omap_mapM] at h1; rw [omap_len h1]; simp
        have key : ∀ (i : Nat) (x : DataW H × List MemPlace), elems[i]? = some x → ∃ row c', avOf P n e x.1 = some row ∧ row.length = P.cellsOf e ∧ CR ι (Zall w) w row c' ∧ c'.length = P.cellsOf e ∧ ∀ (j : Nat) (u : Value), c'[j]? = some u → w.cell? ((a.add (i * P.cellsOf e)).add j) = some u := by
          intro i x hx
          rw [← omap_mapM] at h1
          obtain ⟨i', e1, e2⟩ := omap_get h1 i x hx
          have hi : i < len := by rw [← hlen]; exact (List.getElem?_eq_some_iff.1 hx).1
          rw [List.getElem?_range hi] at e1
          cases e1
          rw [Option.bind_eq_some_iff] at e2
          obtain ⟨c', f1, f2⟩ := e2
          obtain ⟨l1, l2⟩ := cells_at f1
          obtain ⟨row, r1, r2, r3⟩ := open_any S hS n e c' x.1 x.2 (by simpa using hk1) f2
          exact ⟨row, c', r1, r3, r2, l1, l2⟩
        obtain ⟨rows, hrows⟩ := omap_some (f := avOf P n e) (l := elems.map (·.1)) fun i x hx => by
          rw [List.getElem?_map, Option.map_eq_some_iff] at hx
          obtain ⟨y, hy, rfl⟩ := hx
          obtain ⟨row, _, r1, _⟩ := key i y hy
          exact ⟨row, r1⟩
        have hrl : rows.length = len := by rw [omap_len hrows]; simp [hlen]
        have key2 : ∀ (i : Nat) (row : List AV), rows[i]? = some row → ∃ c', row.length = P.cellsOf e ∧ CR ι (Zall w) w row c' ∧ c'.length = P.cellsOf e ∧ ∀ (j : Nat) (u : Value), c'[j]? = some u → w.cell? ((a.add (i * P.cellsOf e)).add j) = some u := by
          intro i row hr
          obtain ⟨x, e1, e2⟩ := omap_get hrows i row hr
          rw [List.getElem?_map, Option.map_eq_some_iff] at e1
          obtain ⟨y, hy, rfl⟩ := e1
          obtain ⟨row', c', r1, r2, r3, r4, r5⟩ := key i y hy
          rw [e2] at r1
          cases r1
          exact ⟨c', r2, r3, r4, r5⟩
        refine ⟨[.sl rows .no], by simp [avOf, hu, hrows], ⟨rfl, fun j d u hd hu' => ?_⟩, by simp [hk3]⟩
        cases j with
        | succ j => simp at hd
        | zero =>
          simp at hd hu'
          subst hd; subst hu'
          refine ⟨rfl, ?_⟩
          rcases Nat.eq_zero_or_pos len with h0 | h0
          · subst h0
            have : rows = [] := List.eq_nil_of_length_eq_zero hrl
            subst this
            exact .nils _ _ _ (fun h => by cases h) (.inl rfl)
          · have hspot : a = ⟨a.block, a.off, none⟩ := by
              obtain ⟨c', _, _, r4, r5⟩ := key2 0 _ (List.getElem?_eq_getElem (by omega))
              have := r5 0 _ (List.getElem?_eq_getElem (by omega))
              have e0 : (a.add (0 * P.cellsOf e)).add 0 = a := by simp [Addr.add]
              rw [e0] at this
              exact spot_none this
            generalize a.block = b, a.off = o at hspot
            subst hspot
            refine VR.sl b o len cap (P.cellsOf e) rows .no (fun i j => (w.cell? ⟨b, o + i * P.cellsOf e + j, none⟩).getD .nilFunc) hrl h0 hc1 hc2 (fun i row hr => ?_) (fun i j row d hr hd => ?_) trivial (fun i j row d hr hd => ?_)
            · obtain ⟨_, r2, _⟩ := key2 i row hr
              exact r2
            · obtain ⟨c', r2, r3, r4, r5⟩ := key2 i row hr
              obtain ⟨u, u1, u2, u3⟩ := r3.at hd
              have h := r5 j u u1
              rw [add_none, add_none] at h
              exact ⟨u2, by unfold Zall; rw [h]; rfl, by rw [h]; rfl⟩
            · obtain ⟨c', r2, r3, r4, r5⟩ := key2 i row hr
              obtain ⟨u, u1, u2, u3⟩ := r3.at hd
              have h := r5 j u u1
              rw [add_none, add_none] at h
              rw [h]
              exact u3
      · cases h
    · rename_i fs hu
      rw [hu] at hk
      dsimp only at hk
      rw [Bool.and_eq_true] at hk
      split at h
      · rename_i hc
        rw [Option.map_eq_some_iff] at h
        obtain ⟨xs, h1, h2⟩ := h
        cases h2
        rw [← omap_mapM] at h1
        obtain ⟨acs, g1, g2, g3⟩ := struct_open S (fun t c d ps ht h => open_any S hS n t c d ps ht h) fs.toList 0 (P.cellsOf t) xs (of_decide_eq_true hk.2) hk.1 (by omega) h1
        refine ⟨acs, by simp only [avOf, hu, g1], ?_, by omega⟩
        rw [List.drop_zero, Nat.sub_zero, ← hc, List.take_length] at g2
        exact g2
      · cases h
    all_goals first | (rename_i hu; simp [hu] at hk; done) | (rename_i hu _; simp [hu] at hk; done) | (cases h; done) | skip

end
end Go.Proofs.YtcjjmejmpdhikaaGreatDoor
