/-
 EV: AN ARGUMENT AS THE STATEMENT READS IT, as abstract data.
-/
import Derived.Test.YtncoidmbmihliaaGreatDoorEvSymM
import Derived.Lib.LaidTab
import GoSem.ClaimChange
import Derived.Test.YtncoidmbmihliaaGreatDoorEvTyM
import Derived.Lib.Strings
import Derived.Lib.Builder
import Derived.Lib.AppendStr
import Derived.Lib.UnsafeStr
import Derived.WalkKit
import Derived.WalkSpells
import Derived.WalkLawsBesides
import Derived.Lib.Hide
namespace Go.Proofs.YtncoidmbmihliaaGreatDoor
set_option maxRecDepth 100000
set_option maxHeartbeats 8000000
set_option linter.unusedSimpArgs false
set_option linter.unusedVariables false
section
open Go.RowKit
def Zall (w : World) (b j : Nat) : Prop := (w.cell? ⟨b, j, none⟩).isSome = true
theorem Match.start (w : World) (hG : ∀ (g : Nat) (l : List Value), globRow g = some l → VR [] (Zall w) w (.eptr (l.map .lit) 0) (.pointer (some ⟨g, 0, none⟩)) ∧ g < w.heap.size ∧ cellsz w g = l.length := by intro g l h; cases h) : Match [] [] (Zall w) w :=
 ⟨rfl, fun id o b h => by simp at h, fun i j b o p h => by simp at h, fun b j h => by
  unfold Zall at h
  rw [Option.isSome_iff_exists] at h
  obtain ⟨u, hu⟩ := h
  have := World.block_lt_of_cell? w _ hu
  exact this, hG, fun id b h => by simp at h⟩
section
variable {H : Type} (P : Program)
def tiles : List Field → Nat → Option Nat
 | [], n => some n
 | f :: fs, n => if f.offset = n then tiles fs (n + P.cellsOf f.type) else none
def avFields (g : TypeId → DataW H → Option (List AV)) : List Field → List (DataW H) → Option (List AV)
 | [], [] => some []
 | f :: fs, d :: ds => match g f.type d, avFields g fs ds with | some a, some b => some (a ++ b) | _, _ => none
 | _, _ => none
def avOf : Nat → TypeId → DataW H → Option (List AV)
 | 0, _, _ => none
 | n + 1, t, d =>
  match P.underlying t, d with
  | some .bool, .lit (.bool b) => some [.lit (.bool b)]
  | some (.int k), .lit (.int _ m) => some [.lit (.int k m)]
  | some .string, .lit (.string l) => some [.lit (.string ⟨l.toArray⟩)]
  | some (.slice _), .nil => some [.sl [] .no]
  | some (.slice e), .slice elems _ => (omap (avOf n e) elems).map fun rows => [.sl rows .no]
  | some (.struct fs), .agg parts => avFields (avOf n) fs.toList parts
  | _, _ => none
def okKind (S : List TypeId) (t : TypeId) : Bool :=
 match P.underlying t with
 | some .bool | some (.int _) | some .string => decide (P.cellsOf t = 1)
 | some (.slice e) => S.contains e && decide (0 < P.cellsOf e) && decide (P.cellsOf t = 1)
 | some (.struct fs) => fs.toList.all (fun f => S.contains f.type) && decide (tiles P fs.toList 0 = some (P.cellsOf t))
 | _ => false
end
theorem omap_some {α β : Type} {f : α → Option β} : ∀ {l : List α}, (∀ (i : Nat) (a : α), l[i]? = some a → ∃ b, f a = some b) → ∃ m, omap f l = some m
 | [], _ => ⟨[], rfl⟩
 | a :: l, h => by
  obtain ⟨b, hb⟩ := h 0 a rfl
  obtain ⟨m, hm⟩ := omap_some (l := l) fun i x hx => h (i + 1) x (by simpa using hx)
  exact ⟨b :: m, by rw [omap, hb, hm]⟩
theorem avFields_cons {H : Type} {g : TypeId → DataW H → Option (List AV)} {f : Field} {fs : List Field} {parts : List (DataW H)} {acs : List AV} (h : avFields g (f :: fs) parts = some acs) : ∃ d ds a b, parts = d :: ds ∧ g f.type d = some a ∧ avFields g fs ds = some b ∧ acs = a ++ b := by
 cases parts with
 | nil => simp [avFields] at h
 | cons d ds =>
  rw [avFields] at h
  split at h
  · rename_i a b h1 h2
    cases h
    exact ⟨d, ds, a, b, rfl, h1, h2, rfl⟩
  · cases h
theorem avFields_nil {H : Type} {g : TypeId → DataW H → Option (List AV)} {parts : List (DataW H)} {acs : List AV} (h : avFields g [] parts = some acs) : parts = [] ∧ acs = [] := by
 cases parts with
 | nil => simp [avFields] at h; exact ⟨rfl, h⟩
 | cons d ds => simp [avFields] at h
theorem spot_none {w : World} {a : Addr} {u : Value} (h : w.cell? a = some u) : a = ⟨a.block, a.off, none⟩ := by
 obtain ⟨b, o, s⟩ := a
 cases s with
 | none => rfl
 | some s =>
  simp [World.cell?] at h
  split at h <;> simp at h
theorem add_none (b o n : Nat) : (⟨b, o, none⟩ : Addr).add n = ⟨b, o + n, none⟩ := by
 unfold Addr.add
 split
 · rename_i h; subst h; rfl
 · rfl
theorem cells_at {w : World} {base n : Nat} {a : Addr} {cs : List Value} (h : w.cells? base a n = some cs) : cs.length = n ∧ ∀ (j : Nat) (u : Value), cs[j]? = some u → w.cell? (a.add j) = some u := by
 unfold World.cells? at h
 split at h
 · rw [← omap_mapM] at h
   refine ⟨by rw [omap_len h]; simp, fun j u hu => ?_⟩
   obtain ⟨i, h1, h2⟩ := omap_get h j u hu
   have hj : j < n := by have := (List.getElem?_eq_some_iff.1 hu).1; rw [omap_len h] at this; simpa using this
   rw [List.getElem?_range hj] at h1
   cases h1
   exact h2
 · cases h
section
variable {H : Type} {enc : TypeId × Value → H} {P : Program} {w : World} {ι : List Nat}
theorem struct_open {n : Nat} {cs : List Value} (S : List TypeId)
    (ih : ∀ (t : TypeId) (c : List Value) (d : DataW H) (ps : List MemPlace), t ∈ S → DataW.trod enc P w 0 (fun _ => true) true n t c = some (d, ps) → ∃ acs, avOf P n t d = some acs ∧ CR ι (Zall w) w acs c ∧ acs.length = P.cellsOf t) :
    ∀ (fs : List Field) (o m : Nat) (xs : List (DataW H × List MemPlace)), tiles P fs o = some m → fs.all (fun f => S.contains f.type) = true → m ≤ cs.length → omap (fun f : Field => DataW.trod enc P w 0 (fun _ => true) true n f.type ((cs.drop f.offset).take (P.cellsOf f.type))) fs = some xs →
     ∃ acs, avFields (avOf P n) fs (xs.map (·.1)) = some acs ∧ CR ι (Zall w) w acs ((cs.drop o).take (m - o)) ∧ o + acs.length = m
 | [], o, m, xs, ht, hS, hm, hx => by
  simp [omap] at hx; subst hx
  simp [tiles] at ht; subst ht
  exact ⟨[], rfl, by simpa using CR.nil, by simp⟩
 | f :: fs, o, m, xs, ht, hS, hm, hx => by
  rw [tiles] at ht
  split at ht
  · rename_i hof
    subst hof
    rw [List.all_cons, Bool.and_eq_true] at hS
    rw [omap] at hx
    split at hx
    · rename_i b bs h1 h2
      cases hx
      obtain ⟨d, ps⟩ := b
      obtain ⟨a1, g1, g2, g3⟩ := ih f.type _ d ps (by simpa using hS.1) h1
      obtain ⟨a2, g4, g5, g6⟩ := struct_open S ih fs (f.offset + P.cellsOf f.type) m bs ht hS.2 hm h2
      refine ⟨a1 ++ a2, ?_, ?_, by simp; omega⟩
      · simp only [List.map_cons, avFields, g1, g4]
      · have := g2.append g5
        have e : m - f.offset = P.cellsOf f.type + (m - (f.offset + P.cellsOf f.type)) := by omega
        rw [e, List.take_add, List.drop_drop]
        exact this
    · cases hx
  · cases ht
theorem open_any (S : List TypeId) (hS : S.all (okKind P S) = true) : ∀ (n : Nat) (t : TypeId) (c : List Value) (d : DataW H) (ps : List MemPlace), t ∈ S → DataW.trod enc P w 0 (fun _ => true) true n t c = some (d, ps) →
    ∃ acs, avOf P n t d = some acs ∧ CR ι (Zall w) w acs c ∧ acs.length = P.cellsOf t
 | 0, t, c, d, ps, ht, h => by simp [DataW.trod] at h
 | n + 1, t, c, d, ps, ht, h => by
  have hk := List.all_eq_true.1 hS t ht
  rw [DataW.trod_step] at h
  unfold DataW.trodStep at h
  unfold okKind at hk
  split at h
  · rename_i bb hu
    simp [hu] at hk
    cases h
    exact ⟨[.lit (.bool bb)], by simp [avOf, hu], ⟨rfl, fun j d u hd hu' => by
     cases j with
     | zero => simp at hd hu'; subst hd; subst hu'; exact ⟨rfl, .lit _ rfl⟩
     | succ j => simp at hd⟩, by simp [hk]⟩
  · rename_i k k' m hu
    simp [hu] at hk
    split at h
    · rename_i hc
      obtain ⟨rfl, _⟩ := hc
      cases h
      exact ⟨[.lit (.int k' m)], by simp [avOf, hu], ⟨rfl, fun j d u hd hu' => by
       cases j with
       | zero => simp at hd hu'; subst hd; subst hu'; exact ⟨rfl, .lit _ rfl⟩
       | succ j => simp at hd⟩, by simp [hk]⟩
    · cases h
  · rename_i hu; simp [hu] at hk
  · rename_i s hu
    simp [hu] at hk
    split at h
    · cases h
      exact ⟨[.lit (.string s)], by simp [avOf, hu], ⟨rfl, fun j d u hd hu' => by
       cases j with
       | zero => simp at hd hu'; subst hd; subst hu'; exact ⟨rfl, .lit _ rfl⟩
       | succ j => simp at hd⟩, by simp [hk]⟩
    · cases h
  · rename_i hu; simp [hu] at hk
  · rename_i hu; simp [hu] at hk
  · rename_i e hu
    simp [hu] at hk
    cases h
    exact ⟨[.sl [] .no], by simp [avOf, hu], ⟨rfl, fun j d u hd hu' => by
     cases j with
     | zero => simp at hd hu'; subst hd; subst hu'; exact ⟨rfl, .nils _ _ _ (fun _ => rfl) (.inl rfl)⟩
     | succ j => simp at hd⟩, by simp [hk]⟩
  · rename_i e a len cap hu
    simp [hu] at hk
    obtain ⟨⟨hk1, hk2⟩, hk3⟩ := hk
    dsimp only at h
    split at h
    · rename_i hc
      obtain ⟨_, hc1, hc2⟩ := hc
      rw [Option.bind_eq_some_iff] at h
      obtain ⟨elems, h1, h2⟩ := h
      rw [Option.map_eq_some_iff] at h2
      obtain ⟨rest, h2, h3⟩ := h2
      cases h3
      have hlen : elems.length = len := by rw [← omap_mapM] at h1; rw [omap_len h1]; simp
      have key : ∀ (i : Nat) (x : DataW H × List MemPlace), elems[i]? = some x → ∃ row c', avOf P n e x.1 = some row ∧ row.length = P.cellsOf e ∧ CR ι (Zall w) w row c' ∧ c'.length = P.cellsOf e ∧ ∀ (j : Nat) (u : Value), c'[j]? = some u → w.cell? ((a.add (i * P.cellsOf e)).add j) = some u := by
       intro i x hx
       rw [← omap_mapM] at h1
       obtain ⟨i', e1, e2⟩ := omap_get h1 i x hx
       have hi : i < len := by rw [← hlen]; exact (List.getElem?_eq_some_iff.1 hx).1
       rw [List.getElem?_range hi] at e1
       cases e1
       rw [Option.bind_eq_some_iff] at e2
       obtain ⟨c', f1, f2⟩ := e2
       obtain ⟨l1, l2⟩ := cells_at f1
       obtain ⟨row, r1, r2, r3⟩ := open_any S hS n e c' x.1 x.2 (by simpa using hk1) f2
       exact ⟨row, c', r1, r3, r2, l1, l2⟩
      obtain ⟨rows, hrows⟩ := omap_some (f := avOf P n e) (l := elems.map (·.1)) fun i x hx => by
       rw [List.getElem?_map, Option.map_eq_some_iff] at hx
       obtain ⟨y, hy, rfl⟩ := hx
       obtain ⟨row, _, r1, _⟩ := key i y hy
       exact ⟨row, r1⟩
      have hrl : rows.length = len := by rw [omap_len hrows]; simp [hlen]
      have key2 : ∀ (i : Nat) (row : List AV), rows[i]? = some row → ∃ c', row.length = P.cellsOf e ∧ CR ι (Zall w) w row c' ∧ c'.length = P.cellsOf e ∧ ∀ (j : Nat) (u : Value), c'[j]? = some u → w.cell? ((a.add (i * P.cellsOf e)).add j) = some u := by
       intro i row hr
       obtain ⟨x, e1, e2⟩ := omap_get hrows i row hr
       rw [List.getElem?_map, Option.map_eq_some_iff] at e1
       obtain ⟨y, hy, rfl⟩ := e1
       obtain ⟨row', c', r1, r2, r3, r4, r5⟩ := key i y hy
       rw [e2] at r1
       cases r1
       exact ⟨c', r2, r3, r4, r5⟩
      refine ⟨[.sl rows .no], by simp [avOf, hu, hrows], ⟨rfl, fun j d u hd hu' => ?_⟩, by simp [hk3]⟩
      cases j with
      | succ j => simp at hd
      | zero =>
       simp at hd hu'
       subst hd; subst hu'
       refine ⟨rfl, ?_⟩
       rcases Nat.eq_zero_or_pos len with h0 | h0
       · subst h0
         have : rows = [] := List.eq_nil_of_length_eq_zero hrl
         subst this
         exact .nils _ _ _ (fun h => by cases h) (.inl rfl)
       · have hspot : a = ⟨a.block, a.off, none⟩ := by
          obtain ⟨c', _, _, r4, r5⟩ := key2 0 _ (List.getElem?_eq_getElem (by omega))
          have := r5 0 _ (List.getElem?_eq_getElem (by omega))
          have e0 : (a.add (0 * P.cellsOf e)).add 0 = a := by simp [Addr.add]
          rw [e0] at this
          exact spot_none this
         generalize a.block = b, a.off = o at hspot
         subst hspot
         refine VR.sl b o len cap (P.cellsOf e) rows .no (fun i j => (w.cell? ⟨b, o + i * P.cellsOf e + j, none⟩).getD .nilFunc) hrl h0 hc1 hc2 (fun i row hr => ?_) (fun i j row d hr hd => ?_) trivial (fun i j row d hr hd => ?_)
         · obtain ⟨_, r2, _⟩ := key2 i row hr
           exact r2
         · obtain ⟨c', r2, r3, r4, r5⟩ := key2 i row hr
           obtain ⟨u, u1, u2, u3⟩ := r3.at hd
           have h := r5 j u u1
           rw [add_none, add_none] at h
           exact ⟨u2, by unfold Zall; rw [h]; rfl, by rw [h]; rfl⟩
         · obtain ⟨c', r2, r3, r4, r5⟩ := key2 i row hr
           obtain ⟨u, u1, u2, u3⟩ := r3.at hd
           have h := r5 j u u1
           rw [add_none, add_none] at h
           rw [h]
           exact u3
    · cases h
  · rename_i fs hu
    rw [hu] at hk
    dsimp only at hk
    rw [Bool.and_eq_true] at hk
    split at h
    · rename_i hc
      rw [Option.map_eq_some_iff] at h
      obtain ⟨xs, h1, h2⟩ := h
      cases h2
      rw [← omap_mapM] at h1
      obtain ⟨acs, g1, g2, g3⟩ := struct_open S (fun t c d ps ht h => open_any S hS n t c d ps ht h) fs.toList 0 (P.cellsOf t) xs (of_decide_eq_true hk.2) hk.1 (by omega) h1
      refine ⟨acs, by simp only [avOf, hu, g1], ?_, by omega⟩
      rw [List.drop_zero, Nat.sub_zero, ← hc, List.take_length] at g2
      exact g2
    · cases h
  all_goals first | (rename_i hu; simp [hu] at hk; done) | (rename_i hu _; simp [hu] at hk; done) | (cases h; done) | skip
end
end
section
set_option maxRecDepth 100000
open Go.RowKit
section
variable {P : Program} {ι : List Nat} {Z : Nat → Nat → Prop} {w : World} {σ : Sto}
theorem setCell_row {w : World} {b i : Nat} {c : Array Value} {T : TypeId} {fz : Nat × Nat} (v : Value) (h : w.heap[b]? = some (.cells c T fz)) : w.setCell ⟨b, i, none⟩ v = w.setRow b (c.setIfInBounds i v) := setCell_eq_setRow w b i c T fz v h
theorem freeze_heap {w : World} {g n : Nat} {c : Array Value} {T : TypeId} {fz : Nat × Nat} (h : w.heap[g]? = some (.cells c T fz)) (hn : n ≠ 0) : (w.freeze ⟨g, 0, none⟩ n).heap[g]? = some (.cells c T (if fz.1 == fz.2 then (0, 0 + n) else (min fz.1 0, max fz.2 (0 + n)))) := by
 unfold World.freeze
 rw [if_neg hn]
 simp [Array.getElem?_modify, h]
theorem freeze_other {w : World} {g n b : Nat} (hb : b ≠ g) : (w.freeze ⟨g, 0, none⟩ n).heap[b]? = w.heap[b]? := by
 unfold World.freeze
 split
 · rfl
 · simp only [Array.getElem?_modify]
   rw [if_neg (Ne.symm hb)]
theorem freeze_size {w : World} {g n : Nat} : (w.freeze ⟨g, 0, none⟩ n).heap.size = w.heap.size := by
 unfold World.freeze
 split <;> simp
theorem Match.freeze (h : Match σ ι Z w) {i g n : Nat} {o0 : AObj} {cs : List AV} {T : TypeId} (hσ : σ[i]? = some o0) (ho : o0 = .cells cs T ∨ o0 = .buf cs T) (hi : ι[i]? = some g) (hn0 : n ≠ 0) (hn : n ≤ cs.length) :
    Evo ι Z w ι Z (w.freeze ⟨g, 0, none⟩ n) ∧ Match (σ.set i (.buf cs T)) ι Z (w.freeze ⟨g, 0, none⟩ n) := by
 have hno : ∀ j, ¬ Z g j := by
  rcases ho with rfl | rfl
  · obtain ⟨_, _, _, _, h4⟩ := h.obj i _ g hσ hi; exact h4
  · obtain ⟨_, _, _, _, _, _, h4⟩ := h.obj i _ g hσ hi; exact h4
 obtain ⟨c, fz, hheap, hfz, hlen, hc⟩ : ∃ (c : Array Value) (fz : Nat × Nat), w.heap[g]? = some (.cells c T fz) ∧ fz.2 ≤ cs.length ∧ cs.length ≤ c.size ∧ ∀ (j : Nat) (d : AV) (u : Value), cs[j]? = some d → c[j]? = some u → d.one = true ∧ VR ι Z w d u := by
  rcases ho with rfl | rfl
  · obtain ⟨c, h1, h2, h3, _⟩ := h.obj i _ g hσ hi; exact ⟨c, (0, 0), h1, Nat.zero_le _, h2, h3⟩
  · obtain ⟨c, fz, h1, h0, h2, h3, _⟩ := h.obj i _ g hσ hi; exact ⟨c, fz, h1, h0, h2, h3⟩
 have l0 : o0.live := by rcases ho with rfl | rfl <;> trivial
 have hg := freeze_heap hheap hn0
 have e : Evo ι Z w ι Z (w.freeze ⟨g, 0, none⟩ n) :=
  { pre := fun _ _ h => h, img := fun id _ h _ => ⟨id, h⟩, zmono := fun _ _ h => h
    zsame := fun b j hz => by
     have hb : b ≠ g := fun e => hno j (e ▸ hz)
     exact World.cell?_of_block (freeze_other hb)
    csz := fun b hb => by
     by_cases hbg : b = g
     · subst hbg; unfold cellsz; rw [hg, hheap]
     · unfold cellsz; rw [freeze_other hbg]
    size := by rw [freeze_size]; exact Nat.le_refl _
    keep := fun b hb hn => freeze_other fun e => hn i (e ▸ hi)
    os := by unfold World.freeze; split <;> rfl
    tape := by unfold World.freeze; split <;> rfl
    output := by unfold World.freeze; split <;> rfl
    znew := fun _ _ h _ => .inl h }
 have hil := (List.getElem?_eq_some_iff.1 hσ).1
 have key : ∀ (j b : Nat) (o : AObj), ι[j]? = some b → (σ.set i (.buf cs T))[j]? = some o → o.live → (j = i ∧ b = g ∧ o = .buf cs T) ∨ (j ≠ i ∧ b ≠ g ∧ σ[j]? = some o) := by
  intro j b o hj ho' lo
  by_cases hji : j = i
  · subst hji
    rw [hi] at hj
    rw [List.getElem?_set_self hil] at ho'
    exact .inl ⟨rfl, (Option.some.inj hj).symm, (Option.some.inj ho').symm⟩
  · rw [List.getElem?_set_ne (Ne.symm hji)] at ho'
    refine .inr ⟨hji, fun e => hji ?_, ho'⟩
    subst e
    exact h.inj j i b o _ hj hi ho' hσ lo l0
 refine ⟨e, h.go e (by simp [h.len]) (fun j o b ho hb lo => ?_) (fun a j b o p ha hj ho hp lo lp => ?_) fun b j hj => by rw [freeze_size]; exact h.zlt b j hj⟩
 · rcases key j b o hb ho lo with ⟨rfl, rfl, rfl⟩ | ⟨_, h2, h3⟩
   · refine .inl ⟨c, _, hg, ?_, hlen, fun j d u hd hu => ⟨(hc j d u hd hu).1, (hc j d u hd hu).2.evo e⟩, hno⟩
     split
     · dsimp only; omega
     · dsimp only; omega
   · exact .inr ⟨h3, freeze_other h2, fun _ h => h⟩
 · rcases key a b o ha ho lo with ⟨a1, a2, a3⟩ | ⟨a1, a2, a3⟩ <;> rcases key j b p hj hp lp with ⟨b1, b2, b3⟩ | ⟨b1, b2, b3⟩
   · omega
   · omega
   · omega
   · exact h.inj a j b o p ha hj a3 b3 lo lp
end
theorem sizeB : (Tryz.prog.info? 170).map (·.size) = some 2 := by kernel_rfl
theorem chk_used (b : Nat) (w : World) (h0 : w.cell? ⟨b, 0, none⟩ = some (.pointer (some ⟨b, 0, none⟩))) :
    Calls Tryz.prog 156 #[.pointer (some ⟨b, 0, none⟩)] w fun e w' => e = .returned (.tuple #[]) ∧ w' = w := by
 obtain ⟨j, hj, _⟩ := Option.map_eq_some_iff.1 sizeB
 go_enter Tryz.func156, Tryz.ntmps156
 go_wp2
 rw [Lib.run_neq_ptr_same w _ Tryz.underlying167 hj]
 go_wp2
 go_end0
 exact ⟨rfl, rfl⟩
theorem chk_fresh (T : TypeId) (n : Nat) (hn : 0 < n) (hT : liesAt Tryz.prog Tryz.prog.depth T (n / Tryz.prog.cellsOf T) 0 170 1 = true) (b : Nat) (w : World) (h0 : w.cell? ⟨b, 0, none⟩ = some (.pointer none)) (hfz : w.frozen? ⟨b, 0, none⟩ = false) (hsh : w.shape? b = some (T, n)) :
    Calls Tryz.prog 156 #[.pointer (some ⟨b, 0, none⟩)] w fun e w' => e = .returned (.tuple #[]) ∧ w' = w.setCell ⟨b, 0, none⟩ (.pointer (some ⟨b, 0, none⟩)) := by
 obtain ⟨j, hj, hjs⟩ := Option.map_eq_some_iff.1 sizeB
 go_enter Tryz.func156, Tryz.ntmps156
 go_wp2
 rw [Lib.run_to_unsafe w ⟨b, 0, none⟩ Tryz.underlying167 (by kernel_rfl : Tryz.prog.underlying 209 = some .unsafePointer) hj (by rw [hjs]; decide) hsh hn]
 simp only [Result.andThen]
 rw [Oper.upon_value]
 go_wp2
 rw [run_callFunc_extern Tryz.func158 (by kernel_rfl) (by kernel_rfl) (by kernel_rfl) (e := Extern.AbiNoEscape.same) (by kernel_rfl)]
 rw [Lib.run_noEscape]
 simp only [Result.andThen]
 rw [Oper.upon_value]
 go_wp2
 rw [Lib.run_from_unsafe w ⟨b, 0, none⟩ (by kernel_rfl : Tryz.prog.underlying 209 = some .unsafePointer) Tryz.underlying167 hj hsh hT]
 simp only [Result.andThen]
 rw [Oper.upon_value]
 go_wp2
 go_end0
 exact ⟨rfl, rfl⟩
theorem lies_builderE (n : Nat) (hn : 2 ≤ n) : liesAt Tryz.prog Tryz.prog.depth 170 (n / Tryz.prog.cellsOf 170) 0 170 1 = true := by
 have hc : Tryz.prog.cellsOf 170 = 2 := by kernel_rfl
 have hd : Tryz.prog.depth = (2 * (Tryz.prog.types.size + Made.depth) + 1) + 1 := rfl
 rw [hc, hd]
 simp only [liesAt, Bool.or_eq_true]
 left
 rw [hd]
 simp [rowAt, hc, sameLayout]
 omega
theorem lies_writer (n : Nat) (hn : 2 ≤ n) : liesAt Tryz.prog Tryz.prog.depth 172 (n / Tryz.prog.cellsOf 172) 0 170 1 = true := by
 have hc : Tryz.prog.cellsOf 172 = 2 := by kernel_rfl
 have hcb : Tryz.prog.cellsOf 170 = 2 := by kernel_rfl
 have hu : (Tryz.prog.underlying 172).map (fun x => match x with | .struct fs => (fs.map fun f => (f.offset, f.type)).toList | _ => []) = some [(0, 170)] := by kernel_rfl
 have hh : Tryz.prog.stoodInHeld 172 = false := by kernel_rfl
 have hs : sameLayout Tryz.prog Tryz.prog.depth 170 170 = true := by
  show sameLayout Tryz.prog ((2 * (Tryz.prog.types.size + Made.depth) + 1) + 1) _ _ = true
  simp [sameLayout]
 obtain ⟨d, hd⟩ : ∃ d, Tryz.prog.depth = d + 1 + 1 := ⟨2 * (Tryz.prog.types.size + Made.depth), rfl⟩
 have hn2 : 0 < n / 2 := by omega
 rw [hc, hd, liesAt, Bool.or_eq_true]
 left
 generalize Tryz.prog.depth = D at hd hs ⊢
 subst hd
 rw [rowAt]
 simp only [hc]
 rw [if_neg (by decide), Bool.or_eq_true]
 right
 rw [Bool.and_eq_true]
 refine ⟨by simpa using hn2, ?_⟩
 split
 · rename_i fs hf
   rw [hf] at hu
   simp only [Option.map_some, Option.some.injEq] at hu
   rw [hh, Bool.not_false, Bool.true_and, ← Array.any_toList, List.any_eq_true]
   have hm : fs.toList.map (fun f => (f.offset, f.type)) = [(0, 170)] := by simpa using hu
   obtain ⟨f, hf1, hf2⟩ := List.mem_map.1 (show ((0 : Nat), (170 : TypeId)) ∈ fs.toList.map (fun f => (f.offset, f.type)) by rw [hm]; exact List.mem_cons_self)
   injection hf2 with h1 h2
   refine ⟨f, hf1, ?_⟩
   rw [h1, h2, hcb, rowAt]
   simp [hcb, hs]
 · rename_i m e' hf
   rw [hf] at hu
   simp at hu
 · rename_i x hno1 hno2
   exfalso
   cases hx : Tryz.prog.underlying 172 with
   | none => rw [hx] at hu; simp at hu
   | some y =>
    rw [hx] at hu
    cases y with
    | struct fs => exact hno1 fs hx
    | _ => simp at hu
def bldT (T : TypeId) : Bool := T == 170 || T == 172
theorem lies_bld {T : TypeId} (h : bldT T = true) (n : Nat) (hn : 2 ≤ n) : liesAt Tryz.prog Tryz.prog.depth T (n / Tryz.prog.cellsOf T) 0 170 1 = true := by
 unfold bldT at h
 rw [Bool.or_eq_true, beq_iff_eq, beq_iff_eq] at h
 rcases h with rfl | rfl
 · exact lies_builderE n hn
 · exact lies_writer n hn
def primCheck (args : List AV) (σ : Sto) : Option (ARes × Sto) :=
 match args with
 | [.ptr id 0] =>
  match σ[id]? with
  | some (.cells [a, v] T) =>
   if bldT T = true then
    (match a with
    | .lit (.pointer none) => some (.ret (.tup []), σ.set id (.cells [.ptr id 0, v] T))
    | .ptr i 0 => if i = id then some (.ret (.tup []), σ) else none
    | _ => none)
   else none
  | _ => none
 | _ => none
theorem one_arg {us : Array Value} {d : AV} (h : [d].length = us.size) : ∃ v, us = #[v] := ⟨us[0]'(by simp at h; omega), by
 apply Array.ext
 · simp at h; simp; omega
 · intro i h1 h2; simp at h2; subst h2; rfl⟩
theorem primCheck_sound : CallSound Tryz.prog fun f args σ => if f = 156 then primCheck args σ else none := by
 intro f args σ r σ' hr ι Z w us hM hl hargs
 dsimp only at hr
 split at hr
 · rename_i e
   subst e
   unfold primCheck at hr
   split at hr
   · rename_i id
     split at hr
     · rename_i a v T hσ
       split at hr
       · rename_i hT
         obtain ⟨u, rfl⟩ := one_arg hl
         have hu := hargs 0 _ u rfl rfl
         obtain ⟨b, hb, rfl⟩ := ptr_at hu
         obtain ⟨c, hheap, hlen, hc, hz⟩ := hM.obj id _ b hσ hb
         simp at hlen
         have hc0 := Array.getElem?_eq_getElem (show 0 < c.size by omega)
         have hcell : w.cell? ⟨b, 0, none⟩ = some c[0] := by simp [World.cell?, hheap]
         refine ⟨Tryz.call156 _ _, ?_⟩
         have h0 := (hc 0 a _ rfl hc0).2
         split at hr
         · cases hr
           have hp : c[0] = .pointer none := by generalize c[0] = q at h0; cases h0; rfl
           refine (chk_fresh T c.size (by omega) (lies_bld hT _ hlen) b w (by rw [hcell, hp]) (by simp [World.frozen?, hheap]) (by simp [World.shape?, hheap])).mono ?_
           rintro e w' ⟨rfl, rfl⟩
           rw [setCell_row _ hheap]
           obtain ⟨e1, m1⟩ := hM.setCells (cs := [.ptr id 0, v]) (c := c.setIfInBounds 0 (.pointer (some ⟨b, 0, none⟩))) hσ hb hheap (by simp) (by simp; omega) (fun j d u hd hu => by
            rcases j with _ | _ | j
            · simp at hd; subst hd
              rw [Array.getElem?_setIfInBounds_self_of_lt (by omega)] at hu
              cases hu
              exact ⟨rfl, .ptr _ _ _ hb⟩
            · rw [Array.getElem?_setIfInBounds_ne (by omega)] at hu
              exact hc 1 d u hd hu
            · simp at hd)
           exact ⟨ι, Z, e1, m1, _, rfl, .tup _ _ rfl fun i d u hd hu => by simp at hd⟩
         · rename_i i
           split at hr
           · rename_i hi
             subst hi
             cases hr
             have hp : c[0] = .pointer (some ⟨b, 0, none⟩) := by
              generalize c[0] = q at h0
              obtain ⟨b', hb', rfl⟩ := ptr_at h0
              rw [hb] at hb'; cases hb'; rfl
             refine (chk_used b w (by rw [hcell, hp])).mono ?_
             rintro e w' ⟨rfl, rfl⟩
             exact ⟨ι, Z, .refl _ _ _, hM, _, rfl, .tup _ _ rfl fun i d u hd hu => by simp at hd⟩
           · cases hr
         · cases hr
       · cases hr
     · cases hr
   · cases hr
 · cases hr
theorem cellsU8 : Tryz.prog.cellsOf 5 = 1 := by kernel_rfl
theorem str_full (b g n cap sz : Nat) (l : List UInt8) (w : World) (hn : n = l.length) (h0 : l ≠ []) (hc1 : w.cell? ⟨b, 1, none⟩ = some (.slice (some ⟨g, 0, none⟩) n cap)) (hcap : cap ≠ 0) (hmax : n ≤ 140737488355328) (hsh : w.shape? g = some (5, sz)) (hsz : n ≤ sz)
    (hb : ∀ (j : Nat) (x : UInt8), l[j]? = some x → w.cell? ((⟨g, 0, none⟩ : Addr).add j) = some (.int .u8 x.toNat)) :
    Calls Tryz.prog 127 #[.pointer (some ⟨b, 0, none⟩)] w fun e w' => e = .returned (.string ⟨l.toArray⟩) ∧ w' = w.drew.freeze ⟨g, 0, none⟩ n := by
 have c1 : w.drew.cell? ⟨b, 1, none⟩ = some (.slice (some ⟨g, 0, none⟩) n cap) := hc1
 have hSD : (Builtin.unsafeSliceData_ #[168] 192 #[.slice (some ⟨g, 0, none⟩) n cap]).run Tryz.prog w.drew = .ok (.pointer (some ⟨g, 0, none⟩)) w.drew :=
  Lib.run_unsafeSliceData_row _ _ _ _ _ _ hcap
 have hUS : (Builtin.unsafeString_ #[192, 3] 9 #[.pointer (some ⟨g, 0, none⟩), .int .i64 n]).run Tryz.prog w.drew = .ok (.string ⟨l.toArray⟩) (w.drew.freeze ⟨g, 0, none⟩ n) := by
  subst hn
  exact Lib.run_unsafeString_row w.drew 192 3 9 5 Tryz.underlying192 cellsU8 g sz hsh l h0 hsz (by omega) hb
 clear hb hsh hsz h0 hn hmax hcap
 go_enter Tryz.func127, Tryz.ntmps127
 go_wp2
 go_region
 all_goals (go_wp2; go_ret; exact ⟨rfl, rfl⟩)
def primString (args : List AV) (σ : Sto) : Option (ARes × Sto) :=
 match args with
 | [.ptr id 0] =>
  match σ[id]? with
  | some (.cells [_, .asl g 0 n 1] T) =>
   if bldT T = true ∧ 0 < n ∧ n ≤ 140737488355328 then
    (match σ[g]? with
    | some (.cells cs U) | some (.buf cs U) => if U = 5 ∧ n ≤ cs.length then (bytesAV (cs.take n)).map fun l => (.ret (.lit (.string ⟨l.toArray⟩)), σ.set g (.buf cs U)) else none
    | _ => none)
   else none
  | _ => none
 | _ => none
theorem primString_sound : CallSound Tryz.prog fun f args σ => if f = 127 then primString args σ else none := by
 intro f args σ r σ' hr ι Z w us hM hl hargs
 dsimp only at hr
 split at hr
 · rename_i e
   subst e
   unfold primString at hr
   split at hr
   · rename_i id
     split at hr
     · rename_i a g n T hσ
       split at hr
       · rename_i hcond
         obtain ⟨hT, hn0, hnm⟩ := hcond
         obtain ⟨u, rfl⟩ := one_arg hl
         have hu := hargs 0 _ u rfl rfl
         obtain ⟨b, hb, rfl⟩ := ptr_at hu
         obtain ⟨c, hheap, hlen, hc, hz⟩ := hM.obj id _ b hσ hb
         simp at hlen
         have hc1 := Array.getElem?_eq_getElem (show 1 < c.size by omega)
         have hcell : w.cell? ⟨b, 1, none⟩ = some c[1] := by simp [World.cell?, hheap]
         have h1 := (hc 1 _ _ rfl hc1).2
         generalize c[1] = q at h1 hcell
         obtain ⟨gb, cap, rfl, hg, hncap, hmx, hcz⟩ := asl_at h1
         have go : ∀ (o0 : AObj) (cs : List AV) (l : List UInt8), σ[g]? = some o0 → (o0 = .cells cs 5 ∨ o0 = .buf cs 5) → n ≤ cs.length → bytesAV (cs.take n) = some l → r = .ret (.lit (.string ⟨l.toArray⟩)) → σ' = σ.set g (.buf cs 5) →
             (callFunc 127 #[.pointer (some ⟨b, 0, none⟩)]).run Tryz.prog w = .ok (.enter 127 #[.pointer (some ⟨b, 0, none⟩)]) w ∧ Calls Tryz.prog 127 #[.pointer (some ⟨b, 0, none⟩)] w fun e w' => ∃ ι' Z', Evo ι Z w ι' Z' w' ∧ Match σ' ι' Z' w' ∧ ERel ι' Z' w' r e := by
          intro o0 cs l ho0 ho hnl hby hr hσ'
          subst hr; subst hσ'
          obtain ⟨cg, fz, hgheap, hglen, hgc⟩ : ∃ (c : Array Value) (fz : Nat × Nat), w.heap[gb]? = some (.cells c 5 fz) ∧ cs.length ≤ c.size ∧ ∀ (j : Nat) (d : AV) (u : Value), cs[j]? = some d → c[j]? = some u → d.one = true ∧ VR ι Z w d u := by
           rcases ho with rfl | rfl
           · obtain ⟨c, h1, h2, h3, _⟩ := hM.obj g _ gb ho0 hg; exact ⟨c, (0, 0), h1, h2, h3⟩
           · obtain ⟨c, fz, h1, h0, h2, h3, _⟩ := hM.obj g _ gb ho0 hg; exact ⟨c, fz, h1, h2, h3⟩
          have hll := bytesAV_len hby
          rw [List.length_take, Nat.min_eq_left hnl] at hll
          refine ⟨Tryz.call127 _ _, (str_full b gb n cap cg.size l w hll.symm (fun e => by rw [e] at hll; simp at hll; omega) hcell (by omega) hnm (by simp [World.shape?, hgheap]) (by omega) fun j x hx => ?_).mono ?_⟩
          · have hcj := bytesAV_get hby j x hx
            rw [List.getElem?_take] at hcj
            split at hcj
            · rename_i hj
              have hjc := Array.getElem?_eq_getElem (show j < cg.size by omega)
              have := (hgc j _ _ hcj hjc).2
              rw [Addr.add_lit, Nat.zero_add]
              simp only [World.cell?, hgheap]
              rw [hjc]
              generalize cg[j] = q at this
              cases this; rfl
            · cases hcj
          · rintro e w' ⟨rfl, rfl⟩
            obtain ⟨e1, m1⟩ := hM.drew.freeze ho0 ho hg (show n ≠ 0 by omega) hnl
            exact ⟨ι, Z, (Evo.drew ι Z w).trans e1, m1, _, rfl, .lit _ rfl⟩
         split at hr
         · rename_i cs U hg0
           split at hr
           · rename_i hU
             obtain ⟨rfl, hnl⟩ := hU
             rw [Option.map_eq_some_iff] at hr
             obtain ⟨l, hl1, hl2⟩ := hr
             cases hl2
             exact go _ cs l hg0 (.inl rfl) hnl hl1 rfl rfl
           · cases hr
         · rename_i cs U hg0
           split at hr
           · rename_i hU
             obtain ⟨rfl, hnl⟩ := hU
             rw [Option.map_eq_some_iff] at hr
             obtain ⟨l, hl1, hl2⟩ := hr
             cases hl2
             exact go _ cs l hg0 (.inr rfl) hnl hl1 rfl rfl
           · cases hr
         · cases hr
       · cases hr
     · cases hr
   · cases hr
 · cases hr
end
end Go.Proofs.YtncoidmbmihliaaGreatDoor
