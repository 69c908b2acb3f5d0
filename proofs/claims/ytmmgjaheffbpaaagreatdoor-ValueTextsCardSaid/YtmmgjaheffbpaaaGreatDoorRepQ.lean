/-
 REPRESENTATION: what a value in memory stands for, as plain data. Plain lemmas, no program. (A template: the seat's Name stands for the mark.)
-/
import Derived.Below
import Derived.OneCell
import Derived.Laws.OwnMore
import Derived.Deep.Draws
namespace Go.Proofs.YtmmgjaheffbpaaaGreatDoor
set_option linter.unusedSimpArgs false
set_option linter.unusedVariables false
open Go.RowKit
inductive D where
 | leaf (v : Value)
 | sl (es : List (List D))
inductive Rep (w : World) (F : Nat → Prop) : Value → D → Prop where
 | leaf (v : Value) : Rep w F v (.leaf v)
 | empty (a : Option Addr) (c : Nat) (h : a = none → c = 0) : Rep w F (.slice a 0 c) (.sl [])
 | sl (b o n c k : Nat) (es : List (List D)) (U : Nat → Nat → Value) : es.length = n → 0 < n → n ≤ c → c ≤ maxLen → F b → b < w.heap.size → (∀ (i : Nat) (e : List D), es[i]? = some e → e.length = k) →
     (∀ (i j : Nat), i < n → j < k → w.cell? ⟨b, o + i * k + j, none⟩ = some (U i j)) →
     (∀ (i j : Nat) (e : List D) (d : D), es[i]? = some e → e[j]? = some d → Rep w F (U i j) d) → Rep w F (.slice (some ⟨b, o, none⟩) n c) (.sl es)
theorem Rep.mono {w : World} {F G : Nat → Prop} {v : Value} {d : D} (h : Rep w F v d) (hFG : ∀ b, F b → G b) : Rep w G v d := by
 induction h with
 | leaf v => exact .leaf v
 | empty a c h => exact .empty a c h
 | sl b o n c k es U h1 h0 h2 h3 h4 hlt h5 h6 _ ih => exact .sl b o n c k es U h1 h0 h2 h3 (hFG _ h4) hlt h5 h6 ih
theorem Rep.stays {w w' : World} {F : Nat → Prop} {v : Value} {d : D} (h : Rep w F v d) (hs : ∀ b, F b → b < w.heap.size → w'.heap[b]? = w.heap[b]?) : Rep w' F v d := by
 induction h with
 | leaf v => exact .leaf v
 | empty a c h => exact .empty a c h
 | sl b o n c k es U h1 h0 h2 h3 h4 hlt h5 h6 _ ih =>
  have he := hs b h4 hlt
  have hlt' : b < w'.heap.size := by
   rw [Array.getElem?_eq_getElem hlt] at he
   exact (Array.getElem?_eq_some_iff.1 he).1
  refine .sl b o n c k es U h1 h0 h2 h3 h4 hlt' h5 (fun i j hi hj => ?_) ih
  rw [← h6 i j hi hj]
  exact World.cell?_of_block he
theorem Rep.lt {w : World} {F : Nat → Prop} {v : Value} {d : D} (h : Rep w F v d) : Rep w (fun b => F b ∧ b < w.heap.size) v d := by
 induction h with
 | leaf v => exact .leaf v
 | empty a c h => exact .empty a c h
 | sl b o n c k es U h1 h0 h2 h3 h4 hlt h5 h6 _ ih => exact .sl b o n c k es U h1 h0 h2 h3 ⟨h4, hlt⟩ hlt h5 h6 ih
theorem Rep.ext {w w' : World} {F : Nat → Prop} {v : Value} {d : D} (h : Rep w F v d) (hb : Below w.heap.size w w') : Rep w' F v d :=
 h.stays fun b _ hl => hb.block b hl
theorem Rep.grown {w w' : World} {F : Nat → Prop} {v : Value} {d : D} {row : Option Nat} (h : Rep w F v d) (hg : w.grownBy w' row) (hr : ∀ b, F b → some b ≠ row) : Rep w' F v d :=
 h.stays fun b hF hl => hg.block b hl (hr b hF)
theorem Rep.drew {w : World} {F : Nat → Prop} {v : Value} {d : D} (h : Rep w F v d) : Rep w.drew F v d := h.stays fun _ _ _ => rfl
theorem Rep.drewN {w : World} {F : Nat → Prop} {v : Value} {d : D} {n : Nat} (h : Rep w F v d) : Rep (w.drewN n) F v d := h.stays fun _ _ _ => rfl
theorem Rep.leaf_eq {w : World} {F : Nat → Prop} {v u : Value} (h : Rep w F v (.leaf u)) : v = u := by cases h; rfl
theorem Rep.slice {w : World} {F : Nat → Prop} {v : Value} {es : List (List D)} (h : Rep w F v (.sl es)) : ∃ a c, v = .slice a es.length c := by
 cases h with
 | empty a c h => exact ⟨a, c, rfl⟩
 | sl b o n c k es U h1 => exact ⟨_, c, by rw [h1]⟩
theorem Rep.elems {w : World} {F : Nat → Prop} {v : Value} {es : List (List D)} (h : Rep w F v (.sl es)) (hn : 0 < es.length) :
    ∃ (b o c k : Nat) (U : Nat → Nat → Value), v = .slice (some ⟨b, o, none⟩) es.length c ∧ es.length ≤ c ∧ c ≤ maxLen ∧ F b ∧ b < w.heap.size ∧ (∀ (i : Nat) (e : List D), es[i]? = some e → e.length = k) ∧
     (∀ (i j : Nat), i < es.length → j < k → w.cell? ⟨b, o + i * k + j, none⟩ = some (U i j)) ∧ (∀ (i j : Nat) (e : List D) (d : D), es[i]? = some e → e[j]? = some d → Rep w F (U i j) d) := by
 cases h with
 | empty a c h => simp at hn
 | sl b o n c k es U h1 h0 h2 h3 h4 hlt h5 h6 h7 => subst h1; exact ⟨b, o, c, k, U, rfl, h2, h3, h4, hlt, h5, h6, h7⟩
theorem Rep.set {w : World} {F : Nat → Prop} {v : Value} {d : D} (h : Rep w F v d) {k j : Nat} {u : Value} (hk : ¬ F k) : Rep (w.setCell ⟨k, j, none⟩ u) F v d :=
 h.stays fun _ hF _ => Below.heap_setCell w _ u _ (fun e => hk (by have e' : _ = k := e; rw [← e']; exact hF))
theorem Rep.alloc {w : World} {F : Nat → Prop} {v : Value} {d : D} (h : Rep w F v d) (x : Obj) : Rep (w.alloc x) F v d := h.stays fun _ _ hl => Below.heap_alloc w x _ hl
theorem Rep.nil (w : World) (F : Nat → Prop) : Rep w F (.slice none 0 0) (.sl []) := .empty none 0 fun _ => rfl
theorem Rep.one {w : World} {F : Nat → Prop} {v : Value} {d : D} (h : Rep w F v d) (hd : ∀ u, d = .leaf u → u.oneCell' = true) : v.oneCell' = true := by
 cases h with
 | leaf v => exact hd v rfl
 | empty a c h => rfl
 | sl => rfl
end Go.Proofs.YtmmgjaheffbpaaaGreatDoor
