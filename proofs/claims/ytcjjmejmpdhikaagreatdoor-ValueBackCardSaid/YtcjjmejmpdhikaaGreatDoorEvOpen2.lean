/-
  EV: an argument as the statement reads it: its integers are of their kinds.
-/
import Derived.Test.YtcjjmejmpdhikaaGreatDoorEvOpen
namespace Go.Proofs.YtcjjmejmpdhikaaGreatDoor
set_option linter.unusedSimpArgs false
set_option linter.unusedVariables false
open Go.RowKit

section
variable {H : Type} (P : Program)
def wfFields (g : TypeId → DataW H → Prop) : List Field → List (DataW H) → Prop
  | f :: fs, d :: ds => g f.type d ∧ wfFields g fs ds
  | _, _ => True
/-- integers are of their kinds -/
def wfD : Nat → TypeId → DataW H → Prop
  | 0, _, _ => True
  | n + 1, t, d =>
    match P.underlying t, d with
    | some (.int k), .lit (.int k' m) => k' = k ∧ (Lit.int k m).wf = true
    | some (.slice e), .slice elems _ => ∀ x ∈ elems, wfD n e x
    | some (.struct fs), .agg parts => wfFields (wfD n) fs.toList parts
    | _, _ => True
end

section
variable {H : Type} {enc : TypeId × Value → H} {P : Program} {w : World}
theorem wfFields_of {n : Nat} {cs : List Value} (ih : ∀ (t : TypeId) (c : List Value) (d : DataW H) (ps : List MemPlace), DataW.trod enc P w 0 (fun _ => true) true n t c = some (d, ps) → wfD P n t d) :
    ∀ (fs : List Field) (xs : List (DataW H × List MemPlace)), omap (fun f : Field => DataW.trod enc P w 0 (fun _ => true) true n f.type ((cs.drop f.offset).take (P.cellsOf f.type))) fs = some xs → wfFields (wfD P n) fs (xs.map (·.1))
  | [], xs, h => by
    simp [omap] at h; subst h; trivial
  | f :: fs, xs, h => by
    rw [omap] at h
    split at h
    · rename_i b bs h1 h2
      cases h
      obtain ⟨d, ps⟩ := b
      exact ⟨ih f.type _ d ps h1, wfFields_of ih fs bs h2⟩
    · cases h

theorem trod_wf : ∀ (n : Nat) (t : TypeId) (c : List Value) (d : DataW H) (ps : List MemPlace), DataW.trod enc P w 0 (fun _ => true) true n t c = some (d, ps) → wfD P n t d
  | 0, t, c, d, ps, h => trivial
  | n + 1, t, c, d, ps, h => by
    rw [DataW.trod_step] at h
    unfold DataW.trodStep at h
    split at h
    case h_2 k k' m hu =>
      split at h
      · rename_i hc
        obtain ⟨rfl, hw⟩ := hc
        cases h
        unfold wfD
        simp only [hu]
        exact ⟨trivial, hw⟩
      · cases h
    case h_8 e a len cap hu =>
      dsimp only at h
      split at h
      · rw [Option.bind_eq_some_iff] at h
        obtain ⟨els, h1, h2⟩ := h
        rw [Option.map_eq_some_iff] at h2
        obtain ⟨rest, h2, h3⟩ := h2
        cases h3
        unfold wfD
        simp only [hu]
        intro x hx
        obtain ⟨y, hy, rfl⟩ := List.mem_map.1 hx
        rw [← omap_mapM] at h1
        obtain ⟨i, hi⟩ := List.getElem?_of_mem hy
        obtain ⟨i', e1, e2⟩ := omap_get h1 i y hi
        rw [Option.bind_eq_some_iff] at e2
        obtain ⟨c', f1, f2⟩ := e2
        exact trod_wf n e c' y.1 y.2 f2
      · cases h
    case h_9 fs hu =>
      split at h
      · rw [Option.map_eq_some_iff] at h
        obtain ⟨xs, h1, h2⟩ := h
        cases h2
        rw [← omap_mapM] at h1
        unfold wfD
        simp only [hu]
        exact wfFields_of (fun t c d ps h => trod_wf n t c d ps h) fs.toList xs h1
      · cases h
    all_goals
      unfold wfD
      split
      all_goals first
        | trivial
        | (simp_all; done)
end
end Go.Proofs.YtcjjmejmpdhikaaGreatDoor
