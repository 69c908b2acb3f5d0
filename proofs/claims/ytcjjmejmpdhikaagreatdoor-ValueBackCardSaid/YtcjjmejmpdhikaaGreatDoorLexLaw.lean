/-
  THE WALKS of the statements' own functions over trees: shape, Deep.
-/
import Derived.Test.YtcjjmejmpdhikaaGreatDoorLexParse
namespace Go.Proofs.YtcjjmejmpdhikaaGreatDoor
set_option linter.unusedSimpArgs false
set_option linter.unusedVariables false
open Go.RowKit

/-- A list of trees in memory: its value, its cells. -/
theorem Rep.trees {w : World} {F : Nat → Prop} {v : Value} {ts : List Tr} (h : Rep w F v (.sl (encTrs ts))) (hn : 0 < ts.length) :
    ∃ b o c, v = .slice (some ⟨b, o, none⟩) ts.length c ∧ ts.length ≤ c ∧ c ≤ maxLen ∧ F b ∧ ∀ (i : Nat) (t : Tr), ts[i]? = some t →
      w.cell? ⟨b, o + i * 4, none⟩ = some (.string ⟨t.word.toArray⟩) ∧ (∃ kv, w.cell? ⟨b, o + i * 4 + 1, none⟩ = some kv ∧ Rep w F kv (.sl (encTrs t.kids))) ∧
      w.cell? ⟨b, o + i * 4 + 2, none⟩ = some (.bool t.row) ∧ w.cell? ⟨b, o + i * 4 + 3, none⟩ = some (.int .i64 t.at_) := by
  obtain ⟨b, o, c, k, U, rfl, h1, h2, h3, _, h5, h6, h7⟩ := h.elems (by rw [encTrs_length]; exact hn)
  rw [encTrs_length] at h1 h6 ⊢
  have hget : ∀ (i : Nat) (t : Tr), ts[i]? = some t → (encTrs ts)[i]? = some (encTr t) := fun i t ht => by rw [encTrs_map, List.getElem?_map, ht]; rfl
  have hk : k = 4 := by
    have := h5 0 _ (hget 0 ts[0] (List.getElem?_eq_getElem hn))
    rw [encTr_length] at this
    exact this.symm
  subst hk
  refine ⟨b, o, c, rfl, h1, h2, h3, fun i t ht => ?_⟩
  have hi : i < ts.length := (List.getElem?_eq_some_iff.1 ht).1
  have e := hget i t ht
  obtain ⟨x, ks, r, a⟩ := t
  have c0 := h6 i 0 hi (by omega)
  have c1 := h6 i 1 hi (by omega)
  have c2 := h6 i 2 hi (by omega)
  have c3 := h6 i 3 hi (by omega)
  have r0 := (h7 i 0 _ _ e rfl).leaf_eq
  have r1 := h7 i 1 _ _ e rfl
  have r2 := (h7 i 2 _ _ e rfl).leaf_eq
  have r3 := (h7 i 3 _ _ e rfl).leaf_eq
  rw [r0] at c0
  rw [r2] at c2
  rw [r3] at c3
  exact ⟨by simpa [Tr.word] using c0, ⟨_, c1, r1⟩, c2, c3⟩

theorem Rep.trees_len {w : World} {F : Nat → Prop} {v : Value} {ts : List Tr} (h : Rep w F v (.sl (encTrs ts))) : ∃ a c, v = .slice a ts.length c := by
  obtain ⟨a, c, h⟩ := h.slice
  rw [encTrs_length] at h
  exact ⟨a, c, h⟩

theorem Rep.trees_max {w : World} {F : Nat → Prop} {v : Value} {ts : List Tr} (h : Rep w F v (.sl (encTrs ts))) : ts.length ≤ maxLen := by
  rcases Nat.eq_zero_or_pos ts.length with h0 | h0
  · omega
  · obtain ⟨_, _, c, _, h1, h2, _⟩ := h.trees h0
    omega


end Go.Proofs.YtcjjmejmpdhikaaGreatDoor
