/-
  EV: THE OPERATIONS: what the evaluator tells is what the model's operation does.
-/
import Derived.Test.YtcjjmejmpdhikaaGreatDoorEvRel
import Derived.Deep.MidRow
import Derived.ChangeKeysEq
namespace Go.Proofs.YtcjjmejmpdhikaaGreatDoor
set_option linter.unusedSimpArgs false
set_option linter.unusedVariables false
open Go.RowKit

section
variable {ι : List Nat} {Z : Nat → Nat → Prop} {w : World}

theorem abs1_rel {v : Value} {d : AV} (h : abs1 v = some d) : d.one = true ∧ VR ι Z w d v := by
  unfold abs1 at h
  split at h
  · cases h; exact ⟨rfl, .nils none 0 .full (fun _ => rfl) (.inr ⟨rfl, rfl⟩)⟩
  · rename_i f fs cs
    split at h
    · rename_i hs
      cases h
      refine ⟨rfl, .fn f [] [] fs cs (by simp [hs.1]) (by simp [hs.2]) (fun i d u hd => by simp at hd) (fun i d u hd => by simp at hd)⟩
    · cases h
  · split at h
    · rename_i hs; cases h; exact ⟨rfl, .lit v hs⟩
    · cases h

theorem abs2_rel {v : Value} {d : AV} (h : abs2 v = some d) : d.notTup = true ∧ VR ι Z w d v := by
  unfold abs2 at h
  split at h
  · rename_i cs
    rw [Option.map_eq_some_iff] at h
    obtain ⟨l, h1, rfl⟩ := h
    have hl := omap_len h1
    refine ⟨rfl, .agg l cs (by simpa using hl) (fun i d hd => ?_) (fun i d u hd hu => ?_)⟩
    · obtain ⟨a, _, ha⟩ := omap_get h1 i d hd
      exact (abs1_rel (ι := ι) (Z := Z) (w := w) ha).1
    · obtain ⟨a, ha1, ha⟩ := omap_get h1 i d hd
      have : a = u := by rw [Array.getElem?_toList] at ha1; rw [hu] at ha1; exact (Option.some.inj ha1).symm
      subst this
      exact (abs1_rel ha).2
  · have := abs1_rel (ι := ι) (Z := Z) (w := w) h
    refine ⟨?_, this.2⟩
    have h1 := this.1
    cases d <;> simp_all [AV.notTup, AV.one]

theorem absV_rel {v : Value} {d : AV} (h : absV v = some d) : VR ι Z w d v := by
  unfold absV at h
  split at h
  · rename_i cs
    rw [Option.map_eq_some_iff] at h
    obtain ⟨l, h1, rfl⟩ := h
    have hl := omap_len h1
    refine .tup l cs (by simpa using hl) (fun i d u hd hu => ?_)
    obtain ⟨a, ha1, ha⟩ := omap_get h1 i d hd
    have : a = u := by rw [Array.getElem?_toList] at ha1; rw [hu] at ha1; exact (Option.some.inj ha1).symm
    subst this
    exact (abs2_rel ha).2
  · rename_i t v
    rw [Option.map_eq_some_iff] at h
    obtain ⟨l, h1, rfl⟩ := h
    exact .ifc t l v (abs2_rel h1).2
  · exact (abs2_rel h).2

theorem lit_eq {d : AV} {u v : Value} (h : VR ι Z w d u) (hc : lit? d = some v) : u = v := by
  cases h <;> simp [lit?] at hc
  exact hc

theorem arr_ext {cs : Array Value} {l : List Value} (hl : l.length = cs.size) (h : ∀ (i : Nat) (u v : Value), cs[i]? = some u → l[i]? = some v → u = v) : cs = l.toArray := by
  apply Array.ext
  · simp [hl]
  · intro i h1 h2
    simp
    exact h i _ _ (Array.getElem?_eq_getElem h1) (List.getElem?_eq_getElem (by simpa using h2))

theorem conc2_eq {d : AV} {u v : Value} (h : VR ι Z w d u) (hc : conc2 d = some v) : u = v := by
  cases h with
  | lit v h => simpa [conc2] using hc
  | agg ds cs h1 h2 h3 =>
    simp only [conc2, Option.map_eq_some_iff] at hc
    obtain ⟨l, h4, rfl⟩ := hc
    congr 1
    refine arr_ext (by rw [omap_len h4, h1]) fun i u v hu hv => ?_
    obtain ⟨a, ha1, ha⟩ := omap_get h4 i v hv
    exact lit_eq (h3 i a u ha1 hu) ha
  | _ => simp [conc2] at hc

theorem conc_eq {d : AV} {u v : Value} (h : VR ι Z w d u) (hc : conc d = some v) : u = v := by
  cases h with
  | tup ds cs h1 h3 =>
    simp only [conc, Option.map_eq_some_iff] at hc
    obtain ⟨l, h4, rfl⟩ := hc
    congr 1
    refine arr_ext (by rw [omap_len h4, h1]) fun i u v hu hv => ?_
    obtain ⟨a, ha1, ha⟩ := omap_get h4 i v hv
    exact conc2_eq (h3 i a u ha1 hu) ha
  | ifc t d u h1 =>
    simp only [conc, Option.map_eq_some_iff] at hc
    obtain ⟨l, h4, rfl⟩ := hc
    rw [conc2_eq h1 h4]
  | lit v h => simpa [conc, conc2] using hc
  | agg ds cs h1 h2 h3 => exact conc2_eq (.agg ds cs h1 h2 h3) hc
  | _ => simp [conc, conc2] at hc

/-- rows of cells -/
def CR (ι : List Nat) (Z : Nat → Nat → Prop) (w : World) (cs : List AV) (c : List Value) : Prop := cs.length = c.length ∧ ∀ (j : Nat) (d : AV) (u : Value), cs[j]? = some d → c[j]? = some u → d.one = true ∧ VR ι Z w d u

theorem CR.evo {ι' : List Nat} {Z' : Nat → Nat → Prop} {w' : World} (e : Evo ι Z w ι' Z' w') {cs : List AV} {c : List Value} (h : CR ι Z w cs c) : CR ι' Z' w' cs c := ⟨h.1, fun j d u hd hu => ⟨(h.2 j d u hd hu).1, (h.2 j d u hd hu).2.evo e⟩⟩
theorem CR.drop {cs : List AV} {c : List Value} (h : CR ι Z w cs c) (n : Nat) : CR ι Z w (cs.drop n) (c.drop n) := ⟨by simp [h.1], fun j d u hd hu => h.2 (n + j) d u (by simpa using hd) (by simpa using hu)⟩
theorem CR.take {cs : List AV} {c : List Value} (h : CR ι Z w cs c) (n : Nat) : CR ι Z w (cs.take n) (c.take n) :=
  ⟨by simp [h.1], fun j d u hd hu => by
    rw [List.getElem?_take] at hd hu
    split at hd
    · rename_i hlt
      rw [if_pos hlt] at hu
      exact h.2 j d u hd hu
    · cases hd⟩
theorem CR.append {cs ds : List AV} {c e : List Value} (h : CR ι Z w cs c) (g : CR ι Z w ds e) : CR ι Z w (cs ++ ds) (c ++ e) :=
  ⟨by simp [h.1, g.1], fun j d u hd hu => by
    rcases Nat.lt_or_ge j cs.length with hl | hl
    · rw [List.getElem?_append_left hl] at hd
      rw [List.getElem?_append_left (by rw [← h.1]; exact hl)] at hu
      exact h.2 j d u hd hu
    · rw [List.getElem?_append_right hl] at hd
      rw [List.getElem?_append_right (by rw [← h.1]; exact hl), ← h.1] at hu
      exact g.2 _ d u hd hu⟩
theorem CR.set {cs : List AV} {c : List Value} (h : CR ι Z w cs c) (i : Nat) {d : AV} {u : Value} (h1 : d.one = true) (h2 : VR ι Z w d u) : CR ι Z w (cs.set i d) (c.set i u) :=
  ⟨by simp [h.1], fun j x y hx hy => by
    by_cases e : i = j
    · subst e
      have hl : i < cs.length := by have := (List.getElem?_eq_some_iff.1 hx).1; simpa using this
      rw [List.getElem?_set_self hl] at hx
      rw [List.getElem?_set_self (by rw [← h.1]; exact hl)] at hy
      cases hx; cases hy; exact ⟨h1, h2⟩
    · rw [List.getElem?_set_ne e] at hx hy
      exact h.2 j x y hx hy⟩
theorem CR.at {cs : List AV} {c : List Value} (h : CR ι Z w cs c) {j : Nat} {d : AV} (hd : cs[j]? = some d) : ∃ u, c[j]? = some u ∧ d.one = true ∧ VR ι Z w d u := by
  have hl : j < c.length := by rw [← h.1]; exact (List.getElem?_eq_some_iff.1 hd).1
  exact ⟨_, List.getElem?_eq_getElem hl, h.2 j d _ hd (List.getElem?_eq_getElem hl)⟩
theorem CR.nil : CR ι Z w [] [] := ⟨rfl, fun j d u h => by simp at h⟩
theorem CR.agg {cs : List AV} {c : List Value} (h : CR ι Z w cs c) : VR ι Z w (.agg cs) (.agg c.toArray) :=
  .agg cs _ (by simpa using h.1) (fun i d hd => by obtain ⟨u, _, h1, _⟩ := h.at hd; exact h1) (fun i d u hd hu => (h.2 i d u hd (by simpa using hu)).2)

theorem VR.oneCell {d : AV} {u : Value} (h : VR ι Z w d u) (h1 : d.one = true) : u.oneCell' = true := by
  cases h with
  | lit _ hv => cases u <;> simp_all [scal, Value.oneCell']
  | agg ds cs => simp [AV.one] at h1
  | tup ds cs => simp [AV.one] at h1
  | _ => rfl

theorem CR.oneCell {cs : List AV} {c : List Value} (h : CR ι Z w cs c) : ∀ u ∈ c, u.oneCell' = true := by
  intro u hu
  obtain ⟨j, hj, rfl⟩ := List.mem_iff_getElem.1 hu
  have hl : j < cs.length := by rw [h.1]; exact hj
  have := h.2 j _ _ (List.getElem?_eq_getElem hl) (List.getElem?_eq_getElem hj)
  exact this.2.oneCell this.1

theorem VR.cells {d : AV} {u : Value} (h : VR ι Z w d u) (ht : d.notTup = true) : CR ι Z w d.cells u.cells.toList := by
  have one : ∀ {d : AV} {u : Value}, VR ι Z w d u → d.one = true → CR ι Z w [d] [u] := fun {d u} h h1 =>
    ⟨rfl, fun j x y hx hy => by
      cases j with
      | zero => simp at hx hy; subst hx; subst hy; exact ⟨h1, h⟩
      | succ j => simp at hx⟩
  cases h with
  | lit _ hv =>
    have e : (Value.cells u).toList = [u] := by cases u <;> first | rfl | simp [scal] at hv
    rw [e]; exact one (.lit u hv) rfl
  | agg ds cs h1 h2 h3 => exact ⟨by simpa [AV.cells, Value.cells] using h1, fun j d u hd hu => ⟨h2 j d hd, h3 j d u hd (by simpa [Value.cells] using hu)⟩⟩
  | tup ds cs => simp [AV.notTup] at ht
  | ptr id off b h => exact one (.ptr id off b h) rfl
  | eptr row off b o U h h' => exact one (.eptr row off b o U h h') rfl
  | nils a c tok h g => exact one (.nils a c tok h g) rfl
  | frs t k c b h1 h2 h3 => exact one (.frs t k c b h1 h2 h3) rfl
  | sl b o n c k es tok U h1 h2 h3 h4 h5 h6 h7 h8 => exact one (.sl b o n c k es tok U h1 h2 h3 h4 h5 h6 h7 h8) rfl
  | asl id off n k c b h1 h2 h3 h4 => exact one (.asl id off n k c b h1 h2 h3 h4) rfl
  | fn f first cap fs cs h1 h2 h3 h4 => exact one (.fn f first cap fs cs h1 h2 h3 h4) rfl
  | ifc t d u h => exact one (.ifc t d u h) rfl

end

variable {P : Program}

theorem szOf_info {t : TypeId} {n : Nat} (h : szOf P t = some n) : ∃ i, P.info? t = some i ∧ i.size = n := by
  unfold szOf at h; rw [Option.map_eq_some_iff] at h; exact h

theorem run_szOf {t : TypeId} {n : Nat} (h : szOf P t = some n) (w : World) : (sizeOf t).run P w = .ok n w := by
  obtain ⟨i, h1, h2⟩ := szOf_info h
  simp [sizeOf, typeInfo, h1, h2]

theorem run_aggT {t : TypeId} {b : Bool} (h : aggT P t = some b) (w : World) : (isAgg t).run P w = .ok b w := by
  unfold aggT at h; rw [Option.map_eq_some_iff] at h
  obtain ⟨d, h1, h2⟩ := h
  unfold isAgg
  rw [Sem.run_bind, run_underlying h1]
  cases d <;> simp_all

theorem aggT_row {t : TypeId} (h : aggT P t = some true) : ∃ d, P.underlying t = some d ∧ d.isRow = true := by
  unfold aggT at h; rw [Option.map_eq_some_iff] at h
  obtain ⟨d, h1, h2⟩ := h
  exact ⟨d, h1, by cases d <;> simp_all⟩

section
variable {ι : List Nat} {Z : Nat → Nat → Prop} {w : World}

/-- a part of a struct's value -/
theorem part_rel {t : TypeId} {cs : List AV} {c : Array Value} {off : Nat} {d : AV} (h : CR ι Z w cs c.toList) (hp : partA P t cs off = some d) : ∃ u, (part t c off).run P w = .ok u w ∧ VR ι Z w d u ∧ d.notTup = true := by
  unfold partA at hp
  split at hp
  · rename_i n h1 h2
    split at hp
    · rename_i hl
      cases hp
      refine ⟨.agg (c.extract off (off + n)), ?_, ?_, rfl⟩
      · simp [part, run_aggT h1, run_szOf h2]
      · have := ((h.drop off).take n).agg
        rw [show c.extract off (off + n) = ((c.toList.drop off).take n).toArray from ?_]
        · exact this
        · apply Array.toList_inj.1; simp [List.take_drop]
    · cases hp
  · rename_i n h1 h2
    obtain ⟨u, hu, h3, h4⟩ := h.at hp
    refine ⟨u, ?_, h4, ?_⟩
    · have hu' : c[off]? = some u := by simpa using hu
      simp [part, run_aggT h1, hu']
    · cases d <;> simp_all [AV.one, AV.notTup]
  · cases hp

/-- a variable's value, read -/
theorem load_rel {t : TypeId} {cs : List AV} {b o off : Nat} {c : List Value} {d : AV} (h : CR ι Z w cs c) (hc : ∀ (j : Nat) (u : Value), c[j]? = some u → w.cell? ⟨b, o + j, none⟩ = some u) (hp : partA P t cs off = some d) :
    ∃ u, (loadVar t ⟨b, o + off, none⟩).run P w = .ok u w ∧ VR ι Z w d u ∧ d.notTup = true := by
  unfold partA at hp
  split at hp
  · rename_i n h1 h2
    split at hp
    · rename_i hl
      cases hp
      obtain ⟨dd, hu, hr⟩ := aggT_row h1
      obtain ⟨i, hi, hs⟩ := szOf_info h2
      have hlen : ((c.drop off).take n).length = n := by have := h.1; simp; omega
      refine ⟨_, run_loadVar_mid w b (o + off) t ((c.drop off).take n) dd (fun j v hv => ?_) hu hr (by simp [hi, hs]; have := h.1; omega), ((h.drop off).take n).agg, rfl⟩
      rw [List.getElem?_take] at hv
      split at hv
      · rw [List.getElem?_drop] at hv
        rw [Nat.add_assoc]; exact hc _ _ hv
      · cases hv
    · cases hp
  · rename_i n h1 h2
    obtain ⟨u, hu, h3, h4⟩ := h.at hp
    refine ⟨u, ?_, h4, by cases d <;> simp_all [AV.one, AV.notTup]⟩
    have hcell := hc off u hu
    simp [loadVar, run_aggT h1, load, Sem.run, hcell]
  · cases hp

end
end Go.Proofs.YtcjjmejmpdhikaaGreatDoor
