/-
 EV: THE OPERATIONS: what the evaluator tells is what the model's operation does.
-/
import Derived.Test.YtmmgjaheffbpaaaGreatDoorEvRelQ
import Derived.Deep.MidRow
import Derived.ChangeKeysEq
import Derived.Laws.Tables
import Derived.Great.BuildSlice
import Derived.Laws.Slices
namespace Go.Proofs.YtmmgjaheffbpaaaGreatDoor
set_option linter.unusedSimpArgs false
set_option linter.unusedVariables false
set_option linter.unusedSectionVars false
section
open Go.RowKit
section
variable {ι : List Nat} {Z : Nat → Nat → Prop} {w : World}
theorem abs1_rel {v : Value} {d : AV} (h : abs1 v = some d) : d.one = true ∧ VR ι Z w d v := by
 unfold abs1 at h
 split at h
 · cases h; exact ⟨rfl, .nils none 0 .full (fun _ => rfl) (.inr ⟨rfl, rfl⟩)⟩
 · rename_i f fs cs
   split at h
   · rename_i hs
     cases h
     refine ⟨rfl, .fn f [] [] fs cs (by simp [hs.1]) (by simp [hs.2]) (fun i d u hd => by simp at hd) (fun i d u hd => by simp at hd)⟩
   · cases h
 · split at h
   · rename_i hs; cases h; exact ⟨rfl, .lit v hs⟩
   · cases h
theorem abs2_rel {v : Value} {d : AV} (h : abs2 v = some d) : d.notTup = true ∧ VR ι Z w d v := by
 unfold abs2 at h
 split at h
 · rename_i cs
   rw [Option.map_eq_some_iff] at h
   obtain ⟨l, h1, rfl⟩ := h
   have hl := omap_len h1
   refine ⟨rfl, .agg l cs (by simpa using hl) (fun i d hd => ?_) (fun i d u hd hu => ?_)⟩
   · obtain ⟨a, _, ha⟩ := omap_get h1 i d hd
     exact (abs1_rel (ι := ι) (Z := Z) (w := w) ha).1
   · obtain ⟨a, ha1, ha⟩ := omap_get h1 i d hd
     have : a = u := by rw [Array.getElem?_toList] at ha1; rw [hu] at ha1; exact (Option.some.inj ha1).symm
     subst this
     exact (abs1_rel ha).2
 · have := abs1_rel (ι := ι) (Z := Z) (w := w) h
   refine ⟨?_, this.2⟩
   have h1 := this.1
   cases d <;> simp_all [AV.notTup, AV.one]
theorem absV_rel {v : Value} {d : AV} (h : absV v = some d) : VR ι Z w d v := by
 unfold absV at h
 split at h
 · rename_i cs
   rw [Option.map_eq_some_iff] at h
   obtain ⟨l, h1, rfl⟩ := h
   have hl := omap_len h1
   refine .tup l cs (by simpa using hl) (fun i d u hd hu => ?_)
   obtain ⟨a, ha1, ha⟩ := omap_get h1 i d hd
   have : a = u := by rw [Array.getElem?_toList] at ha1; rw [hu] at ha1; exact (Option.some.inj ha1).symm
   subst this
   exact (abs2_rel ha).2
 · rename_i t v
   rw [Option.map_eq_some_iff] at h
   obtain ⟨l, h1, rfl⟩ := h
   exact .ifc t l v (abs2_rel h1).2
 · exact (abs2_rel h).2
theorem lit_eq {d : AV} {u v : Value} (h : VR ι Z w d u) (hc : lit? d = some v) : u = v := by
 cases h <;> simp [lit?] at hc
 exact hc
theorem arr_ext {cs : Array Value} {l : List Value} (hl : l.length = cs.size) (h : ∀ (i : Nat) (u v : Value), cs[i]? = some u → l[i]? = some v → u = v) : cs = l.toArray := by
 apply Array.ext
 · simp [hl]
 · intro i h1 h2
   simp
   exact h i _ _ (Array.getElem?_eq_getElem h1) (List.getElem?_eq_getElem (by simpa using h2))
theorem conc2_eq {d : AV} {u v : Value} (h : VR ι Z w d u) (hc : conc2 d = some v) : u = v := by
 cases h with
 | lit v h => simpa [conc2] using hc
 | agg ds cs h1 h2 h3 =>
  simp only [conc2, Option.map_eq_some_iff] at hc
  obtain ⟨l, h4, rfl⟩ := hc
  congr 1
  refine arr_ext (by rw [omap_len h4, h1]) fun i u v hu hv => ?_
  obtain ⟨a, ha1, ha⟩ := omap_get h4 i v hv
  exact lit_eq (h3 i a u ha1 hu) ha
 | _ => simp [conc2] at hc
theorem conc_eq {d : AV} {u v : Value} (h : VR ι Z w d u) (hc : conc d = some v) : u = v := by
 cases h with
 | tup ds cs h1 h3 =>
  simp only [conc, Option.map_eq_some_iff] at hc
  obtain ⟨l, h4, rfl⟩ := hc
  congr 1
  refine arr_ext (by rw [omap_len h4, h1]) fun i u v hu hv => ?_
  obtain ⟨a, ha1, ha⟩ := omap_get h4 i v hv
  exact conc2_eq (h3 i a u ha1 hu) ha
 | ifc t d u h1 =>
  simp only [conc, Option.map_eq_some_iff] at hc
  obtain ⟨l, h4, rfl⟩ := hc
  rw [conc2_eq h1 h4]
 | lit v h => simpa [conc, conc2] using hc
 | agg ds cs h1 h2 h3 => exact conc2_eq (.agg ds cs h1 h2 h3) hc
 | _ => simp [conc, conc2] at hc
def CR (ι : List Nat) (Z : Nat → Nat → Prop) (w : World) (cs : List AV) (c : List Value) : Prop := cs.length = c.length ∧ ∀ (j : Nat) (d : AV) (u : Value), cs[j]? = some d → c[j]? = some u → d.one = true ∧ VR ι Z w d u
theorem CR.evo {ι' : List Nat} {Z' : Nat → Nat → Prop} {w' : World} (e : Evo ι Z w ι' Z' w') {cs : List AV} {c : List Value} (h : CR ι Z w cs c) : CR ι' Z' w' cs c := ⟨h.1, fun j d u hd hu => ⟨(h.2 j d u hd hu).1, (h.2 j d u hd hu).2.evo e⟩⟩
theorem CR.drop {cs : List AV} {c : List Value} (h : CR ι Z w cs c) (n : Nat) : CR ι Z w (cs.drop n) (c.drop n) := ⟨by simp [h.1], fun j d u hd hu => h.2 (n + j) d u (by simpa using hd) (by simpa using hu)⟩
theorem CR.take {cs : List AV} {c : List Value} (h : CR ι Z w cs c) (n : Nat) : CR ι Z w (cs.take n) (c.take n) :=
 ⟨by simp [h.1], fun j d u hd hu => by
  rw [List.getElem?_take] at hd hu
  split at hd
  · rename_i hlt
    rw [if_pos hlt] at hu
    exact h.2 j d u hd hu
  · cases hd⟩
theorem CR.append {cs ds : List AV} {c e : List Value} (h : CR ι Z w cs c) (g : CR ι Z w ds e) : CR ι Z w (cs ++ ds) (c ++ e) :=
 ⟨by simp [h.1, g.1], fun j d u hd hu => by
  rcases Nat.lt_or_ge j cs.length with hl | hl
  · rw [List.getElem?_append_left hl] at hd
    rw [List.getElem?_append_left (by rw [← h.1]; exact hl)] at hu
    exact h.2 j d u hd hu
  · rw [List.getElem?_append_right hl] at hd
    rw [List.getElem?_append_right (by rw [← h.1]; exact hl), ← h.1] at hu
    exact g.2 _ d u hd hu⟩
theorem CR.set {cs : List AV} {c : List Value} (h : CR ι Z w cs c) (i : Nat) {d : AV} {u : Value} (h1 : d.one = true) (h2 : VR ι Z w d u) : CR ι Z w (cs.set i d) (c.set i u) :=
 ⟨by simp [h.1], fun j x y hx hy => by
  by_cases e : i = j
  · subst e
    have hl : i < cs.length := by have := (List.getElem?_eq_some_iff.1 hx).1; simpa using this
    rw [List.getElem?_set_self hl] at hx
    rw [List.getElem?_set_self (by rw [← h.1]; exact hl)] at hy
    cases hx; cases hy; exact ⟨h1, h2⟩
  · rw [List.getElem?_set_ne e] at hx hy
    exact h.2 j x y hx hy⟩
theorem CR.at {cs : List AV} {c : List Value} (h : CR ι Z w cs c) {j : Nat} {d : AV} (hd : cs[j]? = some d) : ∃ u, c[j]? = some u ∧ d.one = true ∧ VR ι Z w d u := by
 have hl : j < c.length := by rw [← h.1]; exact (List.getElem?_eq_some_iff.1 hd).1
 exact ⟨_, List.getElem?_eq_getElem hl, h.2 j d _ hd (List.getElem?_eq_getElem hl)⟩
theorem CR.nil : CR ι Z w [] [] := ⟨rfl, fun j d u h => by simp at h⟩
theorem CR.agg {cs : List AV} {c : List Value} (h : CR ι Z w cs c) : VR ι Z w (.agg cs) (.agg c.toArray) :=
 .agg cs _ (by simpa using h.1) (fun i d hd => by obtain ⟨u, _, h1, _⟩ := h.at hd; exact h1) (fun i d u hd hu => (h.2 i d u hd (by simpa using hu)).2)
theorem VR.oneCell {d : AV} {u : Value} (h : VR ι Z w d u) (h1 : d.one = true) : u.oneCell' = true := by
 cases h with
 | lit _ hv => cases u <;> simp_all [scal, Value.oneCell']
 | agg ds cs => simp [AV.one] at h1
 | tup ds cs => simp [AV.one] at h1
 | _ => rfl
theorem CR.oneCell {cs : List AV} {c : List Value} (h : CR ι Z w cs c) : ∀ u ∈ c, u.oneCell' = true := by
 intro u hu
 obtain ⟨j, hj, rfl⟩ := List.mem_iff_getElem.1 hu
 have hl : j < cs.length := by rw [h.1]; exact hj
 have := h.2 j _ _ (List.getElem?_eq_getElem hl) (List.getElem?_eq_getElem hj)
 exact this.2.oneCell this.1
theorem VR.cells {d : AV} {u : Value} (h : VR ι Z w d u) (ht : d.notTup = true) : CR ι Z w d.cells u.cells.toList := by
 have one : ∀ {d : AV} {u : Value}, VR ι Z w d u → d.one = true → CR ι Z w [d] [u] := fun {d u} h h1 =>
  ⟨rfl, fun j x y hx hy => by
   cases j with
   | zero => simp at hx hy; subst hx; subst hy; exact ⟨h1, h⟩
   | succ j => simp at hx⟩
 cases h with
 | lit _ hv =>
  have e : (Value.cells u).toList = [u] := by cases u <;> first | rfl | simp [scal] at hv
  rw [e]; exact one (.lit u hv) rfl
 | agg ds cs h1 h2 h3 => exact ⟨by simpa [AV.cells, Value.cells] using h1, fun j d u hd hu => ⟨h2 j d hd, h3 j d u hd (by simpa [Value.cells] using hu)⟩⟩
 | tup ds cs => simp [AV.notTup] at ht
 | ptr id off b h => exact one (.ptr id off b h) rfl
 | eptr row off b o U h h' => exact one (.eptr row off b o U h h') rfl
 | nils a c tok h g => exact one (.nils a c tok h g) rfl
 | frs t k c b h1 h2 h3 => exact one (.frs t k c b h1 h2 h3) rfl
 | sl b o n c k es tok U h1 h2 h3 h4 h5 h6 h7 h8 => exact one (.sl b o n c k es tok U h1 h2 h3 h4 h5 h6 h7 h8) rfl
 | asl id off n k c b h1 h2 h3 h4 => exact one (.asl id off n k c b h1 h2 h3 h4) rfl
 | mp id b h => exact one (.mp id b h) rfl
 | fn f first cap fs cs h1 h2 h3 h4 => exact one (.fn f first cap fs cs h1 h2 h3 h4) rfl
 | ifc t d u h => exact one (.ifc t d u h) rfl
 | rsl b o c k es g U h2 h3 h4 h5 h6 h7 => exact one (.rsl b o c k es g U h2 h3 h4 h5 h6 h7) rfl
end
variable {P : Program}
theorem szOf_info {t : TypeId} {n : Nat} (h : szOf P t = some n) : ∃ i, P.info? t = some i ∧ i.size = n := by
 unfold szOf at h; rw [Option.map_eq_some_iff] at h; exact h
theorem run_szOf {t : TypeId} {n : Nat} (h : szOf P t = some n) (w : World) : (sizeOf t).run P w = .ok n w := by
 obtain ⟨i, h1, h2⟩ := szOf_info h
 simp [sizeOf, typeInfo, h1, h2]
theorem run_aggT {t : TypeId} {b : Bool} (h : aggT P t = some b) (w : World) : (isAgg t).run P w = .ok b w := by
 unfold aggT at h; rw [Option.map_eq_some_iff] at h
 obtain ⟨d, h1, h2⟩ := h
 unfold isAgg
 rw [Sem.run_bind, run_underlying h1]
 cases d <;> simp_all
theorem aggT_row {t : TypeId} (h : aggT P t = some true) : ∃ d, P.underlying t = some d ∧ d.isRow = true := by
 unfold aggT at h; rw [Option.map_eq_some_iff] at h
 obtain ⟨d, h1, h2⟩ := h
 exact ⟨d, h1, by cases d <;> simp_all⟩
section
variable {ι : List Nat} {Z : Nat → Nat → Prop} {w : World}
theorem part_rel {t : TypeId} {cs : List AV} {c : Array Value} {off : Nat} {d : AV} (h : CR ι Z w cs c.toList) (hp : partA P t cs off = some d) : ∃ u, (part t c off).run P w = .ok u w ∧ VR ι Z w d u ∧ d.notTup = true := by
 unfold partA at hp
 split at hp
 · rename_i n h1 h2
   split at hp
   · rename_i hl
     cases hp
     refine ⟨.agg (c.extract off (off + n)), ?_, ?_, rfl⟩
     · simp [part, run_aggT h1, run_szOf h2]
     · have := ((h.drop off).take n).agg
       rw [show c.extract off (off + n) = ((c.toList.drop off).take n).toArray from ?_]
       · exact this
       · apply Array.toList_inj.1; simp [List.take_drop]
   · cases hp
 · rename_i n h1 h2
   obtain ⟨u, hu, h3, h4⟩ := h.at hp
   refine ⟨u, ?_, h4, ?_⟩
   · have hu' : c[off]? = some u := by simpa using hu
     simp [part, run_aggT h1, hu']
   · cases d <;> simp_all [AV.one, AV.notTup]
 · cases hp
theorem load_rel {t : TypeId} {cs : List AV} {b o off : Nat} {c : List Value} {d : AV} (h : CR ι Z w cs c) (hc : ∀ (j : Nat) (u : Value), c[j]? = some u → w.cell? ⟨b, o + j, none⟩ = some u) (hp : partA P t cs off = some d) :
    ∃ u, (loadVar t ⟨b, o + off, none⟩).run P w = .ok u w ∧ VR ι Z w d u ∧ d.notTup = true := by
 unfold partA at hp
 split at hp
 · rename_i n h1 h2
   split at hp
   · rename_i hl
     cases hp
     obtain ⟨dd, hu, hr⟩ := aggT_row h1
     obtain ⟨i, hi, hs⟩ := szOf_info h2
     have hlen : ((c.drop off).take n).length = n := by have := h.1; simp; omega
     refine ⟨_, run_loadVar_mid w b (o + off) t ((c.drop off).take n) dd (fun j v hv => ?_) hu hr (by simp [hi, hs]; have := h.1; omega), ((h.drop off).take n).agg, rfl⟩
     rw [List.getElem?_take] at hv
     split at hv
     · rw [List.getElem?_drop] at hv
       rw [Nat.add_assoc]; exact hc _ _ hv
     · cases hv
   · cases hp
 · rename_i n h1 h2
   obtain ⟨u, hu, h3, h4⟩ := h.at hp
   refine ⟨u, ?_, h4, by cases d <;> simp_all [AV.one, AV.notTup]⟩
   have hcell := hc off u hu
   simp [loadVar, run_aggT h1, load, Sem.run, hcell]
 · cases hp
end
end
section
open Go.RowKit
def StepR (P : Program) (ι : List Nat) (Z : Nat → Nat → Prop) (w : World) (r : Operand → Value) (o : Oper) : AStep → Prop
 | .val d σ' _ => ∃ u w' ι' Z', (execOp r o).run P w = .ok (.value u) w' ∧ Evo ι Z w ι' Z' w' ∧ Match σ' ι' Z' w' ∧ VR ι' Z' w' d u
 | .skip σ' _ => ∃ w' ι' Z', (execOp r o).run P w = .ok .skip w' ∧ Evo ι Z w ι' Z' w' ∧ Match σ' ι' Z' w'
 | .pan d => ∃ u, (execOp r o).run P w = .halt (.panic u) w ∧ VR ι Z w d u
 | .enter f args => ∃ us, (execOp r o).run P w = (callFunc f us).run P w ∧ args.length = us.size ∧ ∀ (i : Nat) (d : AV) (u : Value), args[i]? = some d → us[i]? = some u → VR ι Z w d u
section
variable {P : Program} {ι : List Nat} {Z : Nat → Nat → Prop} {w : World} {r : Operand → Value} {ρ : Operand → Option AV} {σ : Sto}
theorem evLit_sound (hρ : ∀ x d, ρ x = some d → VR ι Z w d (r x)) (hM : Match σ ι Z w) {o : Oper} {s : AStep} (h : evLit P ρ σ o = some s) : StepR P ι Z w r o s := by
 unfold evLit at h
 split at h
 · cases h
 · rename_i hsel
   split at h
   · rename_i hall
     have hcongr : execOp (fun x => ((ρ x).bind conc).getD undef) o = execOp r o := by
      refine execOp_congr o (fun cs b e => hsel cs b e) fun x hx => ?_
      have := (Array.all_eq_true'.1 hall) x hx
      rw [Option.isSome_iff_exists] at this
      obtain ⟨v, hv⟩ := this
      simp only [hv, Option.getD_some]
      rw [Option.bind_eq_some_iff] at hv
      obtain ⟨d, h1, h2⟩ := hv
      exact (conc_eq (hρ x d h1) h2).symm
     rw [hcongr] at h
     split at h
     · rename_i u hu
       rw [Option.map_eq_some_iff] at h
       obtain ⟨d, h1, rfl⟩ := h
       exact ⟨u, w, ι, Z, pureRun_ok hu w, .refl _ _ _, hM, absV_rel h1⟩
     · rename_i v hv
       rw [Option.map_eq_some_iff] at h
       obtain ⟨d, h1, rfl⟩ := h
       exact ⟨v, pureRun_panic hv w, absV_rel h1⟩
     · cases h
   · cases h
def PureR (P : Program) (ι : List Nat) (Z : Nat → Nat → Prop) (w : World) (r : Operand → Value) (o : Oper) (d : AV) : Prop := ∃ u, (execOp r o).run P w = .ok (.value u) w ∧ VR ι Z w d u
theorem parts_rel (hρ : ∀ x d, ρ x = some d → VR ι Z w d (r x)) {ps : Array (Nat × Operand)} {l : List (Nat × AV)} (h : parts? ρ ps = some l) :
    l.length = ((ps.map fun (i, x) => (i, r x)).toList).length ∧ ∀ (j i : Nat) (d : AV), l[j]? = some (i, d) → ∃ u, ((ps.map fun (i, x) => (i, r x)).toList)[j]? = some (i, u) ∧ VR ι Z w d u := by
 unfold parts? at h
 refine ⟨by rw [omap_len h]; simp, fun j i d hd => ?_⟩
 obtain ⟨⟨i', x⟩, h1, h2⟩ := omap_get h j _ hd
 simp only [Option.map_eq_some_iff, Prod.mk.injEq] at h2
 obtain ⟨d', h3, rfl, rfl⟩ := h2
 refine ⟨r x, ?_, hρ x _ h3⟩
 rw [Array.toList_map, List.getElem?_map, h1]; rfl
theorem putCells_rel : ∀ {vs : List AV} {us : List Value} {cs : List AV} {c : List Value} {off : Nat}, CR ι Z w vs us → CR ι Z w cs c → CR ι Z w (putCells cs off vs) (us.zipIdx.foldl (fun cs (x : Value × Nat) => cs.set (off + x.2) x.1) c)
 | [], [], cs, c, off, h, g => g
 | v :: vs, [], cs, c, off, h, g => by have := h.1; simp at this
 | [], u :: us, cs, c, off, h, g => by have := h.1; simp at this
 | v :: vs, u :: us, cs, c, off, h, g => by
  have h0 := h.2 0 v u rfl rfl
  have h' : CR ι Z w vs us := ⟨by have := h.1; simpa using this, fun j d x hd hx => h.2 (j + 1) d x (by simpa using hd) (by simpa using hx)⟩
  have := putCells_rel (off := off + 1) h' (g.set off h0.1 h0.2)
  rw [putCells, List.zipIdx_cons, List.foldl_cons]
  rw [Nat.add_zero]
  have e : ∀ (us : List Value) (c : List Value) (n : Nat), List.foldl (fun cs (x : Value × Nat) => cs.set (off + x.2) x.1) c (us.zipIdx (n + 1)) = List.foldl (fun cs (x : Value × Nat) => cs.set (off + 1 + x.2) x.1) c (us.zipIdx n) := by
   intro us
   induction us with
   | nil => intro c n; rfl
   | cons u us ih =>
    intro c n
    rw [List.zipIdx_cons, List.zipIdx_cons, List.foldl_cons, List.foldl_cons, ih]
    simp only [Nat.add_assoc, Nat.add_comm 1 n]
  rw [Nat.zero_add, e us _ 0]
  exact this
theorem putCells_length : ∀ (vs cs : List AV) (off : Nat), (putCells cs off vs).length = cs.length
 | [], cs, off => rfl
 | v :: vs, cs, off => by rw [putCells, putCells_length vs]; simp
theorem foldl_arr (off : Nat) : ∀ (l : List (Value × Nat)) (c : Array Value), (l.foldl (fun cs (x : Value × Nat) => cs.setIfInBounds (off + x.2) x.1) c).toList = l.foldl (fun cs (x : Value × Nat) => cs.set (off + x.2) x.1) c.toList
 | [], c => rfl
 | x :: l, c => by rw [List.foldl_cons, List.foldl_cons, foldl_arr off l]; simp
theorem fill_rel {place : Nat → Option (Nat × Nat)} : ∀ {l : List (Nat × AV)} {ps : List (Nat × Value)} {cs out : List AV} {c : Array Value}, l.length = ps.length →
    (∀ (j i : Nat) (d : AV), l[j]? = some (i, d) → ∃ u, ps[j]? = some (i, u) ∧ VR ι Z w d u) → CR ι Z w cs c.toList → fillA place cs l = some out → ∃ out', Instr.fill place c ps = some out' ∧ CR ι Z w out out'.toList
 | [], [], cs, out, c, _, _, hc, h => by simp [fillA] at h; subst h; exact ⟨c, rfl, hc⟩
 | [], _ :: _, _, _, _, hl, _, _, _ => by simp at hl
 | _ :: _, [], _, _, _, hl, _, _, _ => by simp at hl
 | (i, d) :: l, (i', u) :: ps, cs, out, c, hl, hp, hc, h => by
  obtain ⟨u', hu, hv⟩ := hp 0 i d rfl
  simp at hu
  obtain ⟨rfl, rfl⟩ := hu
  rw [fillA] at h
  rw [Instr.fill]
  cases hpl : place i' with
  | none => rw [hpl] at h; cases h
  | some q =>
   obtain ⟨off, size⟩ := q
   rw [hpl] at h
   dsimp only at h ⊢
   split at h
   · cases h
   · rename_i hn
     simp only [not_or] at hn
     obtain ⟨hn1, hn2, hn3⟩ := hn
     have hcr := hv.cells (by simpa using hn3)
     have hsz : u.cells.size = d.cells.length := by simpa using hcr.1.symm
     have hcs : c.size = cs.length := by simpa using hc.1.symm
     rw [if_neg (by rw [hsz, hcs]; simp only [Bool.or_eq_true, decide_eq_true_eq, not_or]; exact ⟨hn1, by omega⟩)]
     refine fill_rel (by simpa using hl) (fun j i d hd => by simpa using hp (j + 1) i d (by simpa using hd)) ?_ h
     rw [← Array.foldl_toList, foldl_arr, Array.toList_zipIdx]
     exact putCells_rel hcr hc
theorem run_v {s : Sem Value} {u : Value} {w' : World} (h : s.run P w = .ok u w') : (do pure (Next.value (← s)) : Sem Next).run P w = .ok (.value u) w' := by
 rw [Sem.run_bind, h]; rfl
theorem omap_mapM {α β : Type} (f : α → Option β) : ∀ l : List α, omap f l = l.mapM f
 | [] => rfl
 | a :: l => by
  rw [omap, List.mapM_cons, omap_mapM f l]
  cases f a <;> cases l.mapM f <;> rfl
theorem arr_rel (hρ : ∀ x d, ρ x = some d → VR ι Z w d (r x)) {xs : Array Operand} {l : List AV} (h : omap ρ xs.toList = some l) : l.length = (xs.map r).size ∧ ∀ (i : Nat) (d : AV) (u : Value), l[i]? = some d → (xs.map r)[i]? = some u → VR ι Z w d u := by
 refine ⟨by rw [omap_len h]; simp, fun i d u hd hu => ?_⟩
 obtain ⟨x, h1, h2⟩ := omap_get h i d hd
 have : (xs.map r)[i]? = some (r x) := by rw [Array.getElem?_map]; rw [Array.getElem?_toList] at h1; rw [h1]; rfl
 rw [this] at hu
 cases hu
 exact hρ x d h2
theorem litInt_rel {d : AV} {u : Value} {n : Int} (h : VR ι Z w d u) (hl : litInt d = some n) : ∃ k, u = .int k n := by
 unfold litInt at hl
 split at hl
 · cases hl; cases h; exact ⟨_, rfl⟩
 · cases hl
theorem pure_move (hρ : ∀ x d, ρ x = some d → VR ι Z w d (r x)) {o : Oper} {x : Operand} {d : AV} (ho : o.op = .move x ∨ o.op = .assign x) (h : ρ x = some d) : PureR P ι Z w r o d :=
 ⟨r x, by unfold execOp; rcases ho with ho | ho <;> rw [ho] <;> rfl, hρ x d h⟩
theorem pure_pick (hρ : ∀ x d, ρ x = some d → VR ι Z w d (r x)) {o : Oper} {c a b : Operand} {t : Bool} {d : AV} (ho : o.op = .pick c a b) (hc : ρ c = some (.lit (.bool t))) (h : (if t then ρ a else ρ b) = some d) : PureR P ι Z w r o d := by
 have h1 := hρ c _ hc
 have h2 : r c = .bool t := by generalize r c = u at *; cases h1; rfl
 refine ⟨if t then r a else r b, ?_, ?_⟩
 · unfold execOp; rw [ho]; simp [asBool, h2]
 · cases t
   · exact hρ b d h
   · exact hρ a d h
theorem pure_build (hρ : ∀ x d, ρ x = some d → VR ι Z w d (r x)) {o : Oper} {t : TypeId} {ps : Array (Nat × Operand)} {z : Value} {fields : Array Field} {l : List (Nat × AV)} {d : AV} {places : List (Nat × Nat)} {cs : List AV}
    (ho : o.op = .build t ps) (hz : (P.info? t).bind (·.zero) = some z) (hu : P.underlying t = some (.struct fields)) (hl : parts? ρ ps = some l) (hd : abs2 z = some d) (hp : omap (fun (f : Field) => (szOf P f.type).map (f.offset, ·)) fields.toList = some places)
    (ht : d.notTup = true) (hf : fillA (places[·]?) d.cells l = some cs) : PureR P ι Z w r o (.agg cs) := by
 have h1 := parts_rel hρ hl
 have h2 := (abs2_rel (ι := ι) (Z := Z) (w := w) hd).2.cells ht
 obtain ⟨out, h3, h4⟩ := fill_rel h1.1 h1.2 h2 hf
 rw [Option.bind_eq_some_iff] at hz
 obtain ⟨it, hi, hz⟩ := hz
 rw [omap_mapM] at hp
 have hp' : fields.toList.mapM (fun f => (P.info? f.type).map fun i => (f.offset, i.size)) = some places := by
  rw [← hp]; congr 1; funext f; simp [szOf, Function.comp_def]
 refine ⟨.agg out, ?_, h4.agg⟩
 unfold execOp
 rw [ho]
 refine run_v (run_build w t _ out ?_)
 unfold Program.built
 simp only [hi, hu, hz, hp']
 simpa using h3
theorem pure_nilCheck (hρ : ∀ x d, ρ x = some d → VR ι Z w d (r x)) {o : Oper} {x : Operand} {d : AV} (ho : o.op = .nilCheck x) (h : ρ x = some d) (hd : (∃ i q, d = .ptr i q) ∨ (∃ i q, d = .eptr i q) ∨ ∃ f a b, d = .fn (.func f) a b) : PureR P ι Z w r o d := by
 have h1 := hρ x d h
 refine ⟨r x, ?_, h1⟩
 unfold execOp
 rw [ho]
 dsimp only
 generalize r x = u at h1 ⊢
 rcases hd with ⟨i, q, rfl⟩ | ⟨i, q, rfl⟩ | ⟨f, a, b, rfl⟩
 · cases h1; rfl
 · cases h1; rfl
 · cases h1; rfl
theorem pure_makeInterface (hρ : ∀ x d, ρ x = some d → VR ι Z w d (r x)) {o : Oper} {x : Operand} {t : TypeId} {d : AV} {td : TypeDesc} (ho : o.op = .makeInterface t x) (ht : P.underlying t = some td) (hn : ∀ m, td ≠ .interface m) (h : ρ x = some d) : PureR P ι Z w r o (.ifc t d) := by
 refine ⟨.iface t (r x), ?_, .ifc t d _ (hρ x d h)⟩
 unfold execOp
 rw [ho]
 refine run_v ?_
 unfold Instr.makeInterface
 rw [Sem.run_bind, run_underlying ht]
 cases td <;> first | rfl | exact absurd rfl (hn _)
theorem pure_makeFunc (hρ : ∀ x d, ρ x = some d → VR ι Z w d (r x)) {o : Oper} {f : Fn} {first cap : Array Operand} {a b : List AV} (ho : o.op = .makeFunc f first cap) (ha : omap ρ first.toList = some a) (hb : omap ρ cap.toList = some b) : PureR P ι Z w r o (.fn f a b) := by
 have h1 := arr_rel hρ ha
 have h2 := arr_rel hρ hb
 exact ⟨.func f (first.map r) (cap.map r), by unfold execOp; rw [ho]; rfl, .fn f a b _ _ h1.1 h2.1 h1.2 h2.2⟩
theorem pure_fieldAddr (hρ : ∀ x d, ρ x = some d → VR ι Z w d (r x)) {o : Oper} {x : Operand} {s f n : Nat} {fields : Array Field} {fd : Field} {d d' : AV} (ho : o.op = .fieldAddr s x f) (hs : P.underlying s = some (.struct fields)) (hf : fields[f]? = some fd) (hn : szOf P fd.type = some (n + 1))
    (h : ρ x = some d) (hd : (∃ i q, d = .ptr i q ∧ d' = .ptr i (q + fd.offset)) ∨ ∃ i q, d = .eptr i q ∧ d' = .eptr i (q + fd.offset)) : PureR P ι Z w r o d' := by
 have h1 := hρ x d h
 have key : ∀ (b q : Nat), r x = .pointer (some ⟨b, q, none⟩) → (execOp r o).run P w = .ok (.value (.pointer (some ⟨b, q + fd.offset, none⟩))) w := by
  intro b q e
  unfold execOp
  rw [ho]
  refine run_v ?_
  simp [Instr.fieldAt, run_underlying hs, hf, Instr.sureAddr, e, fieldPlace, run_szOf hn, Addr.add_lit]
 rcases hd with ⟨i, q, rfl, rfl⟩ | ⟨i, q, rfl, rfl⟩
 · generalize hx : r x = u at *
   cases h1 with
   | ptr id off b hb => exact ⟨_, key _ _ rfl, .ptr i _ b hb⟩
 · generalize hx : r x = u at *
   cases h1 with
   | eptr row off b q0 U h2 h3 => exact ⟨_, key _ _ rfl, by rw [Nat.add_assoc]; exact .eptr i _ b q0 U h2 h3⟩
theorem pure_field (hρ : ∀ x d, ρ x = some d → VR ι Z w d (r x)) {o : Oper} {x : Operand} {t f : Nat} {fields : Array Field} {fd : Field} {cs : List AV} {d : AV} (ho : o.op = .field t x f) (ht : P.underlying t = some (.struct fields)) (hf : fields[f]? = some fd) (hx : ρ x = some (.agg cs)) (hp : partA P fd.type cs fd.offset = some d) : PureR P ι Z w r o d := by
 have h1 := hρ x _ hx
 generalize hrx : r x = u at *
 cases h1 with
 | agg ds c h2 h3 h4 =>
  have hcr : CR ι Z w cs c.toList := ⟨by simpa using h2, fun j d u hd hu => ⟨h3 j d hd, h4 j d u hd (by simpa using hu)⟩⟩
  obtain ⟨u, hu, hv, _⟩ := part_rel (P := P) hcr hp
  refine ⟨u, ?_, hv⟩
  unfold execOp
  rw [ho]
  refine run_v ?_
  simp [Instr.field, run_underlying ht, hf, hrx, asAgg, hu]
theorem binL_run {op : BinOp} {a b c : Value} (h : binL op a b = some c) (t : TypeId) (w : World) : (binOp op t a b).run P w = .ok c w ∧ c.oneCell' = true ∧ scal c = true ∧ ∀ x y, (eqGuard op t x y a b).run P w = .ok () w := by
 unfold binL at h
 split at h
 · rename_i k m k' n
   split at h
   · rename_i hk
     subst hk
     have hg : ∀ x y, (eqGuard op t x y (.int k m) (.int k n)).run P w = .ok () w := by intro x y; cases op <;> simp [eqGuard]
     cases op
     case quo =>
      dsimp only at h
      split at h
      · cases h
      · rename_i hn; cases h; exact ⟨by simp [binOp, Op.intDiv, hn], rfl, rfl, hg⟩
     case rem =>
      dsimp only at h
      split at h
      · cases h
      · rename_i hn; cases h; exact ⟨by simp [binOp, Op.intDiv, hn], rfl, rfl, hg⟩
     case add => cases h; exact ⟨by simp [binOp, Op.intArith], rfl, rfl, hg⟩
     case sub => cases h; exact ⟨by simp [binOp, Op.intArith], rfl, rfl, hg⟩
     case mul => cases h; exact ⟨by simp [binOp, Op.intArith], rfl, rfl, hg⟩
     case eql => cases h; exact ⟨by simp [binOp, Op.intCmp], rfl, rfl, hg⟩
     case neq => cases h; exact ⟨by simp [binOp, Op.intCmp], rfl, rfl, hg⟩
     case lss => cases h; exact ⟨by simp [binOp, Op.intCmp], rfl, rfl, hg⟩
     case leq => cases h; exact ⟨by simp [binOp, Op.intCmp], rfl, rfl, hg⟩
     case gtr => cases h; exact ⟨by simp [binOp, Op.intCmp], rfl, rfl, hg⟩
     case geq => cases h; exact ⟨by simp [binOp, Op.intCmp], rfl, rfl, hg⟩
     all_goals cases h
   · cases h
 · rename_i s u
   have hg : ∀ x y, (eqGuard op t x y (.string s) (.string u)).run P w = .ok () w := by intro x y; cases op <;> simp [eqGuard]
   cases op
   case add =>
    dsimp only at h
    split at h
    · rename_i hs
      cases h
      have hs' : ¬ (IntKind.i64.max < ((s.size : Int) + (u.size : Int))) := by
       have : IntKind.i64.max = 9223372036854775807 := by decide
       omega
      exact ⟨by simp [binOp, Op.stringOp]; omega, rfl, rfl, hg⟩
    · cases h
   case eql => cases h; exact ⟨by simp [binOp, Op.stringOp], rfl, rfl, hg⟩
   case neq => cases h; exact ⟨by simp [binOp, Op.stringOp], rfl, rfl, hg⟩
   all_goals cases h
 · cases h
theorem pure_binOp (hρ : ∀ x d, ρ x = some d → VR ι Z w d (r x)) {o : Oper} {op : BinOp} {t u : TypeId} {x y : Operand} {a b c : Value} (ho : o.op = .binOp op t x y u) (hx : ρ x = some (.lit a)) (hy : ρ y = some (.lit b)) (h : binL op a b = some c) : PureR P ι Z w r o (.lit c) := by
 have e1 := conc_eq (v := a) (hρ x _ hx) rfl
 have e2 := conc_eq (v := b) (hρ y _ hy) rfl
 obtain ⟨h1, _, h3, h4⟩ := binL_run (P := P) h t w
 refine ⟨c, ?_, .lit _ h3⟩
 unfold execOp
 rw [ho]
 dsimp only
 rw [e1, e2]
 refine run_v ?_
 rw [Sem.run_bind, h4]
 exact h1
theorem pure_binBool (hρ : ∀ x d, ρ x = some d → VR ι Z w d (r x)) {o : Oper} {op : BinOp} {t u : TypeId} {x y : Operand} {a b c : Bool} (ho : o.op = .binOp op t x y u) (ht : P.underlying t = some .bool) (hx : ρ x = some (.lit (.bool a))) (hy : ρ y = some (.lit (.bool b))) (h : (op = .eql ∧ c = (a == b)) ∨ (op = .neq ∧ c = (a != b))) : PureR P ι Z w r o (.lit (.bool c)) := by
 have e1 := conc_eq (v := .bool a) (hρ x _ hx) rfl
 have e2 := conc_eq (v := .bool b) (hρ y _ hy) rfl
 have heq : ∀ d, (Op.equalIn (d + 1) t (.bool a) (.bool b)).run P w = .ok (a == b) w := fun d => by simp [Op.equalIn, run_underlying ht]
 refine ⟨.bool c, ?_, .lit _ rfl⟩
 unfold execOp
 rw [ho]
 dsimp only
 rw [e1, e2]
 refine run_v ?_
 rcases h with ⟨rfl, rfl⟩ | ⟨rfl, rfl⟩
 · have hg : (eqGuard .eql t x y (.bool a) (.bool b)).run P w = .ok () w := by simp [eqGuard]
   rw [Sem.run_bind, hg]
   simp [binOp, Op.equal, Op.maxDepth, heq 9999]
 · have hg : (eqGuard .neq t x y (.bool a) (.bool b)).run P w = .ok () w := by simp [eqGuard]
   rw [Sem.run_bind, hg]
   simp [binOp, Op.equal, Op.maxDepth, heq 9999]
   cases a <;> cases b <;> rfl
theorem pure_not (hρ : ∀ x d, ρ x = some d → VR ι Z w d (r x)) {o : Oper} {t : TypeId} {x : Operand} {b : Bool} (ho : o.op = .unOp .not t x) (hx : ρ x = some (.lit (.bool b))) : PureR P ι Z w r o (.lit (.bool !b)) := by
 have e1 := conc_eq (v := .bool b) (hρ x _ hx) rfl
 exact ⟨.bool !b, by unfold execOp; rw [ho]; simp [e1, Op.unary], .lit _ rfl⟩
theorem pure_index (hρ : ∀ x d, ρ x = some d → VR ι Z w d (r x)) {o : Oper} {t : TypeId} {x i : Operand} {s : ByteArray} {di : AV} {n : Int} {c : UInt8} (ho : o.op = .index t x i) (ht : P.underlying t = some .string) (hx : ρ x = some (.lit (.string s))) (hi : ρ i = some di) (hn : litInt di = some n) (h0 : 0 ≤ n) (hc : s[n.toNat]? = some c) : PureR P ι Z w r o (.lit (.int .u8 c.toNat)) := by
 have e1 := conc_eq (v := .string s) (hρ x _ hx) rfl
 obtain ⟨ki, hri⟩ := litInt_rel (hρ i _ hi) hn
 refine ⟨.int .u8 c.toNat, ?_, .lit _ rfl⟩
 unfold execOp
 rw [ho]
 refine run_v ?_
 simp [Instr.index, run_underlying ht, e1, hri, asIntOf, h0, hc]
theorem pure_lenS (hρ : ∀ x d, ρ x = some d → VR ι Z w d (r x)) {o : Oper} {x : Operand} {t : TypeId} {s : ByteArray} (ho : o.op = .call { callee := .builtin .len, args := #[x], argTypes := #[t] }) (ht : P.underlying t = some .string) (hx : ρ x = some (.lit (.string s))) :
    PureR P ι Z w r o (.lit (.int .i64 s.size)) := by
 have e1 := conc_eq (v := .string s) (hρ x _ hx) rfl
 refine ⟨.int .i64 s.size, ?_, .lit _ rfl⟩
 unfold execOp
 rw [ho]
 simp [resolve, invoke, builtin, Builtin.len_, run_underlying ht, e1, goInt]
theorem pure_extract (hρ : ∀ x d, ρ x = some d → VR ι Z w d (r x)) {o : Oper} {x : Operand} {i : Nat} {vs : List AV} {d : AV} (ho : o.op = .extract x i) (hx : ρ x = some (.tup vs)) (hd : vs[i]? = some d) : PureR P ι Z w r o d := by
 have h1 := hρ x _ hx
 generalize hrx : r x = u at *
 cases h1 with
 | tup ds c h2 h3 =>
  have hl : i < c.size := by rw [← h2]; exact (List.getElem?_eq_some_iff.1 hd).1
  refine ⟨c[i], ?_, h3 i d _ hd (Array.getElem?_eq_getElem hl)⟩
  unfold execOp
  rw [ho]
  refine run_v ?_
  simp [Instr.extract, hrx, hl]
theorem sl_row {es : List (List AV)} {tok : Tok} {u : Value} (h : VR ι Z w (.sl es tok) u) : ∃ a c, u = .slice a es.length c ∧ es.length ≤ c ∧ (a = none → es.length = 0 ∧ c = 0) := by
 cases h with
 | nils a c tok h1 h2 => exact ⟨a, c, rfl, Nat.zero_le _, fun e => ⟨rfl, h1 e⟩⟩
 | frs t k c b h1 h2 h3 => exact ⟨_, c, rfl, Nat.zero_le _, fun e => by cases e⟩
 | sl b o n c k es tok U h1 h2 h3 => subst h1; exact ⟨_, c, rfl, h3, fun e => by cases e⟩
theorem pure_len (hρ : ∀ x d, ρ x = some d → VR ι Z w d (r x)) {o : Oper} {x : Operand} {t e : TypeId} {es : List (List AV)} {tok : Tok} (ho : o.op = .call { callee := .builtin .len, args := #[x], argTypes := #[t] }) (ht : P.underlying t = some (.slice e)) (hx : ρ x = some (.sl es tok)) :
    PureR P ι Z w r o (.lit (.int .i64 es.length)) := by
 obtain ⟨a, c, hu, _, _⟩ := sl_row (hρ x _ hx)
 refine ⟨.int .i64 es.length, ?_, .lit _ rfl⟩
 unfold execOp
 rw [ho]
 simp [resolve, invoke, builtin, Builtin.len_, run_underlying ht, hu, goInt]
theorem pure_load (hρ : ∀ x d, ρ x = some d → VR ι Z w d (r x)) {o : Oper} {x : Operand} {t q : Nat} {row : List AV} {d : AV} (ho : o.op = .load t x) (hx : ρ x = some (.eptr row q)) (hp : partA P t row q = some d) : PureR P ι Z w r o d := by
 have h1 := hρ x _ hx
 generalize hrx : r x = u at *
 cases h1 with
 | eptr row off b o' U h2 h3 =>
  have hcr : CR ι Z w row ((List.range row.length).map U) := ⟨by simp, fun j d u hd hu => by
   have hl := (List.getElem?_eq_some_iff.1 hd).1
   rw [List.getElem?_map, List.getElem?_range hl] at hu
   cases hu
   exact ⟨(h2 j d hd).1, h3 j d hd⟩⟩
  obtain ⟨u, hu, hv, _⟩ := load_rel (P := P) (b := b) (o := o') hcr (fun j u hu => by
   have hl : j < row.length := by have := (List.getElem?_eq_some_iff.1 hu).1; simpa using this
   rw [List.getElem?_map, List.getElem?_range hl] at hu
   cases hu
   exact (h2 j _ (List.getElem?_eq_getElem hl)).2.2) hp
  refine ⟨u, ?_, hv⟩
  unfold execOp
  rw [ho]
  refine run_v ?_
  simp [Instr.loadAt, Instr.sureAddr, hrx, hu]
theorem pure_indexAddr (hρ : ∀ x d, ρ x = some d → VR ι Z w d (r x)) {o : Oper} {x i : Operand} {t e k : Nat} {es : List (List AV)} {tok : Tok} {di : AV} {n : Int} {row : List AV} (ho : o.op = .indexAddr t x i) (ht : P.underlying t = some (.slice e)) (hx : ρ x = some (.sl es tok))
    (hi : ρ i = some di) (hn : litInt di = some n) (hk : szOf P e = some (k + 1)) (h0 : 0 ≤ n) (hr : es[n.toNat]? = some row) (hl : row.length = k + 1) : PureR P ι Z w r o (.eptr row 0) := by
 obtain ⟨ki, hri⟩ := litInt_rel (hρ i _ hi) hn
 have h1 := hρ x _ hx
 generalize hrx : r x = u at *
 cases h1 with
 | nils a c tok h1 h2 => simp at hr
 | frs t k c b h1 h2 h3 => simp at hr
 | sl b q n' c k' es tok U h1 h2 h3 h4 h5 h6 h7 h8 =>
  have hk' : k' = k + 1 := by rw [← h5 _ _ hr, hl]
  subst hk'
  have hlt := (List.getElem?_eq_some_iff.1 hr).1
  refine ⟨.pointer (some ⟨b, q + n.toNat * (k + 1), none⟩), ?_, ?_⟩
  · unfold execOp
    rw [ho]
    refine run_v ?_
    have hlt' : n < n' := by omega
    simp [Instr.indexAt, run_underlying ht, hrx, hri, asIntOf, h0, hlt', run_szOf hk, Addr.add_lit]
  · exact .eptr row 0 b (q + n.toNat * (k + 1)) (fun j => U n.toNat j) (fun j d hd => h6 _ j row d hr hd) (fun j d hd => h8 _ j row d hr hd)
end
end
end Go.Proofs.YtmmgjaheffbpaaaGreatDoor
