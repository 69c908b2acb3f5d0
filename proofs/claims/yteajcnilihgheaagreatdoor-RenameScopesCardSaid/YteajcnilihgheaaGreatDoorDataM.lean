/-
 EV: THE PROGRAM'S DATA as inductive types; their cells (printed by gen_data.py).
-/
import Derived.Test.YteajcnilihgheaaGreatDoorEvSimM
import Derived.Lib.Strings
namespace Go.Proofs.YteajcnilihgheaaGreatDoor
set_option linter.unusedSimpArgs false
set_option linter.unusedVariables false
open Go.RowKit
theorem putCells_at : ∀ (r z a : List AV), z.length = r.length → putCells (a ++ z) a.length r = a ++ r
 | [], z, a, h => by
  obtain rfl : z = [] := List.eq_nil_of_length_eq_zero h
  rfl
 | x :: r, y :: z, a, h => by
  rw [putCells, List.set_append_right _ _ (Nat.le_refl _), Nat.sub_self, List.set_cons_zero]
  have := putCells_at r z (a ++ [x]) (by simpa using h)
  simpa using this
 | x :: r, [], a, h => by simp at h
theorem put_all {z r : List AV} {n : Nat} (h : z.length = n) (hr : r.length = n) : putCells z 0 r = r := by
 have := putCells_at r z [] (by omega)
 simpa using this
def limR (l : List Int) : List (List AV) := l.map fun x => [.lit (.int .u32 x)]
def intR (l : List Int) : List (List AV) := l.map fun x => [.lit (.int .i64 x)]
def txtR (l : List ByteArray) : List (List AV) := l.map fun x => [.lit (.string x)]
@[simp] theorem limR_len (l : List Int) : (limR l).length = l.length := List.length_map _
theorem limR_inj {a b : List Int} (h : limR a = limR b) : a = b := by
 unfold limR at h
 exact (List.map_inj_right (fun x y h => by simpa using h)).1 h
@[simp] theorem limR_nrm (l : List Int) : nrmRR (limR l) = limR l := by induction l with | nil => rfl | cons a l ih => simp only [limR, List.map_cons, nrmRR, nrmR, AV.nrm] at ih ⊢; rw [ih]
@[simp] theorem limR_pln (l : List Int) : plnRR (limR l) = true := by induction l with | nil => rfl | cons a l ih => simpa [limR, plnRR, plnR, AV.pln] using ih
theorem limR_get {l : List Int} {i : Nat} (h : i < l.length) : (limR l)[i]? = some [.lit (.int .u32 l[i])] := by simp [limR, h]
theorem limR_stp (l : List Int) : (limR l).map (fun r => r.map AV.strip) = limR l := by simp [limR, AV.strip]
theorem limR_hd (l : List Int) : (limR l).head?.all (·.length == 1) = true := by cases l <;> rfl
@[simp] theorem intR_len (l : List Int) : (intR l).length = l.length := List.length_map _
theorem intR_inj {a b : List Int} (h : intR a = intR b) : a = b := by
 unfold intR at h
 exact (List.map_inj_right (fun x y h => by simpa using h)).1 h
@[simp] theorem intR_nrm (l : List Int) : nrmRR (intR l) = intR l := by induction l with | nil => rfl | cons a l ih => simp only [intR, List.map_cons, nrmRR, nrmR, AV.nrm] at ih ⊢; rw [ih]
@[simp] theorem intR_pln (l : List Int) : plnRR (intR l) = true := by induction l with | nil => rfl | cons a l ih => simpa [intR, plnRR, plnR, AV.pln] using ih
@[simp] theorem txtR_len (l : List ByteArray) : (txtR l).length = l.length := List.length_map _
theorem txtR_inj {a b : List ByteArray} (h : txtR a = txtR b) : a = b := by
 unfold txtR at h
 exact (List.map_inj_right (fun x y h => by simpa using h)).1 h
@[simp] theorem txtR_nrm (l : List ByteArray) : nrmRR (txtR l) = txtR l := by induction l with | nil => rfl | cons a l ih => simp only [txtR, List.map_cons, nrmRR, nrmR, AV.nrm] at ih ⊢; rw [ih]
@[simp] theorem txtR_pln (l : List ByteArray) : plnRR (txtR l) = true := by induction l with | nil => rfl | cons a l ih => simpa [txtR, plnRR, plnR, AV.pln] using ih
theorem txtR_get {l : List ByteArray} {i : Nat} (h : i < l.length) : (txtR l)[i]? = some [.lit (.string l[i])] := by simp [txtR, h]
theorem txtR_app (a b : List ByteArray) : txtR (a ++ b) = txtR a ++ txtR b := List.map_append
theorem txtR_stp (l : List ByteArray) : (txtR l).map (fun r => r.map AV.strip) = txtR l := by simp [txtR, AV.strip]
theorem txtR_hd (l : List ByteArray) : (txtR l).head?.all (·.length == 1) = true := by cases l <;> rfl
inductive Trm where
 | mk (k : Int) (nm : ByteArray) (ng : Bool) (dg : List Int) (ks : List Trm)
mutual
def Trm.cs : Trm → List AV
 | .mk k nm ng dg ks => [.lit (.int .u8 k), .lit (.string nm), .lit (.bool ng), .sl (limR dg) .no, .sl (trmR ks) .no]
def trmR : List Trm → List (List AV)
 | [] => []
 | x :: l => x.cs :: trmR l
end
mutual
def Trm.n : Trm → Nat
 | .mk k nm ng dg ks => 1 + dg.length + trmN ks
def trmN : List Trm → Nat
 | [] => 0
 | x :: l => x.n + trmN l
end
theorem Trm.n_pos (x : Trm) : 1 ≤ x.n := by obtain ⟨k, nm, ng, dg, ks⟩ := x; simp only [Trm.n]; omega
theorem trmN_len (l : List Trm) : l.length ≤ trmN l := by induction l with | nil => exact Nat.le_refl _ | cons x l ih => have := x.n_pos; simp only [List.length_cons, trmN]; omega
theorem trmN_mem {l : List Trm} {x : Trm} (h : x ∈ l) : x.n ≤ trmN l := by
 induction l with
 | nil => cases h
 | cons y l ih =>
  rw [trmN]
  rcases List.mem_cons.1 h with rfl | h
  · omega
  · have := ih h; omega
theorem trmN_get {l : List Trm} {i : Nat} (h : i < l.length) : l[i].n ≤ trmN l := trmN_mem (List.getElem_mem h)
theorem trmR_map (l : List Trm) : trmR l = l.map Trm.cs := by induction l with | nil => rfl | cons x l ih => rw [trmR, ih]; rfl
@[simp] theorem trmR_len (l : List Trm) : (trmR l).length = l.length := by rw [trmR_map, List.length_map]
theorem Trm.len (x : Trm) : x.cs.length = 5 := by obtain ⟨k, nm, ng, dg, ks⟩ := x; rfl
theorem Trm.put {z : List AV} (x : Trm) (h : z.length = 5) : putCells z 0 x.cs = x.cs := put_all h x.len
theorem Trm.stp (x : Trm) : x.cs.map AV.strip = x.cs := by obtain ⟨k, nm, ng, dg, ks⟩ := x; rfl
theorem Trm.tk (x : Trm) : x.cs.take 5 = x.cs := List.take_of_length_le (Nat.le_of_eq x.len)
theorem trmR_get {l : List Trm} {i : Nat} (h : i < l.length) : (trmR l)[i]? = some l[i].cs := by rw [trmR_map, List.getElem?_map, List.getElem?_eq_getElem h]; rfl
theorem trmR_app (a b : List Trm) : trmR (a ++ b) = trmR a ++ trmR b := by simp only [trmR_map, List.map_append]
theorem trmR_hd (l : List Trm) : (trmR l).head?.all (·.length == 5) = true := by cases l with | nil => rfl | cons x l => simp [trmR, x.len]
mutual
theorem Trm.nrm : ∀ x : Trm, nrmR x.cs = x.cs
 | .mk k nm ng dg ks => by simp only [Trm.cs, nrmR, AV.nrm, limR_nrm, trmR_nrm ks]
theorem trmR_nrm : ∀ l : List Trm, nrmRR (trmR l) = trmR l
 | [] => rfl
 | x :: l => by rw [trmR, nrmRR, x.nrm, trmR_nrm l]
end
mutual
theorem Trm.pln : ∀ x : Trm, plnR x.cs = true
 | .mk k nm ng dg ks => by simp only [Trm.cs, plnR, AV.pln, limR_pln, trmR_pln ks, Bool.and_self]
theorem trmR_pln : ∀ l : List Trm, plnRR (trmR l) = true
 | [] => rfl
 | x :: l => by rw [trmR, plnRR, x.pln, trmR_pln l]; rfl
end
mutual
theorem Trm.inj : ∀ {a b : Trm}, a.cs = b.cs → a = b
 | .mk k nm ng dg ks, .mk wk wnm wng wdg wks, h => by
  simp only [Trm.cs, List.cons.injEq, AV.lit.injEq, AV.sl.injEq, Value.int.injEq, Value.bool.injEq, Value.string.injEq, true_and, and_true] at h
  obtain ⟨rfl, rfl, rfl, h3, h4⟩ := h
  rw [limR_inj h3, trmR_inj h4]
theorem trmR_inj : ∀ {a b : List Trm}, trmR a = trmR b → a = b
 | [], [], _ => rfl
 | [], _ :: _, h => by cases h
 | _ :: _, [], h => by cases h
 | x :: l, y :: m, h => by
  rw [trmR, trmR, List.cons.injEq] at h
  rw [Trm.inj h.1, trmR_inj h.2]
end
mutual
inductive Ty where
 | mk (fn : Bool) (st : ByteArray) (rf : Trm) (ps : List Prm) (rs : List Ty)
inductive Prm where
 | mk (nm : ByteArray) (ty : Ty)
end
mutual
def Ty.cs : Ty → List AV
 | .mk fn st (.mk rfk rfnm rfng rfdg rfks) ps rs => [.lit (.bool fn), .lit (.string st), .lit (.int .u8 rfk), .lit (.string rfnm), .lit (.bool rfng), .sl (limR rfdg) .no, .sl (trmR rfks) .no, .sl (prmR ps) .no, .sl (tyR rs) .no]
def tyR : List Ty → List (List AV)
 | [] => []
 | x :: l => x.cs :: tyR l
def Prm.cs : Prm → List AV
 | .mk nm (.mk tyfn tyst (.mk tyrfk tyrfnm tyrfng tyrfdg tyrfks) typs tyrs) => [.lit (.string nm), .lit (.bool tyfn), .lit (.string tyst), .lit (.int .u8 tyrfk), .lit (.string tyrfnm), .lit (.bool tyrfng), .sl (limR tyrfdg) .no, .sl (trmR tyrfks) .no, .sl (prmR typs) .no, .sl (tyR tyrs) .no]
def prmR : List Prm → List (List AV)
 | [] => []
 | x :: l => x.cs :: prmR l
end
mutual
def Ty.n : Ty → Nat
 | .mk fn st (.mk rfk rfnm rfng rfdg rfks) ps rs => 1 + rfdg.length + trmN rfks + prmN ps + tyN rs
def tyN : List Ty → Nat
 | [] => 0
 | x :: l => x.n + tyN l
def Prm.n : Prm → Nat
 | .mk nm (.mk tyfn tyst (.mk tyrfk tyrfnm tyrfng tyrfdg tyrfks) typs tyrs) => 1 + tyrfdg.length + trmN tyrfks + prmN typs + tyN tyrs
def prmN : List Prm → Nat
 | [] => 0
 | x :: l => x.n + prmN l
end
theorem Ty.n_pos (x : Ty) : 1 ≤ x.n := by obtain ⟨fn, st, ⟨rfk, rfnm, rfng, rfdg, rfks⟩, ps, rs⟩ := x; simp only [Ty.n]; omega
theorem tyN_len (l : List Ty) : l.length ≤ tyN l := by induction l with | nil => exact Nat.le_refl _ | cons x l ih => have := x.n_pos; simp only [List.length_cons, tyN]; omega
theorem tyN_mem {l : List Ty} {x : Ty} (h : x ∈ l) : x.n ≤ tyN l := by
 induction l with
 | nil => cases h
 | cons y l ih =>
  rw [tyN]
  rcases List.mem_cons.1 h with rfl | h
  · omega
  · have := ih h; omega
theorem tyN_get {l : List Ty} {i : Nat} (h : i < l.length) : l[i].n ≤ tyN l := tyN_mem (List.getElem_mem h)
theorem Prm.n_pos (x : Prm) : 1 ≤ x.n := by obtain ⟨nm, ⟨tyfn, tyst, ⟨tyrfk, tyrfnm, tyrfng, tyrfdg, tyrfks⟩, typs, tyrs⟩⟩ := x; simp only [Prm.n]; omega
theorem prmN_len (l : List Prm) : l.length ≤ prmN l := by induction l with | nil => exact Nat.le_refl _ | cons x l ih => have := x.n_pos; simp only [List.length_cons, prmN]; omega
theorem prmN_mem {l : List Prm} {x : Prm} (h : x ∈ l) : x.n ≤ prmN l := by
 induction l with
 | nil => cases h
 | cons y l ih =>
  rw [prmN]
  rcases List.mem_cons.1 h with rfl | h
  · omega
  · have := ih h; omega
theorem prmN_get {l : List Prm} {i : Nat} (h : i < l.length) : l[i].n ≤ prmN l := prmN_mem (List.getElem_mem h)
theorem tyR_map (l : List Ty) : tyR l = l.map Ty.cs := by induction l with | nil => rfl | cons x l ih => rw [tyR, ih]; rfl
@[simp] theorem tyR_len (l : List Ty) : (tyR l).length = l.length := by rw [tyR_map, List.length_map]
theorem Ty.len (x : Ty) : x.cs.length = 9 := by obtain ⟨fn, st, ⟨rfk, rfnm, rfng, rfdg, rfks⟩, ps, rs⟩ := x; rfl
theorem Ty.put {z : List AV} (x : Ty) (h : z.length = 9) : putCells z 0 x.cs = x.cs := put_all h x.len
theorem Ty.stp (x : Ty) : x.cs.map AV.strip = x.cs := by obtain ⟨fn, st, ⟨rfk, rfnm, rfng, rfdg, rfks⟩, ps, rs⟩ := x; rfl
theorem Ty.tk (x : Ty) : x.cs.take 9 = x.cs := List.take_of_length_le (Nat.le_of_eq x.len)
theorem tyR_get {l : List Ty} {i : Nat} (h : i < l.length) : (tyR l)[i]? = some l[i].cs := by rw [tyR_map, List.getElem?_map, List.getElem?_eq_getElem h]; rfl
theorem tyR_app (a b : List Ty) : tyR (a ++ b) = tyR a ++ tyR b := by simp only [tyR_map, List.map_append]
theorem tyR_hd (l : List Ty) : (tyR l).head?.all (·.length == 9) = true := by cases l with | nil => rfl | cons x l => simp [tyR, x.len]
theorem prmR_map (l : List Prm) : prmR l = l.map Prm.cs := by induction l with | nil => rfl | cons x l ih => rw [prmR, ih]; rfl
@[simp] theorem prmR_len (l : List Prm) : (prmR l).length = l.length := by rw [prmR_map, List.length_map]
theorem Prm.len (x : Prm) : x.cs.length = 10 := by obtain ⟨nm, ⟨tyfn, tyst, ⟨tyrfk, tyrfnm, tyrfng, tyrfdg, tyrfks⟩, typs, tyrs⟩⟩ := x; rfl
theorem Prm.put {z : List AV} (x : Prm) (h : z.length = 10) : putCells z 0 x.cs = x.cs := put_all h x.len
theorem Prm.stp (x : Prm) : x.cs.map AV.strip = x.cs := by obtain ⟨nm, ⟨tyfn, tyst, ⟨tyrfk, tyrfnm, tyrfng, tyrfdg, tyrfks⟩, typs, tyrs⟩⟩ := x; rfl
theorem Prm.tk (x : Prm) : x.cs.take 10 = x.cs := List.take_of_length_le (Nat.le_of_eq x.len)
theorem prmR_get {l : List Prm} {i : Nat} (h : i < l.length) : (prmR l)[i]? = some l[i].cs := by rw [prmR_map, List.getElem?_map, List.getElem?_eq_getElem h]; rfl
theorem prmR_app (a b : List Prm) : prmR (a ++ b) = prmR a ++ prmR b := by simp only [prmR_map, List.map_append]
theorem prmR_hd (l : List Prm) : (prmR l).head?.all (·.length == 10) = true := by cases l with | nil => rfl | cons x l => simp [prmR, x.len]
mutual
theorem Ty.nrm : ∀ x : Ty, nrmR x.cs = x.cs
 | .mk fn st (.mk rfk rfnm rfng rfdg rfks) ps rs => by simp only [Ty.cs, nrmR, AV.nrm, limR_nrm, trmR_nrm rfks, prmR_nrm ps, tyR_nrm rs]
theorem tyR_nrm : ∀ l : List Ty, nrmRR (tyR l) = tyR l
 | [] => rfl
 | x :: l => by rw [tyR, nrmRR, x.nrm, tyR_nrm l]
theorem Prm.nrm : ∀ x : Prm, nrmR x.cs = x.cs
 | .mk nm (.mk tyfn tyst (.mk tyrfk tyrfnm tyrfng tyrfdg tyrfks) typs tyrs) => by simp only [Prm.cs, nrmR, AV.nrm, limR_nrm, trmR_nrm tyrfks, prmR_nrm typs, tyR_nrm tyrs]
theorem prmR_nrm : ∀ l : List Prm, nrmRR (prmR l) = prmR l
 | [] => rfl
 | x :: l => by rw [prmR, nrmRR, x.nrm, prmR_nrm l]
end
mutual
theorem Ty.pln : ∀ x : Ty, plnR x.cs = true
 | .mk fn st (.mk rfk rfnm rfng rfdg rfks) ps rs => by simp only [Ty.cs, plnR, AV.pln, limR_pln, trmR_pln rfks, prmR_pln ps, tyR_pln rs, Bool.and_self]
theorem tyR_pln : ∀ l : List Ty, plnRR (tyR l) = true
 | [] => rfl
 | x :: l => by rw [tyR, plnRR, x.pln, tyR_pln l]; rfl
theorem Prm.pln : ∀ x : Prm, plnR x.cs = true
 | .mk nm (.mk tyfn tyst (.mk tyrfk tyrfnm tyrfng tyrfdg tyrfks) typs tyrs) => by simp only [Prm.cs, plnR, AV.pln, limR_pln, trmR_pln tyrfks, prmR_pln typs, tyR_pln tyrs, Bool.and_self]
theorem prmR_pln : ∀ l : List Prm, plnRR (prmR l) = true
 | [] => rfl
 | x :: l => by rw [prmR, plnRR, x.pln, prmR_pln l]; rfl
end
mutual
theorem Ty.inj : ∀ {a b : Ty}, a.cs = b.cs → a = b
 | .mk fn st (.mk rfk rfnm rfng rfdg rfks) ps rs, .mk wfn wst (.mk wrfk wrfnm wrfng wrfdg wrfks) wps wrs, h => by
  simp only [Ty.cs, List.cons.injEq, AV.lit.injEq, AV.sl.injEq, Value.int.injEq, Value.bool.injEq, Value.string.injEq, true_and, and_true] at h
  obtain ⟨rfl, rfl, rfl, rfl, rfl, h5, h6, h7, h8⟩ := h
  rw [limR_inj h5, trmR_inj h6, prmR_inj h7, tyR_inj h8]
theorem tyR_inj : ∀ {a b : List Ty}, tyR a = tyR b → a = b
 | [], [], _ => rfl
 | [], _ :: _, h => by cases h
 | _ :: _, [], h => by cases h
 | x :: l, y :: m, h => by
  rw [tyR, tyR, List.cons.injEq] at h
  rw [Ty.inj h.1, tyR_inj h.2]
theorem Prm.inj : ∀ {a b : Prm}, a.cs = b.cs → a = b
 | .mk nm (.mk tyfn tyst (.mk tyrfk tyrfnm tyrfng tyrfdg tyrfks) typs tyrs), .mk wnm (.mk wtyfn wtyst (.mk wtyrfk wtyrfnm wtyrfng wtyrfdg wtyrfks) wtyps wtyrs), h => by
  simp only [Prm.cs, List.cons.injEq, AV.lit.injEq, AV.sl.injEq, Value.int.injEq, Value.bool.injEq, Value.string.injEq, true_and, and_true] at h
  obtain ⟨rfl, rfl, rfl, rfl, rfl, rfl, h6, h7, h8, h9⟩ := h
  rw [limR_inj h6, trmR_inj h7, prmR_inj h8, tyR_inj h9]
theorem prmR_inj : ∀ {a b : List Prm}, prmR a = prmR b → a = b
 | [], [], _ => rfl
 | [], _ :: _, h => by cases h
 | _ :: _, [], h => by cases h
 | x :: l, y :: m, h => by
  rw [prmR, prmR, List.cons.injEq] at h
  rw [Prm.inj h.1, prmR_inj h.2]
end
inductive Atm where
 | mk (k : Int) (nm : ByteArray) (ng : Bool) (dg : List Int) (tr : Bool)
def Atm.cs : Atm → List AV
 | .mk k nm ng dg tr => [.lit (.int .u8 k), .lit (.string nm), .lit (.bool ng), .sl (limR dg) .no, .lit (.bool tr)]
def atmR : List Atm → List (List AV)
 | [] => []
 | x :: l => x.cs :: atmR l
def Atm.n : Atm → Nat
 | .mk k nm ng dg tr => 1 + dg.length
def atmN : List Atm → Nat
 | [] => 0
 | x :: l => x.n + atmN l
theorem Atm.n_pos (x : Atm) : 1 ≤ x.n := by obtain ⟨k, nm, ng, dg, tr⟩ := x; simp only [Atm.n]; omega
theorem atmN_len (l : List Atm) : l.length ≤ atmN l := by induction l with | nil => exact Nat.le_refl _ | cons x l ih => have := x.n_pos; simp only [List.length_cons, atmN]; omega
theorem atmN_mem {l : List Atm} {x : Atm} (h : x ∈ l) : x.n ≤ atmN l := by
 induction l with
 | nil => cases h
 | cons y l ih =>
  rw [atmN]
  rcases List.mem_cons.1 h with rfl | h
  · omega
  · have := ih h; omega
theorem atmN_get {l : List Atm} {i : Nat} (h : i < l.length) : l[i].n ≤ atmN l := atmN_mem (List.getElem_mem h)
theorem atmR_map (l : List Atm) : atmR l = l.map Atm.cs := by induction l with | nil => rfl | cons x l ih => rw [atmR, ih]; rfl
@[simp] theorem atmR_len (l : List Atm) : (atmR l).length = l.length := by rw [atmR_map, List.length_map]
theorem Atm.len (x : Atm) : x.cs.length = 5 := by obtain ⟨k, nm, ng, dg, tr⟩ := x; rfl
theorem Atm.put {z : List AV} (x : Atm) (h : z.length = 5) : putCells z 0 x.cs = x.cs := put_all h x.len
theorem Atm.stp (x : Atm) : x.cs.map AV.strip = x.cs := by obtain ⟨k, nm, ng, dg, tr⟩ := x; rfl
theorem Atm.tk (x : Atm) : x.cs.take 5 = x.cs := List.take_of_length_le (Nat.le_of_eq x.len)
theorem atmR_get {l : List Atm} {i : Nat} (h : i < l.length) : (atmR l)[i]? = some l[i].cs := by rw [atmR_map, List.getElem?_map, List.getElem?_eq_getElem h]; rfl
theorem atmR_app (a b : List Atm) : atmR (a ++ b) = atmR a ++ atmR b := by simp only [atmR_map, List.map_append]
theorem atmR_hd (l : List Atm) : (atmR l).head?.all (·.length == 5) = true := by cases l with | nil => rfl | cons x l => simp [atmR, x.len]
theorem Atm.nrm : ∀ x : Atm, nrmR x.cs = x.cs
 | .mk k nm ng dg tr => by simp only [Atm.cs, nrmR, AV.nrm, limR_nrm]
theorem atmR_nrm : ∀ l : List Atm, nrmRR (atmR l) = atmR l
 | [] => rfl
 | x :: l => by rw [atmR, nrmRR, x.nrm, atmR_nrm l]
theorem Atm.pln : ∀ x : Atm, plnR x.cs = true
 | .mk k nm ng dg tr => by simp only [Atm.cs, plnR, AV.pln, limR_pln, Bool.and_self]
theorem atmR_pln : ∀ l : List Atm, plnRR (atmR l) = true
 | [] => rfl
 | x :: l => by rw [atmR, plnRR, x.pln, atmR_pln l]; rfl
theorem Atm.inj : ∀ {a b : Atm}, a.cs = b.cs → a = b
 | .mk k nm ng dg tr, .mk wk wnm wng wdg wtr, h => by
  simp only [Atm.cs, List.cons.injEq, AV.lit.injEq, AV.sl.injEq, Value.int.injEq, Value.bool.injEq, Value.string.injEq, true_and, and_true] at h
  obtain ⟨rfl, rfl, rfl, h3, rfl⟩ := h
  rw [limR_inj h3]
theorem atmR_inj : ∀ {a b : List Atm}, atmR a = atmR b → a = b
 | [], [], _ => rfl
 | [], _ :: _, h => by cases h
 | _ :: _, [], h => by cases h
 | x :: l, y :: m, h => by
  rw [atmR, atmR, List.cons.injEq] at h
  rw [Atm.inj h.1, atmR_inj h.2]
mutual
inductive Exp where
 | mk (k : Int) (nm : ByteArray) (ty : List Ty) (rh : List Rhs) (am : Atm) (ar : List Arm) (bd : List Exp)
inductive Rhs where
 | mk (k : Int) (nm : ByteArray) (ats : List Atm) (ps : List Prm) (rs : List Ty) (bd : List Exp) (ts : List Trm)
inductive Arm where
 | mk (cn : ByteArray) (ns : List ByteArray) (bd : List Exp)
end
mutual
def Exp.cs : Exp → List AV
 | .mk k nm ty rh (.mk amk amnm amng amdg amtr) ar bd => [.lit (.int .u8 k), .lit (.string nm), .sl (tyR ty) .no, .sl (rhsR rh) .no, .lit (.int .u8 amk), .lit (.string amnm), .lit (.bool amng), .sl (limR amdg) .no, .lit (.bool amtr), .sl (armR ar) .no, .sl (expR bd) .no]
def expR : List Exp → List (List AV)
 | [] => []
 | x :: l => x.cs :: expR l
def Rhs.cs : Rhs → List AV
 | .mk k nm ats ps rs bd ts => [.lit (.int .u8 k), .lit (.string nm), .sl (atmR ats) .no, .sl (prmR ps) .no, .sl (tyR rs) .no, .sl (expR bd) .no, .sl (trmR ts) .no]
def rhsR : List Rhs → List (List AV)
 | [] => []
 | x :: l => x.cs :: rhsR l
def Arm.cs : Arm → List AV
 | .mk cn ns bd => [.lit (.string cn), .sl (txtR ns) .no, .sl (expR bd) .no]
def armR : List Arm → List (List AV)
 | [] => []
 | x :: l => x.cs :: armR l
end
mutual
def Exp.n : Exp → Nat
 | .mk k nm ty rh (.mk amk amnm amng amdg amtr) ar bd => 1 + tyN ty + rhsN rh + amdg.length + armN ar + expN bd
def expN : List Exp → Nat
 | [] => 0
 | x :: l => x.n + expN l
def Rhs.n : Rhs → Nat
 | .mk k nm ats ps rs bd ts => 1 + atmN ats + prmN ps + tyN rs + expN bd + trmN ts
def rhsN : List Rhs → Nat
 | [] => 0
 | x :: l => x.n + rhsN l
def Arm.n : Arm → Nat
 | .mk cn ns bd => 1 + ns.length + expN bd
def armN : List Arm → Nat
 | [] => 0
 | x :: l => x.n + armN l
end
theorem Exp.n_pos (x : Exp) : 1 ≤ x.n := by obtain ⟨k, nm, ty, rh, ⟨amk, amnm, amng, amdg, amtr⟩, ar, bd⟩ := x; simp only [Exp.n]; omega
theorem expN_len (l : List Exp) : l.length ≤ expN l := by induction l with | nil => exact Nat.le_refl _ | cons x l ih => have := x.n_pos; simp only [List.length_cons, expN]; omega
theorem expN_mem {l : List Exp} {x : Exp} (h : x ∈ l) : x.n ≤ expN l := by
 induction l with
 | nil => cases h
 | cons y l ih =>
  rw [expN]
  rcases List.mem_cons.1 h with rfl | h
  · omega
  · have := ih h; omega
theorem expN_get {l : List Exp} {i : Nat} (h : i < l.length) : l[i].n ≤ expN l := expN_mem (List.getElem_mem h)
theorem Rhs.n_pos (x : Rhs) : 1 ≤ x.n := by obtain ⟨k, nm, ats, ps, rs, bd, ts⟩ := x; simp only [Rhs.n]; omega
theorem rhsN_len (l : List Rhs) : l.length ≤ rhsN l := by induction l with | nil => exact Nat.le_refl _ | cons x l ih => have := x.n_pos; simp only [List.length_cons, rhsN]; omega
theorem rhsN_mem {l : List Rhs} {x : Rhs} (h : x ∈ l) : x.n ≤ rhsN l := by
 induction l with
 | nil => cases h
 | cons y l ih =>
  rw [rhsN]
  rcases List.mem_cons.1 h with rfl | h
  · omega
  · have := ih h; omega
theorem rhsN_get {l : List Rhs} {i : Nat} (h : i < l.length) : l[i].n ≤ rhsN l := rhsN_mem (List.getElem_mem h)
theorem Arm.n_pos (x : Arm) : 1 ≤ x.n := by obtain ⟨cn, ns, bd⟩ := x; simp only [Arm.n]; omega
theorem armN_len (l : List Arm) : l.length ≤ armN l := by induction l with | nil => exact Nat.le_refl _ | cons x l ih => have := x.n_pos; simp only [List.length_cons, armN]; omega
theorem armN_mem {l : List Arm} {x : Arm} (h : x ∈ l) : x.n ≤ armN l := by
 induction l with
 | nil => cases h
 | cons y l ih =>
  rw [armN]
  rcases List.mem_cons.1 h with rfl | h
  · omega
  · have := ih h; omega
theorem armN_get {l : List Arm} {i : Nat} (h : i < l.length) : l[i].n ≤ armN l := armN_mem (List.getElem_mem h)
theorem expR_map (l : List Exp) : expR l = l.map Exp.cs := by induction l with | nil => rfl | cons x l ih => rw [expR, ih]; rfl
@[simp] theorem expR_len (l : List Exp) : (expR l).length = l.length := by rw [expR_map, List.length_map]
theorem Exp.len (x : Exp) : x.cs.length = 11 := by obtain ⟨k, nm, ty, rh, ⟨amk, amnm, amng, amdg, amtr⟩, ar, bd⟩ := x; rfl
theorem Exp.put {z : List AV} (x : Exp) (h : z.length = 11) : putCells z 0 x.cs = x.cs := put_all h x.len
theorem Exp.stp (x : Exp) : x.cs.map AV.strip = x.cs := by obtain ⟨k, nm, ty, rh, ⟨amk, amnm, amng, amdg, amtr⟩, ar, bd⟩ := x; rfl
theorem Exp.tk (x : Exp) : x.cs.take 11 = x.cs := List.take_of_length_le (Nat.le_of_eq x.len)
theorem expR_get {l : List Exp} {i : Nat} (h : i < l.length) : (expR l)[i]? = some l[i].cs := by rw [expR_map, List.getElem?_map, List.getElem?_eq_getElem h]; rfl
theorem expR_app (a b : List Exp) : expR (a ++ b) = expR a ++ expR b := by simp only [expR_map, List.map_append]
theorem expR_hd (l : List Exp) : (expR l).head?.all (·.length == 11) = true := by cases l with | nil => rfl | cons x l => simp [expR, x.len]
theorem rhsR_map (l : List Rhs) : rhsR l = l.map Rhs.cs := by induction l with | nil => rfl | cons x l ih => rw [rhsR, ih]; rfl
@[simp] theorem rhsR_len (l : List Rhs) : (rhsR l).length = l.length := by rw [rhsR_map, List.length_map]
theorem Rhs.len (x : Rhs) : x.cs.length = 7 := by obtain ⟨k, nm, ats, ps, rs, bd, ts⟩ := x; rfl
theorem Rhs.put {z : List AV} (x : Rhs) (h : z.length = 7) : putCells z 0 x.cs = x.cs := put_all h x.len
theorem Rhs.stp (x : Rhs) : x.cs.map AV.strip = x.cs := by obtain ⟨k, nm, ats, ps, rs, bd, ts⟩ := x; rfl
theorem Rhs.tk (x : Rhs) : x.cs.take 7 = x.cs := List.take_of_length_le (Nat.le_of_eq x.len)
theorem rhsR_get {l : List Rhs} {i : Nat} (h : i < l.length) : (rhsR l)[i]? = some l[i].cs := by rw [rhsR_map, List.getElem?_map, List.getElem?_eq_getElem h]; rfl
theorem rhsR_app (a b : List Rhs) : rhsR (a ++ b) = rhsR a ++ rhsR b := by simp only [rhsR_map, List.map_append]
theorem rhsR_hd (l : List Rhs) : (rhsR l).head?.all (·.length == 7) = true := by cases l with | nil => rfl | cons x l => simp [rhsR, x.len]
theorem armR_map (l : List Arm) : armR l = l.map Arm.cs := by induction l with | nil => rfl | cons x l ih => rw [armR, ih]; rfl
@[simp] theorem armR_len (l : List Arm) : (armR l).length = l.length := by rw [armR_map, List.length_map]
theorem Arm.len (x : Arm) : x.cs.length = 3 := by obtain ⟨cn, ns, bd⟩ := x; rfl
theorem Arm.put {z : List AV} (x : Arm) (h : z.length = 3) : putCells z 0 x.cs = x.cs := put_all h x.len
theorem Arm.stp (x : Arm) : x.cs.map AV.strip = x.cs := by obtain ⟨cn, ns, bd⟩ := x; rfl
theorem Arm.tk (x : Arm) : x.cs.take 3 = x.cs := List.take_of_length_le (Nat.le_of_eq x.len)
theorem armR_get {l : List Arm} {i : Nat} (h : i < l.length) : (armR l)[i]? = some l[i].cs := by rw [armR_map, List.getElem?_map, List.getElem?_eq_getElem h]; rfl
theorem armR_app (a b : List Arm) : armR (a ++ b) = armR a ++ armR b := by simp only [armR_map, List.map_append]
theorem armR_hd (l : List Arm) : (armR l).head?.all (·.length == 3) = true := by cases l with | nil => rfl | cons x l => simp [armR, x.len]
mutual
theorem Exp.nrm : ∀ x : Exp, nrmR x.cs = x.cs
 | .mk k nm ty rh (.mk amk amnm amng amdg amtr) ar bd => by simp only [Exp.cs, nrmR, AV.nrm, tyR_nrm ty, rhsR_nrm rh, limR_nrm, armR_nrm ar, expR_nrm bd]
theorem expR_nrm : ∀ l : List Exp, nrmRR (expR l) = expR l
 | [] => rfl
 | x :: l => by rw [expR, nrmRR, x.nrm, expR_nrm l]
theorem Rhs.nrm : ∀ x : Rhs, nrmR x.cs = x.cs
 | .mk k nm ats ps rs bd ts => by simp only [Rhs.cs, nrmR, AV.nrm, atmR_nrm ats, prmR_nrm ps, tyR_nrm rs, expR_nrm bd, trmR_nrm ts]
theorem rhsR_nrm : ∀ l : List Rhs, nrmRR (rhsR l) = rhsR l
 | [] => rfl
 | x :: l => by rw [rhsR, nrmRR, x.nrm, rhsR_nrm l]
theorem Arm.nrm : ∀ x : Arm, nrmR x.cs = x.cs
 | .mk cn ns bd => by simp only [Arm.cs, nrmR, AV.nrm, txtR_nrm, expR_nrm bd]
theorem armR_nrm : ∀ l : List Arm, nrmRR (armR l) = armR l
 | [] => rfl
 | x :: l => by rw [armR, nrmRR, x.nrm, armR_nrm l]
end
mutual
theorem Exp.pln : ∀ x : Exp, plnR x.cs = true
 | .mk k nm ty rh (.mk amk amnm amng amdg amtr) ar bd => by simp only [Exp.cs, plnR, AV.pln, tyR_pln ty, rhsR_pln rh, limR_pln, armR_pln ar, expR_pln bd, Bool.and_self]
theorem expR_pln : ∀ l : List Exp, plnRR (expR l) = true
 | [] => rfl
 | x :: l => by rw [expR, plnRR, x.pln, expR_pln l]; rfl
theorem Rhs.pln : ∀ x : Rhs, plnR x.cs = true
 | .mk k nm ats ps rs bd ts => by simp only [Rhs.cs, plnR, AV.pln, atmR_pln ats, prmR_pln ps, tyR_pln rs, expR_pln bd, trmR_pln ts, Bool.and_self]
theorem rhsR_pln : ∀ l : List Rhs, plnRR (rhsR l) = true
 | [] => rfl
 | x :: l => by rw [rhsR, plnRR, x.pln, rhsR_pln l]; rfl
theorem Arm.pln : ∀ x : Arm, plnR x.cs = true
 | .mk cn ns bd => by simp only [Arm.cs, plnR, AV.pln, txtR_pln, expR_pln bd, Bool.and_self]
theorem armR_pln : ∀ l : List Arm, plnRR (armR l) = true
 | [] => rfl
 | x :: l => by rw [armR, plnRR, x.pln, armR_pln l]; rfl
end
mutual
theorem Exp.inj : ∀ {a b : Exp}, a.cs = b.cs → a = b
 | .mk k nm ty rh (.mk amk amnm amng amdg amtr) ar bd, .mk wk wnm wty wrh (.mk wamk wamnm wamng wamdg wamtr) war wbd, h => by
  simp only [Exp.cs, List.cons.injEq, AV.lit.injEq, AV.sl.injEq, Value.int.injEq, Value.bool.injEq, Value.string.injEq, true_and, and_true] at h
  obtain ⟨rfl, rfl, h2, h3, rfl, rfl, rfl, h7, rfl, h9, h10⟩ := h
  rw [tyR_inj h2, rhsR_inj h3, limR_inj h7, armR_inj h9, expR_inj h10]
theorem expR_inj : ∀ {a b : List Exp}, expR a = expR b → a = b
 | [], [], _ => rfl
 | [], _ :: _, h => by cases h
 | _ :: _, [], h => by cases h
 | x :: l, y :: m, h => by
  rw [expR, expR, List.cons.injEq] at h
  rw [Exp.inj h.1, expR_inj h.2]
theorem Rhs.inj : ∀ {a b : Rhs}, a.cs = b.cs → a = b
 | .mk k nm ats ps rs bd ts, .mk wk wnm wats wps wrs wbd wts, h => by
  simp only [Rhs.cs, List.cons.injEq, AV.lit.injEq, AV.sl.injEq, Value.int.injEq, Value.bool.injEq, Value.string.injEq, true_and, and_true] at h
  obtain ⟨rfl, rfl, h2, h3, h4, h5, h6⟩ := h
  rw [atmR_inj h2, prmR_inj h3, tyR_inj h4, expR_inj h5, trmR_inj h6]
theorem rhsR_inj : ∀ {a b : List Rhs}, rhsR a = rhsR b → a = b
 | [], [], _ => rfl
 | [], _ :: _, h => by cases h
 | _ :: _, [], h => by cases h
 | x :: l, y :: m, h => by
  rw [rhsR, rhsR, List.cons.injEq] at h
  rw [Rhs.inj h.1, rhsR_inj h.2]
theorem Arm.inj : ∀ {a b : Arm}, a.cs = b.cs → a = b
 | .mk cn ns bd, .mk wcn wns wbd, h => by
  simp only [Arm.cs, List.cons.injEq, AV.lit.injEq, AV.sl.injEq, Value.int.injEq, Value.bool.injEq, Value.string.injEq, true_and, and_true] at h
  obtain ⟨rfl, h1, h2⟩ := h
  rw [txtR_inj h1, expR_inj h2]
theorem armR_inj : ∀ {a b : List Arm}, armR a = armR b → a = b
 | [], [], _ => rfl
 | [], _ :: _, h => by cases h
 | _ :: _, [], h => by cases h
 | x :: l, y :: m, h => by
  rw [armR, armR, List.cons.injEq] at h
  rw [Arm.inj h.1, armR_inj h.2]
end
inductive Fun where
 | mk (nm : ByteArray) (ps : List Prm) (rs : Ty) (bd : Exp)
def Fun.cs : Fun → List AV
 | .mk nm ps (.mk rsfn rsst (.mk rsrfk rsrfnm rsrfng rsrfdg rsrfks) rsps rsrs) (.mk bdk bdnm bdty bdrh (.mk bdamk bdamnm bdamng bdamdg bdamtr) bdar bdbd) => [.lit (.string nm), .sl (prmR ps) .no, .lit (.bool rsfn), .lit (.string rsst), .lit (.int .u8 rsrfk), .lit (.string rsrfnm), .lit (.bool rsrfng), .sl (limR rsrfdg) .no, .sl (trmR rsrfks) .no, .sl (prmR rsps) .no, .sl (tyR rsrs) .no, .lit (.int .u8 bdk), .lit (.string bdnm), .sl (tyR bdty) .no, .sl (rhsR bdrh) .no, .lit (.int .u8 bdamk), .lit (.string bdamnm), .lit (.bool bdamng), .sl (limR bdamdg) .no, .lit (.bool bdamtr), .sl (armR bdar) .no, .sl (expR bdbd) .no]
def funR : List Fun → List (List AV)
 | [] => []
 | x :: l => x.cs :: funR l
def Fun.n : Fun → Nat
 | .mk nm ps (.mk rsfn rsst (.mk rsrfk rsrfnm rsrfng rsrfdg rsrfks) rsps rsrs) (.mk bdk bdnm bdty bdrh (.mk bdamk bdamnm bdamng bdamdg bdamtr) bdar bdbd) => 1 + prmN ps + rsrfdg.length + trmN rsrfks + prmN rsps + tyN rsrs + tyN bdty + rhsN bdrh + bdamdg.length + armN bdar + expN bdbd
def funN : List Fun → Nat
 | [] => 0
 | x :: l => x.n + funN l
theorem Fun.n_pos (x : Fun) : 1 ≤ x.n := by obtain ⟨nm, ps, ⟨rsfn, rsst, ⟨rsrfk, rsrfnm, rsrfng, rsrfdg, rsrfks⟩, rsps, rsrs⟩, ⟨bdk, bdnm, bdty, bdrh, ⟨bdamk, bdamnm, bdamng, bdamdg, bdamtr⟩, bdar, bdbd⟩⟩ := x; simp only [Fun.n]; omega
theorem funR_map (l : List Fun) : funR l = l.map Fun.cs := by induction l with | nil => rfl | cons x l ih => rw [funR, ih]; rfl
@[simp] theorem funR_len (l : List Fun) : (funR l).length = l.length := by rw [funR_map, List.length_map]
theorem Fun.len (x : Fun) : x.cs.length = 22 := by obtain ⟨nm, ps, ⟨rsfn, rsst, ⟨rsrfk, rsrfnm, rsrfng, rsrfdg, rsrfks⟩, rsps, rsrs⟩, ⟨bdk, bdnm, bdty, bdrh, ⟨bdamk, bdamnm, bdamng, bdamdg, bdamtr⟩, bdar, bdbd⟩⟩ := x; rfl
theorem Fun.put {z : List AV} (x : Fun) (h : z.length = 22) : putCells z 0 x.cs = x.cs := put_all h x.len
theorem Fun.stp (x : Fun) : x.cs.map AV.strip = x.cs := by obtain ⟨nm, ps, ⟨rsfn, rsst, ⟨rsrfk, rsrfnm, rsrfng, rsrfdg, rsrfks⟩, rsps, rsrs⟩, ⟨bdk, bdnm, bdty, bdrh, ⟨bdamk, bdamnm, bdamng, bdamdg, bdamtr⟩, bdar, bdbd⟩⟩ := x; rfl
theorem Fun.tk (x : Fun) : x.cs.take 22 = x.cs := List.take_of_length_le (Nat.le_of_eq x.len)
theorem Fun.nrm : ∀ x : Fun, nrmR x.cs = x.cs
 | .mk nm ps (.mk rsfn rsst (.mk rsrfk rsrfnm rsrfng rsrfdg rsrfks) rsps rsrs) (.mk bdk bdnm bdty bdrh (.mk bdamk bdamnm bdamng bdamdg bdamtr) bdar bdbd) => by simp only [Fun.cs, nrmR, AV.nrm, prmR_nrm ps, limR_nrm, trmR_nrm rsrfks, prmR_nrm rsps, tyR_nrm rsrs, tyR_nrm bdty, rhsR_nrm bdrh, armR_nrm bdar, expR_nrm bdbd]
theorem funR_nrm : ∀ l : List Fun, nrmRR (funR l) = funR l
 | [] => rfl
 | x :: l => by rw [funR, nrmRR, x.nrm, funR_nrm l]
theorem Fun.pln : ∀ x : Fun, plnR x.cs = true
 | .mk nm ps (.mk rsfn rsst (.mk rsrfk rsrfnm rsrfng rsrfdg rsrfks) rsps rsrs) (.mk bdk bdnm bdty bdrh (.mk bdamk bdamnm bdamng bdamdg bdamtr) bdar bdbd) => by simp only [Fun.cs, plnR, AV.pln, prmR_pln ps, limR_pln, trmR_pln rsrfks, prmR_pln rsps, tyR_pln rsrs, tyR_pln bdty, rhsR_pln bdrh, armR_pln bdar, expR_pln bdbd, Bool.and_self]
theorem funR_pln : ∀ l : List Fun, plnRR (funR l) = true
 | [] => rfl
 | x :: l => by rw [funR, plnRR, x.pln, funR_pln l]; rfl
theorem Fun.inj : ∀ {a b : Fun}, a.cs = b.cs → a = b
 | .mk nm ps (.mk rsfn rsst (.mk rsrfk rsrfnm rsrfng rsrfdg rsrfks) rsps rsrs) (.mk bdk bdnm bdty bdrh (.mk bdamk bdamnm bdamng bdamdg bdamtr) bdar bdbd), .mk wnm wps (.mk wrsfn wrsst (.mk wrsrfk wrsrfnm wrsrfng wrsrfdg wrsrfks) wrsps wrsrs) (.mk wbdk wbdnm wbdty wbdrh (.mk wbdamk wbdamnm wbdamng wbdamdg wbdamtr) wbdar wbdbd), h => by
  simp only [Fun.cs, List.cons.injEq, AV.lit.injEq, AV.sl.injEq, Value.int.injEq, Value.bool.injEq, Value.string.injEq, true_and, and_true] at h
  obtain ⟨rfl, h1, rfl, rfl, rfl, rfl, rfl, h7, h8, h9, h10, rfl, rfl, h13, h14, rfl, rfl, rfl, h18, rfl, h20, h21⟩ := h
  rw [prmR_inj h1, limR_inj h7, trmR_inj h8, prmR_inj h9, tyR_inj h10, tyR_inj h13, rhsR_inj h14, limR_inj h18, armR_inj h20, expR_inj h21]
theorem funR_inj : ∀ {a b : List Fun}, funR a = funR b → a = b
 | [], [], _ => rfl
 | [], _ :: _, h => by cases h
 | _ :: _, [], h => by cases h
 | x :: l, y :: m, h => by
  rw [funR, funR, List.cons.injEq] at h
  rw [Fun.inj h.1, funR_inj h.2]
inductive Srt where
 | mk (nm : ByteArray) (st : ByteArray)
def Srt.cs : Srt → List AV
 | .mk nm st => [.lit (.string nm), .lit (.string st)]
def srtR : List Srt → List (List AV)
 | [] => []
 | x :: l => x.cs :: srtR l
def Srt.n : Srt → Nat
 | .mk nm st => 1
def srtN : List Srt → Nat
 | [] => 0
 | x :: l => x.n + srtN l
theorem Srt.n_pos (x : Srt) : 1 ≤ x.n := by obtain ⟨nm, st⟩ := x; simp only [Srt.n]; omega
theorem srtR_map (l : List Srt) : srtR l = l.map Srt.cs := by induction l with | nil => rfl | cons x l ih => rw [srtR, ih]; rfl
@[simp] theorem srtR_len (l : List Srt) : (srtR l).length = l.length := by rw [srtR_map, List.length_map]
theorem Srt.len (x : Srt) : x.cs.length = 2 := by obtain ⟨nm, st⟩ := x; rfl
theorem Srt.put {z : List AV} (x : Srt) (h : z.length = 2) : putCells z 0 x.cs = x.cs := put_all h x.len
theorem Srt.stp (x : Srt) : x.cs.map AV.strip = x.cs := by obtain ⟨nm, st⟩ := x; rfl
theorem Srt.tk (x : Srt) : x.cs.take 2 = x.cs := List.take_of_length_le (Nat.le_of_eq x.len)
theorem Srt.nrm : ∀ x : Srt, nrmR x.cs = x.cs
 | .mk nm st => by simp only [Srt.cs, nrmR, AV.nrm]
theorem srtR_nrm : ∀ l : List Srt, nrmRR (srtR l) = srtR l
 | [] => rfl
 | x :: l => by rw [srtR, nrmRR, x.nrm, srtR_nrm l]
theorem Srt.pln : ∀ x : Srt, plnR x.cs = true
 | .mk nm st => by simp only [Srt.cs, plnR, AV.pln, Bool.and_self]
theorem srtR_pln : ∀ l : List Srt, plnRR (srtR l) = true
 | [] => rfl
 | x :: l => by rw [srtR, plnRR, x.pln, srtR_pln l]; rfl
theorem Srt.inj : ∀ {a b : Srt}, a.cs = b.cs → a = b
 | .mk nm st, .mk wnm wst, h => by
  simp only [Srt.cs, List.cons.injEq, AV.lit.injEq, Value.string.injEq, and_true] at h
  obtain ⟨rfl, rfl⟩ := h
  rfl
theorem srtR_inj : ∀ {a b : List Srt}, srtR a = srtR b → a = b
 | [], [], _ => rfl
 | [], _ :: _, h => by cases h
 | _ :: _, [], h => by cases h
 | x :: l, y :: m, h => by
  rw [srtR, srtR, List.cons.injEq] at h
  rw [Srt.inj h.1, srtR_inj h.2]
inductive Con where
 | mk (nm : ByteArray) (fs : List ByteArray)
def Con.cs : Con → List AV
 | .mk nm fs => [.lit (.string nm), .sl (txtR fs) .no]
def conR : List Con → List (List AV)
 | [] => []
 | x :: l => x.cs :: conR l
def Con.n : Con → Nat
 | .mk nm fs => 1 + fs.length
def conN : List Con → Nat
 | [] => 0
 | x :: l => x.n + conN l
theorem Con.n_pos (x : Con) : 1 ≤ x.n := by obtain ⟨nm, fs⟩ := x; simp only [Con.n]; omega
theorem conR_map (l : List Con) : conR l = l.map Con.cs := by induction l with | nil => rfl | cons x l ih => rw [conR, ih]; rfl
@[simp] theorem conR_len (l : List Con) : (conR l).length = l.length := by rw [conR_map, List.length_map]
theorem Con.len (x : Con) : x.cs.length = 2 := by obtain ⟨nm, fs⟩ := x; rfl
theorem Con.put {z : List AV} (x : Con) (h : z.length = 2) : putCells z 0 x.cs = x.cs := put_all h x.len
theorem Con.stp (x : Con) : x.cs.map AV.strip = x.cs := by obtain ⟨nm, fs⟩ := x; rfl
theorem Con.tk (x : Con) : x.cs.take 2 = x.cs := List.take_of_length_le (Nat.le_of_eq x.len)
theorem Con.nrm : ∀ x : Con, nrmR x.cs = x.cs
 | .mk nm fs => by simp only [Con.cs, nrmR, AV.nrm, txtR_nrm]
theorem conR_nrm : ∀ l : List Con, nrmRR (conR l) = conR l
 | [] => rfl
 | x :: l => by rw [conR, nrmRR, x.nrm, conR_nrm l]
theorem Con.pln : ∀ x : Con, plnR x.cs = true
 | .mk nm fs => by simp only [Con.cs, plnR, AV.pln, txtR_pln, Bool.and_self]
theorem conR_pln : ∀ l : List Con, plnRR (conR l) = true
 | [] => rfl
 | x :: l => by rw [conR, plnRR, x.pln, conR_pln l]; rfl
theorem Con.inj : ∀ {a b : Con}, a.cs = b.cs → a = b
 | .mk nm fs, .mk wnm wfs, h => by
  simp only [Con.cs, List.cons.injEq, AV.lit.injEq, AV.sl.injEq, Value.int.injEq, Value.bool.injEq, Value.string.injEq, true_and, and_true] at h
  obtain ⟨rfl, h1⟩ := h
  rw [txtR_inj h1]
theorem conR_inj : ∀ {a b : List Con}, conR a = conR b → a = b
 | [], [], _ => rfl
 | [], _ :: _, h => by cases h
 | _ :: _, [], h => by cases h
 | x :: l, y :: m, h => by
  rw [conR, conR, List.cons.injEq] at h
  rw [Con.inj h.1, conR_inj h.2]
inductive Dat where
 | mk (nm : ByteArray) (cs : List Con)
def Dat.cs : Dat → List AV
 | .mk nm cs => [.lit (.string nm), .sl (conR cs) .no]
def datR : List Dat → List (List AV)
 | [] => []
 | x :: l => x.cs :: datR l
def Dat.n : Dat → Nat
 | .mk nm cs => 1 + conN cs
def datN : List Dat → Nat
 | [] => 0
 | x :: l => x.n + datN l
theorem Dat.n_pos (x : Dat) : 1 ≤ x.n := by obtain ⟨nm, cs⟩ := x; simp only [Dat.n]; omega
theorem datR_map (l : List Dat) : datR l = l.map Dat.cs := by induction l with | nil => rfl | cons x l ih => rw [datR, ih]; rfl
@[simp] theorem datR_len (l : List Dat) : (datR l).length = l.length := by rw [datR_map, List.length_map]
theorem Dat.len (x : Dat) : x.cs.length = 2 := by obtain ⟨nm, cs⟩ := x; rfl
theorem Dat.put {z : List AV} (x : Dat) (h : z.length = 2) : putCells z 0 x.cs = x.cs := put_all h x.len
theorem Dat.stp (x : Dat) : x.cs.map AV.strip = x.cs := by obtain ⟨nm, cs⟩ := x; rfl
theorem Dat.tk (x : Dat) : x.cs.take 2 = x.cs := List.take_of_length_le (Nat.le_of_eq x.len)
theorem Dat.nrm : ∀ x : Dat, nrmR x.cs = x.cs
 | .mk nm cs => by simp only [Dat.cs, nrmR, AV.nrm, conR_nrm cs]
theorem datR_nrm : ∀ l : List Dat, nrmRR (datR l) = datR l
 | [] => rfl
 | x :: l => by rw [datR, nrmRR, x.nrm, datR_nrm l]
theorem Dat.pln : ∀ x : Dat, plnR x.cs = true
 | .mk nm cs => by simp only [Dat.cs, plnR, AV.pln, conR_pln cs, Bool.and_self]
theorem datR_pln : ∀ l : List Dat, plnRR (datR l) = true
 | [] => rfl
 | x :: l => by rw [datR, plnRR, x.pln, datR_pln l]; rfl
theorem Dat.inj : ∀ {a b : Dat}, a.cs = b.cs → a = b
 | .mk nm cs, .mk wnm wcs, h => by
  simp only [Dat.cs, List.cons.injEq, AV.lit.injEq, AV.sl.injEq, Value.int.injEq, Value.bool.injEq, Value.string.injEq, true_and, and_true] at h
  obtain ⟨rfl, h1⟩ := h
  rw [conR_inj h1]
theorem datR_inj : ∀ {a b : List Dat}, datR a = datR b → a = b
 | [], [], _ => rfl
 | [], _ :: _, h => by cases h
 | _ :: _, [], h => by cases h
 | x :: l, y :: m, h => by
  rw [datR, datR, List.cons.injEq] at h
  rw [Dat.inj h.1, datR_inj h.2]
inductive Kap where
 | mk (nm : ByteArray) (ps : List Srt) (bd : Trm)
def Kap.cs : Kap → List AV
 | .mk nm ps (.mk bdk bdnm bdng bddg bdks) => [.lit (.string nm), .sl (srtR ps) .no, .lit (.int .u8 bdk), .lit (.string bdnm), .lit (.bool bdng), .sl (limR bddg) .no, .sl (trmR bdks) .no]
def kapR : List Kap → List (List AV)
 | [] => []
 | x :: l => x.cs :: kapR l
def Kap.n : Kap → Nat
 | .mk nm ps (.mk bdk bdnm bdng bddg bdks) => 1 + srtN ps + bddg.length + trmN bdks
def kapN : List Kap → Nat
 | [] => 0
 | x :: l => x.n + kapN l
theorem Kap.n_pos (x : Kap) : 1 ≤ x.n := by obtain ⟨nm, ps, ⟨bdk, bdnm, bdng, bddg, bdks⟩⟩ := x; simp only [Kap.n]; omega
theorem kapR_map (l : List Kap) : kapR l = l.map Kap.cs := by induction l with | nil => rfl | cons x l ih => rw [kapR, ih]; rfl
@[simp] theorem kapR_len (l : List Kap) : (kapR l).length = l.length := by rw [kapR_map, List.length_map]
theorem Kap.len (x : Kap) : x.cs.length = 7 := by obtain ⟨nm, ps, ⟨bdk, bdnm, bdng, bddg, bdks⟩⟩ := x; rfl
theorem Kap.put {z : List AV} (x : Kap) (h : z.length = 7) : putCells z 0 x.cs = x.cs := put_all h x.len
theorem Kap.stp (x : Kap) : x.cs.map AV.strip = x.cs := by obtain ⟨nm, ps, ⟨bdk, bdnm, bdng, bddg, bdks⟩⟩ := x; rfl
theorem Kap.tk (x : Kap) : x.cs.take 7 = x.cs := List.take_of_length_le (Nat.le_of_eq x.len)
theorem Kap.nrm : ∀ x : Kap, nrmR x.cs = x.cs
 | .mk nm ps (.mk bdk bdnm bdng bddg bdks) => by simp only [Kap.cs, nrmR, AV.nrm, srtR_nrm ps, limR_nrm, trmR_nrm bdks]
theorem kapR_nrm : ∀ l : List Kap, nrmRR (kapR l) = kapR l
 | [] => rfl
 | x :: l => by rw [kapR, nrmRR, x.nrm, kapR_nrm l]
theorem Kap.pln : ∀ x : Kap, plnR x.cs = true
 | .mk nm ps (.mk bdk bdnm bdng bddg bdks) => by simp only [Kap.cs, plnR, AV.pln, srtR_pln ps, limR_pln, trmR_pln bdks, Bool.and_self]
theorem kapR_pln : ∀ l : List Kap, plnRR (kapR l) = true
 | [] => rfl
 | x :: l => by rw [kapR, plnRR, x.pln, kapR_pln l]; rfl
theorem Kap.inj : ∀ {a b : Kap}, a.cs = b.cs → a = b
 | .mk nm ps (.mk bdk bdnm bdng bddg bdks), .mk wnm wps (.mk wbdk wbdnm wbdng wbddg wbdks), h => by
  simp only [Kap.cs, List.cons.injEq, AV.lit.injEq, AV.sl.injEq, Value.int.injEq, Value.bool.injEq, Value.string.injEq, true_and, and_true] at h
  obtain ⟨rfl, h1, rfl, rfl, rfl, h5, h6⟩ := h
  rw [srtR_inj h1, limR_inj h5, trmR_inj h6]
theorem kapR_inj : ∀ {a b : List Kap}, kapR a = kapR b → a = b
 | [], [], _ => rfl
 | [], _ :: _, h => by cases h
 | _ :: _, [], h => by cases h
 | x :: l, y :: m, h => by
  rw [kapR, kapR, List.cons.injEq] at h
  rw [Kap.inj h.1, kapR_inj h.2]
inductive Rat where
 | mk (ng : Bool) (nd : List Int) (dg : Bool) (dd : List Int)
def Rat.cs : Rat → List AV
 | .mk ng nd dg dd => [.lit (.bool ng), .sl (limR nd) .no, .lit (.bool dg), .sl (limR dd) .no]
def ratR : List Rat → List (List AV)
 | [] => []
 | x :: l => x.cs :: ratR l
def Rat.n : Rat → Nat
 | .mk ng nd dg dd => 1 + nd.length + dd.length
def ratN : List Rat → Nat
 | [] => 0
 | x :: l => x.n + ratN l
theorem Rat.n_pos (x : Rat) : 1 ≤ x.n := by obtain ⟨ng, nd, dg, dd⟩ := x; simp only [Rat.n]; omega
theorem ratR_map (l : List Rat) : ratR l = l.map Rat.cs := by induction l with | nil => rfl | cons x l ih => rw [ratR, ih]; rfl
@[simp] theorem ratR_len (l : List Rat) : (ratR l).length = l.length := by rw [ratR_map, List.length_map]
theorem Rat.len (x : Rat) : x.cs.length = 4 := by obtain ⟨ng, nd, dg, dd⟩ := x; rfl
theorem Rat.put {z : List AV} (x : Rat) (h : z.length = 4) : putCells z 0 x.cs = x.cs := put_all h x.len
theorem Rat.stp (x : Rat) : x.cs.map AV.strip = x.cs := by obtain ⟨ng, nd, dg, dd⟩ := x; rfl
theorem Rat.tk (x : Rat) : x.cs.take 4 = x.cs := List.take_of_length_le (Nat.le_of_eq x.len)
theorem Rat.nrm : ∀ x : Rat, nrmR x.cs = x.cs
 | .mk ng nd dg dd => by simp only [Rat.cs, nrmR, AV.nrm, limR_nrm]
theorem ratR_nrm : ∀ l : List Rat, nrmRR (ratR l) = ratR l
 | [] => rfl
 | x :: l => by rw [ratR, nrmRR, x.nrm, ratR_nrm l]
theorem Rat.pln : ∀ x : Rat, plnR x.cs = true
 | .mk ng nd dg dd => by simp only [Rat.cs, plnR, AV.pln, limR_pln, Bool.and_self]
theorem ratR_pln : ∀ l : List Rat, plnRR (ratR l) = true
 | [] => rfl
 | x :: l => by rw [ratR, plnRR, x.pln, ratR_pln l]; rfl
theorem Rat.inj : ∀ {a b : Rat}, a.cs = b.cs → a = b
 | .mk ng nd dg dd, .mk wng wnd wdg wdd, h => by
  simp only [Rat.cs, List.cons.injEq, AV.lit.injEq, AV.sl.injEq, Value.int.injEq, Value.bool.injEq, Value.string.injEq, true_and, and_true] at h
  obtain ⟨rfl, h1, rfl, h3⟩ := h
  rw [limR_inj h1, limR_inj h3]
theorem ratR_inj : ∀ {a b : List Rat}, ratR a = ratR b → a = b
 | [], [], _ => rfl
 | [], _ :: _, h => by cases h
 | _ :: _, [], h => by cases h
 | x :: l, y :: m, h => by
  rw [ratR, ratR, List.cons.injEq] at h
  rw [Rat.inj h.1, ratR_inj h.2]
inductive Prf where
 | mk (k : Int) (pl : List Int) (co : List Rat) (nm : ByteArray) (ts : List Trm) (ng : Bool) (dg : List Int) (ks : List Prf)
mutual
def Prf.cs : Prf → List AV
 | .mk k pl co nm ts ng dg ks => [.lit (.int .u8 k), .sl (intR pl) .no, .sl (ratR co) .no, .lit (.string nm), .sl (trmR ts) .no, .lit (.bool ng), .sl (limR dg) .no, .sl (prfR ks) .no]
def prfR : List Prf → List (List AV)
 | [] => []
 | x :: l => x.cs :: prfR l
end
mutual
def Prf.n : Prf → Nat
 | .mk k pl co nm ts ng dg ks => 1 + pl.length + ratN co + trmN ts + dg.length + prfN ks
def prfN : List Prf → Nat
 | [] => 0
 | x :: l => x.n + prfN l
end
theorem Prf.n_pos (x : Prf) : 1 ≤ x.n := by obtain ⟨k, pl, co, nm, ts, ng, dg, ks⟩ := x; simp only [Prf.n]; omega
theorem prfR_map (l : List Prf) : prfR l = l.map Prf.cs := by induction l with | nil => rfl | cons x l ih => rw [prfR, ih]; rfl
@[simp] theorem prfR_len (l : List Prf) : (prfR l).length = l.length := by rw [prfR_map, List.length_map]
theorem Prf.len (x : Prf) : x.cs.length = 8 := by obtain ⟨k, pl, co, nm, ts, ng, dg, ks⟩ := x; rfl
theorem Prf.put {z : List AV} (x : Prf) (h : z.length = 8) : putCells z 0 x.cs = x.cs := put_all h x.len
theorem Prf.stp (x : Prf) : x.cs.map AV.strip = x.cs := by obtain ⟨k, pl, co, nm, ts, ng, dg, ks⟩ := x; rfl
theorem Prf.tk (x : Prf) : x.cs.take 8 = x.cs := List.take_of_length_le (Nat.le_of_eq x.len)
mutual
theorem Prf.nrm : ∀ x : Prf, nrmR x.cs = x.cs
 | .mk k pl co nm ts ng dg ks => by simp only [Prf.cs, nrmR, AV.nrm, intR_nrm, ratR_nrm co, trmR_nrm ts, limR_nrm, prfR_nrm ks]
theorem prfR_nrm : ∀ l : List Prf, nrmRR (prfR l) = prfR l
 | [] => rfl
 | x :: l => by rw [prfR, nrmRR, x.nrm, prfR_nrm l]
end
mutual
theorem Prf.pln : ∀ x : Prf, plnR x.cs = true
 | .mk k pl co nm ts ng dg ks => by simp only [Prf.cs, plnR, AV.pln, intR_pln, ratR_pln co, trmR_pln ts, limR_pln, prfR_pln ks, Bool.and_self]
theorem prfR_pln : ∀ l : List Prf, plnRR (prfR l) = true
 | [] => rfl
 | x :: l => by rw [prfR, plnRR, x.pln, prfR_pln l]; rfl
end
mutual
theorem Prf.inj : ∀ {a b : Prf}, a.cs = b.cs → a = b
 | .mk k pl co nm ts ng dg ks, .mk wk wpl wco wnm wts wng wdg wks, h => by
  simp only [Prf.cs, List.cons.injEq, AV.lit.injEq, AV.sl.injEq, Value.int.injEq, Value.bool.injEq, Value.string.injEq, true_and, and_true] at h
  obtain ⟨rfl, h1, h2, rfl, h4, rfl, h6, h7⟩ := h
  rw [intR_inj h1, ratR_inj h2, trmR_inj h4, limR_inj h6, prfR_inj h7]
theorem prfR_inj : ∀ {a b : List Prf}, prfR a = prfR b → a = b
 | [], [], _ => rfl
 | [], _ :: _, h => by cases h
 | _ :: _, [], h => by cases h
 | x :: l, y :: m, h => by
  rw [prfR, prfR, List.cons.injEq] at h
  rw [Prf.inj h.1, prfR_inj h.2]
end
inductive Prg where
 | mk (ds : List Dat) (ks : List Kap) (fs : List Fun) (ps : List Prf)
def Prg.cs : Prg → List AV
 | .mk ds ks fs ps => [.sl (datR ds) .no, .sl (kapR ks) .no, .sl (funR fs) .no, .sl (prfR ps) .no]
def prgR : List Prg → List (List AV)
 | [] => []
 | x :: l => x.cs :: prgR l
def Prg.n : Prg → Nat
 | .mk ds ks fs ps => 1 + datN ds + kapN ks + funN fs + prfN ps
theorem Prg.n_pos (x : Prg) : 1 ≤ x.n := by obtain ⟨ds, ks, fs, ps⟩ := x; simp only [Prg.n]; omega
theorem prgR_map (l : List Prg) : prgR l = l.map Prg.cs := by induction l with | nil => rfl | cons x l ih => rw [prgR, ih]; rfl
@[simp] theorem prgR_len (l : List Prg) : (prgR l).length = l.length := by rw [prgR_map, List.length_map]
theorem Prg.len (x : Prg) : x.cs.length = 4 := by obtain ⟨ds, ks, fs, ps⟩ := x; rfl
theorem Prg.put {z : List AV} (x : Prg) (h : z.length = 4) : putCells z 0 x.cs = x.cs := put_all h x.len
theorem Prg.stp (x : Prg) : x.cs.map AV.strip = x.cs := by obtain ⟨ds, ks, fs, ps⟩ := x; rfl
theorem Prg.tk (x : Prg) : x.cs.take 4 = x.cs := List.take_of_length_le (Nat.le_of_eq x.len)
theorem Prg.nrm : ∀ x : Prg, nrmR x.cs = x.cs
 | .mk ds ks fs ps => by simp only [Prg.cs, nrmR, AV.nrm, datR_nrm ds, kapR_nrm ks, funR_nrm fs, prfR_nrm ps]
theorem Prg.pln : ∀ x : Prg, plnR x.cs = true
 | .mk ds ks fs ps => by simp only [Prg.cs, plnR, AV.pln, datR_pln ds, kapR_pln ks, funR_pln fs, prfR_pln ps, Bool.and_self]
theorem Prg.inj : ∀ {a b : Prg}, a.cs = b.cs → a = b
 | .mk ds ks fs ps, .mk wds wks wfs wps, h => by
  simp only [Prg.cs, List.cons.injEq, AV.lit.injEq, AV.sl.injEq, Value.int.injEq, Value.bool.injEq, Value.string.injEq, true_and, and_true] at h
  obtain ⟨h0, h1, h2, h3⟩ := h
  rw [datR_inj h0, kapR_inj h1, funR_inj h2, prfR_inj h3]
end Go.Proofs.YteajcnilihgheaaGreatDoor
