/-
 EV: slices.Sort, slices.Compact at texts, taken on the shelf's contracts.
-/
import Derived.Test.YteajcnilihgheaaGreatDoorTFr4M
import Derived.Test.YteajcnilihgheaaGreatDoorEvRange3M
namespace Go.Proofs.YteajcnilihgheaaGreatDoor
set_option maxRecDepth 100000
set_option maxHeartbeats 8000000
set_option linter.unusedSimpArgs false
set_option linter.unusedVariables false
section
open Go.RowKit Go.Sort
theorem putRow_setRow {w : World} {b : Nat} {c : Array Value} {T : TypeId} {fz : Nat × Nat} (hg : w.heap[b]? = some (.cells c T fz)) (d : Array (List UInt8)) : putRow encStr w b 0 d = w.setRow b (Go.Sort.putCells encStr 0 d c) := by
 have h : (w.heap.modify b (onCells (Go.Sort.putCells encStr 0 d))) = w.heap.modify b fun | .cells _ elem frozen => .cells (Go.Sort.putCells encStr 0 d c) elem frozen | o => o := by
  apply Array.ext_getElem?
  intro k
  simp only [Array.getElem?_modify]
  by_cases hk : b = k
  · subst hk; simp only [if_true, hg, Option.map_some, onCells]
  · simp [hk]
 unfold putRow mapBlock World.setRow
 rw [h]
 rfl
abbrev encA (l : List UInt8) : AV := .lit (.string (strB l))
def strsOf : List AV → Option (List (List UInt8))
 | [] => some []
 | .lit (.string s) :: l => (strsOf l).map (s.data.toList :: ·)
 | _ => none
theorem strsOf_eq : ∀ {cs : List AV} {ss : List (List UInt8)}, strsOf cs = some ss → cs = ss.map encA
 | [], ss, h => by simp [strsOf] at h; subst h; rfl
 | v :: l, ss, h => by
  unfold strsOf at h
  split at h
  · cases h
    rename_i h; cases h
  · rename_i s l' heq
    cases heq
    obtain ⟨q, h1, rfl⟩ := Option.map_eq_some_iff.1 h
    rw [strsOf_eq h1]
    rfl
  · cases h
theorem strsOf_map : ∀ ss : List (List UInt8), strsOf (ss.map encA) = some ss
 | [] => rfl
 | s :: l => by show (strsOf (l.map encA)).map _ = _; rw [strsOf_map l]; rfl
section
variable {ι : List Nat} {Z : Nat → Nat → Prop} {w : World} {σ : Sto}
theorem Evo.ahead (n : Nat) : Evo ι Z w ι Z (Go.Sort.ahead w n) where
 pre := fun _ _ h => h
 img := fun id _ h _ => ⟨id, h⟩
 zmono := fun _ _ h => h
 zsame := fun _ _ _ => rfl
 csz := fun _ _ => rfl
 size := Nat.le_refl _
 keep := fun _ _ _ => rfl
 os := rfl
 tape := rfl
 output := rfl
 znew := fun _ _ h _ => .inl h
theorem Match.ahead (h : Match σ ι Z w) (n : Nat) : Match σ ι Z (Go.Sort.ahead w n) := h.same (Evo.ahead n) fun _ _ _ => rfl
theorem sl_nil {tok : Tok} {u : Value} (h : VR ι Z w (.sl [] tok) u) : ∃ p c, u = .slice p 0 c ∧ (p = none → c = 0) := by
 cases h with
 | nils a c _ h g => exact ⟨a, c, rfl, h⟩
 | frs t k c b h1 h2 h3 => exact ⟨_, _, rfl, fun h => by cases h⟩
 | sl b o n c k es tok U h1 h2 => simp at h1; omega
theorem Match.rowed (h : Match σ ι Z w) {i g : Nat} {ss : List (List UInt8)} {T : TypeId} {old : Array Value} (hσ : σ[i]? = some (.cells (ss.map encA) T)) (hi : ι[i]? = some g) (hg : w.heap[g]? = some (.cells old T (0, 0))) (hl : ss.length ≤ old.size) (ts : List (List UInt8)) (ht : ts.length = ss.length) (n : Nat) (os : Array Obj) :
    Evo ι Z w ι Z (Go.Sort.grow (putRow encStr (Go.Sort.ahead w n) g 0 ts.toArray) os) ∧ Match (σ.set i (.cells (ts.map encA) T)) ι Z (Go.Sort.grow (putRow encStr (Go.Sort.ahead w n) g 0 ts.toArray) os) := by
 have e1 := Evo.ahead (ι := ι) (Z := Z) (w := w) n
 have m1 := h.ahead n
 have hg1 : (Go.Sort.ahead w n).heap[g]? = some (.cells old T (0, 0)) := hg
 rw [putRow_setRow hg1]
 obtain ⟨e2, m2⟩ := m1.setCells (cs := ts.map encA) (c := Go.Sort.putCells encStr 0 ts.toArray old) hσ hi hg1 (by simp [Go.Sort.putCells]) (by simp [Go.Sort.putCells]; omega) (fun j d u hd hu => by
  rw [List.getElem?_map, Option.map_eq_some_iff] at hd
  obtain ⟨s, hs, rfl⟩ := hd
  have hj := (List.getElem?_eq_some_iff.1 hs).1
  unfold Go.Sort.putCells at hu
  rw [Array.getElem?_mapIdx, Option.map_eq_some_iff] at hu
  obtain ⟨x, _, rfl⟩ := hu
  rw [if_pos ⟨by omega, by simpa using hj⟩]
  refine ⟨rfl, ?_⟩
  have hq := (List.getElem?_eq_some_iff.1 hs).2
  have : (ts.toArray)[j - 0]! = s := by simp [hj, hq]
  rw [this]
  exact .lit _ rfl)
 have hb : Below ((Go.Sort.ahead w n).setRow g (Go.Sort.putCells encStr 0 ts.toArray old)).heap.size ((Go.Sort.ahead w n).setRow g (Go.Sort.putCells encStr 0 ts.toArray old)) (Go.Sort.grow ((Go.Sort.ahead w n).setRow g (Go.Sort.putCells encStr 0 ts.toArray old)) os) :=
  ⟨rfl, rfl, rfl, by show _ ≤ (_ ++ os).size; rw [Array.size_append]; omega, fun j hj => by show (_ ++ os)[j]? = _; rw [Array.getElem?_append_left hj]⟩
 exact ⟨(e1.trans e2).trans (.ofBelow m2 hb), m2.below hb⟩
end
def primSort (args : List AV) (σ : Sto) : Option (ARes × Sto) :=
 match args with
 | [.asl id 0 n 1] =>
  match σ[id]? with
  | some (.cells cs T) => if T = 9 ∧ cs.length = n ∧ n ≤ 1000000000000 then (strsOf cs).map fun ss => (.ret (.tup []), σ.set id (.cells ((ss.mergeSort fun x y => decide (x ≤ y)).map encA) T)) else none
  | _ => none
 | [.sl [] _] => some (.ret (.tup []), σ)
 | _ => none
theorem holds_of {σ : Sto} {ι : List Nat} {Z : Nat → Nat → Prop} {w : World} (hM : Match σ ι Z w) {i g : Nat} {ss : List (List UInt8)} {T : TypeId} (hσ : σ[i]? = some (.cells (ss.map encA) T)) (hi : ι[i]? = some g) : ∃ old, w.heap[g]? = some (.cells old T (0, 0)) ∧ ss.length ≤ old.size ∧ Holds encStr w g 0 ss.toArray := by
 obtain ⟨c, hheap, hlen, hc, hz⟩ := hM.obj i _ g hσ hi
 simp only [List.length_map] at hlen
 refine ⟨c, hheap, hlen, fun j hj => ⟨?_, by simp [World.frozen?, hheap]⟩⟩
 have hj' : j < ss.length := by simpa using hj
 have hcj := Array.getElem?_eq_getElem (show j < c.size by omega)
 have h1 := (hc j (encA ss[j]) _ (by rw [List.getElem?_map, List.getElem?_eq_getElem hj']; rfl) hcj).2
 have h2 : w.cell? ⟨g, 0 + j, none⟩ = some c[j] := by simp [World.cell?, hheap, Nat.zero_add, hcj]
 rw [h2]
 generalize c[j] = u at h1
 cases h1
 simp [hj']
theorem primSort_sound : CallSound Tryz.prog fun f args σ => if f = 109 then primSort args σ else none := by
 intro f args σ r σ' hr ι Z w us hM hl hargs
 dsimp only at hr
 split at hr
 · rename_i e
   subst e
   unfold primSort at hr
   split at hr
   · rename_i id n
     split at hr
     · rename_i cs T hσ
       split at hr
       · rename_i hcond
         obtain ⟨rfl, hn, hn2⟩ := hcond
         obtain ⟨ss, hs, h2⟩ := Option.map_eq_some_iff.1 hr
         cases h2
         have hcs := strsOf_eq hs
         subst hcs
         rw [List.length_map] at hn
         obtain ⟨u, rfl⟩ := one_arg hl
         obtain ⟨b, c, rfl, hb, hnc, hcm, hcz⟩ := asl_at (hargs 0 _ u rfl rfl)
         obtain ⟨old, hg, hol, hH⟩ := holds_of hM hσ hb
         subst hn
         refine ⟨Tryz.call109 _ _, (Tryz.slices_Sort_string b 0 c ss w hH (Array.getElem?_eq_some_iff.1 hg).1 (by omega)).mono ?_⟩
         rintro e w' ⟨rfl, n, os, rfl⟩
         obtain ⟨e1, m1⟩ := hM.rowed hσ hb hg hol (ss.mergeSort fun x y => decide (x ≤ y)) (List.length_mergeSort _) n os
         exact ⟨ι, Z, e1, m1, _, rfl, .tup _ _ rfl fun i d u hd hu => by simp at hd⟩
       · cases hr
     · cases hr
   · cases hr
     obtain ⟨u, rfl⟩ := one_arg hl
     have hu := hargs 0 _ u rfl rfl
     obtain ⟨p, c, rfl, _⟩ := sl_nil hu
     refine ⟨Tryz.call109 _ _, (AnyM.slices_Sort_string_none Tryz.sort109 p c w).mono ?_⟩
     rintro e w' ⟨rfl, rfl⟩
     exact ⟨ι, Z, .refl _ _ _, hM, _, rfl, .tup _ _ rfl fun i d u hd hu => by simp at hd⟩
   · cases hr
 · cases hr
def primCompact (args : List AV) (σ : Sto) : Option (ARes × Sto) :=
 match args with
 | [.asl id 0 n 1] =>
  match σ[id]? with
  | some (.cells cs T) => if T = 9 ∧ cs.length = n ∧ n ≤ 1000000000000 then (strsOf cs).map fun ss => (.ret (.asl id 0 (Lib.compact ss).length 1), σ.set id (.cells ((Lib.compact ss ++ List.replicate (ss.length - (Lib.compact ss).length) []).map encA) T)) else none
  | _ => none
 | [.sl [] _] => some (.ret (.sl [] .no), σ)
 | _ => none
theorem primCompact_sound : CallSound Tryz.prog fun f args σ => if f = 149 then primCompact args σ else none := by
 intro f args σ r σ' hr ι Z w us hM hl hargs
 dsimp only at hr
 split at hr
 · rename_i e
   subst e
   unfold primCompact at hr
   split at hr
   · rename_i id n
     split at hr
     · rename_i cs T hσ
       split at hr
       · rename_i hcond
         obtain ⟨rfl, hn, hn2⟩ := hcond
         obtain ⟨ss, hs, h2⟩ := Option.map_eq_some_iff.1 hr
         cases h2
         have hcs := strsOf_eq hs
         subst hcs
         rw [List.length_map] at hn
         obtain ⟨u, rfl⟩ := one_arg hl
         obtain ⟨b, c, rfl, hb, hnc, hcm, hcz⟩ := asl_at (hargs 0 _ u rfl rfl)
         obtain ⟨old, hg, hol, hH⟩ := holds_of hM hσ hb
         subst hn
         have hcl := Lib.compact_length_le ss
         refine ⟨Tryz.call149 _ _, (Tryz.slices_Compact_string b 0 c ss w hH (by omega) hnc).mono ?_⟩
         rintro e w' ⟨rfl, q, rfl⟩
         obtain ⟨e1, m1⟩ := hM.rowed hσ hb hg hol (Lib.compact ss ++ List.replicate (ss.length - (Lib.compact ss).length) []) (by simp; omega) q #[]
         rw [grow_empty] at e1 m1
         refine ⟨ι, Z, e1, m1, _, rfl, .asl _ _ _ _ c b hb (by omega) hcm ?_⟩
         rcases Nat.eq_zero_or_pos c with h0 | h0
         · omega
         · rw [e1.csz b (cellsz_pos (by omega))]; omega
       · cases hr
     · cases hr
   · cases hr
     obtain ⟨u, rfl⟩ := one_arg hl
     have hu := hargs 0 _ u rfl rfl
     obtain ⟨p, c, rfl, hp⟩ := sl_nil hu
     refine ⟨Tryz.call149 _ _, (Tryz.slices_Compact_string_empty p c w).mono ?_⟩
     rintro e w' ⟨rfl, rfl⟩
     exact ⟨ι, Z, .refl _ _ _, hM, _, rfl, .nils p c .no hp (.inl rfl)⟩
   · cases hr
 · cases hr
end
section
open Go.RowKit
theorem chunks_rows {k : Nat} : ∀ (es : List (List AV)), (∀ r ∈ es, r.length = k) → chunks k es.length es.flatten = es
 | [], _ => rfl
 | r :: es, h => by
  have h1 := h r List.mem_cons_self
  show chunks k (es.length + 1) (r ++ es.flatten) = _
  rw [chunks, List.take_left' h1, List.drop_left' h1, chunks_rows es fun x hx => h x (List.mem_cons_of_mem _ hx)]
theorem rows_len {k : Nat} : ∀ (es : List (List AV)), (∀ r ∈ es, r.length = k) → es.flatten.length = es.length * k
 | [], _ => by simp
 | r :: es, h => by
  have h1 := h r List.mem_cons_self
  rw [List.flatten_cons, List.length_append, rows_len es fun x hx => h x (List.mem_cons_of_mem _ hx), h1, List.length_cons, Nat.add_mul]; omega
def Held (σ : Sto) (e : TypeId) (k : Nat) (es : List (List AV)) (lv : AV) (d : Option Nat) : Prop :=
 (d = none ∧ lv = .sl [] .full ∧ es = []) ∨ ∃ id, d = some id ∧ lv = .asl id 0 es.length k ∧ σ[id]? = some (.cells es.flatten e)
def kill (d : Option Nat) (σ : Sto) : Sto := match d with | none => σ | some i => σ.set i .dead
theorem kill_len (d : Option Nat) (σ : Sto) : (kill d σ).length = σ.length := by cases d <;> simp [kill]
theorem Held.app {σ : Sto} {e : TypeId} {k : Nat} {es : List (List AV)} {lv : AV} {d : Option Nat} (h : Held σ e k es lv d) (l : Sto) : Held (σ ++ l) e k es lv d := by
 rcases h with h | ⟨i, h1, h2, h3⟩
 · exact .inl h
 · exact .inr ⟨i, h1, h2, (st_old (List.getElem?_eq_some_iff.1 h3).1).trans h3⟩
theorem apdM {P : Program} {σ : Sto} {t e : TypeId} {k by_ : Nat} {es : List (List AV)} {lv : AV} {d : Option Nat} (f : List AV) (yv : AV) (hr : rowsA σ (k + 1) yv = some [f]) (h : Held σ e (k + 1) es lv d) (hes : ∀ r ∈ es, r.length = k + 1) (hf : f.length = k + 1) (ht : P.underlying t = some (.slice e)) (hk : szOf P e = some (k + 1)) (hb : bytesOf P e = some by_) (hz : ((P.info? e).bind fun x => x.zero).map (fun z => z.cells.size) = some (k + 1)) (h1 : (es.length + 1) * by_ ≤ 140737488355328) (h2 : es.length + 1 ≤ 140737488355328) :
    ∀ (ρ : Operand → Option AV) (x y : Operand), ρ x = some lv → ρ y = some yv → evAppendM P ρ σ t x y = some (.val (.asl σ.length 0 (es.length + 1) (k + 1)) (kill d σ ++ [.cells (es.flatten ++ f) e]) (.grows d σ.length)) := by
 intro ρ x y hx hy
 rcases h with ⟨rfl, rfl, rfl⟩ | ⟨id, rfl, rfl, h3⟩
 · have hr0 : rowsA σ (k + 1) (.sl [] .full) = some [] := by simp [rowsA]
   simp only [List.length_nil, Nat.zero_add, Nat.one_mul] at h1
   simp [evAppendM, ht, hx, hy, hk, hb, hz, hr, hr0, kill] <;> omega
 · have hl := rows_len es hes
   have hr0 : rowsA σ (k + 1) (.asl id 0 es.length (k + 1)) = some es := by simp [rowsA, h3, hl, chunks_rows es hes]
   simp [evAppendM, ht, hx, hy, hk, hb, hz, hr, hr0, h3, kill] <;> omega
end
section
open Go.RowKit
variable {S : Sp} {N : Nat}
def OutX (X : Nat → Prop) (σ : Sto) (oid : Nat) (es : List ByteArray) : Prop :=
 ∃ lv d, σ[oid]? = some (.cells [lv] 23) ∧ Held σ 9 1 (txtR es) lv d ∧ (∀ g, d = some g → g ≠ oid ∧ ¬ X g) ∧ ¬ X oid ∧ ∀ p, X p → p < σ.length
theorem OutX.app {X : Nat → Prop} {σ : Sto} {oid : Nat} {es : List ByteArray} (h : OutX X σ oid es) (l : Sto) : OutX X (σ ++ l) oid es := by
 obtain ⟨lv, d, h1, h2, h3, h4, h5⟩ := h
 exact ⟨lv, d, (st_old (List.getElem?_eq_some_iff.1 h1).1).trans h1, h2.app l, h3, h4, fun p hp => by have := h5 p hp; simp; omega⟩
theorem OutX.box {X : Nat → Prop} {σ : Sto} {oid : Nat} {es : List ByteArray} (h : OutX X σ oid es) (o : AObj) : OutX (fun p => X p ∨ p = σ.length) (σ ++ [o]) oid es := by
 obtain ⟨lv, d, h1, h2, h3, h4, h5⟩ := h
 have l1 := (List.getElem?_eq_some_iff.1 h1).1
 refine ⟨lv, d, (st_old l1).trans h1, h2.app _, fun g hg => ⟨(h3 g hg).1, fun hx => ?_⟩, fun hx => ?_, fun p hp => ?_⟩
 · rcases hx with hx | hx
   · exact (h3 g hg).2 hx
   · subst hg
     rcases h2 with ⟨h, _⟩ | ⟨id, h, _, h'⟩
     · cases h
     · cases h; have := (List.getElem?_eq_some_iff.1 h').1; omega
 · rcases hx with hx | hx
   · exact h4 hx
   · omega
 · rcases hp with hp | hp
   · have := h5 p hp; simp; omega
   · subst hp; simp
theorem OutX.less {X Y : Nat → Prop} {σ : Sto} {oid : Nat} {es : List ByteArray} (h : OutX Y σ oid es) (hXY : ∀ p, X p → Y p) : OutX X σ oid es := by
 obtain ⟨lv, d, h1, h2, h3, h4, h5⟩ := h
 exact ⟨lv, d, h1, h2, fun g hg => ⟨(h3 g hg).1, fun hx => (h3 g hg).2 (hXY _ hx)⟩, fun hx => h4 (hXY _ hx), fun p hp => h5 p (hXY p hp)⟩
theorem txtR_row (l : List ByteArray) : ∀ r ∈ txtR l, r.length = 1 := by
 intro r hr
 unfold txtR at hr
 obtain ⟨x, _, rfl⟩ := List.mem_map.1 hr
 rfl
theorem OutX.push {X : Nat → Prop} {σ : Sto} {oid : Nat} {es : List ByteArray} (h : OutX X σ oid es) (nm : ByteArray) (hn : es.length ≤ 1000000000000) : ∃ lv d, σ[oid]? = some (.cells [lv] 23) ∧ (kill d (σ ++ [.cells [.lit (.string nm)] 9]))[oid]? = some (.cells [lv] 23) ∧ (kill d (σ ++ [.cells [.lit (.string nm)] 9])).length = σ.length + 1 ∧
    (∀ (ρ : Operand → Option AV) (x y : Operand) (ds : Option Tmp) (ty : TypeId) (po : String) (af : Array Edge) (gu : Option (Nat × Bool)), ρ x = some lv → ρ y = some (.asl σ.length 0 1 1) → evStep Tryz.prog [23] ρ (σ ++ [.cells [.lit (.string nm)] 9]) ⟨ds, .call ⟨.builtin .append, #[x, y], #[23, 23]⟩, ty, po, af, gu⟩ = some (.val (.asl (σ.length + 1) 0 (es.length + 1) 1) (kill d (σ ++ [.cells [.lit (.string nm)] 9]) ++ [.cells ((txtR es).flatten ++ [.lit (.string nm)]) 9]) (.grows d (σ.length + 1)))) ∧
    OutX X ((kill d (σ ++ [.cells [.lit (.string nm)] 9])).set oid (.cells [.asl (σ.length + 1) 0 (es.length + 1) 1] 23) ++ [.cells ((txtR es).flatten ++ [.lit (.string nm)]) 9]) oid (es ++ [nm]) ∧
    ExtX X σ ((kill d (σ ++ [.cells [.lit (.string nm)] 9])).set oid (.cells [.asl (σ.length + 1) 0 (es.length + 1) 1] 23) ++ [.cells ((txtR es).flatten ++ [.lit (.string nm)]) 9]) := by
 obtain ⟨lv, d, h1, h2, h3, h4, h5⟩ := h
 have l1 := (List.getElem?_eq_some_iff.1 h1).1
 have hk : (kill d (σ ++ [.cells [.lit (.string nm)] 9])).length = σ.length + 1 := by rw [kill_len]; simp
 have hko : (kill d (σ ++ [.cells [.lit (.string nm)] 9]))[oid]? = some (.cells [lv] 23) := by
  cases d with
  | none => exact (st_old l1).trans h1
  | some g => show (List.set _ g _)[oid]? = _; rw [List.getElem?_set_ne (h3 g rfl).1]; exact (st_old l1).trans h1
 have hkx : ∀ p, X p → (kill d (σ ++ [.cells [.lit (.string nm)] 9]))[p]? = σ[p]? := fun p hp => by
  cases d with
  | none => exact st_old (h5 p hp)
  | some g => show (List.set _ g _)[p]? = _; rw [List.getElem?_set_ne (fun e => (h3 g rfl).2 (by rw [e]; exact hp))]; exact st_old (h5 p hp)
 refine ⟨lv, d, h1, hko, hk, fun ρ x y ds ty po af gu hx hy => ?_, ?_, ?_⟩
 · have hap := apdM (P := Tryz.prog) (σ := σ ++ [.cells [.lit (.string nm)] 9]) (t := 23) (e := 9) (k := 0) (by_ := 16) (es := txtR es) (lv := lv) (d := d) [.lit (.string nm)] (.asl σ.length 0 1 1) (by simp [rowsA, chunks]) (h2.app _) (txtR_row _) rfl (by kernel_rfl) (by kernel_rfl) (by kernel_rfl) (by kernel_rfl) (by simp; omega) (by simp; omega) ρ x y hx hy
   rw [es_appendM _ _ _ rfl, hap]
   simp
 · refine ⟨.asl (σ.length + 1) 0 (es.length + 1) 1, some (σ.length + 1), ?_, .inr ⟨_, rfl, by simp, ?_⟩, fun g hg => ?_, h4, fun p hp => by have := h5 p hp; simp [hk]; omega⟩
   · rw [List.getElem?_append_left (by rw [List.length_set, hk]; omega), List.getElem?_set_self (by rw [hk]; omega)]
   · rw [List.getElem?_append_right (by rw [List.length_set, hk]; exact Nat.le_refl _), List.length_set, hk, Nat.sub_self, txtR_app, List.flatten_append]; rfl
   · cases hg; exact ⟨by omega, fun hx => by have := h5 _ hx; omega⟩
 · refine ⟨by simp [hk]; omega, fun p hp => ?_⟩
   have := h5 p hp
   rw [List.getElem?_append_left (by rw [List.length_set, hk]; omega), List.getElem?_set_ne (fun e => h4 (by rw [e]; exact hp))]
   exact hkx p hp
structure TfH (S : Sp) : Prop where
 code : S.code = codeP Tryz.prog
 s1 : S.sp 148 = none
 b1 : S.base 148 = none
 m1 : S.ms 148 = [23]
 s2 : S.sp 109 = none
 b2 : S.base 109 = some primSort
 s3 : S.sp 149 = none
 b3 : S.base 149 = some primCompact
theorem look_ev (H : TfH S) : ∀ (n : Nat) (t : Trm), t.w ≤ n → ∀ {X : Nat → Prop} {σ : Sto} {oid fid : Nat} {es : List ByteArray}, OutX X σ oid es → X fid → σ[fid]? = some (.cells [.fn (.func 148) [] [.ptr oid 0, .ptr fid 0]] 233) → es.length + t.w ≤ 1000000000000 →
    CallW Tryz.prog (S.E N) 148 [.agg t.cs, .ptr oid 0, .ptr fid 0] σ fun r σ' => r = .ret (.tup []) ∧ OutX X σ' oid (es ++ namesT t) ∧ ExtX X σ σ' := by
 intro n
 induction n with
 | zero => intro t ht; have := t.w_pos; omega
 | succ n ih =>
 rintro ⟨k, nm, ng, dg, ks⟩ ht X σ oid fid es h hfx hf hlen
 simp only [Trm.w] at ht hlen
 have hkw := trmW_len ks
 refine CallW.startF (fn := Tryz.f148) (prim_none H.s1 H.b1) (codeOf H.code Tryz.func148 rfl (by kernel_rfl)) rfl H.m1 rfl (zL rfl) fun tm => ?_
 refine CW.hide fun R0 hR0 => ?_
 simp only [Trm.cs]
 have hfl := (List.getElem?_eq_some_iff.1 hf).1
 generalize hbx : AObj.cells [.lit (.int .u8 k), .lit (.string nm), .lit (.bool ng), .sl (limR dg) .no, .sl (trmR ks) .no] 30 = bx
 have hB := h.box bx
 have hX5 : ∀ p, X p → p < σ.length := by obtain ⟨_, _, _, _, _, _, h5⟩ := h; exact h5
 have hxx : ExtX X σ (σ ++ [bx]) := (ExtX.refl σ).push hX5 _
 have hb0 : (σ ++ [bx])[σ.length]? = some bx := List.getElem?_concat_length
 refine CW.seqK fun K hK => CW.region ?_
 simp (maxDischargeDepth := 16) [zY, hbx]
 refine hK _ _ ?_; clear hK K
 generalize σ ++ [bx] = σ1 at hB hxx hb0 ⊢
 generalize hY : (fun p => X p ∨ p = σ.length) = Y at hB
 have hXY : ∀ p, X p → Y p := by rw [← hY]; exact fun p hp => .inl hp
 have hYb : Y σ.length := by rw [← hY]; exact .inr rfl
 subst hbx
 refine CW.seqK fun K hK => ?_
 have key : ∀ (σ2 : Sto) (fr : List (Nat × AV)) (tm : List AV), OutX Y σ2 oid (es ++ (if k = 1 then [nm] else [])) → ExtX Y σ1 σ2 → sub [(1, .ptr oid 0), (2, .ptr fid 0), (3, .ptr σ.length 0)] fr → K (fm 25 fr tm) σ2 := by
  intro σ2 fr tm h2 x2 hsub
  rw [fm_sub hsub]
  refine hK _ _ ?_; clear hK K
  have hb2 := (x2.keep _ hYb).trans hb0
  have h2 := h2.less hXY
  have x2 := hxx.trans (x2.less hXY)
  have hnl : (if k = 1 then [nm] else []).length ≤ 1 := by split <;> simp
  have hni : namesT (.mk k nm ng dg ks) = (if k = 1 then [nm] else []) ++ namesTs ks := by rw [namesT]
  generalize (if k = 1 then [nm] else []) = n0 at h2 hnl hni
  have hes : (es ++ n0).length ≤ es.length + 1 := by simp; omega
  generalize hes1 : es ++ n0 = es1 at h2 hes
  refine CW.seqK fun K hK => CW.region ?_
  simp (maxDischargeDepth := 16) [zY, hb2]
  refine hK _ _ ?_; clear hK K
  refine CW.block (CW.hide fun R hR => ?_)
  refine CW.loopF (fun p : Nat × Sto => [(1, .ptr oid 0), (2, .ptr fid 0), (15, .sl (trmR ks) .no), (16, intV ks.length), (17, intV p.1)]) (fun p => p.2) (fun p => p.1 ≤ ks.length ∧ OutX X p.2 oid (es1 ++ namesTs (ks.take p.1)) ∧ ExtX X σ p.2) (fun p => ks.length - p.1) (0, σ2) (by simp [sub, lk]) rfl ⟨by simp, by simpa [namesTs] using h2, x2⟩ ?_
  rintro ⟨i, σ5⟩ tm ⟨hi, h5, x5⟩
  dsimp only at hi h5 x5 ⊢
  refine CW.hide fun R2 hR2 => CW.seqK fun K4 hK4 => CW.region ?_
  rcases Nat.lt_or_ge i ks.length with hlt | hge
  · simp (maxDischargeDepth := 16) [zY, hlt]
    refine hK4 _ _ ?_
    refine CW.seqK fun K3 hK3 => ?_
    refine CW.cond (t := true) (by simp [zT, zF, lk]) ?_
    refine CW.skip (hK3 _ _ ?_)
    refine CW.seqK fun K5 hK5 => CW.block ?_
    have ha := trmR_get hlt
    have hgw := trmW_get hlt
    have happ : ∀ a b : List Trm, namesTs (a ++ b) = namesTs a ++ namesTs b := fun a b => by
     induction a with
     | nil => rfl
     | cons x a iha => rw [List.cons_append, namesTs, namesTs, iha, List.append_assoc]
    have hkt : namesTs (ks.take (i + 1)) = namesTs (ks.take i) ++ namesT ks[i] := by rw [List.take_succ_eq_append_getElem hlt, happ]; simp [namesTs]
    have hwt : trmW (ks.take i) + ks[i].w ≤ trmW ks := by
     have h1 := take_le_all trmW (fun a b => by
      induction a with
      | nil => simp [trmW]
      | cons x a iha => rw [List.cons_append, trmW, trmW, iha]; omega) ks (i + 1)
     have h2 : trmW (ks.take (i + 1)) = trmW (ks.take i) + ks[i].w := by
      rw [List.take_succ_eq_append_getElem hlt]
      have : ∀ a b : List Trm, trmW (a ++ b) = trmW a + trmW b := fun a b => by
       induction a with
       | nil => simp [trmW]
       | cons x a iha => rw [List.cons_append, trmW, trmW, iha]; omega
      rw [this]; simp [trmW]
     omega
    have hnl2 := namesTs_len (ks.take i)
    refine CW.seqK fun K hK => CW.region ?_
    simp (maxDischargeDepth := 16) [zY, ha, Trm.len, Trm.tk, Trm.put]
    refine hK _ _ ?_; clear hK K
    have h6 := h5.app [.cells ks[i].cs 30]
    have x6 : ExtX X σ5 (σ5 ++ [.cells ks[i].cs 30]) := (ExtX.refl σ5).push (by obtain ⟨_, _, _, _, _, _, q⟩ := h5; exact q) _
    have hf6 := (x6.keep fid hfx).trans ((x5.keep fid hfx).trans hf)
    refine CW.region ?_
    simp (maxDischargeDepth := 16) [zY, hf6, Trm.len, Trm.tk]
    refine (ih ks[i] (by omega) h6 hfx hf6 (by rw [List.length_append]; omega)).mono ?_
    rintro r σ7 ⟨rfl, h7, x7⟩
    simp (maxDischargeDepth := 16) [zY]
    refine hK5 _ _ ?_
    refine CW.region ?_
    simp (maxDischargeDepth := 16) [zY, wrap_succ (show i ≤ 1000000000000 by omega)]
    refine hR2 _ _ _ ⟨(i + 1, σ7), _, _, rfl, by simp [sub, lk], rfl, ⟨by show i + 1 ≤ ks.length; omega, ?_, x5.trans (x6.trans x7)⟩, by show ks.length - (i + 1) < ks.length - i; omega⟩
    show OutX X σ7 oid (es1 ++ namesTs (ks.take (i + 1)))
    rw [hkt, ← List.append_assoc]
    exact h7
  · simp (maxDischargeDepth := 16) [zY, Nat.not_lt.2 hge]
    refine hK4 _ _ ?_
    refine CW.seqK fun K3 hK3 => ?_
    refine CW.cond (t := false) (by simp [zT, zF, lk]) ?_
    refine CW.exit (hR2 _ _ _ (hR _ _ _ ?_))
    simp only [outOf, if_true]
    rw [List.take_of_length_le hge] at h5
    exact hR0 _ _ _ ⟨.tup [], by simp [zA, omap], rfl, by rw [hni, ← List.append_assoc, hes1]; exact h5, x5⟩
 refine CW.seqK fun K hK => CW.region ?_
 simp (maxDischargeDepth := 16) [zY, hb0]
 refine hK _ _ ?_; clear hK K
 rcases Classical.em (k = 1) with hk | hk
 · refine CW.cond (t := true) (by simp [zT, zF, lk, hk]) ?_
   obtain ⟨lv, d, g1, g2, g3, g4, g5, g6⟩ := hB.push nm (by omega)
   have hol := (List.getElem?_eq_some_iff.1 g1).1
   have hbl := (List.getElem?_eq_some_iff.1 hb0).1
   have hol2 : oid < (kill d (σ1 ++ [AObj.cells [.lit (.string nm)] 9])).length := by rw [g3]; omega
   have g2' : (kill d (σ1 ++ [AObj.cells [.lit (.string nm)] 9]) ++ [AObj.cells ((txtR es).flatten ++ [.lit (.string nm)]) 9])[oid]? = some (AObj.cells [lv] 23) := by rw [List.getElem?_append_left hol2]; exact g2
   have g7 : ∀ o, (kill d (σ1 ++ [AObj.cells [.lit (.string nm)] 9]) ++ [AObj.cells ((txtR es).flatten ++ [.lit (.string nm)]) 9]).set oid o = (kill d (σ1 ++ [AObj.cells [.lit (.string nm)] 9])).set oid o ++ [AObj.cells ((txtR es).flatten ++ [.lit (.string nm)]) 9] := fun o => List.set_append_left _ _ hol2
   refine CW.region ?_
   simp (maxDischargeDepth := 16) [zY, g1, hb0, g4, g2', g7]
   refine key _ _ _ ?_ g6 (by simp [sub, lk])
   rw [if_pos hk]
   exact g5
 · refine CW.cond (t := false) (by simp [zT, zF, lk, hk]) ?_
   exact CW.skip (key _ _ _ (by rw [if_neg hk, List.append_nil]; exact hB) (.refl σ1) (by simp [sub, lk]))
theorem flat_txt (l : List ByteArray) : (txtR l).flatten = (l.map fun s => s.data.toList).map encA := by
 induction l with
 | nil => rfl
 | cons s l ih =>
  show [.lit (.string s)] ++ (txtR l).flatten = encA s.data.toList :: (l.map fun s => s.data.toList).map encA
  rw [ih]; rfl
theorem ext_of {X : Nat → Prop} {σ τ σ' : Sto} (h : ExtX X (σ ++ τ) σ') (hX : ∀ p, p < σ.length → X p) : Ext σ σ' := by
 have h1 := h.len
 rw [List.length_append] at h1
 refine ⟨σ'.drop σ.length, List.ext_getElem? fun i => ?_⟩
 rcases Nat.lt_or_ge i σ.length with hi | hi
 · rw [h.keep i (hX i hi), List.getElem?_append_left hi, List.getElem?_append_left hi]
 · rw [List.getElem?_append_right hi, List.getElem?_drop, Nat.add_sub_cancel' hi]
theorem frz_texts {σ : Sto} {n g : Nat} {l zs : List (List UInt8)} {T : TypeId} (hg : σ[g]? = some (.cells ((l ++ zs).map encA) T)) (hn : n ≤ g) : Frz σ n (.asl g 0 l.length 1) (.sl (txtR (l.map strB)) .no) := by
 refine .asl g 0 l.length 1 _ T _ (fun i j => encA (l.getD i [])) hg hn (by simp) (fun i f hf => txtR_row _ f (List.mem_of_getElem? hf)) (fun i j f d hf hd => ?_) fun i j f d hf hd => ?_
 all_goals
  unfold txtR at hf
  rw [List.map_map, List.getElem?_map, Option.map_eq_some_iff] at hf
  obtain ⟨s, hs, rfl⟩ := hf
  have hi := (List.getElem?_eq_some_iff.1 hs).1
  cases j with
  | succ j => simp at hd
  | zero =>
   have hd : some (AV.lit (.string (strB s))) = some d := hd
   cases hd
   first
   | (rw [Nat.zero_add, Nat.mul_one, Nat.add_zero, List.getElem?_map, List.getElem?_append_left hi, List.getD_eq_getElem?_getD, hs]; rfl)
   | (rw [List.getD_eq_getElem?_getD, hs]; exact .same _ (.lit _))
theorem tfree_w (H : TfH S) (hm : S.ms 128 = []) : SmOk Tryz.prog S N 128 (fun t : Trm => [.agg t.cs]) (fun t => .sl (txtR (freeT t)) .no) (fun t => t.w ≤ 1000000000000) Trm.w 6 := by
 intro t σ hw hN
 refine JC.startF (fn := Tryz.f128) (codeOf H.code Tryz.func128 rfl (by kernel_rfl)) rfl hm rfl (zL rfl) fun tm => ?_
 refine CW.hide fun R0 hR0 => ?_
 have hnl := namesT_len t
 refine CW.seqK fun K hK => CW.region ?_
 simp (maxDischargeDepth := 16) [zY]
 refine hK _ _ ?_; clear hK K
 refine CW.seqK fun K hK => CW.region ?_
 simp (maxDischargeDepth := 16) [zY]
 refine hK _ _ ?_; clear hK K
 refine CW.seqK fun K hK => CW.region ?_
 simp (maxDischargeDepth := 16) [zY]
 refine hK _ _ ?_; clear hK K
 refine CW.seqK fun K hK => CW.region ?_
 simp (maxDischargeDepth := 16) [zY]
 refine hK _ _ ?_; clear hK K
 refine CW.seqK fun K hK => CW.region ?_
 simp (maxDischargeDepth := 16) [zY, Trm.len, Trm.tk]
 refine (look_ev (N := N) H t.w t (Nat.le_refl _) (X := fun p => p < σ.length ∨ p = σ.length + 2) (oid := σ.length + 1) (fid := σ.length + 2) (es := []) ⟨.sl [] .full, none, by simp [zF], .inl ⟨rfl, rfl, rfl⟩, fun g hg => (by cases hg), by omega, fun p hp => by simp; omega⟩ (.inr rfl) (by simp [zF]) (by simp; omega)).mono ?_
 rintro r σ1 ⟨rfl, h1, x1⟩
 rw [List.nil_append] at h1
 obtain ⟨lv, d, e1, e2, e3, e4, e5⟩ := h1
 have hext := ext_of x1 fun p hp => .inl hp
 simp (maxDischargeDepth := 16) [zY]
 refine hK _ _ ?_; clear hK K
 rcases e2 with ⟨rfl, rfl, hnil⟩ | ⟨g, rfl, rfl, hg⟩
 · have hn0 : namesT t = [] := by have := congrArg List.length hnil; simpa using this
   refine CW.seqK fun K hK => CW.region ?_
   simp (maxDischargeDepth := 16) [zY, e1]
   refine CallW.prim (g := primSort) (prim_base H.s2 H.b2) (r := .ret (.tup [])) (σ' := σ1) rfl ?_
   simp (maxDischargeDepth := 16) [zY]
   refine hK _ _ ?_; clear hK K
   refine CW.seqK fun K hK => CW.region ?_
   simp (maxDischargeDepth := 16) [zY, e1]
   refine CallW.prim (g := primCompact) (prim_base H.s3 H.b3) (r := .ret (.sl [] .no)) (σ' := σ1) rfl ?_
   simp (maxDischargeDepth := 16) [zY]
   have hf : freeT t = [] := by simp [freeT, hn0, sortB, Lib.compact, Lib.compactUpTo]
   refine hK _ _ (CW.ret (hR0 _ _ _ ⟨.sl [] .no, by simp [zA, omap, zB, zF, lk], ?_⟩))
   show Fgt _ _ _ (.ret (.sl (txtR (freeT t)) .no)) _
   rw [hf]
   exact Fgt.pure hext (Frz.nrm rfl)
 · obtain ⟨hg1, hg2⟩ := e3 g rfl
   have lg := (List.getElem?_eq_some_iff.1 hg).1
   have hfl : (txtR (namesT t)).flatten = ((namesT t).map fun s => s.data.toList).map encA := flat_txt _
   rw [hfl] at hg
   have ps : primSort [.asl g 0 (txtR (namesT t)).length 1] σ1 = some (.ret (.tup []), σ1.set g (.cells ((sortB (namesT t)).map encA) 9)) := by
    have hl : (txtR (namesT t)).length ≤ 1000000000000 := by simp; omega
    simp only [primSort, hg, strsOf_map]
    rw [if_pos ⟨trivial, by simp, hl⟩]
    rfl
   refine CW.seqK fun K hK => CW.region ?_
   simp (maxDischargeDepth := 16) [zY, e1]
   refine CallW.prim (g := primSort) (prim_base H.s2 H.b2) (by simpa using ps) ?_
   simp (maxDischargeDepth := 16) [zY]
   refine hK _ _ ?_; clear hK K
   have hsl : (sortB (namesT t)).length = (namesT t).length := by unfold sortB; rw [List.length_mergeSort, List.length_map]
   have e1' : (σ1.set g (.cells ((sortB (namesT t)).map encA) 9))[σ.length + 1]? = some (.cells [.asl g 0 (txtR (namesT t)).length 1] 23) := by rw [List.getElem?_set_ne hg1]; exact e1
   have pc : primCompact [.asl g 0 (namesT t).length 1] (σ1.set g (.cells ((sortB (namesT t)).map encA) 9)) = some (.ret (.asl g 0 (Lib.compact (sortB (namesT t))).length 1), σ1.set g (.cells ((Lib.compact (sortB (namesT t)) ++ List.replicate ((sortB (namesT t)).length - (Lib.compact (sortB (namesT t))).length) []).map encA) 9)) := by
    simp only [primCompact, st_same lg, strsOf_map]
    rw [if_pos ⟨trivial, by simp [hsl], by omega⟩]
    simp only [Option.map_some, List.set_set]
   refine CW.seqK fun K hK => CW.region ?_
   simp (maxDischargeDepth := 16) [zY, e1']
   refine CallW.prim (g := primCompact) (prim_base H.s3 H.b3) (by simpa using pc) ?_
   simp (maxDischargeDepth := 16) [zY]
   refine hK _ _ (CW.ret (hR0 _ _ _ ⟨.asl g 0 (Lib.compact (sortB (namesT t))).length 1, by simp [zA, omap, zB, zF, lk], ?_⟩))
   have hgn : σ.length ≤ g := Nat.le_of_not_lt fun h => hg2 (.inl h)
   refine Fgt.pure ?_ (frz_texts (zs := List.replicate ((sortB (namesT t)).length - (Lib.compact (sortB (namesT t))).length) []) (T := 9) (by rw [st_same lg]; simp) hgn)
   obtain ⟨τ, rfl⟩ := hext
   exact ⟨_, List.set_append_right _ _ hgn⟩
end
end Go.Proofs.YteajcnilihgheaaGreatDoor
