/-
 THE WALK of lex.Parse: what it returns is what parseT tells.
-/
import Derived.Test.YtmmgjaheffbpaaaGreatDoorLexProgQ
import Derived.Test.YtmmgjaheffbpaaaGreatDoorLexSpecQ
import Derived.Test.YtmmgjaheffbpaaaGreatDoorLentQ
import Derived.Test.YtmmgjaheffbpaaaGreatDoorWBaseQ
namespace Go.Proofs.YtmmgjaheffbpaaaGreatDoor
set_option maxRecDepth 100000
set_option maxHeartbeats 8000000
set_option linter.unusedSimpArgs false
set_option linter.unusedVariables false
set_option linter.unusedSectionVars false
section
set_option maxRecDepth 100000
open Go.RowKit
theorem row_tree (s : ByteArray) (b : Nat) (hs : s.size ≤ 262144) : ∀ N,
    (∀ (o i : Nat) (w : World), o ≤ 400 → i ≤ s.size → 2 * (s.size - i) + 2 ≤ N → St w b s i o → Calls Tryz.prog 47 #[.pointer (some ⟨b, 0, none⟩)] w (RowPost w b s o (rowN N s.data.toList i o))) ∧
    (∀ (o i : Nat) (w : World), o ≤ 400 → i < s.size → 2 * (s.size - i) + 1 ≤ N → St w b s i o → Calls Tryz.prog 77 #[.pointer (some ⟨b, 0, none⟩)] w (TreePost w b s o (treeN N s.data.toList i o))) := by
 intro N
 induction N using Nat.strongRecOn with
 | _ N ih =>
  refine ⟨fun o i w ho hi hN hb => row_any N s o b i w hs hi hN hb (fun n hn i w hi hn' hb' => (ih n hn).2 o i w ho hi hn' hb'), fun o i w ho hi hN hb => ?_⟩
  obtain ⟨n, rfl⟩ : ∃ n, N = n + 1 := ⟨N - 1, by omega⟩
  exact tree_any n s o b hs ho (fun w i hi hn hb ho' => (ih n (by omega)).1 (o + 1) i w ho' hi hn hb) i w hi hN hb
theorem catch_idle (p0 p1 p2 : Addr) (w : World) :
    CallsD Tryz.prog 46 #[.pointer (some p0), .pointer (some p1), .pointer (some p2)] .returning w fun e u' w' => e = .returned (.tuple #[]) ∧ u' = .returning ∧ w' = w := by
 refine callsD_of_wpS Tryz.func46 rfl fun c₀ cs hu => ?_
 apply wpS_seq
 apply wpS_region
 simp [wpOpsS, go_sem, recoverD, hu, Tryz.ntmps46, Exit.thenS]
 refine wpS_of_wp ?_
 simp only [Array.replicate_succ, Array.replicate_zero, List.push_toArray, List.append_toArray, List.nil_append, List.cons_append, List.setIfInBounds_toArray, List.set_cons_succ, List.set_cons_zero]
 go_wp2_with fail
 cases c₀
 simp_all [bodyPostS, results, Tryz.results46]
theorem fault_as (p c : Int) (w : World) : Sem.run Tryz.prog (Instr.typeAssert (.iface 96 (.agg #[.int .i64 p, .int .i64 c])) 20 96 true) w = .ok (.tuple #[.agg #[.int .i64 p, .int .i64 c], .bool true]) w := by kernel_rfl
theorem catch_fault (k0 k1 k2 : Nat) (v0 v1 v2 : Value) (p c : Int) (w : World) (h0 : Blk w k0 #[v0] 61) (h1 : Blk w k1 #[v1] 3) (h2 : Blk w k2 #[v2] 62)
    (hne : k0 ≠ k1 ∧ k0 ≠ k2 ∧ k1 ≠ k2) :
    CallsD Tryz.prog 46 #[.pointer (some ⟨k0, 0, none⟩), .pointer (some ⟨k1, 0, none⟩), .pointer (some ⟨k2, 0, none⟩)] (.panicking (fault p c)) w fun e u' w' =>
     e = .returned (.tuple #[]) ∧ (∃ q, u' = .panicking [{ v := q, recovered := true }]) ∧ Blk w' k0 #[.slice none 0 0] 61 ∧ Blk w' k1 #[.int .i64 p] 3 ∧ Blk w' k2 #[.int .i64 c] 62 ∧
     (∀ k, k < w.heap.size → k ≠ k0 → k ≠ k1 → k ≠ k2 → w'.heap[k]? = w.heap[k]?) ∧ w'.os = w.os ∧ w'.tape = w.tape ∧ w'.output = w.output ∧ w.heap.size ≤ w'.heap.size := by
 refine callsD_of_wpS Tryz.func46 rfl fun c₀ cs hu => ?_
 have q0 := h0.cell 0
 have q1 := h1.cell 0
 have q2 := h2.cell 0
 have z0 := h0.frozen 0
 have z1 := h1.frozen 0
 have z2 := h2.frozen 0
 have l0 := h0.lt
 have l1 := h1.lt
 have l2 := h2.lt
 obtain ⟨n0, n1, n2⟩ := hne
 have hta := fault_as p c
 simp at q0 q1 q2
 apply wpS_seq
 apply wpS_region
 simp [wpOpsS, go_sem, recoverD, hu, Tryz.ntmps46, Exit.thenS, fault]
 refine wpS_of_wp ?_
 simp only [Array.replicate_succ, Array.replicate_zero, List.push_toArray, List.append_toArray, List.nil_append, List.cons_append, List.setIfInBounds_toArray, List.set_cons_succ, List.set_cons_zero]
 go_wp2_with fail
 go_region
 change bodyPostS _ _ _ _ _ _ _ _ _
 cases c₀
 simp only [bodyPostS]
 refine ⟨trivial, _, rfl, .tuple #[], by simp [results, Tryz.results46], rfl, ⟨_, rfl⟩, ?_, ?_, ?_, ?_, rfl, rfl, rfl, by simp⟩
 · exact (((h0.set 0 _).other n0).other n1).alloc _
 · exact (((h1.other (Ne.symm n0)).set 0 _).other n2).alloc _
 · exact (((h2.other (Ne.symm n1)).other (Ne.symm n2)).set 0 _).alloc _
 · intro k hk m0 m1 m2
   show ((((w.setCell ⟨k0, 0, none⟩ _).setCell ⟨k1, 0, none⟩ _).setCell ⟨k2, 0, none⟩ _).alloc _).heap[k]? = _
   rw [Below.heap_alloc _ _ _ (by simpa using hk), Below.heap_setCell _ _ _ _ m2, Below.heap_setCell _ _ _ _ m1, Below.heap_setCell _ _ _ _ m0]
theorem below_dN {B : Nat} {a w : World} (h : Below B a w) (n : Nat) : Below B a (w.drewN n) := ⟨h.os, h.tape, h.output, h.size, h.block⟩
theorem leaves_congr {P : Program} {fn : Func} {R : Ending → World → Prop} {t t' : Array Value} (h : results fn t = results fn t') : ∀ (ds : List Deferred) (u : FrameMode) (w : World), Leaves P fn t R ds u w → Leaves P fn t' R ds u w
 | [], u, w, hl => by cases u <;> simp only [Leaves] at * <;> first | exact hl | (rw [← h]; exact hl)
 | d :: ds, u, w, hl => by
  simp only [Leaves] at *
  obtain ⟨h1, fv, cap, f, args, h2, h3, h4⟩ := hl
  refine ⟨h1, fv, cap, f, args, h2, h3, h4.mono ?_⟩
  intro e u' w' hh
  cases e with
  | returned v => exact leaves_congr h ds _ _ hh
  | panicked c => exact leaves_congr h ds _ _ hh
  | outgrown => exact hh
theorem parse_put (a : Act) (d : Nat) (v : Value) (hd : 4 < d) : results Tryz.f26 (a.put (some d) v).tmps = results Tryz.f26 a.tmps := by
 have h2 : (a.put (some d) v).tmps.getD 2 undef = a.tmps.getD 2 undef := by simp only [Act.put]; rw [Array.getD_eq_getD_getElem?, Array.getD_eq_getD_getElem?, Array.getElem?_setIfInBounds_ne (by omega)]
 have h3 : (a.put (some d) v).tmps.getD 3 undef = a.tmps.getD 3 undef := by simp only [Act.put]; rw [Array.getD_eq_getD_getElem?, Array.getD_eq_getD_getElem?, Array.getElem?_setIfInBounds_ne (by omega)]
 have h4 : (a.put (some d) v).tmps.getD 4 undef = a.tmps.getD 4 undef := by simp only [Act.put]; rw [Array.getD_eq_getD_getElem?, Array.getD_eq_getD_getElem?, Array.getElem?_setIfInBounds_ne (by omega)]
 generalize (a.put (some d) v).tmps = t at *
 generalize a.tmps = t' at *
 simp only [Array.getD_eq_getD_getElem?] at h2 h3 h4
 simp [results, Tryz.results26, h2, h3, h4]
theorem parse_door (R : Ending → World → Prop) (a : Act) (d : Nat) (v : Value) (hd : 4 < d) (c : List PanicEntry) (w : World) (K : Act → World → Prop)
    (h : Exit.then K (bodyPostD Tryz.prog Tryz.f26 R) (.panic c) (a.put (some d) v) w) : Exit.then K (bodyPostD Tryz.prog Tryz.f26 R) (.panic c) a w := by
 have h' : Leaves Tryz.prog Tryz.f26 (a.put (some d) v).tmps R a.defers (.panicking c) w := h
 exact leaves_congr (parse_put a d v hd) _ _ _ h'
def ParsePost (w : World) (l : List UInt8) (e : Ending) (w' : World) : Prop :=
 ∃ v, e = .returned (.tuple #[v, .int .i64 (parseT l).2.1, .int .i64 (parseT l).2.2]) ∧ Rep w' (fun k => w.heap.size ≤ k) v (.sl (encTrs (parseT l).1)) ∧ Below w.heap.size w w'
theorem parse_long (s : ByteArray) (w : World) (hs : 262144 < s.size) (hm : s.size ≤ maxLen) :
    Calls Tryz.prog 26 #[.string s] w (ParsePost w s.data.toList) := by
 have hmf : ∀ (fn : Fn) (first cap : Array Value) (w : World), (Instr.makeFunc fn first cap).run Tryz.prog w = .ok (.func fn first cap) w := fun _ _ _ _ => rfl
 have hs' : (262144 : Int) < s.size := by omega
 unfold maxLen at hm
 have hp : parseT s.data.toList = ([], 0, 3) := by unfold parseT; rw [if_pos (by rw [size_bytes]; exact hs)]
 have HP := Lib.hid hp
 clear hp
 go_enter_defers Tryz.func26, Tryz.ntmps26
 go_wp2_with fail
 simp [bodyPostD, Leaves, settle, results, Tryz.results26, go_sem]
 unfold ParsePost
 rw [HP.out]
 refine ⟨.slice none 0 0, rfl, .nil _ _, ?_⟩
 repeat (first | exact Below.refl _ _ | refine Below.setCell ?_ (by first | omega | (simp; done) | (simp; omega)) _ | refine Below.alloc ?_ (by first | omega | (simp; done) | (simp; omega)) _)
theorem parse_short (s : ByteArray) (w : World) (hs : s.size ≤ 262144) :
    Calls Tryz.prog 26 #[.string s] w (ParsePost w s.data.toList) := by
 have hmf : ∀ (fn : Fn) (first cap : Array Value) (w : World), (Instr.makeFunc fn first cap).run Tryz.prog w = .ok (.func fn first cap) w := fun _ _ _ _ => rfl
 have hs' : ¬ (262144 : Int) < s.size := by omega
 have hp : parseT s.data.toList = (match rowN (2 * s.size + 2) s.data.toList 0 0 with
  | .bad p e => ([], p, e)
  | .ok (ts, j) => if j < s.size then ([], j, 20) else (ts, 0, 0)) := by
  unfold parseT; rw [if_neg (by rw [size_bytes]; omega), size_bytes]; rfl
 have HP := Lib.hid hp
 clear hp
 go_enter_defers Tryz.func26, Tryz.ntmps26
 go_wp2_with fail
 refine ((row_tree s _ hs (2 * s.size + 2)).1 0 0 _ (by omega) (by omega) (by omega) ?_).mono ?_
 · unfold St; exact Blk.new' _ _ (by simp)
 cases hr : rowN (2 * s.size + 2) s.data.toList 0 0 with
 | bad p c =>
  rw [hr] at HP
  rintro e w1 ⟨rfl, hg⟩
  have hsz := hg.size
  simp at hsz
  have b0 : Blk w1 w.heap.size _ _ := Blk.grown ((((Blk.new _ _ _).alloc _).alloc _).alloc _) hg (by first | omega | (simp; done) | (simp; omega))
  have b1 : Blk w1 (w.heap.size + 1) _ _ := Blk.grown (((Blk.new' _ _ (by simp)).alloc _).alloc _) hg (by first | omega | (simp; done) | (simp; omega))
  have b2 : Blk w1 (w.heap.size + 1 + 1) _ _ := Blk.grown ((Blk.new' _ _ (by simp)).alloc _) hg (by first | omega | (simp; done) | (simp; omega))
  refine leaves_cons (f := 46) (args := #[.pointer (some ⟨w.heap.size, 0, none⟩), .pointer (some ⟨w.heap.size + 1, 0, none⟩), .pointer (some ⟨w.heap.size + 1 + 1, 0, none⟩)]) (by simp) (by simp [go_sem]) ?_
  refine (catch_fault _ _ _ _ _ _ p c w1 b0 b1 b2 (by omega)).mono ?_
  rintro e u' w2 ⟨rfl, ⟨q, rfl⟩, d0, d1, d2, hk, ho, ht, hou, hsz2⟩
  have c0 := d0.cell 0
  have c1 := d1.cell 0
  have c2 := d2.cell 0
  simp at c0 c1 c2
  simp [Leaves, settle, results, Tryz.results26, go_sem, c0, c1, c2]
  unfold ParsePost
  rw [show parseT s.data.toList = ([], p, c) from HP.out]
  refine ⟨.slice none 0 0, rfl, .nil _ _, ?_⟩
  refine ⟨ho.trans hg.os, ht.trans hg.tape, hou.trans hg.output, by omega, fun k h0 => ?_⟩
  rw [hk k (by omega) (by omega) (by omega) (by omega), hg.block k (by simp; omega) (by simp; omega)]
  rw [Below.heap_alloc _ _ _ (by simp; omega), Below.heap_alloc _ _ _ (by simp; omega), Below.heap_alloc _ _ _ (by simp; omega), Below.heap_alloc _ _ _ h0]
 | ok x =>
  obtain ⟨ts, j⟩ := x
  rw [hr] at HP
  have hj : j ≤ s.size := by have := (rowN_le _ _ _ _ (by omega) ts j hr).2; rw [size_bytes] at this; exact this
  rintro e w1 ⟨v, rfl, hrep, hst, hg⟩
  have hsz := hg.size
  simp at hsz
  have b0 : Blk w1 w.heap.size _ _ := Blk.grown ((((Blk.new _ _ _).alloc _).alloc _).alloc _) hg (by first | omega | (simp; done) | (simp; omega))
  have b1 : Blk w1 (w.heap.size + 1) _ _ := Blk.grown (((Blk.new' _ _ (by simp)).alloc _).alloc _) hg (by first | omega | (simp; done) | (simp; omega))
  have b2 : Blk w1 (w.heap.size + 1 + 1) _ _ := Blk.grown ((Blk.new' _ _ (by simp)).alloc _) hg (by first | omega | (simp; done) | (simp; omega))
  have hv : ∃ a n c, v = .slice a n c := by obtain ⟨a, c, h⟩ := hrep.slice; exact ⟨a, _, c, h⟩
  obtain ⟨a, n, c, rfl⟩ := hv
  have hrep : Rep w1 (fun k => w.heap.size + 4 ≤ k) (.slice a n c) (.sl (encTrs ts)) := hrep.mono fun k hk => by simp at hk; omega
  have hold : ∀ k, k < w.heap.size → w1.heap[k]? = w.heap[k]? := fun k h0 => by
   rw [hg.block k (by simp; omega) (by simp; omega)]
   rw [Below.heap_alloc _ _ _ (by simp; omega), Below.heap_alloc _ _ _ (by simp; omega), Below.heap_alloc _ _ _ (by simp; omega), Below.heap_alloc _ _ _ h0]
  have hB : Below w.heap.size w w1 := ⟨hg.os, hg.tape, hg.output, by omega, hold⟩
  have c0 := hst.c0
  have c1 := hst.c1
  have q0 := b0.cell 0
  have q1 := b1.cell 0
  have q2 := b2.cell 0
  have z0 := b0.frozen 0
  have z1 := b1.frozen 0
  have z2 := b2.frozen 0
  simp at q0 q1 q2
  have H1 := Lib.hid hst
  have H2 := Lib.hid hB
  have H3 := Lib.hid b0
  have H4 := Lib.hid b1
  have H5 := Lib.hid b2
  have H6 := Lib.hid hrep
  clear hst hg b0 b1 b2 hrep hold hB hr
  by_cases hlt : j < s.size
  · have hp : parseT s.data.toList = ([], j, 20) := by rw [HP.out]; simp [hlt]
    have HP2 := Lib.hid hp
    clear hp
    go_wp2_with fail
    refine wp_region_any (by kernel_rfl) ?_
    change wpAny _ _ _ _ _ _ _ (World.drew _)
    refine wpAny_take (i := 0) (v := ?_) rfl (by kernel_rfl) (by kernel_rfl) (by kernel_rfl) (fun _ _ _ h => parse_door _ _ _ _ (by decide) _ _ _ h) (Or.inl ⟨by rfl, ?_⟩) ?_
    rotate_left
    · (intro w; go_simp; try with_reducible rfl)
    refine wpAny_take (i := 1) (v := ?_) rfl (by kernel_rfl) (by kernel_rfl) (by kernel_rfl) (fun _ _ _ h => parse_door _ _ _ _ (by decide) _ _ _ h) (Or.inl ⟨by rfl, ?_⟩) ?_
    rotate_left
    · (intro w; go_simp; try with_reducible rfl)
    refine wpAny_take (i := 2) (v := ?_) rfl (by kernel_rfl) (by kernel_rfl) (by kernel_rfl) (fun _ _ _ h => parse_door _ _ _ _ (by decide) _ _ _ h) (Or.inl ⟨by rfl, ?_⟩) ?_
    rotate_left
    · (intro w; go_simp; try with_reducible rfl)
    refine wpAny_take (i := 3) (v := ?_) rfl (by kernel_rfl) (by kernel_rfl) (by kernel_rfl) (fun _ _ _ h => parse_door _ _ _ _ (by decide) _ _ _ h) (Or.inl ⟨by rfl, ?_⟩) ?_
    rotate_left
    · (intro w; go_simp; try with_reducible rfl)
    refine wpAny_take (i := 4) (v := ?_) rfl (by kernel_rfl) (by kernel_rfl) (by kernel_rfl) (fun _ _ _ h => parse_door _ _ _ _ (by decide) _ _ _ h) (Or.inl ⟨by rfl, ?_⟩) ?_
    rotate_left
    · (intro w; go_simp; try with_reducible rfl)
    refine wpAny_take (i := 5) (v := ?_) rfl (by kernel_rfl) (by kernel_rfl) (by kernel_rfl) (fun _ _ _ h => parse_door _ _ _ _ (by decide) _ _ _ h) (Or.inl ⟨by rfl, ?_⟩) ?_
    rotate_left
    · (intro w; go_simp; try with_reducible rfl)
    refine wpAny_ready (rs := [6]) (by kernel_rfl) (by simp) ?_
    refine AllReady.cons rfl (fun K hK => ?_) AllReady.nil
    go_simp
    refine (more_yes s j _ _ (by simpa [World.cell?_setCell_other] using c0) (by simpa [World.cell?_setCell_other] using c1) hlt).mono ?_
    rintro e w2 ⟨rfl, nn, rfl⟩
    refine hK _ _ ?_
    clear hK K
    refine wpAny_ready (rs := [7]) (by kernel_rfl) (by simp) ?_
    refine AllReady.cons rfl (fun K hK => ?_) AllReady.nil
    go_simp
    refine hK _ _ ?_
    clear hK K
    refine wpAny_ready (rs := [8]) (by kernel_rfl) (by simp) ?_
    refine AllReady.cons rfl (fun K hK => ?_) AllReady.nil
    go_simp
    refine (must_no 20 j _ _ (by simpa [World.cell?_setCell_other] using c1)).mono ?_
    rintro e w2 ⟨rfl, rfl⟩
    refine leaves_cons (f := 46) (args := #[.pointer (some ⟨w.heap.size, 0, none⟩), .pointer (some ⟨w.heap.size + 1, 0, none⟩), .pointer (some ⟨w.heap.size + 1 + 1, 0, none⟩)]) (by simp) (by simp [go_sem]) ?_
    refine (catch_fault _ _ _ _ _ _ j 20 _ ((H3.out.set 0 (.slice a n c)).drewN _) ((H4.out.other (by omega)).drewN _) ((H5.out.other (by omega)).drewN _) (by omega)).mono ?_
    rintro e u' w2 ⟨rfl, ⟨q, rfl⟩, d0, d1, d2, hk, ho, ht, hou, hsz2⟩
    have c0 := d0.cell 0
    have c1 := d1.cell 0
    have c2 := d2.cell 0
    simp at c0 c1 c2
    simp [Leaves, settle, results, Tryz.results26, go_sem, c0, c1, c2]
    unfold ParsePost
    rw [HP2.out]
    refine ⟨.slice none 0 0, rfl, .nil _ _, ?_⟩
    have hb := H2.out
    simp at hsz2
    refine ⟨ho.trans hb.os, ht.trans hb.tape, hou.trans hb.output, by omega, fun k h0 => ?_⟩
    rw [hk k (by simp; omega) (by omega) (by omega) (by omega)]
    show (w1.setCell _ _).heap[k]? = _
    rw [Below.heap_setCell _ _ _ _ (by simp; omega)]
    exact hb.block k h0
  · have hp : parseT s.data.toList = (ts, 0, 0) := by rw [HP.out]; simp [hlt]
    have HP2 := Lib.hid hp
    clear hp
    go_wp2_with fail
    go_quiet (first | (go_at_call 49; refine Calls.quiet_of (more_no s j _ _ (by simpa [World.cell?_setCell_other] using c0) (by simpa [World.cell?_setCell_other] using c1) hlt)) | (refine Calls.quiet_of_same (must_yes 20 _ _)))
    go_wp2_with fail
    refine leaves_cons (f := 46) (args := #[.pointer (some ⟨w.heap.size, 0, none⟩), .pointer (some ⟨w.heap.size + 1, 0, none⟩), .pointer (some ⟨w.heap.size + 1 + 1, 0, none⟩)]) (by simp) (by simp [go_sem]) ?_
    refine (catch_idle _ _ _ _).mono ?_
    rintro e u' w2 ⟨rfl, rfl, rfl⟩
    simp [Leaves, settle, results, Tryz.results26, go_sem, q0, q1, q2]
    unfold ParsePost
    rw [HP2.out]
    refine ⟨.slice a n c, rfl, ?_, ?_⟩
    · exact (((((H6.out.set (by omega)).drewN).set (by omega)).set (by omega)).set (by omega)).mono (fun k hk => by omega)
    · refine Below.setCell (Below.setCell (Below.setCell (below_dN (Below.setCell H2.out ?_ _) _) ?_ _) ?_ _) ?_ _
      all_goals (simp only []; omega)
theorem parse_any (s : ByteArray) (w : World) (hm : s.size ≤ maxLen) : Calls Tryz.prog 26 #[.string s] w (ParsePost w s.data.toList) := by
 by_cases h : s.size ≤ 262144
 · exact parse_short s w h
 · exact parse_long s w (by omega) hm
end
section
open Go.RowKit
theorem Rep.trees {w : World} {F : Nat → Prop} {v : Value} {ts : List Tr} (h : Rep w F v (.sl (encTrs ts))) (hn : 0 < ts.length) :
    ∃ b o c, v = .slice (some ⟨b, o, none⟩) ts.length c ∧ ts.length ≤ c ∧ c ≤ maxLen ∧ F b ∧ ∀ (i : Nat) (t : Tr), ts[i]? = some t →
     w.cell? ⟨b, o + i * 4, none⟩ = some (.string ⟨t.word.toArray⟩) ∧ (∃ kv, w.cell? ⟨b, o + i * 4 + 1, none⟩ = some kv ∧ Rep w F kv (.sl (encTrs t.kids))) ∧
     w.cell? ⟨b, o + i * 4 + 2, none⟩ = some (.bool t.row) ∧ w.cell? ⟨b, o + i * 4 + 3, none⟩ = some (.int .i64 t.at_) := by
 obtain ⟨b, o, c, k, U, rfl, h1, h2, h3, _, h5, h6, h7⟩ := h.elems (by rw [encTrs_length]; exact hn)
 rw [encTrs_length] at h1 h6 ⊢
 have hget : ∀ (i : Nat) (t : Tr), ts[i]? = some t → (encTrs ts)[i]? = some (encTr t) := fun i t ht => by rw [encTrs_map, List.getElem?_map, ht]; rfl
 have hk : k = 4 := by
  have := h5 0 _ (hget 0 ts[0] (List.getElem?_eq_getElem hn))
  rw [encTr_length] at this
  exact this.symm
 subst hk
 refine ⟨b, o, c, rfl, h1, h2, h3, fun i t ht => ?_⟩
 have hi : i < ts.length := (List.getElem?_eq_some_iff.1 ht).1
 have e := hget i t ht
 obtain ⟨x, ks, r, a⟩ := t
 have c0 := h6 i 0 hi (by omega)
 have c1 := h6 i 1 hi (by omega)
 have c2 := h6 i 2 hi (by omega)
 have c3 := h6 i 3 hi (by omega)
 have r0 := (h7 i 0 _ _ e rfl).leaf_eq
 have r1 := h7 i 1 _ _ e rfl
 have r2 := (h7 i 2 _ _ e rfl).leaf_eq
 have r3 := (h7 i 3 _ _ e rfl).leaf_eq
 rw [r0] at c0
 rw [r2] at c2
 rw [r3] at c3
 exact ⟨by simpa [Tr.word] using c0, ⟨_, c1, r1⟩, c2, c3⟩
end
section
mutual
def textI : Tr → List UInt8
 | .mk x k r _ => if r then 40 :: (textR true k ++ [41]) else x
def textR : Bool → List Tr → List UInt8
 | _, [] => []
 | first, t :: l => (if first then [] else [32]) ++ (textI t ++ textR false l)
end
end
section
open Go.RowKit
mutual
def rowOf : Tr → List AV
 | .mk x k r a => [.lit (.string ⟨x.toArray⟩), .sl (rowsOf k) .no, .lit (.bool r), .lit (.int .i64 a)]
def rowsOf : List Tr → List (List AV)
 | [] => []
 | t :: l => rowOf t :: rowsOf l
end
theorem rowsOf_map (l : List Tr) : rowsOf l = l.map rowOf := by
 induction l with
 | nil => rfl
 | cons t l ih => simp [rowsOf, ih]
theorem rowsOf_length (l : List Tr) : (rowsOf l).length = l.length := by rw [rowsOf_map, List.length_map]
theorem rowsOf_get {l : List Tr} {i : Nat} {t : Tr} (h : l[i]? = some t) : (rowsOf l)[i]? = some [.lit (.string ⟨t.word.toArray⟩), .sl (rowsOf t.kids) .no, .lit (.bool t.row), .lit (.int .i64 t.at_)] := by
 rw [rowsOf_map, List.getElem?_map, h]; cases t; rfl
theorem size_kids {xs : List Tr} {i : Nat} {t : Tr} (h : xs[i]? = some t) : SizeOf.sizeOf t.kids < SizeOf.sizeOf xs := by
 have h1 := List.sizeOf_lt_of_mem (List.mem_of_getElem? h)
 have h2 : SizeOf.sizeOf t.kids < SizeOf.sizeOf t := by cases t; simp [Tr.kids]; omega
 omega
theorem rowsOf_head (l : List Tr) : (rowsOf l).head?.all (·.length == 4) = true := by
 cases l with
 | nil => rfl
 | cons t l => cases t; rfl
mutual
theorem rowOf_inj : ∀ a b : Tr, rowOf a = rowOf b → a = b
 | .mk x k r c, .mk y l s d, h => by
  simp only [rowOf, List.cons.injEq, AV.lit.injEq, AV.sl.injEq, Value.string.injEq, Value.bool.injEq, Value.int.injEq, and_true, true_and] at h
  obtain ⟨h1, h2, h3, h4⟩ := h
  have h1' : x = y := by
   have := congrArg (fun b : ByteArray => b.data.toList) h1
   simpa using this
  have := rowsOf_inj k l h2
  subst h1'; subst this; subst h3; subst h4
  rfl
theorem rowsOf_inj : ∀ a b : List Tr, rowsOf a = rowsOf b → a = b
 | [], [], _ => rfl
 | a :: l, b :: m, h => by
  simp only [rowsOf, List.cons.injEq] at h
  rw [rowOf_inj a b h.1, rowsOf_inj l m h.2]
 | [], b :: m, h => by simp [rowsOf] at h
 | a :: l, [], h => by simp [rowsOf] at h
end
def primParse (args : List AV) (σ : Sto) : Option (ARes × Sto) :=
 match args with
 | [.lit (.string s)] => if s.size ≤ maxLen then some (.ret (.tup [.sl (rowsOf (parseT s.data.toList).1) .no, .lit (.int .i64 (parseT s.data.toList).2.1), .lit (.int .i64 (parseT s.data.toList).2.2)]), σ) else none
 | _ => none
section
variable {ι : List Nat} {Z : Nat → Nat → Prop} {w : World}
theorem VR.trees (n : Nat) : ∀ (xs : List Tr) (tok : Tok) (v : Value), SizeOf.sizeOf xs < n → VR ι Z w (.sl (rowsOf xs) tok) v → Rep w (fun b => b < w.heap.size) v (.sl (encTrs xs)) := by
 induction n with
 | zero => intro xs tok v h; omega
 | succ n ih =>
  intro xs tok v hn h
  generalize hes : rowsOf xs = es at h
  cases h with
  | nils a c _ h1 h2 =>
   cases xs with
   | nil => exact .empty a c h1
   | cons t l => simp [rowsOf] at hes
  | frs t k c b h1 h2 h3 =>
   cases xs with
   | nil => exact .empty _ c (fun h => by cases h)
   | cons t l => simp [rowsOf] at hes
  | sl b o m c k _ _ U h1 h2 h3 h4 h5 h6 h7 h8 =>
   subst hes
   rw [rowsOf_length] at h1
   have hk : k = 4 := by
    have hx := List.getElem?_eq_getElem (l := xs) (i := 0) (by omega)
    exact (h5 0 _ (rowsOf_get hx)).symm
   subst hk
   have cell : ∀ (i j : Nat), i < m → j < 4 → ∃ d, (rowsOf xs)[i]?.bind (fun r => r[j]?) = some d ∧ w.cell? ⟨b, o + i * 4 + j, none⟩ = some (U i j) := by
    intro i j hi hj
    have hx := List.getElem?_eq_getElem (l := xs) (i := i) (by omega)
    have hg := rowsOf_get hx
    have hl : j < ([.lit (.string ⟨xs[i].word.toArray⟩), .sl (rowsOf xs[i].kids) .no, .lit (.bool xs[i].row), .lit (.int .i64 xs[i].at_)] : List AV).length := by simpa using hj
    have hd := List.getElem?_eq_getElem hl
    exact ⟨_, by rw [hg]; exact hd, (h6 i j _ _ hg hd).2.2⟩
   have hb : b < w.heap.size := by
    obtain ⟨_, _, h⟩ := cell 0 0 h2 (by omega)
    have := World.block_lt_of_cell? w _ h
    exact this
   refine .sl b o m c 4 (encTrs xs) U (by rw [encTrs_length]; exact h1) h2 h3 h4 hb hb (fun i e he => ?_) (fun i j hi hj => ?_) (fun i j e d he hd => ?_)
   · rw [encTrs_map, List.getElem?_map, Option.map_eq_some_iff] at he
     obtain ⟨t, _, rfl⟩ := he
     exact encTr_length t
   · obtain ⟨_, _, h⟩ := cell i j hi hj
     exact h
   · rw [encTrs_map, List.getElem?_map, Option.map_eq_some_iff] at he
     obtain ⟨t, ht, rfl⟩ := he
     have hg := rowsOf_get ht
     have hsz := size_kids ht
     obtain ⟨x, kx, r, a⟩ := t
     simp only [Tr.word, Tr.kids, Tr.row, Tr.at_] at hg hsz
     rcases j with _ | _ | _ | _ | j
     · simp [encTr] at hd; subst hd
       have := h8 i 0 _ (.lit (.string ⟨x.toArray⟩)) hg rfl
       generalize U i 0 = u at this ⊢
       cases this
       exact .leaf _
     · simp [encTr] at hd; subst hd
       exact ih kx .no _ (by omega) (h8 i 1 _ (.sl (rowsOf kx) .no) hg rfl)
     · simp [encTr] at hd; subst hd
       have := h8 i 2 _ (.lit (.bool r)) hg rfl
       generalize U i 2 = u at this ⊢
       cases this
       exact .leaf _
     · simp [encTr] at hd; subst hd
       have := h8 i 3 _ (.lit (.int .i64 a)) hg rfl
       generalize U i 3 = u at this ⊢
       cases this
       exact .leaf _
     · simp [encTr] at hd
theorem VR.ofRep {N : Nat} (n : Nat) : ∀ (xs : List Tr) (v : Value), SizeOf.sizeOf xs < n → Rep w (fun k => N ≤ k) v (.sl (encTrs xs)) → (∀ b j, N ≤ b → b < w.heap.size → Z b j) → VR ι Z w (.sl (rowsOf xs) .no) v := by
 induction n with
 | zero => intro xs v h; omega
 | succ n ih =>
  intro xs v hn h hz
  generalize hes : encTrs xs = es at h
  cases h with
  | empty a c h1 =>
   cases xs with
   | nil => exact .nils a c .no h1 (.inl rfl)
   | cons t l => simp [encTrs] at hes
  | sl b o m c k _ U h1 h2 h3 h4 hN hlt h5 h6 h7 =>
   subst hes
   rw [encTrs_length] at h1
   have hk : k = 4 := by
    have hx := List.getElem?_eq_getElem (l := xs) (i := 0) (by omega)
    have := h5 0 (encTr xs[0]) (by rw [encTrs_map, List.getElem?_map, hx]; rfl)
    rw [encTr_length] at this; exact this.symm
   subst hk
   have row : ∀ (i : Nat) (e : List AV), (rowsOf xs)[i]? = some e → ∃ t, xs[i]? = some t ∧ e = rowOf t ∧ (encTrs xs)[i]? = some (encTr t) := by
    intro i e he
    rw [rowsOf_map, List.getElem?_map, Option.map_eq_some_iff] at he
    obtain ⟨t, ht, rfl⟩ := he
    exact ⟨t, ht, rfl, by rw [encTrs_map, List.getElem?_map, ht]; rfl⟩
   refine .sl b o m c 4 _ .no U (by rw [rowsOf_length]; exact h1) h2 h3 h4 (fun i e he => ?_) (fun i j e d he hd => ?_) trivial fun i j e d he hd => ?_
   · obtain ⟨t, _, rfl, _⟩ := row i e he
     cases t; rfl
   · obtain ⟨t, ht, rfl, _⟩ := row i e he
     have hi : i < m := by have := (List.getElem?_eq_some_iff.1 ht).1; omega
     obtain ⟨x, kx, r, a⟩ := t
     rcases j with _ | _ | _ | _ | j
     · simp [rowOf] at hd; subst hd; exact ⟨rfl, hz b _ hN hlt, h6 i 0 hi (by omega)⟩
     · simp [rowOf] at hd; subst hd; exact ⟨rfl, hz b _ hN hlt, h6 i 1 hi (by omega)⟩
     · simp [rowOf] at hd; subst hd; exact ⟨rfl, hz b _ hN hlt, h6 i 2 hi (by omega)⟩
     · simp [rowOf] at hd; subst hd; exact ⟨rfl, hz b _ hN hlt, h6 i 3 hi (by omega)⟩
     · simp [rowOf] at hd
   · obtain ⟨t, ht, rfl, hg⟩ := row i e he
     have hsz := size_kids ht
     obtain ⟨x, kx, r, a⟩ := t
     simp only [Tr.kids] at hsz
     rcases j with _ | _ | _ | _ | j
     · simp [rowOf] at hd; subst hd
       have := (h7 i 0 _ (.leaf (.string ⟨x.toArray⟩)) hg rfl).leaf_eq
       rw [this]; exact .lit _ rfl
     · simp [rowOf] at hd; subst hd
       exact ih kx _ (by omega) (h7 i 1 _ (.sl (encTrs kx)) hg rfl) hz
     · simp [rowOf] at hd; subst hd
       have := (h7 i 2 _ (.leaf (.bool r)) hg rfl).leaf_eq
       rw [this]; exact .lit _ rfl
     · simp [rowOf] at hd; subst hd
       have := (h7 i 3 _ (.leaf (.int .i64 a)) hg rfl).leaf_eq
       rw [this]; exact .lit _ rfl
     · simp [rowOf] at hd
theorem Evo.fresh {σ : Sto} (h : Match σ ι Z w) {w' : World} (hb : Below w.heap.size w w') : Evo ι Z w ι (fun b j => Z b j ∨ (w.heap.size ≤ b ∧ b < w'.heap.size)) w' ∧ Match σ ι (fun b j => Z b j ∨ (w.heap.size ≤ b ∧ b < w'.heap.size)) w' := by
 have e : Evo ι Z w ι (fun b j => Z b j ∨ (w.heap.size ≤ b ∧ b < w'.heap.size)) w' :=
  { pre := fun _ _ h => h, img := fun id _ h _ => ⟨id, h⟩, zmono := fun _ _ h => .inl h, zsame := fun b j e => World.cell?_of_block (hb.block b (h.zlt b j e)), csz := fun b hl => by unfold cellsz; rw [hb.block b hl],
    size := hb.size, keep := fun b hl _ => hb.block b hl, os := hb.os, tape := hb.tape, output := hb.output, znew := fun b j h hl => by rcases h with h | ⟨h, _⟩; (· exact .inl h); omega }
 refine ⟨e, h.go e h.len (fun id o b ho hb' hl => .inr ⟨ho, hb.block b ((h.obj id o b ho hb').lt hl), fun j hj => ?_⟩) h.inj fun b j hj => ?_⟩
 · rcases hj with hj | hj
   · exact hj
   · have := (h.obj id o b ho hb').lt hl; omega
 · rcases hj with hj | hj
   · exact Nat.lt_of_lt_of_le (h.zlt b j hj) hb.size
   · exact hj.2
theorem Evo.ofBelow {σ : Sto} (h : Match σ ι Z w) {w' : World} (hb : Below w.heap.size w w') : Evo ι Z w ι Z w' where
 pre := fun _ _ h => h
 img := fun id _ h _ => ⟨id, h⟩
 zmono := fun _ _ h => h
 zsame := fun b j e => World.cell?_of_block (hb.block b (h.zlt b j e))
 csz := fun b hl => by unfold cellsz; rw [hb.block b hl]
 size := hb.size
 keep := fun b hl _ => hb.block b hl
 os := hb.os
 tape := hb.tape
 output := hb.output
 znew := fun _ _ h _ => .inl h
theorem Match.below {σ : Sto} (h : Match σ ι Z w) {w' : World} (hb : Below w.heap.size w w') : Match σ ι Z w' := by
 refine h.go (Evo.ofBelow h hb) h.len (fun id o b ho hb' hl => .inr ⟨ho, hb.block b ((h.obj id o b ho hb').lt hl), fun _ hj => hj⟩) h.inj fun b j hj => Nat.lt_of_lt_of_le (h.zlt b j hj) hb.size
end
theorem primParse_sound : CallSound Tryz.prog fun f' args σ => if f' = 26 then primParse args σ else none := by
 intro f' args σ r σ' hr ι Z w us hM hl hargs
 dsimp only at hr
 split at hr
 · rename_i e
   subst e
   unfold primParse at hr
   split at hr
   · rename_i s
     split at hr
     · rename_i hx
       cases hr
       obtain ⟨v, rfl⟩ : ∃ v, us = #[v] := ⟨us[0]'(by simp at hl; omega), by
        apply Array.ext
        · simp at hl; simp; omega
        · intro i h1 h2; simp at h2; subst h2; rfl⟩
       have hv := hargs 0 _ v rfl rfl
       cases hv
       refine ⟨Tryz.call26 _ _, (parse_any s w hx).mono ?_⟩
       rintro e w' ⟨v, rfl, hrep, hb⟩
       obtain ⟨e1, m1⟩ := Evo.fresh hM hb
       refine ⟨ι, _, e1, m1, _, rfl, .tup _ _ rfl fun i d u hd hu => ?_⟩
       rcases i with _ | _ | _ | i
       · simp at hd hu; subst hd; subst hu
         exact VR.ofRep _ _ _ (Nat.lt_succ_self _) hrep fun b j h1 h2 => .inr ⟨h1, h2⟩
       · simp at hd hu; subst hd; subst hu; exact .lit _ rfl
       · simp at hd hu; subst hd; subst hu; exact .lit _ rfl
       · simp at hd
     · cases hr
   · cases hr
 · cases hr
end
end Go.Proofs.YtmmgjaheffbpaaaGreatDoor
