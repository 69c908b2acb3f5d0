/-
  THE WALKS of the program's lex: tree and row, which call each other.
-/
import Derived.Test.YtcjjmejmpdhikaaGreatDoorLexProg
import Derived.StillTailTactics
import Derived.Deep.RegionWith
namespace Go.Proofs.YtcjjmejmpdhikaaGreatDoor
set_option linter.unusedSimpArgs false
set_option linter.unusedVariables false
set_option maxRecDepth 100000
open Go.RowKit

theorem St.stays {w w' : World} {b : Nat} {s : ByteArray} {i o : Nat} (h : St w b s i o) (hg : w'.heap[b]? = w.heap[b]?) : St w' b s i o := by unfold St at *; rw [hg]; exact h
theorem St.alloc {w : World} {b : Nat} {s : ByteArray} {i o : Nat} (h : St w b s i o) (x : Obj) : St (w.alloc x) b s i o := h.stays (Below.heap_alloc w x b h.lt)
theorem St.drew {w : World} {b : Nat} {s : ByteArray} {i o : Nat} (h : St w b s i o) : St w.drew b s i o := h
theorem St.drewN {w : World} {b : Nat} {s : ByteArray} {i o : Nat} (h : St w b s i o) (n : Nat) : St (w.drewN n) b s i o := h

def fault (p c : Int) : List PanicEntry := [{ v := .iface 105 (.agg #[.int .i64 p, .int .i64 c]), recovered := false }]

/-- What 'row' ends with. -/
def RowPost (w : World) (b : Nat) (s : ByteArray) (o : Nat) (r : Res (List Tr × Nat)) (e : Ending) (w' : World) : Prop :=
  match r with
  | .ok (ts, j) => ∃ v, e = .returned v ∧ Rep w' (fun k => w.heap.size ≤ k) v (.sl (encTrs ts)) ∧ St w' b s j o ∧ w.grownBy w' (some b)
  | .bad p c => e = .panicked (fault p c) ∧ w.grownBy w' (some b)

/-- What 'tree' ends with. -/
def TreePost (w : World) (b : Nat) (s : ByteArray) (o : Nat) (r : Res (Tr × Nat)) (e : Ending) (w' : World) : Prop :=
  match r with
  | .ok (t, j) => ∃ v, e = .returned (.agg #[.string ⟨t.word.toArray⟩, v, .bool t.row, .int .i64 t.at_]) ∧ Rep w' (fun k => w.heap.size ≤ k) v (.sl (encTrs t.kids)) ∧ St w' b s j o ∧ w.grownBy w' (some b)
  | .bad p c => e = .panicked (fault p c) ∧ w.grownBy w' (some b)

theorem call_sign (args : Array Value) (w : World) : Sem.run Tryz.prog (callFunc 110 args) w = .ok (.enter 110 args) w := by kernel_rfl
theorem call_blank (args : Array Value) (w : World) : Sem.run Tryz.prog (callFunc 86 args) w = .ok (.enter 86 args) w := by kernel_rfl

theorem St.other {w : World} {b : Nat} {s : ByteArray} {i o : Nat} (h : St w b s i o) {k j : Nat} {u : Value} (hk : b ≠ k) : St (w.setCell ⟨k, j, none⟩ u) b s i o := h.stays (Below.heap_setCell w _ u b hk)

theorem str_pos {s : ByteArray} {i j : Nat} (h : i < j) (hj : j ≤ s.size) : (s.extract i j).toList.isEmpty = false := by
  have hl : (s.extract i j).toList.length = j - i := by
    rw [Lib.toList_data, Lib.extract_data]; simp; omega
  cases hq : (s.extract i j).toList with
  | nil => rw [hq] at hl; simp at hl; omega
  | cons a l => rfl
theorem str_nil {s : ByteArray} {i : Nat} : (s.extract i i).toList.isEmpty = true := by
  rw [Lib.toList_data, Lib.extract_data]; simp

set_option maxHeartbeats 1000000 in
theorem tree_word (s : ByteArray) (i o b : Nat) (w : World) (hs : s.size ≤ 262144) (hi : i < s.size) (hb : St w b s i o) (hc : ((s[i].toNat : Int) == 40) = false)
    (hj : i < skipTo sgn s.data.toList i) :
    Calls Tryz.prog 87 #[.pointer (some ⟨b, 0, none⟩)] w (TreePost w b s o (.ok (.mk ((s.data.toList.drop i).takeWhile sgn) [] false i, skipTo sgn s.data.toList i))) := by
  have hJs : skipTo sgn s.data.toList i ≤ s.size := by have := skipTo_le sgn s.data.toList i (by simp; omega); simpa using this
  have HW := Lib.hid (extract_word sgn s i)
  have HB := Lib.hid hb
  have c0 := hb.c0
  have c1 := hb.c1
  have hi' : (i : Int) < s.size := by omega
  have hbl := hb.lt
  clear hb
  go_enter Tryz.func87, Tryz.ntmps87
  go_wp2_with fail
  go_quiet (fail)
  go_wp2_with fail
  refine (while_any 110 sgn call_sign sign_any s i o b _ hs (by omega) (((HB.out.alloc _).alloc _).drewN _)).mono ?_
  generalize skipTo sgn s.data.toList i = J at *
  rintro e w1 ⟨rfl, hst, hg⟩
  have hr1 : Blk w1 w.heap.size _ _ := Blk.grown (((Blk.new _ _ _).alloc _).drewN _) hg (by simp; omega)
  have ht1 : Blk w1 (w.heap.size + 1) _ _ := Blk.grown ((Blk.new' _ _ (by simp)).drewN _) hg (by simp; omega)
  have r0 := hr1.cell 0
  have r1 := hr1.cell 1
  have r2 := hr1.cell 2
  have r3 := hr1.cell 3
  have q := fun j => hr1.frozen j
  have t0 := ht1.cell 0
  have t1 := ht1.cell 1
  have t2 := ht1.cell 2
  have t3 := ht1.cell 3
  have u := fun j => ht1.frozen j
  simp at r0 r1 r2 r3 t0 t1 t2 t3
  have hsz := hg.size
  simp at hsz
  have G1 := Lib.hid (show w.grownBy w1 (some b) from grownBy_trans (grownBy_trans (World.grownBy_alloc _ _ _) (grownBy_trans (World.grownBy_alloc _ _ _) (grownBy_drewN _ _ _))) hg)
  have H1 := Lib.hid hst
  have H3 := Lib.hid hr1
  have H4 := Lib.hid ht1
  clear hst hg hr1 ht1
  have hne : (s.extract i J).toList.isEmpty = false := str_pos hj hJs
  go_wp2_with fail
  go_quiet (refine Calls.quiet_of_same (must_yes 20 b _))
  go_wp2_with fail
  refine bodyPost_ret (v := .agg #[.string (s.extract i J), .slice none 0 0, .bool false, .int .i64 i]) (by simp [results, Tryz.results87, go_sem, r0, r1, r2, r3]) rfl ?_
  unfold TreePost
  refine ⟨.slice none 0 0, ?_, .nil _ _, ?_, ?_⟩
  · rw [HW.out]; rfl
  · exact ((((((H1.out.other (by omega)).drewN _).other (by omega)).other (by omega)).other (by omega)).other (by omega))
  · exact grownBy_setOwn (grownBy_setOwn (grownBy_setOwn (grownBy_setOwn (grownBy_drewN' (grownBy_setOwn G1.out (by omega)) _) (by omega)) (by omega)) (by omega)) (by omega)

set_option maxHeartbeats 1000000 in
theorem tree_none (s : ByteArray) (i o b : Nat) (w : World) (hs : s.size ≤ 262144) (hi : i < s.size) (hb : St w b s i o) (hc : ((s[i].toNat : Int) == 40) = false)
    (hj : skipTo sgn s.data.toList i = i) :
    Calls Tryz.prog 87 #[.pointer (some ⟨b, 0, none⟩)] w (TreePost w b s o (.bad i 20)) := by
  have HJ := Lib.hid hj
  clear hj
  have HB := Lib.hid hb
  have c0 := hb.c0
  have c1 := hb.c1
  have hi' : (i : Int) < s.size := by omega
  have hbl := hb.lt
  clear hb
  go_enter Tryz.func87, Tryz.ntmps87
  go_wp2_with fail
  go_quiet (fail)
  go_wp2_with fail
  refine (while_any 110 sgn call_sign sign_any s i o b _ hs (by omega) (((HB.out.alloc _).alloc _).drewN _)).mono ?_
  rw [HJ.out]
  rintro e w1 ⟨rfl, hst, hg⟩
  have c1' := hst.c1
  have hr1 : Blk w1 w.heap.size _ _ := Blk.grown (((Blk.new _ _ _).alloc _).drewN _) hg (by simp; omega)
  have ht1 : Blk w1 (w.heap.size + 1) _ _ := Blk.grown ((Blk.new' _ _ (by simp)).drewN _) hg (by simp; omega)
  have r0 := hr1.cell 0
  have r1 := hr1.cell 1
  have r2 := hr1.cell 2
  have r3 := hr1.cell 3
  have q := fun j => hr1.frozen j
  have t0 := ht1.cell 0
  have t1 := ht1.cell 1
  have t2 := ht1.cell 2
  have t3 := ht1.cell 3
  have u := fun j => ht1.frozen j
  simp at r0 r1 r2 r3 t0 t1 t2 t3
  have hsz := hg.size
  simp at hsz
  have G1 := Lib.hid (show w.grownBy w1 (some b) from grownBy_trans (grownBy_trans (World.grownBy_alloc _ _ _) (grownBy_trans (World.grownBy_alloc _ _ _) (grownBy_drewN _ _ _))) hg)
  have H1 := Lib.hid hst
  have H3 := Lib.hid hr1
  have H4 := Lib.hid ht1
  clear hst hg hr1 ht1
  have hne : (s.extract i i).toList.isEmpty = true := str_nil
  go_wp2_with fail
  refine wp_region_still_tail 6 (by kernel_rfl) (by kernel_rfl) ?_
  simp only [List.take_succ_cons, List.take_zero, List.drop_succ_cons, List.drop_zero, World.drew_eq]
  repeat still_step
  refine wpStill_nil ?_
  go_wp2_with fail
  refine (must_no 20 i b _ (by simpa [World.cell?_setCell_other, show ¬ w.heap.size + 1 = b by omega] using c1')).mono ?_
  rintro e w2 ⟨rfl, rfl⟩
  refine ⟨rfl, ?_⟩
  unfold TreePost
  exact ⟨rfl, grownBy_drew' (grownBy_setOwn G1.out (by omega))⟩

/-- what a tree in brackets is, of the row within -/
def treeOf (i n : Nat) : Res (List Tr × Nat) → Res (Tr × Nat)
  | .bad p e => .bad p e
  | .ok (ts, j) => if j < n then .ok (.mk [] ts true i, j + 1) else .bad j 20

set_option maxRecDepth 100000 in
set_option maxHeartbeats 1000000 in
theorem tree_deep (s : ByteArray) (i o b : Nat) (w : World) (hs : s.size ≤ 262144) (hi : i < s.size) (hb : St w b s i o) (hc : ((s[i].toNat : Int) == 40) = true) (ho : decide ((o : Int) < 400) = false) :
    Calls Tryz.prog 87 #[.pointer (some ⟨b, 0, none⟩)] w (TreePost w b s o (.bad i 3)) := by
  have hc2 : ((s[i].toNat : Int) != 40) = false := by simp [bne, hc]
  have HB := Lib.hid hb
  have c0 := hb.c0
  have c1 := hb.c1
  have c2 := hb.c2
  have g1 := hb.fr 1
  have g2 := hb.fr 2
  have hi' : (i : Int) < s.size := by omega
  have hbl := hb.lt
  clear hb
  go_enter Tryz.func87, Tryz.ntmps87
  go_wp2_with fail
  go_quiet (fail)
  go_wp2_with fail
  refine wp_region_still_tail 8 (by kernel_rfl) (by kernel_rfl) ?_
  simp only [List.take_succ_cons, List.take_zero, List.drop_succ_cons, List.drop_zero, World.drew_eq]
  repeat still_step
  refine wpStill_nil ?_
  go_wp2_with fail
  refine (must_no 3 i b _ (by simpa [World.cell?_alloc_lt, hbl, Nat.lt_succ_of_lt] using c1)).mono ?_
  rintro e w2 ⟨rfl, rfl⟩
  refine ⟨rfl, ?_⟩
  unfold TreePost
  exact ⟨rfl, grownBy_drew' (grownBy_drewN' (grownBy_alloc' (grownBy_alloc' (.refl _ _) _) _) _)⟩

set_option maxHeartbeats 2000000 in
theorem tree_row (s : ByteArray) (i o b : Nat) (w : World) (hs : s.size ≤ 262144) (hi : i < s.size) (hb : St w b s i o) (hc : ((s[i].toNat : Int) == 40) = true) (ho : (o : Int) < 400)
    (r : Res (List Tr × Nat)) (hrj : ∀ ts j, r = .ok (ts, j) → j ≤ s.size) (hrow : ∀ w, St w b s (i + 1) (o + 1) → Calls Tryz.prog 54 #[.pointer (some ⟨b, 0, none⟩)] w (RowPost w b s (o + 1) r)) :
    Calls Tryz.prog 87 #[.pointer (some ⟨b, 0, none⟩)] w (TreePost w b s o (treeOf i s.size r)) := by
  have hc2 : ((s[i].toNat : Int) != 40) = false := by simp [bne, hc]
  have HR := Lib.hid hrow
  have HJ := Lib.hid hrj
  clear hrow hrj
  have HB := Lib.hid hb
  have c0 := hb.c0
  have c1 := hb.c1
  have c2 := hb.c2
  have g1 := hb.fr 1
  have g2 := hb.fr 2
  have hi' : (i : Int) < s.size := by omega
  have hbl := hb.lt
  clear hb
  go_enter Tryz.func87, Tryz.ntmps87
  go_wp2_with fail
  go_quiet (fail)
  go_wp2_with fail
  go_quiet (refine quiet2_same (must_yes 3 b _))
  go_wp2_with fail
  refine (HR.out _ ?_).mono ?_
  · exact (((((HB.out.alloc _).alloc _).drewN _).set2 (o + 1)).set1 (i + 1))
  intro e w1 hpost
  unfold RowPost at hpost
  cases r with
  | bad p c =>
    obtain ⟨rfl, hg⟩ := hpost
    refine ⟨rfl, ?_⟩
    unfold TreePost
    exact ⟨rfl, grownBy_trans (grownBy_trans (grownBy_trans (grownBy_drewN' (grownBy_alloc' (grownBy_alloc' (.refl _ _) _) _) _) (grownBy_setCell _ _ _ _)) (grownBy_setCell _ _ _ _)) hg⟩
  | ok x =>
    obtain ⟨ts, j⟩ := x
    obtain ⟨v, rfl, hrep, hst, hg⟩ := hpost
    have hj : j ≤ s.size := HJ.out ts j rfl
    have c0' := hst.c0
    have c1' := hst.c1
    have c2' := hst.c2
    have k1 := hst.fr 1
    have k2 := hst.fr 2
    have hr1 : Blk w1 w.heap.size _ _ := Blk.grown ((((((Blk.new _ _ _).alloc _).drewN _).other (by omega)).other (by omega))) hg (by simp; omega)
    have ht1 : Blk w1 (w.heap.size + 1) _ _ := Blk.grown (((((Blk.new' _ _ (by simp)).drewN _).other (by omega)).other (by omega))) hg (by simp; omega)
    have r0 := hr1.cell 0
    have r1 := hr1.cell 1
    have r2 := hr1.cell 2
    have r3 := hr1.cell 3
    have q := fun j => hr1.frozen j
    have t0 := ht1.cell 0
    have t1 := ht1.cell 1
    have t2 := ht1.cell 2
    have t3 := ht1.cell 3
    have u := fun j => ht1.frozen j
    simp at r0 r1 r2 r3 t0 t1 t2 t3
    have hsz := hg.size
    simp at hsz
    have hv : ∃ a n c, v = .slice a n c := by obtain ⟨a, c, h⟩ := hrep.slice; exact ⟨a, _, c, h⟩
    obtain ⟨a, n, c, rfl⟩ := hv
    have G1 := Lib.hid (show w.grownBy w1 (some b) from grownBy_trans (grownBy_trans (grownBy_trans (grownBy_drewN' (grownBy_alloc' (grownBy_alloc' (.refl _ _) _) _) _) (grownBy_setCell _ _ _ _)) (grownBy_setCell _ _ _ _)) hg)
    have H1 := Lib.hid hst
    have H3 := Lib.hid hr1
    have H4 := Lib.hid ht1
    have H5 := Lib.hid hrep
    clear hst hg hr1 ht1 hrep
    by_cases hlt : j < s.size
    · go_wp2_with fail
      go_quiet (first | (go_at_call 56; refine Calls.quiet_of (more_yes s j b _ (by simpa [World.cell?_setCell_other, show ¬ w.heap.size + 1 = b by omega] using c0') (by simpa [World.cell?_setCell_other, show ¬ w.heap.size + 1 = b by omega] using c1') hlt)) | (refine Calls.quiet_of_same (must_yes 20 b _)))
      go_wp2_with fail
      have hT : treeOf i s.size (.ok (ts, j)) = .ok (.mk [] ts true i, j + 1) := by simp [treeOf, hlt]
      rw [hT]
      refine bodyPost_ret (v := .agg #[.string ⟨#[]⟩, .slice a n c, .bool true, .int .i64 i]) (by simp [results, Tryz.results87, go_sem, r0, r1, r2, r3]) rfl ?_
      unfold TreePost
      have hrep : Rep w1 (fun k => w.heap.size + 2 ≤ k ∧ k ≠ b) (.slice a n c) (.sl (encTrs ts)) := H5.out.mono fun k hk => by simp at hk; omega
      refine ⟨.slice a n c, rfl, ?_, ?_, ?_⟩
      · exact (((((((((hrep.set (by omega)).set (by omega)).drewN).set (by omega)).set (by omega)).set (by omega)).set (by omega)).set (by omega)).set (by omega)).mono (fun k hk => by omega)
      · exact (((((((((H1.out.other (by omega)).other (by omega)).drewN _).set2 o).set1 (j + 1)).other (by omega)).other (by omega)).other (by omega)).other (by omega))
      · exact grownBy_setOwn (grownBy_setOwn (grownBy_setOwn (grownBy_setOwn (grownBy_trans (grownBy_trans (grownBy_drewN' (grownBy_setOwn (grownBy_setOwn G1.out (by omega)) (by omega)) _) (grownBy_setCell _ _ _ _)) (grownBy_setCell _ _ _ _)) (by omega)) (by omega)) (by omega)) (by omega)
    · have HT := Lib.hid (show treeOf i s.size (.ok (ts, j)) = .bad j 20 by simp [treeOf, hlt])
      go_wp2_with fail
      refine wp_region_any (by kernel_rfl) ?_
      change wpAny _ _ _ _ _ _ _ (World.drew _)
      refine wpAny_take (i := 0) (v := ?_) rfl (by kernel_rfl) (by kernel_rfl) (by kernel_rfl) (fun _ _ _ h => h) (Or.inl ⟨by rfl, ?_⟩) ?_
      rotate_left
      · (intro w; go_simp; try with_reducible rfl)
      refine wpAny_take (i := 1) (v := ?_) rfl (by kernel_rfl) (by kernel_rfl) (by kernel_rfl) (fun _ _ _ h => h) (Or.inl ⟨by rfl, ?_⟩) ?_
      rotate_left
      · (intro w; go_simp; try with_reducible rfl)
      refine wpAny_take (i := 2) (v := ?_) rfl (by kernel_rfl) (by kernel_rfl) (by kernel_rfl) (fun _ _ _ h => h) (Or.inl ⟨by rfl, ?_⟩) ?_
      rotate_left
      · (intro w; go_simp; try with_reducible rfl)
      refine wpAny_take (i := 3) (v := ?_) rfl (by kernel_rfl) (by kernel_rfl) (by kernel_rfl) (fun _ _ _ h => h) (Or.inl ⟨by rfl, ?_⟩) ?_
      rotate_left
      · (intro w; go_simp; try with_reducible rfl)
      refine wpAny_take (i := 4) (v := ?_) rfl (by kernel_rfl) (by kernel_rfl) (by kernel_rfl) (fun _ _ _ h => h) (Or.inl ⟨by rfl, ?_⟩) ?_
      rotate_left
      · (intro w; go_simp; try with_reducible rfl)
      refine wpAny_take (i := 5) (v := ?_) rfl (by kernel_rfl) (by kernel_rfl) (by kernel_rfl) (fun _ _ _ h => h) (Or.inl ⟨by rfl, ?_⟩) ?_
      rotate_left
      · (intro w; go_simp; try with_reducible rfl)
      refine wpAny_ready (rs := [6]) (by kernel_rfl) (by simp) ?_
      refine AllReady.cons rfl (fun K hK => ?_) AllReady.nil
      go_simp
      refine (more_no s j b _ (by simpa [World.cell?_setCell_other, show ¬ w.heap.size + 1 = b by omega] using c0') (by simpa [World.cell?_setCell_other, show ¬ w.heap.size + 1 = b by omega] using c1') hlt).mono ?_
      rintro e w2 ⟨rfl, nn, rfl⟩
      refine hK _ _ ?_
      clear hK K
      refine wpAny_ready (rs := [7]) (by kernel_rfl) (by simp) ?_
      refine AllReady.cons rfl (fun K hK => ?_) AllReady.nil
      go_simp
      refine (must_no 20 j b _ (by simpa [World.cell?_setCell_other, show ¬ w.heap.size + 1 = b by omega] using c1')).mono ?_
      rintro e w2 ⟨rfl, rfl⟩
      refine ⟨rfl, ?_⟩
      rw [HT.out]
      unfold TreePost
      exact ⟨rfl, grownBy_drewN' (grownBy_setOwn (grownBy_setOwn G1.out (by omega)) (by omega)) _⟩

end Go.Proofs.YtcjjmejmpdhikaaGreatDoor
