/-
  strings.Builder's WriteByte, WriteString, String, over Bld (a builder at the head of a block of type T).
-/
import Derived.Test.YtocaickbfeaiaaaDoorBuilder
namespace Go.Proofs.YtocaickbfeaiaaaDoor
set_option linter.unusedSimpArgs false
set_option linter.unusedVariables false
set_option maxRecDepth 100000
open Go.RowKit

def byteD (l : List UInt8) : List (List D) := l.map fun x => [D.leaf (.int .u8 x.toNat)]

theorem flatten_byteD (l : List UInt8) : (byteD l).flatten = l.map fun x => D.leaf (.int .u8 x.toNat) := by
  induction l with
  | nil => rfl
  | cons a l ih => simp [byteD] at ih ⊢; exact ih
theorem byteD_length (l : List UInt8) : (byteD l).length = l.length := by simp [byteD]
theorem byteD_one (l : List UInt8) : ∀ d, d ∈ byteD l → d.length = 1 := by
  intro d hd
  simp only [byteD, List.mem_map] at hd
  obtain ⟨x, _, rfl⟩ := hd
  rfl

theorem reps_bytes (w : World) (F : Nat → Prop) (l : List UInt8) : Reps w F (Lib.byteCells l) ((byteD l).flatten) := by
  rw [flatten_byteD]
  refine ⟨by simp [Lib.byteCells_length], fun i u d hu hd => ?_⟩
  simp only [Lib.byteCells, List.getElem?_map, Option.map_eq_some_iff] at hu hd
  obtain ⟨a, ha, rfl⟩ := hu
  obtain ⟨b, hb, rfl⟩ := hd
  rw [ha] at hb
  cases hb
  exact .leaf _

theorem bytes_of_reps {w : World} {F : Nat → Prop} {xs : List Value} (l : List UInt8) (h : Reps w F xs ((byteD l).flatten)) : xs = Lib.byteCells l := by
  rw [flatten_byteD] at h
  refine List.ext_getElem (by simpa [Lib.byteCells_length] using h.1) fun i h1 h2 => ?_
  have h3 : i < l.length := by simpa [Lib.byteCells_length] using h2
  have := h.2 i xs[i] (.leaf (.int .u8 (l[i]).toNat)) (by simp) (by simp only [List.getElem?_map, List.getElem?_eq_getElem h3, Option.map_some])
  rw [this.leaf_eq]
  simp only [Lib.byteCells, List.getElem_map]

theorem own_bytes {w : World} {B : Nat} {v : Value} {l : List UInt8} (h : w.ownsRow B 5 1 v l.length (Lib.byteCells l)) : Own w B (fun _ => False) 5 1 v (byteD l) :=
  ⟨_, by rw [byteD_length]; exact h, byteD_one l, reps_bytes _ _ l⟩
theorem bytes_own {w : World} {B : Nat} {v : Value} {l : List UInt8} (h : Own w B (fun _ => False) 5 1 v (byteD l)) : w.ownsRow B 5 1 v l.length (Lib.byteCells l) := by
  obtain ⟨xs, h1, _, h3⟩ := h
  rw [← bytes_of_reps l h3]
  rw [byteD_length] at h1
  exact h1

theorem Bld.lt {T : TypeId} {B : Nat} {w : World} {b : Nat} {v : Value} {l : List UInt8} (h : Bld T B w b v l) : b < w.heap.size := by
  obtain ⟨p, _, hb, _, _⟩ := h
  exact hb.lt
theorem Bld.row {T : TypeId} {B : Nat} {w : World} {b : Nat} {v : Value} {l : List UInt8} (h : Bld T B w b v l) : ∀ k, v.ownBlock = some k → B ≤ k ∧ k < w.heap.size := by
  obtain ⟨p, _, _, ho, _⟩ := h
  exact ho.lt
theorem Bld.new (T : TypeId) (B : Nat) (w : World) (hB : B ≤ w.heap.size) : Bld T B (w.alloc (.cells #[.pointer none, .slice none 0 0] T)) w.heap.size (.slice none 0 0) [] :=
  ⟨_, .inl rfl, Blk.new w _ T, World.ownsRow_nil _ B _ 1, by simp [Value.ownBlock]⟩

/-- what a writer's call leaves -/
def Wrote (T : TypeId) (B : Nat) (w : World) (b : Nat) (v : Value) (l : List UInt8) (w' : World) : Prop :=
  ∃ v', Bld T B w' b v' l ∧ Grown2 w w' b v ∧ (v'.ownBlock = v.ownBlock ∨ ∃ k, v'.ownBlock = some k ∧ w.heap.size ≤ k)

/-- copyCheck, either way -/
theorem check_any (T : TypeId) (hT : liesAt Tryd.prog Tryd.prog.depth T (2 / Tryd.prog.cellsOf T) 0 44 1 = true) (B b : Nat) (v : Value) (l : List UInt8) (w : World) (h : Bld T B w b v l) :
    Calls Tryd.prog 37 #[.pointer (some ⟨b, 0, none⟩)] w fun e w' => e = .returned (.tuple #[]) ∧
      w.grownBy w' (some b) ∧ Blk w' b #[.pointer (some ⟨b, 0, none⟩), v] T ∧ w'.ownsRow B 5 1 v l.length (Lib.byteCells l) ∧ v.ownBlock ≠ some b := by
  obtain ⟨p, hp, hb, ho, hne⟩ := h
  rcases hp with rfl | rfl
  · refine (check_fresh T hT b v w hb).mono ?_
    rintro e w' ⟨rfl, rfl⟩
    have hg := grownBy_setCell w b 0 (.pointer (some ⟨b, 0, none⟩))
    refine ⟨rfl, hg, by simpa using hb.set 0 (.pointer (some ⟨b, 0, none⟩)), ?_, hne⟩
    exact ho.kept hg (by rcases h : v.ownBlock with _ | k; exact .inl rfl; exact .inr (by rw [h] at hne; exact hne))
  · have h0 := hb.cell 0
    simp at h0
    refine (check_used b w h0).mono ?_
    rintro e w' ⟨rfl, rfl⟩
    exact ⟨rfl, .refl _ _, hb, ho, hne⟩

theorem ub_u8 (c : UInt8) : (0 : Int) ≤ c.toNat ∧ (c.toNat : Int) < 256 := ⟨by omega, by have := c.toNat_lt; omega⟩

set_option maxRecDepth 100000 in
set_option maxHeartbeats 1000000 in
theorem writeByte_any (T : TypeId) (hT : liesAt Tryd.prog Tryd.prog.depth T (2 / Tryd.prog.cellsOf T) 0 44 1 = true) (B b : Nat) (v : Value) (l : List UInt8) (c : UInt8) (w : World) (h : Bld T B w b v l)
    (hlen : l.length + 1 ≤ 140737488355328) (hB : B ≤ w.heap.size) :
    Calls Tryd.prog 47 #[.pointer (some ⟨b, 0, none⟩), .int .u8 c.toNat] w fun e w' => e = .returned .nilIface ∧ Wrote T B w b v (l ++ [c]) w' := by
  obtain ⟨ti, hti, htq⟩ := Option.map_eq_some_iff.1 info_u8
  simp only [Prod.mk.injEq] at htq
  obtain ⟨hz0, hz1, hz2⟩ := htq
  have hlt := h.lt
  have C := Lib.hid (check_any T hT B b v l w h)
  clear h hT
  go_enter Tryd.func47, Tryd.ntmps47
  go_wp2_with (refine C.out.mono ?_)
  rintro e w1 ⟨rfl, g1, hb, ho, hne⟩
  have c0 := hb.cell 0
  have c1 := hb.cell 1
  simp at c0 c1
  have g1s := g1.size
  have HB := Lib.hid hb
  have HO := Lib.hid ho
  have HN := Lib.hid hne
  have G1 := Lib.hid g1
  clear hb ho hne g1
  go_wp2_with (at_builtin; refine wpList_append_Own _ rfl _ _ 25 rfl B (fun _ => False) 5 ti _ 1 1 Tryd.underlying25 hti hz0 hz1 hz2 rfl (by decide) v (byteD l) rfl ?own (some ⟨w1.heap.size, 0, none⟩) 1 1 rfl [.int .u8 c.toNat] (byteD [c]) rfl (byteD_one [c]) (by intro h; cases h) ?news ?one (reps_bytes _ _ [c]) ?b1 ?b2 ?b3 ?next)
  case own => exact (own_bytes HO.out).alloc _
  case news =>
    intro a ha j u hj
    cases ha
    match j, hj with
    | 0, hj => simp at hj; subst hj; simp [Addr.add]
  case one => intro u hu; simp at hu; subst hu; rfl
  case b1 => rw [byteD_length]; simp only [maxLen]; omega
  case b2 => rw [byteD_length]; omega
  case b3 => simp; omega
  case next =>
  intro v' w2 hown' g2 hv'
  have g2s := g2.size
  simp at g2s
  have hb2 : Blk w2 b #[.pointer (some ⟨b, 0, none⟩), v] T := (HB.out.alloc _).grown g2 (fun e => HN.out e.symm)
  have d0 := hb2.cell 0
  have d1 := hb2.cell 1
  have f1 := hb2.frozen 1
  simp at d0 d1
  have hlt1 : b < w1.heap.size := HB.out.lt
  have HV := Lib.hid hv'
  have HB2 := Lib.hid hb2
  have G2 := Lib.hid (grownBy_trans (World.grownBy_alloc w1 _ v.ownBlock) g2)
  have HO2 : Hid (w2.ownsRow B 5 1 v' (l ++ [c]).length (Lib.byteCells (l ++ [c]))) := Lib.hid (bytes_own (by rw [show byteD (l ++ [c]) = byteD l ++ byteD [c] from by simp only [byteD, List.map_append]]; exact hown'))
  clear hv' hb2 g2 hown'
  obtain ⟨ao, n', cap, rfl⟩ : ∃ ao n' cap, v' = .slice ao n' cap := by
    rcases HO2.out.2 with ⟨hv, _⟩ | ⟨g, cap, cur, hv, _⟩
    · exact ⟨_, _, _, hv⟩
    · exact ⟨_, _, _, hv⟩
  go_wp2
  go_ret
  have hv2 : Value.ownBlock (.slice ao n' cap) ≠ some b := by
    rcases HV.out with h | ⟨g, h, hg⟩
    · rw [h]; exact HN.out
    · rw [h]; simp at hg ⊢; omega
  refine ⟨rfl, _, ⟨_, .inr rfl, by simpa using HB2.out.set 1 (.slice ao n' cap), HO2.out.kept (grownBy_setCell w2 b 1 _) ?k1, hv2⟩, ?k2, ?k3⟩
  case k1 =>
    rcases h : Value.ownBlock (.slice ao n' cap) with _ | k
    · exact .inl rfl
    · exact .inr (by rw [h] at hv2; exact hv2)
  case k2 =>
    refine Grown2.trans (v1 := v) (Grown2.of G1.out (.inr (.inl rfl))) ?_ (.inl rfl)
    exact Grown2.trans (v1 := v) (Grown2.of G2.out (.inr (.inr rfl))) (Grown2.of (grownBy_setCell w2 b 1 _) (.inr (.inl rfl))) (.inl rfl)
  case k3 =>
    rcases HV.out with h | ⟨g, h, hg⟩
    · exact .inl h
    · exact .inr ⟨g, h, by first | omega | (simp at hg; omega)⟩

set_option maxRecDepth 100000 in
set_option maxHeartbeats 1000000 in
theorem writeString_any (T : TypeId) (hT : liesAt Tryd.prog Tryd.prog.depth T (2 / Tryd.prog.cellsOf T) 0 44 1 = true) (B b : Nat) (v : Value) (l : List UInt8) (s : ByteArray) (w : World) (h : Bld T B w b v l)
    (hlen : l.length + s.size ≤ 140737488355328) (hB : B ≤ w.heap.size) :
    Calls Tryd.prog 17 #[.pointer (some ⟨b, 0, none⟩), .string s] w fun e w' => e = .returned (.tuple #[.int .i64 s.size, .nilIface]) ∧ Wrote T B w b v (l ++ s.data.toList) w' := by
  obtain ⟨ti, hti, htq⟩ := Option.map_eq_some_iff.1 info_u8
  simp only [Prod.mk.injEq] at htq
  obtain ⟨hz0, hz1, hz2⟩ := htq
  have hlt := h.lt
  have C := Lib.hid (check_any T hT B b v l w h)
  clear h hT
  go_enter Tryd.func17, Tryd.ntmps17
  go_wp2_with (refine C.out.mono ?_)
  rintro e w1 ⟨rfl, g1, hb, ho, hne⟩
  have c0 := hb.cell 0
  have c1 := hb.cell 1
  simp at c0 c1
  have g1s := g1.size
  have HB := Lib.hid hb
  have HO := Lib.hid ho
  have HN := Lib.hid hne
  have G1 := Lib.hid g1
  clear hb ho hne g1
  go_wp2_with (at_builtin; refine wpList_append_str _ rfl _ _ 25 9 rfl B 5 ti Tryd.underlying25 Tryd.underlying9 hti hz0 hz1 hz2 v l.length (Lib.byteCells l) rfl HO.out s rfl ?b1 ?b2 ?b3 ?next)
  case b1 => simp only [maxLen]; omega
  case b2 => omega
  case b3 => omega
  case next =>
  intro v' w2 hown' g2 hv'
  have g2s := g2.size
  have hb2 : Blk w2 b #[.pointer (some ⟨b, 0, none⟩), v] T := HB.out.grown g2 (fun e => HN.out e.symm)
  have d0 := hb2.cell 0
  have d1 := hb2.cell 1
  have f1 := hb2.frozen 1
  simp at d0 d1
  have hlt1 : b < w1.heap.size := HB.out.lt
  have HV := Lib.hid hv'
  have HB2 := Lib.hid hb2
  have G2 := Lib.hid g2
  have HO2 : Hid (w2.ownsRow B 5 1 v' (l ++ s.data.toList).length (Lib.byteCells (l ++ s.data.toList))) := Lib.hid (by
    have e1 : Lib.byteCells (l ++ s.data.toList) = Lib.byteCells l ++ Lib.strCells s := by simp only [Lib.byteCells, Lib.strCells, List.map_append]
    have e2 : (l ++ s.data.toList).length = l.length + s.size := by rw [List.length_append, Array.length_toList]; rfl
    rw [e1, e2]; exact hown')
  clear hv' hb2 g2 hown'
  obtain ⟨ao, n', cap, rfl⟩ : ∃ ao n' cap, v' = .slice ao n' cap := by
    rcases HO2.out.2 with ⟨hv, _⟩ | ⟨g, cap, cur, hv, _⟩
    · exact ⟨_, _, _, hv⟩
    · exact ⟨_, _, _, hv⟩
  go_wp2
  go_ret2
  have hv2 : Value.ownBlock (.slice ao n' cap) ≠ some b := by
    rcases HV.out with h | ⟨g, h, hg⟩
    · rw [h]; exact HN.out
    · rw [h]; simp at hg ⊢; omega
  refine ⟨rfl, _, ⟨_, .inr rfl, by simpa using HB2.out.set 1 (.slice ao n' cap), HO2.out.kept (grownBy_setCell w2 b 1 _) ?k1, hv2⟩, ?k2, ?k3⟩
  case k1 =>
    rcases h : Value.ownBlock (.slice ao n' cap) with _ | k
    · exact .inl rfl
    · exact .inr (by rw [h] at hv2; exact hv2)
  case k2 =>
    refine Grown2.trans (v1 := v) (Grown2.of G1.out (.inr (.inl rfl))) ?_ (.inl rfl)
    exact Grown2.trans (v1 := v) (Grown2.of G2.out (.inr (.inr rfl))) (Grown2.of (grownBy_setCell w2 b 1 _) (.inr (.inl rfl))) (.inl rfl)
  case k3 =>
    rcases HV.out with h | ⟨g, h, hg⟩
    · exact .inl h
    · exact .inr ⟨g, h, by first | omega | (simp at hg; omega)⟩

theorem cells_u8 : Tryd.prog.cellsOf 5 = 1 := by kernel_rfl

set_option maxRecDepth 100000 in
set_option maxHeartbeats 1000000 in
theorem string_full (T : TypeId) (B b : Nat) (v : Value) (l : List UInt8) (w : World) (h : Bld T B w b v l) (h0 : l ≠ []) :
    Calls Tryd.prog 19 #[.pointer (some ⟨b, 0, none⟩)] w fun e w' => e = .returned (.string ⟨l.toArray⟩) ∧ Below B w w' := by
  obtain ⟨p, hp, hbk, hown, hne⟩ := h
  have hl0 : l.length ≠ 0 := by simpa using h0
  obtain ⟨g, cap, cur, rfl, hbg, hg, hnc, hcm, hcs, htake⟩ : ∃ g cap cur, v = .slice (some ⟨g, 0, none⟩) l.length cap ∧ B ≤ g ∧ w.heap[g]? = some (.cells cur 5 (0, 0)) ∧ l.length ≤ cap ∧ cap ≤ maxLen ∧ cur.size = cap * 1 ∧ cur.toList.take (l.length * 1) = Lib.byteCells l := by
    rcases hown.2 with ⟨_, hz⟩ | ⟨g, cap, cur, hv, r⟩
    · exact absurd hz hl0
    · exact ⟨g, cap, cur, hv, r⟩
  have c1 : w.drew.cell? ⟨b, 1, none⟩ = some (.slice (some ⟨g, 0, none⟩) l.length cap) := by
    have := hbk.drew.cell 1
    simpa using this
  have hSD : (Builtin.unsafeSliceData_ #[25] 86 #[.slice (some ⟨g, 0, none⟩) l.length cap]).run Tryd.prog w.drew = .ok (.pointer (some ⟨g, 0, none⟩)) w.drew :=
    Lib.run_unsafeSliceData_row _ _ _ _ _ _ (by omega)
  have hUS : (Builtin.unsafeString_ #[86, 3] 9 #[.pointer (some ⟨g, 0, none⟩), .int .i64 l.length]).run Tryd.prog w.drew = .ok (.string ⟨l.toArray⟩) (w.drew.freeze ⟨g, 0, none⟩ l.length) := by
    refine Lib.run_unsafeString_row w.drew 86 3 9 5 Tryd.underlying86 cells_u8 g cur.size (by have hg' : w.drew.heap[g]? = some (.cells cur 5 (0, 0)) := hg; simp [World.shape?, hg']) l h0 (by omega) (by unfold maxLen at hcm; omega) ?_
    intro j x hx
    exact hown.cells (g := g) rfl j (.int .u8 x.toNat) (by simp [Lib.byteCells, hx])
  clear hown htake hne hbk hp hl0 h0
  have HC := Lib.hid hcs
  clear hcs
  go_enter Tryd.func19, Tryd.ntmps19
  go_wp2
  go_region
  all_goals (go_wp2; go_ret; exact ⟨rfl, Lib.below_freeze (Below.drew (Below.refl B w)) (p := ⟨g, 0, none⟩) hbg _⟩)

theorem us_none (W : World) (q : Option Addr) : (Builtin.unsafeString_ #[86, 3] 9 #[.pointer q, .int .i64 0]).run Tryd.prog W = .ok (.string .empty) W :=
  Lib.run_unsafeString_none W _ _ _ q

set_option maxRecDepth 100000 in
set_option maxHeartbeats 1000000 in
theorem string_nil (T : TypeId) (B b : Nat) (p : Value) (w : World) (hbk : Blk w b #[p, .slice none 0 0] T) :
    Calls Tryd.prog 19 #[.pointer (some ⟨b, 0, none⟩)] w fun e w' => e = .returned (.string ⟨#[]⟩) ∧ Below B w w' := by
  have hUS := us_none
  have c1 : w.drew.cell? ⟨b, 1, none⟩ = some (.slice none 0 0) := by
    have := hbk.drew.cell 1
    simpa using this
  have hSD : (Builtin.unsafeSliceData_ #[25] 86 #[.slice none 0 0]).run Tryd.prog w.drew = .ok (.pointer none) w.drew := rfl
  clear hbk
  go_enter Tryd.func19, Tryd.ntmps19
  go_wp2
  go_region
  all_goals (go_wp2; go_ret; exact ⟨rfl, Below.drew (Below.refl B w)⟩)

set_option maxRecDepth 100000 in
set_option maxHeartbeats 1000000 in
theorem string_room (T : TypeId) (B b g cap : Nat) (p : Value) (w : World) (hc0 : cap ≠ 0) (hbk : Blk w b #[p, .slice (some ⟨g, 0, none⟩) 0 cap] T) :
    Calls Tryd.prog 19 #[.pointer (some ⟨b, 0, none⟩)] w fun e w' => e = .returned (.string ⟨#[]⟩) ∧ Below B w w' := by
  have hUS := us_none
  have c1 : w.drew.cell? ⟨b, 1, none⟩ = some (.slice (some ⟨g, 0, none⟩) 0 cap) := by
    have := hbk.drew.cell 1
    simpa using this
  have hSD : (Builtin.unsafeSliceData_ #[25] 86 #[.slice (some ⟨g, 0, none⟩) 0 cap]).run Tryd.prog w.drew = .ok (.pointer (some ⟨g, 0, none⟩)) w.drew :=
    Lib.run_unsafeSliceData_row _ _ _ _ _ _ hc0
  clear hbk hc0
  go_enter Tryd.func19, Tryd.ntmps19
  go_wp2
  go_region
  all_goals (go_wp2; go_ret; exact ⟨rfl, Below.drew (Below.refl B w)⟩)

set_option maxRecDepth 100000 in
set_option maxHeartbeats 1000000 in
theorem string_noroom (T : TypeId) (B b g : Nat) (p : Value) (cur : Array Value) (w : World) (hBw : B ≤ w.heap.size) (hbk : Blk w b #[p, .slice (some ⟨g, 0, none⟩) 0 0] T) (hg : w.heap[g]? = some (.cells cur 5 (0, 0))) :
    Calls Tryd.prog 19 #[.pointer (some ⟨b, 0, none⟩)] w fun e w' => e = .returned (.string ⟨#[]⟩) ∧ Below B w w' := by
  have hUS := us_none
  have c1 : w.drew.cell? ⟨b, 1, none⟩ = some (.slice (some ⟨g, 0, none⟩) 0 0) := by
    have := hbk.drew.cell 1
    simpa using this
  have hSD : (Builtin.unsafeSliceData_ #[25] 86 #[.slice (some ⟨g, 0, none⟩) 0 0]).run Tryd.prog w.drew = .ok (.pointer (some ⟨w.drew.heap.size, 0, none⟩)) (w.drew.alloc (.view ⟨g, 0, none⟩ 5)) :=
    Lib.run_unsafeSliceData_zero w.drew _ _ 5 Tryd.underlying86 ⟨g, 0, none⟩ 0 (5, cur.size) (by have hg' : w.drew.heap[g]? = some (.cells cur 5 (0, 0)) := hg; simp [World.shape?, hg'])
  have c2 : (w.drew.alloc (.view ⟨g, 0, none⟩ 5)).cell? ⟨b, 1, none⟩ = some (.slice (some ⟨g, 0, none⟩) 0 0) := by
    have := (hbk.drew.alloc (.view ⟨g, 0, none⟩ 5)).cell 1
    simpa using this
  have c3 : (w.alloc (.view ⟨g, 0, none⟩ 5)).drew.cell? ⟨b, 1, none⟩ = some (.slice (some ⟨g, 0, none⟩) 0 0) := c2
  have c0 : w.cell? ⟨b, 1, none⟩ = some (.slice (some ⟨g, 0, none⟩) 0 0) := c1
  clear hbk hg
  go_enter Tryd.func19, Tryd.ntmps19
  go_wp2
  go_region
  all_goals (go_wp2; go_ret; exact ⟨rfl, (Below.drew (Below.refl B w)).alloc hBw _⟩)

/-- (*strings.Builder).String, whatever the builder holds -/
theorem string_any (T : TypeId) (B b : Nat) (v : Value) (l : List UInt8) (w : World) (h : Bld T B w b v l) (hBw : B ≤ w.heap.size) :
    Calls Tryd.prog 19 #[.pointer (some ⟨b, 0, none⟩)] w fun e w' => e = .returned (.string ⟨l.toArray⟩) ∧ Below B w w' := by
  cases l with
  | nil =>
    obtain ⟨p, hp, hbk, hown, hne⟩ := h
    rcases hown.2 with ⟨rfl, _⟩ | ⟨g, cap, cur, rfl, hbg, hg, _, _, _, _⟩
    · exact string_nil T B b p w hbk
    · by_cases hc0 : cap = 0
      · subst hc0
        exact string_noroom T B b g p cur w hBw hbk hg
      · exact string_room T B b g cap p w hc0 hbk
  | cons x r => exact string_full T B b v (x :: r) w h (by simp)

end Go.Proofs.YtocaickbfeaiaaaDoor
