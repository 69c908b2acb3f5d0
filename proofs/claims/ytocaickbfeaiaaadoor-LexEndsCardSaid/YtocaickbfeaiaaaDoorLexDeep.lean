/-
  THE WALK of lex.Deep.
-/
import Derived.Test.YtocaickbfeaiaaaDoorLexLaw
namespace Go.Proofs.YtocaickbfeaiaaaDoor
set_option linter.unusedSimpArgs false
set_option linter.unusedVariables false
set_option maxRecDepth 100000
open Go.RowKit

theorem ret_i64 {a b : Int} (h : a = b) : Ending.returned (.int .i64 a) = .returned (.int .i64 b) := by rw [h]

set_option maxHeartbeats 2000000 in
theorem deep_any (n : Nat) : ∀ (xs : List Tr) (v : Value) (F : Nat → Prop) (w : World), SizeOf.sizeOf xs < n → deepT xs ≤ 1000000 → Rep w F v (.sl (encTrs xs)) →
    Calls Tryd.prog 8 #[v] w fun e w' => e = .returned (.int .i64 (deepT xs)) ∧ Below w.heap.size w w' := by
  induction n with
  | zero => intro xs v F w h; omega
  | succ n ih =>
    intro xs v F w hn hd ha
    have hma := ha.trees_max
    unfold maxLen at hma
    obtain ⟨aa, ca, rfl⟩ := ha.trees_len
    have HA := Lib.hid ha
    have IH := Lib.hid ih
    clear ha ih
    go_enter Tryd.func8, Tryd.ntmps8
    go_wp2_with fail
    go_loopg [3, 8] xs.length (fun k mv iv wr => ∃ i m : Nat, i ≤ xs.length ∧ k = xs.length - i ∧ iv = .int .i64 i ∧ mv = .int .i64 m ∧ deepT xs = max m (deepT (xs.drop i)) ∧ Below w.heap.size w wr)
    case atStart => exact ⟨0, 0, Nat.zero_le _, rfl, rfl, rfl, by simp, Below.refl _ _⟩
    case round =>
      obtain ⟨i, m, hi, hk, rfl, rfl, hs, hb⟩ := hrel
      have hm : m ≤ 1000000 := by omega
      have hwr := hb.size
      have HK := Lib.hid hk
      have HS := Lib.hid hs
      have HB := Lib.hid hb
      clear hk hs hb
      by_cases hlt : i < xs.length
      · have hlt' : (i : Int) < xs.length := by omega
        obtain ⟨b1, o1, c1, e1, hc1, hm1, _, f1⟩ := (HA.out.ext HB.out).trees (by omega)
        simp only [Value.slice.injEq] at e1
        obtain ⟨rfl, _, rfl⟩ := e1
        have g1 := f1 i xs[i] (List.getElem?_eq_getElem hlt)
        have hx := List.drop_eq_getElem_cons hlt
        have hsz : SizeOf.sizeOf xs[i].kids < n := by
          have h1 := List.sizeOf_lt_of_mem (List.getElem_mem hlt)
          have h2 : SizeOf.sizeOf xs[i].kids < SizeOf.sizeOf xs[i] := by cases xs[i]; simp [Tr.kids]; omega
          omega
        generalize xs[i] = tx at *
        obtain ⟨x, kx, rx, ax⟩ := tx
        obtain ⟨d0, ⟨kv, d1, r1⟩, d2, d3⟩ := g1
        simp only [Tr.word, Tr.kids, Tr.row, Tr.at_] at *
        obtain ⟨ka, kc, rfl⟩ := r1.trees_len
        have HX := Lib.hid hx
        have R1 := Lib.hid r1
        have hds : deepT xs = max m (if rx then max (1 + deepT kx) (deepT (xs.drop (i + 1))) else deepT (xs.drop (i + 1))) := by
          rw [HS.out, HX.out, deepT]
        have HDS := Lib.hid hds
        have hlt1 : b1 < wr.heap.size := World.block_lt_of_cell? wr _ d0
        clear f1 hx r1 hds
        cases rx with
        | true =>
          have hdk : 1 + deepT kx ≤ 1000000 := by have := HDS.out; simp at this; omega
          go_wp2_with fail
          refine (IH.out kx _ F _ hsz (by omega) (R1.out.alloc _)).mono ?_
          rintro e w2 ⟨rfl, hb2⟩
          have hb2' := hb2.size
          simp at hb2'
          have HB2 := Lib.hid (((HB.out.alloc hwr _).trans (hb2.mono (by simp; omega))))
          clear hb2
          go_wp2_with fail
          go_roundg (xs.length - (i + 1))
          case measure => rw [HK.out]; omega
          case rel => exact ⟨i + 1, max m (1 + deepT kx), by omega, rfl, by go_num, by go_num, by rw [HDS.out]; simp, HB2.out⟩
        | false =>
          go_wp2_with fail
          go_roundg (xs.length - (i + 1))
          case measure => rw [HK.out]; omega
          case rel => exact ⟨i + 1, m, by omega, rfl, by go_num, rfl, by rw [HDS.out]; simp, HB.out.alloc hwr _⟩
      · have hlt' : ¬ (i : Int) < xs.length := by omega
        go_wp2_with fail
        go_ret
        refine ⟨ret_i64 ?_, HB.out⟩
        rw [HS.out, List.drop_eq_nil_of_le (by omega), deepT]
        simp

theorem awake1 : parseT [40, 97, 100, 100, 32, 120, 32, 49, 41] = ([.mk [] [.mk [97, 100, 100] [] false 1, .mk [120] [] false 5, .mk [49] [] false 7] true 0], 0, 0) := by rfl
theorem awake2 : parseT [40, 97] = ([], 2, 20) := by rfl
theorem awake3 : parseT [97, 41] = ([], 1, 20) := by rfl
theorem awake4 : parseT [65] = ([], 0, 20) := by rfl

set_option maxHeartbeats 4000000 in
theorem awake_any (w : World) : Calls Tryd.prog 11 #[] w fun e w' => e = .returned (.bool true) ∧ Below w.heap.size w w' := by
  go_enter Tryd.func11, Tryd.ntmps11
  go_wp2_with fail
  refine (parse_any _ _ (by simp [maxLen]; decide)).mono ?_
  rintro e w1 ⟨l, rfl, hr, hb⟩
  simp only [awake1] at hr
  have HR := Lib.hid hr
  have HB := Lib.hid hb
  clear hr hb
  go_wp2_with fail
  refine (parse_any _ _ (by simp [maxLen]; decide)).mono ?_
  rintro e w2 ⟨l2, rfl, hr2, hb2⟩
  have HR2 := Lib.hid (HR.out.ext hb2)
  have HB2 := Lib.hid (HB.out.trans (hb2.mono HB.out.size))
  clear hr2 hb2
  go_wp2_with fail
  refine (parse_any _ _ (by simp [maxLen]; decide)).mono ?_
  rintro e w3 ⟨l3, rfl, hr3, hb3⟩
  have HR3 := Lib.hid (HR2.out.ext hb3)
  have HB3 := Lib.hid (HB2.out.trans (hb3.mono HB2.out.size))
  clear hr3 hb3
  go_wp2_with fail
  refine (parse_any _ _ (by simp [maxLen]; decide)).mono ?_
  rintro e w4 ⟨l4, rfl, hr4, hb4⟩
  have hr := HR3.out.ext hb4
  have HB4 := Lib.hid (HB3.out.trans (hb4.mono HB3.out.size))
  clear hr4 hb4
  obtain ⟨b1, o1, c1, rfl, hc1, hm1, _, f1⟩ := hr.trees (by decide)
  obtain ⟨d0, ⟨kv, d1, r1⟩, d2, d3⟩ := f1 0 _ rfl
  obtain ⟨b2, o2, c2, rfl, hc2, hm2, _, f2⟩ := r1.trees (by decide)
  obtain ⟨g0, _, _, g3⟩ := f2 1 _ rfl
  obtain ⟨k0, _, _, k3⟩ := f2 2 _ rfl
  clear f1 f2 hr r1
  simp only [Tr.row, Tr.kids, Tr.word, Tr.at_, List.length_cons, List.length_nil, Nat.zero_add, Nat.reduceAdd, Nat.zero_mul, Nat.add_zero, Nat.reduceMul, Nat.one_mul, Nat.add_assoc] at d1 d2 g3 k0
  simp only [awake1, awake2, awake3, awake4]
  go_wp2_with fail
  go_ret
  exact ⟨rfl, HB4.out⟩
end Go.Proofs.YtocaickbfeaiaaaDoor
