/-
  THE WALKS of the statements' own functions over trees: shape, Deep.
-/
import Derived.Test.YtocaickbfeaiaaaLexParse
namespace Go.Proofs.Ytocaickbfeaiaaa
set_option linter.unusedSimpArgs false
set_option linter.unusedVariables false
open Go.RowKit

/-- A list of trees in memory: its value, its cells. -/
theorem Rep.trees {w : World} {F : Nat → Prop} {v : Value} {ts : List Tr} (h : Rep w F v (.sl (encTrs ts))) (hn : 0 < ts.length) :
    ∃ b o c, v = .slice (some ⟨b, o, none⟩) ts.length c ∧ ts.length ≤ c ∧ c ≤ maxLen ∧ F b ∧ ∀ (i : Nat) (t : Tr), ts[i]? = some t →
      w.cell? ⟨b, o + i * 4, none⟩ = some (.string ⟨t.word.toArray⟩) ∧ (∃ kv, w.cell? ⟨b, o + i * 4 + 1, none⟩ = some kv ∧ Rep w F kv (.sl (encTrs t.kids))) ∧
      w.cell? ⟨b, o + i * 4 + 2, none⟩ = some (.bool t.row) ∧ w.cell? ⟨b, o + i * 4 + 3, none⟩ = some (.int .i64 t.at_) := by
  obtain ⟨b, o, c, k, U, rfl, h1, h2, h3, _, h5, h6, h7⟩ := h.elems (by rw [encTrs_length]; exact hn)
  rw [encTrs_length] at h1 h6 ⊢
  have hget : ∀ (i : Nat) (t : Tr), ts[i]? = some t → (encTrs ts)[i]? = some (encTr t) := fun i t ht => by rw [encTrs_map, List.getElem?_map, ht]; rfl
  have hk : k = 4 := by
    have := h5 0 _ (hget 0 ts[0] (List.getElem?_eq_getElem hn))
    rw [encTr_length] at this
    exact this.symm
  subst hk
  refine ⟨b, o, c, rfl, h1, h2, h3, fun i t ht => ?_⟩
  have hi : i < ts.length := (List.getElem?_eq_some_iff.1 ht).1
  have e := hget i t ht
  obtain ⟨x, ks, r, a⟩ := t
  have c0 := h6 i 0 hi (by omega)
  have c1 := h6 i 1 hi (by omega)
  have c2 := h6 i 2 hi (by omega)
  have c3 := h6 i 3 hi (by omega)
  have r0 := (h7 i 0 _ _ e rfl).leaf_eq
  have r1 := h7 i 1 _ _ e rfl
  have r2 := (h7 i 2 _ _ e rfl).leaf_eq
  have r3 := (h7 i 3 _ _ e rfl).leaf_eq
  rw [r0] at c0
  rw [r2] at c2
  rw [r3] at c3
  exact ⟨by simpa [Tr.word] using c0, ⟨_, c1, r1⟩, c2, c3⟩

theorem Rep.trees_len {w : World} {F : Nat → Prop} {v : Value} {ts : List Tr} (h : Rep w F v (.sl (encTrs ts))) : ∃ a c, v = .slice a ts.length c := by
  obtain ⟨a, c, h⟩ := h.slice
  rw [encTrs_length] at h
  exact ⟨a, c, h⟩

theorem Rep.trees_max {w : World} {F : Nat → Prop} {v : Value} {ts : List Tr} (h : Rep w F v (.sl (encTrs ts))) : ts.length ≤ maxLen := by
  rcases Nat.eq_zero_or_pos ts.length with h0 | h0
  · omega
  · obtain ⟨_, _, c, _, h1, h2, _⟩ := h.trees h0
    omega

set_option maxHeartbeats 2000000 in
theorem shape_any (n : Nat) : ∀ (xs ys : List Tr) (va vb : Value) (F G : Nat → Prop) (w : World), SizeOf.sizeOf xs < n → Rep w F va (.sl (encTrs xs)) → Rep w G vb (.sl (encTrs ys)) →
    Calls Try.prog 10 #[va, vb] w fun e w' => e = .returned (.bool (shapeT xs ys)) ∧ ∃ n, w' = w.drewN n := by
  induction n with
  | zero => intro xs ys va vb F G w h; omega
  | succ n ih =>
    intro xs ys va vb F G w hn ha hb
    have hma := ha.trees_max
    have hmb := hb.trees_max
    unfold maxLen at hma hmb
    obtain ⟨aa, ca, rfl⟩ := ha.trees_len
    obtain ⟨ab, cb, rfl⟩ := hb.trees_len
    have HA := Lib.hid ha
    have HB := Lib.hid hb
    have IH := Lib.hid ih
    clear ha hb ih
    by_cases hl : xs.length = ys.length
    · have hl1 : ((xs.length : Int) != (ys.length : Int)) = false := by simp [hl]
      have HL := Lib.hid hl
      clear hl
      go_enter Try.func10, Try.ntmps10
      go_wp2_with fail
      go_loopg [5] xs.length (fun k iv wr => ∃ i : Nat, i ≤ xs.length ∧ k = xs.length - i ∧ iv = .int .i64 i ∧ shapeT xs ys = shapeT (xs.drop i) (ys.drop i) ∧ ∃ n, wr = w.drewN n)
      case atStart => exact ⟨0, Nat.zero_le _, rfl, rfl, rfl, 0, rfl⟩
      case round =>
        obtain ⟨i, hi, hk, rfl, hs, m, rfl⟩ := hrel
        have HK := Lib.hid hk
        have HS := Lib.hid hs
        clear hk hs
        by_cases hlt : i < xs.length
        · have hlt' : (i : Int) < xs.length := by omega
          obtain ⟨b1, o1, c1, e1, hc1, hm1, _, f1⟩ := HA.out.trees (by omega)
          obtain ⟨b2, o2, c2, e2, hc2, hm2, _, f2⟩ := HB.out.trees (by have := HL.out; omega)
          simp only [Value.slice.injEq] at e1 e2
          obtain ⟨rfl, _, rfl⟩ := e1
          obtain ⟨rfl, _, rfl⟩ := e2
          have hlt2 : i < ys.length := by have := HL.out; omega
          have g1 := f1 i xs[i] (List.getElem?_eq_getElem hlt)
          have g2 := f2 i ys[i] (List.getElem?_eq_getElem hlt2)
          have hx := List.drop_eq_getElem_cons hlt
          have hy := List.drop_eq_getElem_cons hlt2
          have hsz : SizeOf.sizeOf xs[i].kids < n := by
            have h1 := List.sizeOf_lt_of_mem (List.getElem_mem hlt)
            have h2 : SizeOf.sizeOf xs[i].kids < SizeOf.sizeOf xs[i] := by cases xs[i]; simp [Tr.kids]; omega
            omega
          generalize xs[i] = tx at *
          generalize ys[i] = ty at *
          obtain ⟨x, kx, rx, ax⟩ := tx
          obtain ⟨y, ky, ry, ay⟩ := ty
          obtain ⟨d0, ⟨kv, d1, r1⟩, d2, d3⟩ := g1
          obtain ⟨e0, ⟨ku, e1, r2⟩, e2, e3⟩ := g2
          simp only [Tr.word, Tr.kids, Tr.row, Tr.at_] at *
          have HX := Lib.hid hx
          have HY := Lib.hid hy
          have R1 := Lib.hid r1
          have R2 := Lib.hid r2
          clear f1 f2 hx hy r1 r2
          have hlt2' : (i : Int) < ys.length := by omega
          go_wp2_with fail
          have hsh : shapeT xs ys = ((x == y) && (rx == ry) && shapeT kx ky && shapeT (xs.drop (i + 1)) (ys.drop (i + 1))) := by
            rw [HS.out, HX.out, HY.out, shapeT]
          have HSH := Lib.hid hsh
          clear hsh
          by_cases hw : x = y
          · subst hw
            by_cases hr : rx = ry
            · subst hr
              cases hk : shapeT kx ky with
              | true =>
                have HK2 := Lib.hid hk
                clear hk
                go_quiet (refine quiet2 (HK2.out ▸ IH.out kx ky kv ku F G _ hsz R1.out.drewN R2.out.drewN))
                go_wp2_with fail
                go_roundg (xs.length - (i + 1))
                case measure => rw [HK.out]; omega
                case rel => exact ⟨i + 1, by omega, rfl, by go_num, by rw [HSH.out, HK2.out]; simp, _, rfl⟩
              | false =>
                have HK2 := Lib.hid hk
                clear hk
                go_quiet (refine quiet2 (HK2.out ▸ IH.out kx ky kv ku F G _ hsz R1.out.drewN R2.out.drewN))
                go_wp2_with fail
                go_ret
                exact ⟨by rw [HSH.out, HK2.out]; simp, _, World.drewN_drewN _ _ _⟩
            · have hr2 : (rx == ry) = false := by simpa using hr
              have hr3 : (rx != ry) = true := by simpa using hr
              go_quiet (fail)
              go_wp2_with fail
              go_ret
              exact ⟨by rw [HSH.out, hr2]; simp, _, World.drewN_drewN _ _ _⟩
          · have hw2 : (x == y) = false := by simpa using hw
            go_quiet (fail)
            go_wp2_with fail
            go_ret
            exact ⟨by rw [HSH.out, hw2]; simp, _, World.drewN_drewN _ _ _⟩
        · have hlt' : ¬ (i : Int) < xs.length := by omega
          go_wp2_with fail
          go_ret
          refine ⟨?_, m, rfl⟩
          rw [HS.out, List.drop_eq_nil_of_le (by omega), List.drop_eq_nil_of_le (by have := HL.out; omega), shapeT]
          rfl
    · have hl1 : ((xs.length : Int) != (ys.length : Int)) = true := by simp; omega
      go_enter Try.func10, Try.ntmps10
      go_wp2_with fail
      go_ret
      refine ⟨?_, 0, rfl⟩
      cases h : shapeT xs ys with
      | false => rfl
      | true => exact absurd (shapeT_len xs ys h) hl

end Go.Proofs.Ytocaickbfeaiaaa
