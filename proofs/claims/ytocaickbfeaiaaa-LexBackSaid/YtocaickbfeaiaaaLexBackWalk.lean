/-
  THE WALK of LexBack.
-/
import Derived.Test.YtocaickbfeaiaaaLexBackLaw
import Derived.Test.YtocaickbfeaiaaaLexRowWalk
namespace Go.Proofs.Ytocaickbfeaiaaa
open Go.RowKit

set_option maxHeartbeats 4000000 in
set_option maxRecDepth 20000 in
theorem lexBack_long (s : ByteArray) (w : World) (hz : s.size ≤ 140737488351232) (h : 5000 < s.size) :
    Calls Try.prog 6 #[.string s] w fun e w' => e = .returned (.bool true) ∧ Below w.heap.size w w' := by
  have h' : (5000 : Int) < s.size := by omega
  go_enter Try.func6, Try.ntmps6
  go_wp2_with fail
  refine (awake_any _).mono ?_
  rintro e w0 ⟨rfl, hb0⟩
  go_wp2_with fail
  go_ret
  exact ⟨rfl, hb0⟩

set_option maxHeartbeats 4000000 in
set_option maxRecDepth 20000 in
theorem lexBack_bad (s : ByteArray) (w : World) (h : s.size ≤ 5000) (k : Nat) (e0 : Int) (hp : parseT s.data.toList = ([], k, e0)) (hk : k ≤ s.size) (he : e0 = 20 ∨ e0 = 3) :
    Calls Try.prog 6 #[.string s] w fun e w' => e = .returned (.bool true) ∧ Below w.heap.size w w' := by
  have h' : ¬ (5000 : Int) < s.size := by omega
  have hk' : (k : Int) ≤ s.size := by omega
  have hk0 : (0 : Int) ≤ k := by omega
  have HP := Lib.hid hp
  clear hp
  rcases he with rfl | rfl
  all_goals
    go_enter Try.func6, Try.ntmps6
    go_wp2_with fail
    refine (awake_any _).mono ?_
    rintro e w0 ⟨rfl, hb0⟩
    go_wp2_with fail
    refine (parse_as s _ [] k _ (by simp only [maxLen]; omega) HP.out).mono ?_
    rintro e w1 ⟨a1, c1, rfl, _, hb1⟩
    have hb1 := below_chain hb0 hb1 (Nat.le_refl _)
    simp only [List.length_nil]
    go_wp2_with fail
    go_ret
    exact ⟨rfl, hb1⟩

set_option maxHeartbeats 8000000 in
set_option maxRecDepth 20000 in
theorem lexBack_ok (s : ByteArray) (w : World) (h : s.size ≤ 5000) (la lb : List Tr) (t : ByteArray) (d : Nat) (hp : parseT s.data.toList = (la, 0, 0)) (hl : la.length ≤ 5000) (ht : (⟨(textR true la).toArray⟩ : ByteArray) = t) (hts : t.size ≤ 2 * s.size)
    (hq : parseT t.data.toList = (lb, 0, 0)) (hs : shapeT la lb = true) (hu : (⟨(textR true lb).toArray⟩ : ByteArray) = t) (hd : deepT la = d) (hd4 : d ≤ 400) (he : deepT lb = d) (hpl : Pl s.data.toList la 0 s.size) :
    Calls Try.prog 6 #[.string s] w fun e w' => e = .returned (.bool true) ∧ Below w.heap.size w w' := by
  have h' : ¬ (5000 : Int) < s.size := by omega
  have HP := Lib.hid hp
  have HT := Lib.hid ht
  have HQ := Lib.hid hq
  have HS := Lib.hid hs
  have HU := Lib.hid hu
  have HD := Lib.hid hd
  have HE := Lib.hid he
  have HPL := Lib.hid hpl
  have hn1 : (textR true la).length ≤ 140737488355328 := by have : t.size = (textR true la).length := by rw [← ht]; simp [ByteArray.size]
                                                            omega
  have hn2 : (textR true lb).length ≤ 140737488355328 := by have : t.size = (textR true lb).length := by rw [← hu]; simp [ByteArray.size]
                                                            omega
  have hts' : (t.size : Int) ≤ 2 * s.size := by omega
  have hd4' : (d : Int) ≤ 400 := by omega
  clear hp ht hq hs hu hd he hpl
  go_enter Try.func6, Try.ntmps6
  go_wp2_with fail
  refine (awake_any _).mono ?_
  rintro e w0 ⟨rfl, hb0⟩
  go_wp2_with fail
  refine (parse_as s _ la 0 0 (by simp only [maxLen]; omega) HP.out).mono ?_
  rintro e w1 ⟨a1, c1, rfl, hr1, hb1⟩
  have B1 := Lib.hid (below_chain hb0 hb1 (Nat.le_refl _))
  have R1 := Lib.hid hr1
  clear hb0 hb1 hr1
  go_wp2_with fail
  refine (text_any la _ _ _ R1.out hn1).mono ?_
  rintro e w2 ⟨rfl, hb2⟩
  have B2 := Lib.hid (below_chain B1.out hb2 (Nat.le_refl _))
  have R2 := Lib.hid (R1.out.ext hb2)
  clear hb2
  rw [HT.out]
  go_wp2_with fail
  refine (parse_as t _ lb 0 0 (by simp only [maxLen]; omega) HQ.out).mono ?_
  rintro e w3 ⟨a3, c3, rfl, hr3, hb3⟩
  have B3 := Lib.hid (below_chain B2.out hb3 (Nat.le_refl _))
  have R3 := Lib.hid (R2.out.ext hb3)
  have S3 := Lib.hid hr3
  clear hb3 hr3
  go_wp2_with fail
  refine (shape_any (SizeOf.sizeOf la + 1) la lb _ _ _ _ _ (by omega) R3.out S3.out).mono ?_
  rintro e w4 ⟨rfl, n4, rfl⟩
  rw [HS.out]
  go_wp2_with fail
  refine (text_any lb _ _ _ S3.out.drewN hn2).mono ?_
  rintro e w5 ⟨rfl, hb5⟩
  rw [HU.out]
  have B5 := Lib.hid (below_chain (below_drewN B3.out n4) hb5 (Nat.le_refl _))
  have R5 := Lib.hid (R3.out.drewN.ext hb5)
  have S5 := Lib.hid (S3.out.drewN.ext hb5)
  clear hb5
  go_wp2_with fail
  refine (deep_any (SizeOf.sizeOf la + 1) la _ _ _ (by omega) (by rw [HD.out]; omega) R5.out).mono ?_
  rintro e w6 ⟨rfl, hb6⟩
  rw [HD.out]
  have B6 := Lib.hid (below_chain B5.out hb6 (Nat.le_refl _))
  have R6 := Lib.hid (R5.out.ext hb6)
  have S6 := Lib.hid (S5.out.ext hb6)
  clear hb6
  go_wp2_with fail
  refine (deep_any (SizeOf.sizeOf lb + 1) lb _ _ _ (by omega) (by rw [HE.out]; omega) S6.out).mono ?_
  rintro e w7 ⟨rfl, hb7⟩
  rw [HE.out]
  have B7 := Lib.hid (below_chain B6.out hb7 (Nat.le_refl _))
  have R7 := Lib.hid (R6.out.ext hb7)
  clear hb7
  go_wp2_with fail
  refine (deep_any (SizeOf.sizeOf la + 1) la _ _ _ (by omega) (by rw [HD.out]; omega) R7.out).mono ?_
  rintro e w8 ⟨rfl, hb8⟩
  rw [HD.out]
  have B8 := Lib.hid (below_chain B7.out hb8 (Nat.le_refl _))
  have R8 := Lib.hid (R7.out.ext hb8)
  clear hb8
  go_wp2_with fail
  refine (places_any (SizeOf.sizeOf la + 1) s la _ 0 s.size _ _ (by omega) (by omega) (Nat.le_refl _) R8.out HPL.out).mono ?_
  rintro e w9 ⟨rfl, hb9⟩
  have B9 := Lib.hid (below_chain B8.out hb9 (Nat.le_refl _))
  clear hb9
  go_wp2_with fail
  go_ret
  exact ⟨rfl, B9.out⟩

theorem parse_not {a : List UInt8} (hl : a.length ≤ 5000) (h : (parseT a).2.2 ≠ 0) : (parseT a).1 = [] ∧ (parseT a).2.1 ≤ a.length ∧ ((parseT a).2.2 = 20 ∨ (parseT a).2.2 = 3) := by
  unfold parseT at h ⊢
  rw [if_neg (by omega)] at h ⊢
  cases hr : rowN (2 * a.length + 2) a 0 0 with
  | bad p e =>
    have h1 := (bad_codes _ a 0 0).1 p e hr
    have h2 := (bad_le _ a 0 0 (Nat.zero_le _)).1 p e hr
    refine ⟨rfl, h2, ?_⟩
    dsimp only
    omega
  | ok x =>
    obtain ⟨ts, j⟩ := x
    rw [hr] at h
    have h2 := (rowN_le _ _ _ _ (Nat.zero_le _) _ _ hr).2
    dsimp only at h ⊢
    by_cases hj : j < a.length
    · rw [if_pos hj]; exact ⟨rfl, by dsimp only; omega, .inl rfl⟩
    · rw [if_neg hj] at h; simp at h

theorem lexBack_any (s : ByteArray) (w : World) (hz : s.size ≤ 140737488351232) :
    Calls Try.prog 6 #[.string s] w fun e w' => e = .returned (.bool true) ∧ Below w.heap.size w w' := by
  by_cases h : 5000 < s.size
  · exact lexBack_long s w hz h
  have h : s.size ≤ 5000 := by omega
  have hl : s.data.toList.length ≤ 5000 := by rw [size_bytes]; exact h
  by_cases h0 : (parseT s.data.toList).2.2 = 0
  · obtain ⟨h1, h2, h3, h4, h5, h6, h7, h8⟩ := lexBack_law hl h0
    obtain ⟨_, j, hr, _, _⟩ := parse_ok h0
    have hc := row_count _ _ _ _ (Nat.zero_le _) _ _ hr
    have hj := (rowN_le _ _ _ _ (Nat.zero_le _) _ _ hr).2
    have hk := (parse_ok h3).2
    obtain ⟨_, _, _, hk0⟩ := hk
    have hla : (parseT s.data.toList).1.length ≤ 5000 := by omega
    clear hr hc
    rw [size_bytes] at h2 h8
    generalize hp : parseT s.data.toList = pa at *
    obtain ⟨la, ka, ea⟩ := pa
    dsimp only at *
    subst h0; subst h1
    generalize hq : parseT (textR true la) = pb at *
    obtain ⟨lb, kb, eb⟩ := pb
    dsimp only at *
    subst h3; subst hk0
    exact lexBack_ok s w h la lb ⟨(textR true la).toArray⟩ (deepT la) hp hla rfl (by show (textR true la).toArray.size ≤ _; rw [List.size_toArray]; exact h2) (by simpa using hq) h4 (by rw [h5]) rfl h6 h7 h8
  · obtain ⟨h1, h2, h3⟩ := parse_not hl h0
    rw [size_bytes] at h2
    generalize hp : parseT s.data.toList = pa at *
    obtain ⟨la, ka, ea⟩ := pa
    dsimp only at *
    subst h1
    exact lexBack_bad s w h ka ea hp h2 h3
end Go.Proofs.Ytocaickbfeaiaaa
