/-
  THE WALKS of the program's lex: what each function of it does.
-/
import Derived.Test.YtcjjmejmpdhikaaGreatDoorRows
import Derived.Test.YtcjjmejmpdhikaaGreatDoorLexSpec
import Derived.Test.YtcjjmejmpdhikaaGreatDoorIdx
import Derived.Test.YtcjjmejmpdhikaaGreatDoorOwn
import Derived.WalkKit
import Derived.WalkSpells
import Derived.WalkLawsBesides
import Derived.Deep.QuietTactic
import Derived.BigQuiet
import Derived.Lib.Hide
import Derived.Deep.LoopGhost
namespace Go.Proofs.YtcjjmejmpdhikaaGreatDoor
set_option linter.unusedSimpArgs false
set_option linter.unusedVariables false
set_option maxRecDepth 100000
open Go.RowKit

theorem u8_eq (b c : UInt8) : ((b.toNat : Int) == (c.toNat : Int)) = (b == c) := by
  rw [Bool.eq_iff_iff]; simp only [beq_iff_eq]
  exact ⟨fun h => UInt8.toNat_inj.1 (by omega), fun h => by rw [h]⟩

theorem blank_any (b : UInt8) (w : World) :
    Calls Tryz.prog 86 #[.int .u8 b.toNat] w fun e w' => e = .returned (.bool (blk b)) ∧ ∃ n, w' = w.drewN n := by
  go_enter Tryz.func86, Tryz.ntmps86
  go_wp2
  all_goals go_ret
  · have h : (b.toNat : Int) = 32 := by assumption
    have hb : b = 32 := UInt8.toNat_inj.1 (by show b.toNat = 32; omega)
    subst hb
    exact ⟨rfl, 0, rfl⟩
  · have h : ¬ (b.toNat : Int) = 32 := by assumption
    refine ⟨?_, 0, rfl⟩
    have e1 := u8_eq b 32
    have e2 := u8_eq b 10
    unfold blk
    rw [← e1, ← e2]
    rfl

theorem more_any (s : ByteArray) (at_ : Int) (b : Nat) (w : World) (h0 : w.cell? ⟨b, 0, none⟩ = some (.string s)) (h1 : w.cell? ⟨b, 1, none⟩ = some (.int .i64 at_)) :
    Calls Tryz.prog 56 #[.pointer (some ⟨b, 0, none⟩)] w fun e w' => e = .returned (.bool (decide (at_ < s.size))) ∧ ∃ n, w' = w.drewN n := by
  go_enter Tryz.func56, Tryz.ntmps56
  go_wp2
  go_quiet (fail)
  go_wp2
  go_ret
  exact ⟨rfl, _, rfl⟩

theorem more_yes (s : ByteArray) (at_ : Nat) (b : Nat) (w : World) (h0 : w.cell? ⟨b, 0, none⟩ = some (.string s)) (h1 : w.cell? ⟨b, 1, none⟩ = some (.int .i64 at_)) (h : at_ < s.size) :
    Calls Tryz.prog 56 #[.pointer (some ⟨b, 0, none⟩)] w fun e w' => e = .returned (.bool true) ∧ ∃ n, w' = w.drewN n := by
  have := more_any s at_ b w h0 h1
  rwa [decide_eq_true (by omega : (at_ : Int) < s.size)] at this

theorem more_no (s : ByteArray) (at_ : Nat) (b : Nat) (w : World) (h0 : w.cell? ⟨b, 0, none⟩ = some (.string s)) (h1 : w.cell? ⟨b, 1, none⟩ = some (.int .i64 at_)) (h : ¬ at_ < s.size) :
    Calls Tryz.prog 56 #[.pointer (some ⟨b, 0, none⟩)] w fun e w' => e = .returned (.bool false) ∧ ∃ n, w' = w.drewN n := by
  have := more_any s at_ b w h0 h1
  rwa [decide_eq_false (by omega : ¬ (at_ : Int) < s.size)] at this

theorem must_yes (e0 : Int) (b : Nat) (w : World) :
    Calls Tryz.prog 55 #[.pointer (some ⟨b, 0, none⟩), .bool true, .int .i64 e0] w fun e w' => e = .returned (.tuple #[]) ∧ w' = w := by
  go_enter Tryz.func55, Tryz.ntmps55
  go_wp2
  go_end0
  exact ⟨rfl, rfl⟩

theorem must_no (e0 : Int) (at_ : Int) (b : Nat) (w : World) (h1 : w.cell? ⟨b, 1, none⟩ = some (.int .i64 at_)) :
    Calls Tryz.prog 55 #[.pointer (some ⟨b, 0, none⟩), .bool false, .int .i64 e0] w fun e w' =>
      e = .panicked [{ v := .iface 105 (.agg #[.int .i64 at_, .int .i64 e0]), recovered := false }] ∧ w' = w := by
  go_enter Tryz.func55, Tryz.ntmps55
  go_wp2
  exact ⟨rfl, rfl, rfl⟩

theorem signs_any : ∀ n : Fin 256, decide (0 ≤ Lib.indexByte [95, 45, 46, 43, 42, 47, 61, 60, 62] (UInt8.ofNat n.val)) = [95, 45, 46, 43, 42, 47, 61, 60, 62].contains (UInt8.ofNat n.val) := by decide +kernel

theorem sgn_spec (b : UInt8) : sgn b = ((decide (97 ≤ (b.toNat : Int)) && decide ((b.toNat : Int) ≤ 122)) || (decide (48 ≤ (b.toNat : Int)) && decide ((b.toNat : Int) ≤ 57)) || decide (0 ≤ Lib.indexByte [95, 45, 46, 43, 42, 47, 61, 60, 62] b)) := by
  have h := signs_any ⟨b.toNat, b.toNat_lt⟩
  simp only [UInt8.ofNat_toNat] at h
  rw [h]
  unfold sgn
  have e1 : decide (97 ≤ b) = decide (97 ≤ (b.toNat : Int)) := by rw [decide_eq_decide, UInt8.le_iff_toNat_le]; simp; omega
  have e2 : decide (b ≤ 122) = decide ((b.toNat : Int) ≤ 122) := by rw [decide_eq_decide, UInt8.le_iff_toNat_le]; simp; omega
  have e3 : decide (48 ≤ b) = decide (48 ≤ (b.toNat : Int)) := by rw [decide_eq_decide, UInt8.le_iff_toNat_le]; simp; omega
  have e4 : decide (b ≤ 57) = decide ((b.toNat : Int) ≤ 57) := by rw [decide_eq_decide, UInt8.le_iff_toNat_le]; simp; omega
  rw [e1, e2, e3, e4]

theorem ret_bool {a b : Bool} (h : a = b) : Ending.returned (.bool a) = .returned (.bool b) := by rw [h]

set_option maxHeartbeats 400000 in
theorem sign_any (b : UInt8) (w : World) :
    Calls Tryz.prog 110 #[.int .u8 b.toNat] w fun e w' => e = .returned (.bool (sgn b)) ∧ ∃ n, w' = w.drewN n := by
  have hs := Lib.hid (sgn_spec b)
  go_enter Tryz.func110, Tryz.ntmps110
  go_wp2_with (go_at_call 126; refine (Tryz.strings_IndexByte _ _ _).mono ?_; rintro e w' ⟨rfl, rfl⟩)
  all_goals go_ret
  all_goals refine ⟨?_, 0, rfl⟩
  all_goals rw [hs.out]
  all_goals refine ret_bool ?_
  all_goals first | (simp [*]; done) | (rw [Bool.eq_iff_iff]; simp; omega)

/-- The reader: its block. -/
def St (w : World) (b : Nat) (s : ByteArray) (i o : Nat) : Prop := w.heap[b]? = some (.cells #[.string s, .int .i64 i, .int .i64 o] 111 (0, 0))

theorem St.c0 {w : World} {b : Nat} {s : ByteArray} {i o : Nat} (h : St w b s i o) : w.cell? ⟨b, 0, none⟩ = some (.string s) := by unfold St at h; simp [World.cell?, h]
theorem St.c1 {w : World} {b : Nat} {s : ByteArray} {i o : Nat} (h : St w b s i o) : w.cell? ⟨b, 1, none⟩ = some (.int .i64 i) := by unfold St at h; simp [World.cell?, h]
theorem St.c2 {w : World} {b : Nat} {s : ByteArray} {i o : Nat} (h : St w b s i o) : w.cell? ⟨b, 2, none⟩ = some (.int .i64 o) := by unfold St at h; simp [World.cell?, h]
theorem St.fr {w : World} {b : Nat} {s : ByteArray} {i o : Nat} (h : St w b s i o) (k : Nat) : w.frozen? ⟨b, k, none⟩ = false := by unfold St at h; simp [World.frozen?, h]
theorem St.lt {w : World} {b : Nat} {s : ByteArray} {i o : Nat} (h : St w b s i o) : b < w.heap.size := lt_of_block h
theorem block_setCell {w : World} {b k : Nat} {c : Array Value} {t : TypeId} {u : Value} (h : w.heap[b]? = some (.cells c t (0, 0))) : (w.setCell ⟨b, k, none⟩ u).heap[b]? = some (.cells (c.setIfInBounds k u) t (0, 0)) := by
  have hlt := lt_of_block h
  have h' : w.heap[b] = .cells c t (0, 0) := by simpa [Array.getElem?_eq_getElem hlt] using h
  show (w.heap.modify b _)[b]? = _
  rw [Array.getElem?_eq_getElem (by simpa using hlt), Array.getElem_modify_self, h']
  rfl
theorem St.set1 {w : World} {b : Nat} {s : ByteArray} {i o : Nat} (h : St w b s i o) (j : Nat) : St (w.setCell ⟨b, 1, none⟩ (.int .i64 j)) b s j o := by unfold St at *; rw [block_setCell h]; rfl
theorem St.set2 {w : World} {b : Nat} {s : ByteArray} {i o : Nat} (h : St w b s i o) (j : Nat) : St (w.setCell ⟨b, 2, none⟩ (.int .i64 j)) b s i j := by unfold St at *; rw [block_setCell h]; rfl

set_option maxHeartbeats 1000000 in
theorem while_any (f : FuncId) (p : UInt8 → Bool) (hfc : ∀ (args : Array Value) (w : World), Sem.run Tryz.prog (callFunc f args) w = .ok (.enter f args) w)
    (hf : ∀ (b : UInt8) (w : World), Calls Tryz.prog f #[.int .u8 b.toNat] w fun e w' => e = .returned (.bool (p b)) ∧ ∃ n, w' = w.drewN n)
    (s : ByteArray) (at_ : Nat) (o : Nat) (b : Nat) (w : World) (hs : s.size ≤ 262144) (hat : at_ ≤ s.size) (hb : St w b s at_ o) :
    Calls Tryz.prog 85 #[.pointer (some ⟨b, 0, none⟩), .func (.func f) #[] #[]] w fun e w' =>
      e = .returned (.string (s.extract at_ (skipTo p s.data.toList at_))) ∧ St w' b s (skipTo p s.data.toList at_) o ∧ w.grownBy w' (some b) := by
  have HF := Lib.hid hf
  clear hf
  have c0 := hb.c0
  have c1 := hb.c1
  have HB := Lib.hid hb
  clear hb
  have hsz : s.data.toList.length = s.size := by simp
  have HZ := Lib.hid hsz
  clear hsz
  have hj := skipTo_le p s.data.toList at_ (by rw [HZ.out]; exact hat)
  have hj0 := skipTo_ge p s.data.toList at_
  rw [HZ.out] at hj
  generalize hJ : skipTo p s.data.toList at_ = J at *
  have HJ := Lib.hid hJ
  clear hJ
  go_enter Tryz.func85, Tryz.ntmps85
  go_wp2_with fail
  clear c0 c1
  go_loopg [] (s.size - at_) (fun k wr => ∃ i : Nat, at_ ≤ i ∧ i ≤ s.size ∧ k = s.size - i ∧ St wr b s i o ∧ w.grownBy wr (some b) ∧ skipTo p s.data.toList i = J)
  case atStart => exact ⟨at_, by omega, hat, rfl, HB.out, .refl _ _, HJ.out⟩
  case round =>
    obtain ⟨i, hi1, hi2, hk, hbi, hg, hsk⟩ := hrel
    have c0 := hbi.c0
    have c1 := hbi.c1
    have f1 := hbi.fr 1
    have HBi := Lib.hid hbi
    have HG := Lib.hid hg
    have HK := Lib.hid hk
    have HS := Lib.hid hsk
    clear hbi hg hk hsk
    by_cases hlt : i < s.size
    · have hlt' : (i : Int) < s.size := by omega
      have hl : i < s.data.toList.length := by rw [HZ.out]; exact hlt
      have hget : s.data.toList[i] = s[i] := rfl
      by_cases hp : p s[i] = true
      · go_wp2_with fail
        go_quiet (first | (go_at_call 56; refine Calls.quiet_of (more_yes s i b _ (by simpa using c0) (by simpa using c1) hlt)) | (refine Calls.quiet_of (HF.out _ _)))
        go_wp2_with fail
        go_roundg (s.size - (i + 1))
        case measure => rw [HK.out]; omega
        case rel =>
          refine ⟨i + 1, by omega, by omega, rfl, ?_, ?_, ?_⟩
          · exact HBi.out.set1 (i + 1)
          · exact grownBy_trans HG.out (grownBy_trans (grownBy_drewN _ _ _) (grownBy_setCell _ _ _ _))
          · rw [skipTo_yes p _ i hl (by rw [hget]; exact hp)]; exact HS.out
      · have hp' : p s[i] = false := by simpa using hp
        have hJi : i = J := by rw [← HS.out, skipTo_no p _ i hl (by rw [hget]; exact hp')]
        subst hJi
        go_wp2_with fail
        go_quiet (first | (go_at_call 56; refine Calls.quiet_of (more_yes s i b _ (by simpa using c0) (by simpa using c1) hlt)) | (refine Calls.quiet_of (HF.out _ _)))
        go_wp2_with fail
        go_quiet (fail)
        go_wp2_with fail
        go_ret
        exact ⟨rfl, HBi.out, grownBy_trans HG.out (grownBy_trans (grownBy_drewN _ _ _) (grownBy_drewN _ _ _))⟩
    · have hlt' : ¬ (i : Int) < s.size := by omega
      have hJi : i = J := by rw [← HS.out, skipTo_end p _ i (by rw [HZ.out]; omega)]
      subst hJi
      go_wp2_with fail
      go_quiet (refine Calls.quiet_of (more_no s i b _ (by simpa using c0) (by simpa using c1) hlt))
      go_wp2_with fail
      go_quiet (fail)
      go_wp2_with fail
      go_ret
      exact ⟨rfl, HBi.out, grownBy_trans HG.out (grownBy_trans (grownBy_drewN _ _ _) (grownBy_drewN _ _ _))⟩

end Go.Proofs.YtcjjmejmpdhikaaGreatDoor
