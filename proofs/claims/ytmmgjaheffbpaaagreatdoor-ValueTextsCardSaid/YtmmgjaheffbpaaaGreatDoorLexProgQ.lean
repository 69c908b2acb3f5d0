/-
 THE WALKS of the program's lex: what each function of it does.
-/
import Derived.Test.YtmmgjaheffbpaaaGreatDoorRows
import Derived.Test.YtmmgjaheffbpaaaGreatDoorLexSpecQ
import Derived.Test.YtmmgjaheffbpaaaGreatDoorOwnQ
import Derived.WalkKit
import Derived.WalkSpells
import Derived.WalkLawsBesides
import Derived.Deep.QuietTactic
import Derived.BigQuiet
import Derived.Lib.Hide
import Derived.Deep.LoopGhost
import Derived.StillTailTactics
import Derived.Deep.RegionWith
namespace Go.Proofs.YtmmgjaheffbpaaaGreatDoor
set_option maxRecDepth 100000
set_option maxHeartbeats 8000000
set_option linter.unusedSimpArgs false
set_option linter.unusedVariables false
set_option linter.unusedSectionVars false
section
set_option maxRecDepth 100000
open Go.RowKit
theorem u8_eq (b c : UInt8) : ((b.toNat : Int) == (c.toNat : Int)) = (b == c) := by
 rw [Bool.eq_iff_iff]; simp only [beq_iff_eq]
 exact ⟨fun h => UInt8.toNat_inj.1 (by omega), fun h => by rw [h]⟩
theorem blank_any (b : UInt8) (w : World) :
    Calls Tryz.prog 76 #[.int .u8 b.toNat] w fun e w' => e = .returned (.bool (blk b)) ∧ ∃ n, w' = w.drewN n := by
 go_enter Tryz.func76, Tryz.ntmps76
 go_wp2
 all_goals go_ret
 · have h : (b.toNat : Int) = 32 := by assumption
   have hb : b = 32 := UInt8.toNat_inj.1 (by show b.toNat = 32; omega)
   subst hb
   exact ⟨rfl, 0, rfl⟩
 · have h : ¬ (b.toNat : Int) = 32 := by assumption
   refine ⟨?_, 0, rfl⟩
   have e1 := u8_eq b 32
   have e2 := u8_eq b 10
   unfold blk
   rw [← e1, ← e2]
   rfl
theorem more_any (s : ByteArray) (at_ : Int) (b : Nat) (w : World) (h0 : w.cell? ⟨b, 0, none⟩ = some (.string s)) (h1 : w.cell? ⟨b, 1, none⟩ = some (.int .i64 at_)) :
    Calls Tryz.prog 49 #[.pointer (some ⟨b, 0, none⟩)] w fun e w' => e = .returned (.bool (decide (at_ < s.size))) ∧ ∃ n, w' = w.drewN n := by
 go_enter Tryz.func49, Tryz.ntmps49
 go_wp2
 go_quiet (fail)
 go_wp2
 go_ret
 exact ⟨rfl, _, rfl⟩
theorem more_yes (s : ByteArray) (at_ : Nat) (b : Nat) (w : World) (h0 : w.cell? ⟨b, 0, none⟩ = some (.string s)) (h1 : w.cell? ⟨b, 1, none⟩ = some (.int .i64 at_)) (h : at_ < s.size) :
    Calls Tryz.prog 49 #[.pointer (some ⟨b, 0, none⟩)] w fun e w' => e = .returned (.bool true) ∧ ∃ n, w' = w.drewN n := by
 have := more_any s at_ b w h0 h1
 rwa [decide_eq_true (by omega : (at_ : Int) < s.size)] at this
theorem more_no (s : ByteArray) (at_ : Nat) (b : Nat) (w : World) (h0 : w.cell? ⟨b, 0, none⟩ = some (.string s)) (h1 : w.cell? ⟨b, 1, none⟩ = some (.int .i64 at_)) (h : ¬ at_ < s.size) :
    Calls Tryz.prog 49 #[.pointer (some ⟨b, 0, none⟩)] w fun e w' => e = .returned (.bool false) ∧ ∃ n, w' = w.drewN n := by
 have := more_any s at_ b w h0 h1
 rwa [decide_eq_false (by omega : ¬ (at_ : Int) < s.size)] at this
theorem must_yes (e0 : Int) (b : Nat) (w : World) :
    Calls Tryz.prog 48 #[.pointer (some ⟨b, 0, none⟩), .bool true, .int .i64 e0] w fun e w' => e = .returned (.tuple #[]) ∧ w' = w := by
 go_enter Tryz.func48, Tryz.ntmps48
 go_wp2
 go_end0
 exact ⟨rfl, rfl⟩
theorem must_no (e0 : Int) (at_ : Int) (b : Nat) (w : World) (h1 : w.cell? ⟨b, 1, none⟩ = some (.int .i64 at_)) :
    Calls Tryz.prog 48 #[.pointer (some ⟨b, 0, none⟩), .bool false, .int .i64 e0] w fun e w' =>
     e = .panicked [{ v := .iface 96 (.agg #[.int .i64 at_, .int .i64 e0]), recovered := false }] ∧ w' = w := by
 go_enter Tryz.func48, Tryz.ntmps48
 go_wp2
 exact ⟨rfl, rfl, rfl⟩
theorem signs_any : ∀ n : Fin 256, decide (0 ≤ Lib.indexByte [95, 45, 46, 43, 42, 47, 61, 60, 62] (UInt8.ofNat n.val)) = [95, 45, 46, 43, 42, 47, 61, 60, 62].contains (UInt8.ofNat n.val) := by decide +kernel
theorem sgn_spec (b : UInt8) : sgn b = ((decide (97 ≤ (b.toNat : Int)) && decide ((b.toNat : Int) ≤ 122)) || (decide (48 ≤ (b.toNat : Int)) && decide ((b.toNat : Int) ≤ 57)) || decide (0 ≤ Lib.indexByte [95, 45, 46, 43, 42, 47, 61, 60, 62] b)) := by
 have h := signs_any ⟨b.toNat, b.toNat_lt⟩
 simp only [UInt8.ofNat_toNat] at h
 rw [h]
 unfold sgn
 have e1 : decide (97 ≤ b) = decide (97 ≤ (b.toNat : Int)) := by rw [decide_eq_decide, UInt8.le_iff_toNat_le]; simp; omega
 have e2 : decide (b ≤ 122) = decide ((b.toNat : Int) ≤ 122) := by rw [decide_eq_decide, UInt8.le_iff_toNat_le]; simp; omega
 have e3 : decide (48 ≤ b) = decide (48 ≤ (b.toNat : Int)) := by rw [decide_eq_decide, UInt8.le_iff_toNat_le]; simp; omega
 have e4 : decide (b ≤ 57) = decide ((b.toNat : Int) ≤ 57) := by rw [decide_eq_decide, UInt8.le_iff_toNat_le]; simp; omega
 rw [e1, e2, e3, e4]
theorem ret_bool {a b : Bool} (h : a = b) : Ending.returned (.bool a) = .returned (.bool b) := by rw [h]
theorem sign_any (b : UInt8) (w : World) :
    Calls Tryz.prog 101 #[.int .u8 b.toNat] w fun e w' => e = .returned (.bool (sgn b)) ∧ ∃ n, w' = w.drewN n := by
 have hs := Lib.hid (sgn_spec b)
 go_enter Tryz.func101, Tryz.ntmps101
 go_wp2_with (go_at_call 121; refine (Tryz.strings_IndexByte _ _ _).mono ?_; rintro e w' ⟨rfl, rfl⟩)
 all_goals go_ret
 all_goals refine ⟨?_, 0, rfl⟩
 all_goals rw [hs.out]
 all_goals refine ret_bool ?_
 all_goals first | (simp [*]; done) | (rw [Bool.eq_iff_iff]; simp; omega)
def St (w : World) (b : Nat) (s : ByteArray) (i o : Nat) : Prop := w.heap[b]? = some (.cells #[.string s, .int .i64 i, .int .i64 o] 102 (0, 0))
theorem St.c0 {w : World} {b : Nat} {s : ByteArray} {i o : Nat} (h : St w b s i o) : w.cell? ⟨b, 0, none⟩ = some (.string s) := by unfold St at h; simp [World.cell?, h]
theorem St.c1 {w : World} {b : Nat} {s : ByteArray} {i o : Nat} (h : St w b s i o) : w.cell? ⟨b, 1, none⟩ = some (.int .i64 i) := by unfold St at h; simp [World.cell?, h]
theorem St.c2 {w : World} {b : Nat} {s : ByteArray} {i o : Nat} (h : St w b s i o) : w.cell? ⟨b, 2, none⟩ = some (.int .i64 o) := by unfold St at h; simp [World.cell?, h]
theorem St.fr {w : World} {b : Nat} {s : ByteArray} {i o : Nat} (h : St w b s i o) (k : Nat) : w.frozen? ⟨b, k, none⟩ = false := by unfold St at h; simp [World.frozen?, h]
theorem St.lt {w : World} {b : Nat} {s : ByteArray} {i o : Nat} (h : St w b s i o) : b < w.heap.size := lt_of_block h
theorem block_setCell {w : World} {b k : Nat} {c : Array Value} {t : TypeId} {u : Value} (h : w.heap[b]? = some (.cells c t (0, 0))) : (w.setCell ⟨b, k, none⟩ u).heap[b]? = some (.cells (c.setIfInBounds k u) t (0, 0)) := by
 have hlt := lt_of_block h
 have h' : w.heap[b] = .cells c t (0, 0) := by simpa [Array.getElem?_eq_getElem hlt] using h
 show (w.heap.modify b _)[b]? = _
 rw [Array.getElem?_eq_getElem (by simpa using hlt), Array.getElem_modify_self, h']
 rfl
theorem St.set1 {w : World} {b : Nat} {s : ByteArray} {i o : Nat} (h : St w b s i o) (j : Nat) : St (w.setCell ⟨b, 1, none⟩ (.int .i64 j)) b s j o := by unfold St at *; rw [block_setCell h]; rfl
theorem St.set2 {w : World} {b : Nat} {s : ByteArray} {i o : Nat} (h : St w b s i o) (j : Nat) : St (w.setCell ⟨b, 2, none⟩ (.int .i64 j)) b s i j := by unfold St at *; rw [block_setCell h]; rfl
theorem while_any (f : FuncId) (p : UInt8 → Bool) (hfc : ∀ (args : Array Value) (w : World), Sem.run Tryz.prog (callFunc f args) w = .ok (.enter f args) w)
    (hf : ∀ (b : UInt8) (w : World), Calls Tryz.prog f #[.int .u8 b.toNat] w fun e w' => e = .returned (.bool (p b)) ∧ ∃ n, w' = w.drewN n)
    (s : ByteArray) (at_ : Nat) (o : Nat) (b : Nat) (w : World) (hs : s.size ≤ 262144) (hat : at_ ≤ s.size) (hb : St w b s at_ o) :
    Calls Tryz.prog 75 #[.pointer (some ⟨b, 0, none⟩), .func (.func f) #[] #[]] w fun e w' =>
     e = .returned (.string (s.extract at_ (skipTo p s.data.toList at_))) ∧ St w' b s (skipTo p s.data.toList at_) o ∧ w.grownBy w' (some b) := by
 have HF := Lib.hid hf
 clear hf
 have c0 := hb.c0
 have c1 := hb.c1
 have HB := Lib.hid hb
 clear hb
 have hsz : s.data.toList.length = s.size := by simp
 have HZ := Lib.hid hsz
 clear hsz
 have hj := skipTo_le p s.data.toList at_ (by rw [HZ.out]; exact hat)
 have hj0 := skipTo_ge p s.data.toList at_
 rw [HZ.out] at hj
 generalize hJ : skipTo p s.data.toList at_ = J at *
 have HJ := Lib.hid hJ
 clear hJ
 go_enter Tryz.func75, Tryz.ntmps75
 go_wp2_with fail
 clear c0 c1
 go_loopg [] (s.size - at_) (fun k wr => ∃ i : Nat, at_ ≤ i ∧ i ≤ s.size ∧ k = s.size - i ∧ St wr b s i o ∧ w.grownBy wr (some b) ∧ skipTo p s.data.toList i = J)
 case atStart => exact ⟨at_, by omega, hat, rfl, HB.out, .refl _ _, HJ.out⟩
 case round =>
  obtain ⟨i, hi1, hi2, hk, hbi, hg, hsk⟩ := hrel
  have c0 := hbi.c0
  have c1 := hbi.c1
  have f1 := hbi.fr 1
  have HBi := Lib.hid hbi
  have HG := Lib.hid hg
  have HK := Lib.hid hk
  have HS := Lib.hid hsk
  clear hbi hg hk hsk
  by_cases hlt : i < s.size
  · have hlt' : (i : Int) < s.size := by omega
    have hl : i < s.data.toList.length := by rw [HZ.out]; exact hlt
    have hget : s.data.toList[i] = s[i] := rfl
    by_cases hp : p s[i] = true
    · go_wp2_with fail
      go_quiet (first | (go_at_call 49; refine Calls.quiet_of (more_yes s i b _ (by simpa using c0) (by simpa using c1) hlt)) | (refine Calls.quiet_of (HF.out _ _)))
      go_wp2_with fail
      go_roundg (s.size - (i + 1))
      case measure => rw [HK.out]; omega
      case rel =>
       refine ⟨i + 1, by omega, by omega, rfl, ?_, ?_, ?_⟩
       · exact HBi.out.set1 (i + 1)
       · exact grownBy_trans HG.out (grownBy_trans (grownBy_drewN _ _ _) (grownBy_setCell _ _ _ _))
       · rw [skipTo_yes p _ i hl (by rw [hget]; exact hp)]; exact HS.out
    · have hp' : p s[i] = false := by simpa using hp
      have hJi : i = J := by rw [← HS.out, skipTo_no p _ i hl (by rw [hget]; exact hp')]
      subst hJi
      go_wp2_with fail
      go_quiet (first | (go_at_call 49; refine Calls.quiet_of (more_yes s i b _ (by simpa using c0) (by simpa using c1) hlt)) | (refine Calls.quiet_of (HF.out _ _)))
      go_wp2_with fail
      go_quiet (fail)
      go_wp2_with fail
      go_ret
      exact ⟨rfl, HBi.out, grownBy_trans HG.out (grownBy_trans (grownBy_drewN _ _ _) (grownBy_drewN _ _ _))⟩
  · have hlt' : ¬ (i : Int) < s.size := by omega
    have hJi : i = J := by rw [← HS.out, skipTo_end p _ i (by rw [HZ.out]; omega)]
    subst hJi
    go_wp2_with fail
    go_quiet (refine Calls.quiet_of (more_no s i b _ (by simpa using c0) (by simpa using c1) hlt))
    go_wp2_with fail
    go_quiet (fail)
    go_wp2_with fail
    go_ret
    exact ⟨rfl, HBi.out, grownBy_trans HG.out (grownBy_trans (grownBy_drewN _ _ _) (grownBy_drewN _ _ _))⟩
end
section
set_option maxRecDepth 100000
open Go.RowKit
theorem St.stays {w w' : World} {b : Nat} {s : ByteArray} {i o : Nat} (h : St w b s i o) (hg : w'.heap[b]? = w.heap[b]?) : St w' b s i o := by unfold St at *; rw [hg]; exact h
theorem St.alloc {w : World} {b : Nat} {s : ByteArray} {i o : Nat} (h : St w b s i o) (x : Obj) : St (w.alloc x) b s i o := h.stays (Below.heap_alloc w x b h.lt)
theorem St.drew {w : World} {b : Nat} {s : ByteArray} {i o : Nat} (h : St w b s i o) : St w.drew b s i o := h
theorem St.drewN {w : World} {b : Nat} {s : ByteArray} {i o : Nat} (h : St w b s i o) (n : Nat) : St (w.drewN n) b s i o := h
def fault (p c : Int) : List PanicEntry := [{ v := .iface 96 (.agg #[.int .i64 p, .int .i64 c]), recovered := false }]
def RowPost (w : World) (b : Nat) (s : ByteArray) (o : Nat) (r : Res (List Tr × Nat)) (e : Ending) (w' : World) : Prop :=
 match r with
 | .ok (ts, j) => ∃ v, e = .returned v ∧ Rep w' (fun k => w.heap.size ≤ k) v (.sl (encTrs ts)) ∧ St w' b s j o ∧ w.grownBy w' (some b)
 | .bad p c => e = .panicked (fault p c) ∧ w.grownBy w' (some b)
def TreePost (w : World) (b : Nat) (s : ByteArray) (o : Nat) (r : Res (Tr × Nat)) (e : Ending) (w' : World) : Prop :=
 match r with
 | .ok (t, j) => ∃ v, e = .returned (.agg #[.string ⟨t.word.toArray⟩, v, .bool t.row, .int .i64 t.at_]) ∧ Rep w' (fun k => w.heap.size ≤ k) v (.sl (encTrs t.kids)) ∧ St w' b s j o ∧ w.grownBy w' (some b)
 | .bad p c => e = .panicked (fault p c) ∧ w.grownBy w' (some b)
theorem call_sign (args : Array Value) (w : World) : Sem.run Tryz.prog (callFunc 101 args) w = .ok (.enter 101 args) w := by kernel_rfl
theorem call_blank (args : Array Value) (w : World) : Sem.run Tryz.prog (callFunc 76 args) w = .ok (.enter 76 args) w := by kernel_rfl
theorem St.other {w : World} {b : Nat} {s : ByteArray} {i o : Nat} (h : St w b s i o) {k j : Nat} {u : Value} (hk : b ≠ k) : St (w.setCell ⟨k, j, none⟩ u) b s i o := h.stays (Below.heap_setCell w _ u b hk)
theorem str_pos {s : ByteArray} {i j : Nat} (h : i < j) (hj : j ≤ s.size) : (s.extract i j).toList.isEmpty = false := by
 have hl : (s.extract i j).toList.length = j - i := by
  rw [Lib.toList_data, Lib.extract_data]; simp; omega
 cases hq : (s.extract i j).toList with
 | nil => rw [hq] at hl; simp at hl; omega
 | cons a l => rfl
theorem str_nil {s : ByteArray} {i : Nat} : (s.extract i i).toList.isEmpty = true := by
 rw [Lib.toList_data, Lib.extract_data]; simp
theorem tree_word (s : ByteArray) (i o b : Nat) (w : World) (hs : s.size ≤ 262144) (hi : i < s.size) (hb : St w b s i o) (hc : ((s[i].toNat : Int) == 40) = false)
    (hj : i < skipTo sgn s.data.toList i) :
    Calls Tryz.prog 77 #[.pointer (some ⟨b, 0, none⟩)] w (TreePost w b s o (.ok (.mk ((s.data.toList.drop i).takeWhile sgn) [] false i, skipTo sgn s.data.toList i))) := by
 have hJs : skipTo sgn s.data.toList i ≤ s.size := by have := skipTo_le sgn s.data.toList i (by simp; omega); simpa using this
 have HW := Lib.hid (extract_word sgn s i)
 have HB := Lib.hid hb
 have c0 := hb.c0
 have c1 := hb.c1
 have hi' : (i : Int) < s.size := by omega
 have hbl := hb.lt
 clear hb
 go_enter Tryz.func77, Tryz.ntmps77
 go_wp2_with fail
 go_quiet (fail)
 go_wp2_with fail
 refine (while_any 101 sgn call_sign sign_any s i o b _ hs (by omega) (((HB.out.alloc _).alloc _).drewN _)).mono ?_
 generalize skipTo sgn s.data.toList i = J at *
 rintro e w1 ⟨rfl, hst, hg⟩
 have hr1 : Blk w1 w.heap.size _ _ := Blk.grown (((Blk.new _ _ _).alloc _).drewN _) hg (by simp; omega)
 have ht1 : Blk w1 (w.heap.size + 1) _ _ := Blk.grown ((Blk.new' _ _ (by simp)).drewN _) hg (by simp; omega)
 have r0 := hr1.cell 0
 have r1 := hr1.cell 1
 have r2 := hr1.cell 2
 have r3 := hr1.cell 3
 have q := fun j => hr1.frozen j
 have t0 := ht1.cell 0
 have t1 := ht1.cell 1
 have t2 := ht1.cell 2
 have t3 := ht1.cell 3
 have u := fun j => ht1.frozen j
 simp at r0 r1 r2 r3 t0 t1 t2 t3
 have hsz := hg.size
 simp at hsz
 have G1 := Lib.hid (show w.grownBy w1 (some b) from grownBy_trans (grownBy_trans (World.grownBy_alloc _ _ _) (grownBy_trans (World.grownBy_alloc _ _ _) (grownBy_drewN _ _ _))) hg)
 have H1 := Lib.hid hst
 have H3 := Lib.hid hr1
 have H4 := Lib.hid ht1
 clear hst hg hr1 ht1
 have hne : (s.extract i J).toList.isEmpty = false := str_pos hj hJs
 go_wp2_with fail
 go_quiet (refine Calls.quiet_of_same (must_yes 20 b _))
 go_wp2_with fail
 refine bodyPost_ret (v := .agg #[.string (s.extract i J), .slice none 0 0, .bool false, .int .i64 i]) (by simp [results, Tryz.results77, go_sem, r0, r1, r2, r3]) rfl ?_
 unfold TreePost
 refine ⟨.slice none 0 0, ?_, .nil _ _, ?_, ?_⟩
 · rw [HW.out]; rfl
 · exact ((((((H1.out.other (by omega)).drewN _).other (by omega)).other (by omega)).other (by omega)).other (by omega))
 · exact grownBy_setOwn (grownBy_setOwn (grownBy_setOwn (grownBy_setOwn (grownBy_drewN' (grownBy_setOwn G1.out (by omega)) _) (by omega)) (by omega)) (by omega)) (by omega)
theorem tree_none (s : ByteArray) (i o b : Nat) (w : World) (hs : s.size ≤ 262144) (hi : i < s.size) (hb : St w b s i o) (hc : ((s[i].toNat : Int) == 40) = false)
    (hj : skipTo sgn s.data.toList i = i) :
    Calls Tryz.prog 77 #[.pointer (some ⟨b, 0, none⟩)] w (TreePost w b s o (.bad i 20)) := by
 have HJ := Lib.hid hj
 clear hj
 have HB := Lib.hid hb
 have c0 := hb.c0
 have c1 := hb.c1
 have hi' : (i : Int) < s.size := by omega
 have hbl := hb.lt
 clear hb
 go_enter Tryz.func77, Tryz.ntmps77
 go_wp2_with fail
 go_quiet (fail)
 go_wp2_with fail
 refine (while_any 101 sgn call_sign sign_any s i o b _ hs (by omega) (((HB.out.alloc _).alloc _).drewN _)).mono ?_
 rw [HJ.out]
 rintro e w1 ⟨rfl, hst, hg⟩
 have c1' := hst.c1
 have hr1 : Blk w1 w.heap.size _ _ := Blk.grown (((Blk.new _ _ _).alloc _).drewN _) hg (by simp; omega)
 have ht1 : Blk w1 (w.heap.size + 1) _ _ := Blk.grown ((Blk.new' _ _ (by simp)).drewN _) hg (by simp; omega)
 have r0 := hr1.cell 0
 have r1 := hr1.cell 1
 have r2 := hr1.cell 2
 have r3 := hr1.cell 3
 have q := fun j => hr1.frozen j
 have t0 := ht1.cell 0
 have t1 := ht1.cell 1
 have t2 := ht1.cell 2
 have t3 := ht1.cell 3
 have u := fun j => ht1.frozen j
 simp at r0 r1 r2 r3 t0 t1 t2 t3
 have hsz := hg.size
 simp at hsz
 have G1 := Lib.hid (show w.grownBy w1 (some b) from grownBy_trans (grownBy_trans (World.grownBy_alloc _ _ _) (grownBy_trans (World.grownBy_alloc _ _ _) (grownBy_drewN _ _ _))) hg)
 have H1 := Lib.hid hst
 have H3 := Lib.hid hr1
 have H4 := Lib.hid ht1
 clear hst hg hr1 ht1
 have hne : (s.extract i i).toList.isEmpty = true := str_nil
 go_wp2_with fail
 refine wp_region_still_tail 6 (by kernel_rfl) (by kernel_rfl) ?_
 simp only [List.take_succ_cons, List.take_zero, List.drop_succ_cons, List.drop_zero, World.drew_eq]
 repeat still_step
 refine wpStill_nil ?_
 go_wp2_with fail
 refine (must_no 20 i b _ (by simpa [World.cell?_setCell_other, show ¬ w.heap.size + 1 = b by omega] using c1')).mono ?_
 rintro e w2 ⟨rfl, rfl⟩
 refine ⟨rfl, ?_⟩
 unfold TreePost
 exact ⟨rfl, grownBy_drew' (grownBy_setOwn G1.out (by omega))⟩
def treeOf (i n : Nat) : Res (List Tr × Nat) → Res (Tr × Nat)
 | .bad p e => .bad p e
 | .ok (ts, j) => if j < n then .ok (.mk [] ts true i, j + 1) else .bad j 20
theorem tree_deep (s : ByteArray) (i o b : Nat) (w : World) (hs : s.size ≤ 262144) (hi : i < s.size) (hb : St w b s i o) (hc : ((s[i].toNat : Int) == 40) = true) (ho : decide ((o : Int) < 400) = false) :
    Calls Tryz.prog 77 #[.pointer (some ⟨b, 0, none⟩)] w (TreePost w b s o (.bad i 3)) := by
 have hc2 : ((s[i].toNat : Int) != 40) = false := by simp [bne, hc]
 have HB := Lib.hid hb
 have c0 := hb.c0
 have c1 := hb.c1
 have c2 := hb.c2
 have g1 := hb.fr 1
 have g2 := hb.fr 2
 have hi' : (i : Int) < s.size := by omega
 have hbl := hb.lt
 clear hb
 go_enter Tryz.func77, Tryz.ntmps77
 go_wp2_with fail
 go_quiet (fail)
 go_wp2_with fail
 refine wp_region_still_tail 8 (by kernel_rfl) (by kernel_rfl) ?_
 simp only [List.take_succ_cons, List.take_zero, List.drop_succ_cons, List.drop_zero, World.drew_eq]
 repeat still_step
 refine wpStill_nil ?_
 go_wp2_with fail
 refine (must_no 3 i b _ (by simpa [World.cell?_alloc_lt, hbl, Nat.lt_succ_of_lt] using c1)).mono ?_
 rintro e w2 ⟨rfl, rfl⟩
 refine ⟨rfl, ?_⟩
 unfold TreePost
 exact ⟨rfl, grownBy_drew' (grownBy_drewN' (grownBy_alloc' (grownBy_alloc' (.refl _ _) _) _) _)⟩
theorem tree_row (s : ByteArray) (i o b : Nat) (w : World) (hs : s.size ≤ 262144) (hi : i < s.size) (hb : St w b s i o) (hc : ((s[i].toNat : Int) == 40) = true) (ho : (o : Int) < 400)
    (r : Res (List Tr × Nat)) (hrj : ∀ ts j, r = .ok (ts, j) → j ≤ s.size) (hrow : ∀ w, St w b s (i + 1) (o + 1) → Calls Tryz.prog 47 #[.pointer (some ⟨b, 0, none⟩)] w (RowPost w b s (o + 1) r)) :
    Calls Tryz.prog 77 #[.pointer (some ⟨b, 0, none⟩)] w (TreePost w b s o (treeOf i s.size r)) := by
 have hc2 : ((s[i].toNat : Int) != 40) = false := by simp [bne, hc]
 have HR := Lib.hid hrow
 have HJ := Lib.hid hrj
 clear hrow hrj
 have HB := Lib.hid hb
 have c0 := hb.c0
 have c1 := hb.c1
 have c2 := hb.c2
 have g1 := hb.fr 1
 have g2 := hb.fr 2
 have hi' : (i : Int) < s.size := by omega
 have hbl := hb.lt
 clear hb
 go_enter Tryz.func77, Tryz.ntmps77
 go_wp2_with fail
 go_quiet (fail)
 go_wp2_with fail
 go_quiet (refine quiet2_same (must_yes 3 b _))
 go_wp2_with fail
 refine (HR.out _ ?_).mono ?_
 · exact (((((HB.out.alloc _).alloc _).drewN _).set2 (o + 1)).set1 (i + 1))
 intro e w1 hpost
 unfold RowPost at hpost
 cases r with
 | bad p c =>
  obtain ⟨rfl, hg⟩ := hpost
  refine ⟨rfl, ?_⟩
  unfold TreePost
  exact ⟨rfl, grownBy_trans (grownBy_trans (grownBy_trans (grownBy_drewN' (grownBy_alloc' (grownBy_alloc' (.refl _ _) _) _) _) (grownBy_setCell _ _ _ _)) (grownBy_setCell _ _ _ _)) hg⟩
 | ok x =>
  obtain ⟨ts, j⟩ := x
  obtain ⟨v, rfl, hrep, hst, hg⟩ := hpost
  have hj : j ≤ s.size := HJ.out ts j rfl
  have c0' := hst.c0
  have c1' := hst.c1
  have c2' := hst.c2
  have k1 := hst.fr 1
  have k2 := hst.fr 2
  have hr1 : Blk w1 w.heap.size _ _ := Blk.grown ((((((Blk.new _ _ _).alloc _).drewN _).other (by omega)).other (by omega))) hg (by simp; omega)
  have ht1 : Blk w1 (w.heap.size + 1) _ _ := Blk.grown (((((Blk.new' _ _ (by simp)).drewN _).other (by omega)).other (by omega))) hg (by simp; omega)
  have r0 := hr1.cell 0
  have r1 := hr1.cell 1
  have r2 := hr1.cell 2
  have r3 := hr1.cell 3
  have q := fun j => hr1.frozen j
  have t0 := ht1.cell 0
  have t1 := ht1.cell 1
  have t2 := ht1.cell 2
  have t3 := ht1.cell 3
  have u := fun j => ht1.frozen j
  simp at r0 r1 r2 r3 t0 t1 t2 t3
  have hsz := hg.size
  simp at hsz
  have hv : ∃ a n c, v = .slice a n c := by obtain ⟨a, c, h⟩ := hrep.slice; exact ⟨a, _, c, h⟩
  obtain ⟨a, n, c, rfl⟩ := hv
  have G1 := Lib.hid (show w.grownBy w1 (some b) from grownBy_trans (grownBy_trans (grownBy_trans (grownBy_drewN' (grownBy_alloc' (grownBy_alloc' (.refl _ _) _) _) _) (grownBy_setCell _ _ _ _)) (grownBy_setCell _ _ _ _)) hg)
  have H1 := Lib.hid hst
  have H3 := Lib.hid hr1
  have H4 := Lib.hid ht1
  have H5 := Lib.hid hrep
  clear hst hg hr1 ht1 hrep
  by_cases hlt : j < s.size
  · go_wp2_with fail
    go_quiet (first | (go_at_call 49; refine Calls.quiet_of (more_yes s j b _ (by simpa [World.cell?_setCell_other, show ¬ w.heap.size + 1 = b by omega] using c0') (by simpa [World.cell?_setCell_other, show ¬ w.heap.size + 1 = b by omega] using c1') hlt)) | (refine Calls.quiet_of_same (must_yes 20 b _)))
    go_wp2_with fail
    have hT : treeOf i s.size (.ok (ts, j)) = .ok (.mk [] ts true i, j + 1) := by simp [treeOf, hlt]
    rw [hT]
    refine bodyPost_ret (v := .agg #[.string ⟨#[]⟩, .slice a n c, .bool true, .int .i64 i]) (by simp [results, Tryz.results77, go_sem, r0, r1, r2, r3]) rfl ?_
    unfold TreePost
    have hrep : Rep w1 (fun k => w.heap.size + 2 ≤ k ∧ k ≠ b) (.slice a n c) (.sl (encTrs ts)) := H5.out.mono fun k hk => by simp at hk; omega
    refine ⟨.slice a n c, rfl, ?_, ?_, ?_⟩
    · exact (((((((((hrep.set (by omega)).set (by omega)).drewN).set (by omega)).set (by omega)).set (by omega)).set (by omega)).set (by omega)).set (by omega)).mono (fun k hk => by omega)
    · exact (((((((((H1.out.other (by omega)).other (by omega)).drewN _).set2 o).set1 (j + 1)).other (by omega)).other (by omega)).other (by omega)).other (by omega))
    · exact grownBy_setOwn (grownBy_setOwn (grownBy_setOwn (grownBy_setOwn (grownBy_trans (grownBy_trans (grownBy_drewN' (grownBy_setOwn (grownBy_setOwn G1.out (by omega)) (by omega)) _) (grownBy_setCell _ _ _ _)) (grownBy_setCell _ _ _ _)) (by omega)) (by omega)) (by omega)) (by omega)
  · have HT := Lib.hid (show treeOf i s.size (.ok (ts, j)) = .bad j 20 by simp [treeOf, hlt])
    go_wp2_with fail
    refine wp_region_any (by kernel_rfl) ?_
    change wpAny _ _ _ _ _ _ _ (World.drew _)
    refine wpAny_take (i := 0) (v := ?_) rfl (by kernel_rfl) (by kernel_rfl) (by kernel_rfl) (fun _ _ _ h => h) (Or.inl ⟨by rfl, ?_⟩) ?_
    rotate_left
    · (intro w; go_simp; try with_reducible rfl)
    refine wpAny_take (i := 1) (v := ?_) rfl (by kernel_rfl) (by kernel_rfl) (by kernel_rfl) (fun _ _ _ h => h) (Or.inl ⟨by rfl, ?_⟩) ?_
    rotate_left
    · (intro w; go_simp; try with_reducible rfl)
    refine wpAny_take (i := 2) (v := ?_) rfl (by kernel_rfl) (by kernel_rfl) (by kernel_rfl) (fun _ _ _ h => h) (Or.inl ⟨by rfl, ?_⟩) ?_
    rotate_left
    · (intro w; go_simp; try with_reducible rfl)
    refine wpAny_take (i := 3) (v := ?_) rfl (by kernel_rfl) (by kernel_rfl) (by kernel_rfl) (fun _ _ _ h => h) (Or.inl ⟨by rfl, ?_⟩) ?_
    rotate_left
    · (intro w; go_simp; try with_reducible rfl)
    refine wpAny_take (i := 4) (v := ?_) rfl (by kernel_rfl) (by kernel_rfl) (by kernel_rfl) (fun _ _ _ h => h) (Or.inl ⟨by rfl, ?_⟩) ?_
    rotate_left
    · (intro w; go_simp; try with_reducible rfl)
    refine wpAny_take (i := 5) (v := ?_) rfl (by kernel_rfl) (by kernel_rfl) (by kernel_rfl) (fun _ _ _ h => h) (Or.inl ⟨by rfl, ?_⟩) ?_
    rotate_left
    · (intro w; go_simp; try with_reducible rfl)
    refine wpAny_ready (rs := [6]) (by kernel_rfl) (by simp) ?_
    refine AllReady.cons rfl (fun K hK => ?_) AllReady.nil
    go_simp
    refine (more_no s j b _ (by simpa [World.cell?_setCell_other, show ¬ w.heap.size + 1 = b by omega] using c0') (by simpa [World.cell?_setCell_other, show ¬ w.heap.size + 1 = b by omega] using c1') hlt).mono ?_
    rintro e w2 ⟨rfl, nn, rfl⟩
    refine hK _ _ ?_
    clear hK K
    refine wpAny_ready (rs := [7]) (by kernel_rfl) (by simp) ?_
    refine AllReady.cons rfl (fun K hK => ?_) AllReady.nil
    go_simp
    refine (must_no 20 j b _ (by simpa [World.cell?_setCell_other, show ¬ w.heap.size + 1 = b by omega] using c1')).mono ?_
    rintro e w2 ⟨rfl, rfl⟩
    refine ⟨rfl, ?_⟩
    rw [HT.out]
    unfold TreePost
    exact ⟨rfl, grownBy_drewN' (grownBy_setOwn (grownBy_setOwn G1.out (by omega)) (by omega)) _⟩
end
section
set_option maxRecDepth 100000
open Go.RowKit
theorem bytes_get {s : ByteArray} {i : Nat} (h : i < s.size) : s.data.toList[i]? = some s[i] := by
 rw [List.getElem?_eq_getElem (by simpa using h)]; rfl
theorem size_bytes (s : ByteArray) : s.data.toList.length = s.size := by simp
theorem tree_any (n : Nat) (s : ByteArray) (o b : Nat) (hs : s.size ≤ 262144) (ho : o ≤ 400)
    (hrow : ∀ (w : World) (i : Nat), i ≤ s.size → 2 * (s.size - i) + 2 ≤ n → St w b s i (o + 1) → o + 1 ≤ 400 → Calls Tryz.prog 47 #[.pointer (some ⟨b, 0, none⟩)] w (RowPost w b s (o + 1) (rowN n s.data.toList i (o + 1))))
    (i : Nat) (w : World) (hi : i < s.size) (hn : 2 * (s.size - i) + 1 ≤ n + 1) (hb : St w b s i o) :
    Calls Tryz.prog 77 #[.pointer (some ⟨b, 0, none⟩)] w (TreePost w b s o (treeN (n + 1) s.data.toList i o)) := by
 have hl := size_bytes s
 rw [treeN, bytes_get hi]
 by_cases hc : s[i] = 40
 · have hc' : ((s[i].toNat : Int) == 40) = true := by rw [hc]; rfl
   rw [if_pos (by rw [hc])]
   by_cases hd : o < 400
   · rw [if_pos hd]
     have hj : ∀ ts j, rowN n s.data.toList (i + 1) (o + 1) = .ok (ts, j) → j ≤ s.size := fun ts j h => by
      have := (rowN_le n _ (i + 1) (o + 1) (by omega) ts j h).2
      omega
     have := tree_row s i o b w hs hi hb hc' (by omega) _ hj (fun w' h' => hrow w' (i + 1) (by omega) (by omega) h' (by omega))
     cases hr : rowN n s.data.toList (i + 1) (o + 1) with
     | bad p e => rw [hr] at this; exact this
     | ok x =>
      obtain ⟨ts, j⟩ := x
      rw [hr] at this
      simp only [treeOf] at this
      rw [hl]
      exact this
   · rw [if_neg hd]
     exact tree_deep s i o b w hs hi hb hc' (by simp; omega)
 · have hc' : ((s[i].toNat : Int) == 40) = false := by
    rw [beq_eq_false_iff_ne]; intro h; exact hc (UInt8.toNat_inj.1 (by show s[i].toNat = 40; omega))
   rw [if_neg (by simpa using hc)]
   have hge := skipTo_ge sgn s.data.toList i
   by_cases hj : skipTo sgn s.data.toList i = i
   · rw [if_pos hj]
     exact tree_none s i o b w hs hi hb hc' hj
   · rw [if_neg hj]
     exact tree_word s i o b w hs hi hb hc' (by omega)
theorem info_tree : (Tryz.prog.info? 66).map (fun i => (i.zero, i.size, i.bytes)) = some (some (.agg #[.string ⟨#[]⟩, .slice none 0 0, .bool false, .int .i64 0]), 4, 56) := by kernel_rfl
theorem row_any (N : Nat) (s : ByteArray) (o b i0 : Nat) (w : World) (hs : s.size ≤ 262144) (hi0 : i0 ≤ s.size) (hN : 2 * (s.size - i0) + 2 ≤ N) (hb : St w b s i0 o)
    (htree : ∀ n, n < N → ∀ (i : Nat) (w : World), i < s.size → 2 * (s.size - i) + 1 ≤ n → St w b s i o → Calls Tryz.prog 77 #[.pointer (some ⟨b, 0, none⟩)] w (TreePost w b s o (treeN n s.data.toList i o))) :
    Calls Tryz.prog 47 #[.pointer (some ⟨b, 0, none⟩)] w (RowPost w b s o (rowN N s.data.toList i0 o)) := by
 obtain ⟨ti, hti, hz0, hz1, hz2⟩ := info_parts info_tree
 have HT := Lib.hid htree
 have HB := Lib.hid hb
 have hbl := hb.lt
 have HL := Lib.hid (size_bytes s)
 clear htree hb
 go_enter Tryz.func47, Tryz.ntmps47
 go_wp2_with fail
 go_loopg [2] N (fun f v wr => ∃ (i : Nat) (ts : List Tr), i ≤ s.size ∧ 2 * (s.size - i) + 2 ≤ f ∧ f ≤ N ∧ ts.length ≤ i ∧ St wr b s i o ∧ w.grownBy wr (some b) ∧
  Own wr w.heap.size (fun k => w.heap.size ≤ k) 66 4 v (encTrs ts) ∧ rowN N s.data.toList i0 o = pre ts (rowN f s.data.toList i o))
 case atStart => exact ⟨i0, [], hi0, hN, Nat.le_refl _, Nat.zero_le _, HB.out, .refl _ _, Own.nil _ _ _ _ _, (pre_nil _).symm⟩
 case round =>
  obtain ⟨i, ts, hi, hf, hfN, hts, hst, hg, hown, heq⟩ := hrel
  obtain ⟨f, rfl⟩ : ∃ f, gk = f + 1 := ⟨gk - 1, by omega⟩
  have H1 := Lib.hid hst
  have H2 := Lib.hid hg
  have H3 := Lib.hid hown
  have H4 := Lib.hid heq
  have hw1 := hg.size
  clear hst hg hown heq
  go_wp2_with fail
  refine (while_any 76 blk call_blank blank_any s i o b _ hs hi H1.out).mono ?_
  rintro e w1 ⟨rfl, hst, hg⟩
  have hj1 := skipTo_ge blk s.data.toList i
  have hj2 := skipTo_le blk s.data.toList i (by rw [HL.out]; exact hi)
  rw [HL.out] at hj2
  have hrw : ∀ c, s.data.toList[skipTo blk s.data.toList i]? = c → rowN (f + 1) s.data.toList i o = (match c with
      | none => .ok ([], skipTo blk s.data.toList i)
      | some c => if c = 41 then .ok ([], skipTo blk s.data.toList i) else
       match treeN f s.data.toList (skipTo blk s.data.toList i) o with
       | .bad p e => .bad p e
       | .ok (t, k) => match rowN f s.data.toList k o with
        | .bad p e => .bad p e
        | .ok (ts, m) => .ok (t :: ts, m)) := fun c hc => by rw [rowN, hc]; rfl
  generalize skipTo blk s.data.toList i = j at *
  have HR := Lib.hid hrw
  have K1 := Lib.hid hst
  have hw2 := hg.size
  have K2 := Lib.hid (grownBy_trans H2.out hg)
  have K3 := Lib.hid (H3.out.keptOld hg (fun k hk => by cases hk; exact hbl))
  have c0 := hst.c0
  have c1 := hst.c1
  clear hst hg hrw H1 H2 H3
  by_cases hlt : j < s.size
  · by_cases hc : s[j] = 41
    · have hc' : ((s[j].toNat : Int) == 41) = true := by rw [hc]; rfl
      go_wp2_with fail
      go_quiet (refine Calls.quiet_of (more_yes s j b _ (by simpa using c0) (by simpa using c1) hlt))
      go_wp2_with fail
      go_ret
      rw [H4.out, HR.out _ (bytes_get hlt), hc]
      refine ⟨_, rfl, ?_, K1.out, ?_⟩
      · simp only [List.append_nil]
        refine (K3.out.drewN _).rep.mono ?_
        rintro k (hk | hk)
        · exact hk
        · exact (K3.out.lt k hk).1
      · exact grownBy_drewN' K2.out _
    · have hc' : ((s[j].toNat : Int) == 41) = false := by
       rw [beq_eq_false_iff_ne]; intro h; exact hc (UInt8.toNat_inj.1 (by show s[j].toNat = 41; omega))
      go_wp2_with fail
      go_quiet (refine Calls.quiet_of (more_yes s j b _ (by simpa using c0) (by simpa using c1) hlt))
      go_wp2_with fail
      refine (HT.out f (by omega) j _ hlt (by omega) (K1.out.drewN _)).mono ?_
      have hR := HR.out _ (bytes_get hlt)
      simp only [if_neg hc] at hR
      cases hr : treeN f s.data.toList j o with
      | bad p c =>
       simp only [hr] at hR
       rintro e w2 ⟨rfl, hg⟩
       refine ⟨rfl, ?_⟩
       rw [H4.out, hR]
       exact ⟨rfl, grownBy_trans (grownBy_drewN' K2.out _) hg⟩
      | ok x =>
       obtain ⟨t, k⟩ := x
       have hl := size_bytes s
       have hk1 := treeN_lt f _ j o (by omega) t k hr
       have hk2 := (treeN_le f _ j o (by omega) t k hr).2
       simp only [hr] at hR
       rintro e w2 ⟨v, rfl, hrep, hst, hg⟩
       have hw3 := hg.size
       simp at hw3
       have H5 := Lib.hid hR
       have H6 := Lib.hid hrep
       have H7 := Lib.hid hst
       have H8 := Lib.hid (grownBy_trans (grownBy_drewN' K2.out _) hg)
       have H9 := Lib.hid ((K3.out.drewN _).keptOld hg (fun k hk => by cases hk; exact hbl))
       have hk2' : k ≤ s.size := by omega
       have hv : ∃ a n c, v = .slice a n c := by obtain ⟨a, c, h⟩ := hrep.slice; exact ⟨a, _, c, h⟩
       obtain ⟨a, n, c, rfl⟩ := hv
       clear hrep hst hg hR hr hl
       have hown := H9.out
       go_wp2_with (at_builtin; refine wpList_append_Own _ rfl (.tmp 27) (.tmp 30) 61 rfl w.heap.size (fun k => w.heap.size ≤ k) 66 ti _ 4 56 Tryz.underlying61 hti hz0 hz1 hz2 rfl (by decide) u2 (encTrs ts) rfl ?own (some ⟨w2.heap.size, 0, none⟩) 1 1 rfl [.string ⟨t.word.toArray⟩, .slice a n c, .bool t.row, .int .i64 t.at_] [encTr t] rfl ?hds (by simp) ?news ?one ?reps ?b1 ?b2 ?b3 ?next)
       case own => exact hown.alloc _
       case hds => intro d hd; simp at hd; subst hd; exact encTr_length t
       case news => exact cells_new (c := #[_, _, _, _]) rfl
       case one => simp [Value.oneCell']
       case reps =>
        have e : [encTr t].flatten = [.leaf (.string ⟨t.word.toArray⟩), .sl (encTrs t.kids), .leaf (.bool t.row), .leaf (.int .i64 t.at_)] := by cases t; rfl
        rw [e]
        refine .cons (.leaf _) (.cons ?_ (.cons (.leaf _) (.cons (.leaf _) (.nil _ _))))
        refine (H6.out.alloc _).mono fun k hk => ?_
        simp at hk
        refine ⟨by omega, fun e => ?_⟩
        have := (K3.out.lt k e.symm).2
        omega
       case b1 => rw [encTrs_length]; simp only [maxLen]; omega
       case b2 => rw [encTrs_length]; omega
       case b3 => simp; omega
       case next =>
        intro v' w' hown' hgrow _
        have hst' : St w' b s k o := (H7.out.alloc _).stays (hgrow.block b (by simp; omega) (fun e => by have := (hown.lt b e.symm).1; omega))
        have H10 := Lib.hid hown'
        have H11 := Lib.hid hst'
        have H12 := Lib.hid (grownBy_own (grownBy_alloc' H8.out _) hgrow (fun k hk => (hown.lt k hk).1))
        clear hown hown' hgrow hst'
        go_wp2_with fail
        go_roundg f
        case measure => omega
        case rel =>
         refine ⟨k, ts ++ [t], hk2', by omega, by omega, by simp; omega, H11.out, H12.out, ?_, ?_⟩
         · rw [encTrs_append]; simpa [encTrs] using H10.out
         · rw [H4.out, H5.out]
           cases rowN f s.data.toList k o with
           | bad p e => rfl
           | ok x => simp [pre]
  · go_wp2_with fail
    go_quiet (refine Calls.quiet_of (more_no s j b _ (by simpa using c0) (by simpa using c1) hlt))
    go_wp2_with fail
    go_ret
    rw [H4.out, HR.out none (by simp; omega)]
    refine ⟨_, rfl, ?_, K1.out, ?_⟩
    · simp only [List.append_nil]
      refine (K3.out.drewN _).rep.mono ?_
      rintro k (hk | hk)
      · exact hk
      · exact (K3.out.lt k hk).1
    · exact grownBy_drewN' K2.out _
end
end Go.Proofs.YtmmgjaheffbpaaaGreatDoor
