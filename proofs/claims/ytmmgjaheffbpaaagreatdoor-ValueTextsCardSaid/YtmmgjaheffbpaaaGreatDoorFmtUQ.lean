/-
 THE WALK of strconv.FormatUint at base 10, over the shelf's contracts of numDigits, formatBase10 (turned from the shelf's FormatInt).
-/
import Derived.Test.YtmmgjaheffbpaaaGreatDoorEvBldQ
import Derived.Lib.Walk
import Derived.Lib.ItoaMem
import Derived.WalkKit
import Derived.BigCall
import Derived.BigGuard
import Derived.KernelRfl
import Derived.Test.YtmmgjaheffbpaaaGreatDoorLexParseQ
import Derived.Lib.AtoiErrMem
namespace Go.Proofs.YtmmgjaheffbpaaaGreatDoor
set_option maxRecDepth 100000
set_option maxHeartbeats 8000000
set_option linter.unusedSimpArgs false
set_option linter.unusedVariables false
set_option linter.unusedSectionVars false
section
open Go.Shelf Go.RowKit Go.Sort Go.Lib
theorem holds_zero0 (w : World) (T : TypeId) (nd : Nat) (hs : nd ≤ 24) : Holds (fun (b : UInt8) => Value.int .u8 (b.toNat : Int)) (w.alloc (.cells zeros24 T)) w.heap.size 0 (Array.replicate nd (0 : UInt8)) := fun j hj => by
 have hj' : j < nd := by simpa using hj
 refine ⟨?_, World.frozen?_alloc_new _ _ _ _⟩
 rw [World.cell?_alloc_new, zeros24_at _ (by omega), getElem!_pos _ j hj]
 simp
theorem fin_pos0 (w : World) (o : Obj) (dk : Array UInt8) (k : Nat) : ∃ os, (putRow (fun (b : UInt8) => Value.int .u8 (b.toNat : Int)) (w.alloc o) w.heap.size 0 dk).drewN k = grow (w.drewN k) os := by
 rw [alloc_eq_grow]
 obtain ⟨os', _, e⟩ := putRow_grow_new (fun (b : UInt8) => Value.int .u8 (b.toNat : Int)) w #[o] w.heap.size 0 dk (Nat.le_refl _)
 exact ⟨os', by rw [e]; rfl⟩
theorem fmtU_any (u : Nat) (hu64 : u < 18446744073709551616) (w : World) (htab : Lib.TabIs Tryz.prog w "internal/strconv.uint64pow10" .u64 Lib.pow10Tab) :
    Calls Tryz.prog 95 #[.int .u64 u, .int .i64 10] w fun e w' => e = .returned (.string ⟨(Lib.decDigits u).toArray⟩) ∧ ∃ k os, w' = grow (w.drewN k) os := by
 by_cases hs : u < 100
 · have hi : (u : Int) < 100 := by omega
   have hw : IntKind.i64.wrap (u : Int) = u := by rw [IntKind.wrap_i64]; omega
   go_enter Tryz.func95, Tryz.ntmps95
   go_wp2_with (refine (Tryz.internal_strconv_small u hs _).mono ?_; rintro e w' ⟨rfl, rfl⟩)
   go_ret
   exact ⟨rfl, 0, #[], by simp [World.drewN_zero]⟩
 · have hu1 : 1 ≤ u := by omega
   have hi : ¬ (u : Int) < 100 := by omega
   have hnd20 : Lib.nDigits u ≤ 20 := by have := Lib.numDigits_eq u hu1 hu64; split at this <;> omega
   have hb3 : Lib.nDigits u ≤ 24 := by omega
   have hal : Tryz.prog.arrayLen 172 = 24 := by kernel_rfl
   have hsl1 : ∀ W, (Instr.sliceAt 172 (.pointer (some ⟨w.heap.size, 0, none⟩)) none (some (.int .i64 (Lib.nDigits u : Int))) none).run Tryz.prog W = .ok (.slice (some ⟨w.heap.size, 0, none⟩) (Lib.nDigits u) 24) W := fun W => by
    rw [run_sliceAt_array_h W 172 ⟨w.heap.size, 0, none⟩ (by kernel_rfl) .i64 (Lib.nDigits u : Int) (by omega) (by rw [hal]; omega)]
    go_simp
   have hH0 := holds_zero0 w 172 (Lib.nDigits u) (by omega)
   have hfmt := Tryz.internal_strconv_formatBase10 w.heap.size 0 24 u (Array.replicate (Lib.nDigits u) 0) (w.alloc (.cells Lib.zeros24 172)) hH0 (by rw [Array.size_replicate]; exact Lib.lt_pow_nDigits u) hu64 (by rw [Array.size_replicate]; omega)
   rw [Array.size_replicate] at hfmt
   have HH0 := Lib.hid hH0
   clear hH0 hal
   go_enter Tryz.func95, Tryz.ntmps95
   go_wp2_with (first
    | (refine (Tryz.internal_strconv_numDigits u hu1 hu64 _ (Lib.tabIs_alloc htab _)).mono ?_; rintro e w' ⟨rfl, rfl⟩))
   refine hfmt.mono ?_
   rintro e w' ⟨rfl, k, v', dk, rfl, hF⟩
   have hcv : (convert 84 9 (.slice (some ⟨w.heap.size, 0, none⟩) (Lib.nDigits u) 24)).run Tryz.prog ((putRow (fun (b : UInt8) => Value.int .u8 (b.toNat : Int)) (w.alloc (.cells Lib.zeros24 172)) w.heap.size 0 dk).drewN k) = .ok (.string ⟨(Lib.decDigits u).toArray⟩) ((putRow (fun (b : UInt8) => Value.int .u8 (b.toNat : Int)) (w.alloc (.cells Lib.zeros24 172)) w.heap.size 0 dk).drewN k) := by
    have h := run_convert_bytes_back (P := Tryz.prog) ((putRow (fun (b : UInt8) => Value.int .u8 (b.toNat : Int)) (w.alloc (.cells Lib.zeros24 172)) w.heap.size 0 dk).drewN k) 84 9 5 ⟨w.heap.size, 0, none⟩ 24 (Lib.decDigits u) Tryz.underlying84 Tryz.underlying5 Tryz.underlying9 (fun j hj => by
     rw [Lib.row_is_numeral hF j hj, Lib.add_plain, World.cell?_drewN]
     exact cell?_putRow (fun (b : UInt8) => Value.int .u8 (b.toNat : Int)) _ w.heap.size 0 _ dk HH0.out (by rw [hF.size, Array.size_replicate]) j (by rw [hF.size]; rw [Lib.decDigits_length] at hj; exact hj))
    rw [Lib.decDigits_length] at h
    exact h
   go_wp2
   go_ret
   obtain ⟨os, eo⟩ := fin_pos0 w (.cells Lib.zeros24 172) dk k
   exact ⟨rfl, k, os, eo⟩
theorem fmtU (u : Nat) (hu64 : u < 18446744073709551616) (w : World) (htab : Lib.TabIs Tryz.prog w "internal/strconv.uint64pow10" .u64 Lib.pow10Tab) :
    Calls Tryz.prog 67 #[.int .u64 u, .int .i64 10] w fun e w' => e = .returned (.string ⟨(Lib.decDigits u).toArray⟩) ∧ ∃ k os, w' = grow (w.drewN k) os := by
 go_enter Tryz.func67, Tryz.ntmps67
 go_wp2_with (refine (fmtU_any u hu64 w htab).mono ?_; rintro e w' ⟨rfl, k, os, rfl⟩)
 go_ret
 exact ⟨rfl, k, os, rfl⟩
end
section
theorem snocInd {α : Type} {motive : List α → Prop} (nil : motive []) (append_singleton : ∀ l a, motive l → motive (l ++ [a])) (l : List α) : motive l := by
 rw [← List.reverse_reverse l]
 induction l.reverse with
 | nil => exact nil
 | cons a l ih => rw [List.reverse_cons]; exact append_singleton _ _ ih
def B9 : Nat := 1000000000
def drop0 : List Nat → List Nat
 | [] => []
 | x :: l => match drop0 l with
  | [] => if x = 0 then [] else [x]
  | r => x :: r
def spill (c : Nat) : List Nat := if h : c = 0 then [] else c % B9 :: spill (c / B9)
termination_by c
decreasing_by exact Nat.div_lt_self (by omega) (by decide)
def carry : List Nat → Nat → List Nat
 | [], c => spill c
 | x :: l, c => (x + c) % B9 :: carry l ((x + c) / B9)
def normD (l : List Nat) : List Nat := drop0 (carry l 0)
def RightD (l : List Nat) : Prop := (∀ x ∈ l, x < B9) ∧ drop0 l = l
theorem carry_id : ∀ {l : List Nat}, (∀ x ∈ l, x < B9) → carry l 0 = l
 | [], _ => by unfold carry spill; simp
 | x :: l, h => by
  have hx : x < B9 := h x (by simp)
  unfold carry
  rw [Nat.add_zero, Nat.mod_eq_of_lt hx, Nat.div_eq_of_lt hx, carry_id (fun y hy => h y (by simp [hy]))]
theorem normD_right {l : List Nat} (h : RightD l) : normD l = l := by
 unfold normD
 rw [carry_id h.1, h.2]
theorem drop0_cons (x : Nat) (l : List Nat) : drop0 (x :: l) = if drop0 l = [] then (if x = 0 then [] else [x]) else x :: drop0 l := by
 rw [drop0]
 split
 · rename_i h; rw [if_pos h]
 · rename_i h; rw [if_neg h]
theorem drop0_drop0 : ∀ (l : List Nat), drop0 (drop0 l) = drop0 l
 | [] => rfl
 | x :: l => by
  have ih := drop0_drop0 l
  rw [drop0_cons x l]
  split
  · split
    · rfl
    · rename_i hx; rw [drop0_cons]; simp [drop0, hx]
  · rename_i h; rw [drop0_cons, ih, if_neg h]
theorem drop0_sub : ∀ {l : List Nat} {x : Nat}, x ∈ drop0 l → x ∈ l
 | [], x, h => by simp [drop0] at h
 | y :: l, x, h => by
  unfold drop0 at h
  split at h
  · split at h <;> simp_all
  · rename_i e
    rcases List.mem_cons.1 h with rfl | h
    · simp
    · exact List.mem_cons_of_mem _ (drop0_sub h)
theorem spill_lt (c : Nat) : ∀ x ∈ spill c, x < B9 := by
 induction c using Nat.strongRecOn with
 | ind c ih =>
  intro x hx
  unfold spill at hx
  split at hx
  · simp at hx
  · rename_i h
    rcases List.mem_cons.1 hx with rfl | hx
    · exact Nat.mod_lt _ (by decide)
    · exact ih _ (Nat.div_lt_self (by omega) (by decide)) x hx
theorem carry_lt : ∀ (l : List Nat) (c : Nat), ∀ x ∈ carry l c, x < B9
 | [], c, x, h => spill_lt c x h
 | y :: l, c, x, h => by
  unfold carry at h
  rcases List.mem_cons.1 h with rfl | h
  · exact Nat.mod_lt _ (by decide)
  · exact carry_lt l _ x h
theorem normD_ok (l : List Nat) : RightD (normD l) := ⟨fun x hx => carry_lt l 0 x (drop0_sub hx), drop0_drop0 _⟩
def dec (n : Nat) : List UInt8 := if h : n < 10 then [UInt8.ofNat (48 + n)] else dec (n / 10) ++ [UInt8.ofNat (48 + n % 10)]
termination_by n
decreasing_by omega
def padN (k n : Nat) : List UInt8 := List.replicate (k - (dec n).length) 48 ++ dec n
def natText (l : List Nat) : List UInt8 :=
 match l.reverse with
 | [] => dec 0
 | t :: r => dec t ++ r.flatMap (padN 9)
def isDec (s : List UInt8) : Bool := s.all fun b => 48 ≤ b.toNat && b.toNat ≤ 57
def valD (s : List UInt8) : Nat := s.foldl (fun a b => a * 10 + (b.toNat - 48)) 0
def chunksE (s : List UInt8) : List Nat := if h : s = [] then [] else valD (s.drop (s.length - 9)) :: chunksE (s.take (s.length - 9))
termination_by s.length
decreasing_by
 have : 0 < s.length := List.length_pos_iff.2 h
 simp; omega
def natOf (s : List UInt8) : Option (List Nat) :=
 if s = [] ∨ (s.length > 1 ∧ s.head? = some 48) ∨ isDec s = false then none else some (normD (chunksE s))
theorem valD_append (s : List UInt8) (b : UInt8) : valD (s ++ [b]) = valD s * 10 + (b.toNat - 48) := by unfold valD; simp
theorem valD_lt : ∀ (s : List UInt8), isDec s = true → valD s < 10 ^ s.length := by
 intro s
 induction s using snocInd with
 | nil => intro; simp [valD]
 | append_singleton s b ih =>
  intro h
  simp only [isDec, List.all_append, Bool.and_eq_true, List.all_cons, List.all_nil, decide_eq_true_eq, Bool.and_true] at h
  have := ih h.1
  rw [valD_append, List.length_append, List.length_singleton, Nat.pow_succ]
  have hb := h.2.2
  omega
theorem valD_pos : ∀ (s : List UInt8) (b : UInt8), isDec (b :: s) = true → b ≠ 48 → 1 ≤ valD (b :: s) := by
 intro s
 induction s using snocInd with
 | nil =>
  intro b h hb
  simp only [isDec, List.all_cons, List.all_nil, Bool.and_true, Bool.and_eq_true, decide_eq_true_eq] at h
  have : b.toNat ≠ 48 := fun e => hb (UInt8.toNat_inj.1 e)
  simp [valD]; omega
 | append_singleton s c ih =>
  intro b h hb
  rw [← List.cons_append] at h ⊢
  simp only [isDec, List.all_append, Bool.and_eq_true] at h
  have := ih b h.1 hb
  rw [valD_append]; omega
theorem ofNat_dig (b : UInt8) (h : 48 ≤ b.toNat) : UInt8.ofNat (48 + (b.toNat - 48)) = b := by
 rw [show 48 + (b.toNat - 48) = b.toNat by omega]
 exact UInt8.ofNat_toNat
theorem dec_valD : ∀ (s : List UInt8) (b : UInt8), isDec (b :: s) = true → (b ≠ 48 ∨ s = []) → dec (valD (b :: s)) = b :: s := by
 intro s
 induction s using snocInd with
 | nil =>
  intro b h _
  simp only [isDec, List.all_cons, List.all_nil, Bool.and_true, Bool.and_eq_true, decide_eq_true_eq] at h
  unfold dec
  have e : valD [b] = b.toNat - 48 := by simp [valD]
  rw [e, dif_pos (by omega), ofNat_dig b h.1]
 | append_singleton s c ih =>
  intro b h hb
  rw [← List.cons_append] at h ⊢
  simp only [isDec, List.all_append, Bool.and_eq_true, List.all_cons, List.all_nil, decide_eq_true_eq, Bool.and_true] at h
  have hb : b ≠ 48 := hb.resolve_right (by simp)
  have hp := valD_pos s b (by simpa [isDec] using h.1) hb
  have ih := ih b (by simpa [isDec] using h.1) (.inl hb)
  rw [valD_append]
  unfold dec
  rw [dif_neg (by omega), show (valD (b :: s) * 10 + (c.toNat - 48)) / 10 = valD (b :: s) by omega, show (valD (b :: s) * 10 + (c.toNat - 48)) % 10 = c.toNat - 48 by omega, ih, ofNat_dig c h.2.1]
theorem valD_zero (s : List UInt8) : valD (48 :: s) = valD s := by simp [valD]
theorem padN_valD : ∀ (s : List UInt8), s ≠ [] → isDec s = true → (dec (valD s)).length ≤ s.length ∧ padN s.length (valD s) = s
 | [], h, _ => absurd rfl h
 | b :: s, _, h => by
  by_cases hb : b = 48 ∧ s ≠ []
  · obtain ⟨rfl, hs⟩ := hb
    have h2 : isDec s = true := by simp only [isDec, List.all_cons, Bool.and_eq_true] at h; exact h.2
    obtain ⟨h3, h4⟩ := padN_valD s hs h2
    rw [valD_zero]
    refine ⟨by simp; omega, ?_⟩
    unfold padN at h4 ⊢
    rw [show (48 :: s).length - (dec (valD s)).length = (s.length - (dec (valD s)).length) + 1 by simp; omega, List.replicate_succ, List.cons_append, h4]
  · have := dec_valD s b h (by
     by_cases e : b = 48
     · exact .inr (by simpa [e] using hb)
     · exact .inl e)
    unfold padN
    rw [this]
    simp
theorem chunksE_lt : ∀ (s : List UInt8), isDec s = true → ∀ x ∈ chunksE s, x < B9 := by
 intro s
 generalize hn : s.length = n
 induction n using Nat.strongRecOn generalizing s with
 | ind n ih =>
  intro h x hx
  unfold chunksE at hx
  split at hx
  · simp at hx
  · rename_i hs
    have hl : 0 < s.length := List.length_pos_iff.2 hs
    rcases List.mem_cons.1 hx with rfl | hx
    · have h2 : isDec (s.drop (s.length - 9)) = true := by
       simp only [isDec, List.all_eq_true] at h ⊢
       exact fun y hy => h y (List.mem_of_mem_drop hy)
      have := valD_lt _ h2
      have h3 : (s.drop (s.length - 9)).length ≤ 9 := by simp; omega
      exact Nat.lt_of_lt_of_le this (Nat.le_trans (Nat.pow_le_pow_right (by omega) h3) (by decide))
    · refine ih (s.length - 9) (by omega) (s.take (s.length - 9)) (by simp) ?_ x hx
      simp only [isDec, List.all_eq_true] at h ⊢
      exact fun y hy => h y (List.mem_of_mem_take hy)
theorem drop0_ne {l : List Nat} {x : Nat} (h : l ≠ []) (h2 : drop0 l = l) : drop0 (x :: l) = x :: l := by
 unfold drop0
 rw [h2]
 split
 · rename_i e; exact absurd rfl h
 · rfl
theorem natText_cons {x : Nat} {l : List Nat} (h : l ≠ []) : natText (x :: l) = natText l ++ padN 9 x := by
 unfold natText
 rw [List.reverse_cons]
 cases e : l.reverse with
 | nil => exact absurd (List.reverse_eq_nil_iff.1 e) h
 | cons t r => simp
theorem chunks_text : ∀ (s : List UInt8) (b : UInt8), isDec (b :: s) = true → b ≠ 48 → chunksE (b :: s) ≠ [] ∧ drop0 (chunksE (b :: s)) = chunksE (b :: s) ∧ natText (chunksE (b :: s)) = b :: s := by
 intro s
 generalize hn : s.length = n
 induction n using Nat.strongRecOn generalizing s with
 | ind n ih =>
  intro b h hb
  rw [chunksE, dif_neg (by simp)]
  refine ⟨by simp, ?_⟩
  by_cases hl : s.length + 1 ≤ 9
  · rw [show (b :: s).length - 9 = 0 by simp; omega, List.drop_zero, List.take_zero, chunksE, dif_pos rfl]
    have hp := valD_pos s b h hb
    refine ⟨by simp [drop0]; omega, ?_⟩
    simp only [natText, List.reverse_singleton, List.flatMap_nil, List.append_nil]
    exact dec_valD s b h (.inl hb)
  · obtain ⟨m, hm⟩ : ∃ m, (b :: s).length - 9 = m + 1 := ⟨s.length - 9, by simp; omega⟩
    have hm2 : m + 9 = s.length := by simp at hm; omega
    rw [hm, List.take_succ_cons, List.drop_succ_cons]
    simp only [isDec, List.all_cons, Bool.and_eq_true] at h
    have hs : isDec s = true := h.2
    obtain ⟨h1, h2, h3⟩ := ih m (by omega) (s.take m) (by simp; omega) b (by
     simp only [isDec, List.all_cons, Bool.and_eq_true]
     exact ⟨h.1, by simp only [isDec, List.all_eq_true] at hs ⊢; exact fun y hy => hs y (List.mem_of_mem_take hy)⟩) hb
    refine ⟨drop0_ne h1 h2, ?_⟩
    rw [natText_cons h1, h3]
    have hd : isDec (s.drop m) = true := by simp only [isDec, List.all_eq_true] at hs ⊢; exact fun y hy => hs y (List.mem_of_mem_drop hy)
    have hdl : (s.drop m).length = 9 := by simp; omega
    have := (padN_valD (s.drop m) (fun e => by rw [e] at hdl; simp at hdl) hd).2
    rw [hdl] at this
    rw [this, List.cons_append, List.take_append_drop]
theorem natOf_text {s : List UInt8} {l : List Nat} (h : natOf s = some l) : RightD l ∧ natText l = s := by
 unfold natOf at h
 split at h
 · cases h
 · rename_i hc
   simp only [not_or, not_and, Bool.not_eq_false] at hc
   obtain ⟨h1, h2, h3⟩ := hc
   cases h
   refine ⟨normD_ok _, ?_⟩
   cases s with
   | nil => exact absurd rfl h1
   | cons b s =>
    unfold normD
    rw [carry_id (chunksE_lt _ h3)]
    by_cases hb : b = 48
    · subst hb
      have : s = [] := by
       cases s with
       | nil => rfl
       | cons c s => exact absurd rfl (h2 (by simp))
      subst this
      have e : chunksE [48] = [0] := by rw [chunksE, dif_neg (by simp)]; simp [valD, chunksE]
      rw [e]
      simp [drop0, natText, dec]
    · obtain ⟨_, g2, g3⟩ := chunks_text s b h3 hb
      rw [g2, g3]
end
section
open Go.RowKit Go.Sort
theorem dec_eq (n : Nat) : Lib.decDigits n = dec n := by
 induction n using Nat.strongRecOn with
 | ind n ih =>
  rw [Lib.decDigits, dec]
  split
  · rfl
  · rename_i h
    rw [ih _ (by omega)]
theorem tab_pow10 {σ : Sto} {ι : List Nat} {Z : Nat → Nat → Prop} {w : World} (hM : Match σ ι Z w) : Lib.TabIs Tryz.prog w "internal/strconv.uint64pow10" .u64 Lib.pow10Tab := by
 obtain ⟨h1, h2, h3⟩ := hM.glob 1 _ rfl
 have hg : Tryz.prog.globalNamed "internal/strconv.uint64pow10" = some 1 := by kernel_rfl
 unfold Lib.TabIs World.var?
 rw [hg, Option.bind_some]
 generalize hl : ([.int .u64 1, .int .u64 10, .int .u64 100, .int .u64 1000, .int .u64 10000, .int .u64 100000, .int .u64 1000000, .int .u64 10000000, .int .u64 100000000, .int .u64 1000000000, .int .u64 10000000000, .int .u64 100000000000, .int .u64 1000000000000, .int .u64 10000000000000, .int .u64 100000000000000, .int .u64 1000000000000000, .int .u64 10000000000000000, .int .u64 100000000000000000, .int .u64 1000000000000000000, .int .u64 10000000000000000000] : List Value) = l at h1 h3
 have hl2 : (Lib.pow10Tab.map fun z => Value.int .u64 z) = l := by rw [← hl]; kernel_rfl
 rw [hl2]
 have hll : l.length = 20 := by rw [← hl]; rfl
 unfold cellsz at h3
 split at h3
 · rename_i c T fz hc
   rw [hc]
   simp only [Option.some.injEq]
   apply Array.ext
   · simpa using h3
   · intro i hi1 hi2
     have hi : i < l.length := by simpa using hi2
     generalize hp : (Value.pointer (some ⟨1, 0, none⟩)) = p at h1
     generalize hr : l.map AV.lit = row at h1
     generalize ho : (0 : Nat) = off at h1
     cases h1 with
     | eptr _ _ b o U g1 g2 =>
      have hb : b = 1 ∧ o = 0 := by
       injection hp with hp
       injection hp with hp
       injection hp with hp1 hp2
       omega
      obtain ⟨rfl, rfl⟩ := hb
      have hrow : row[i]? = some (.lit l[i]) := by rw [← hr, List.getElem?_map, List.getElem?_eq_getElem hi]; rfl
      have a1 := (g1 i _ hrow).2.2
      have a2 := g2 i _ hrow
      generalize hU : U i = x at a1 a2
      cases a2
      simp only [World.cell?, hc, Nat.zero_add] at a1
      have : c[i]? = some l[i] := by simpa using a1
      rw [Array.getElem?_eq_getElem hi1] at this
      injection this with this
 · omega
def primFmtU (args : List AV) (σ : Sto) : Option (ARes × Sto) :=
 match args with
 | [.lit (.int .u64 x), .lit (.int .i64 y)] => if (0 ≤ x ∧ x < 18446744073709551616) ∧ y = 10 then some (.ret (.lit (.string ⟨(dec x.toNat).toArray⟩)), σ) else none
 | _ => none
theorem primFmtU_sound : CallSound Tryz.prog fun f args σ => if f = 67 then primFmtU args σ else none := by
 intro f args σ r σ' hr ι Z w us hM hl hargs
 dsimp only at hr
 split at hr
 · rename_i e
   subst e
   unfold primFmtU at hr
   split at hr
   · rename_i x y
     split at hr
     · rename_i hc
       cases hr
       obtain ⟨⟨h0, h1⟩, rfl⟩ := hc
       obtain ⟨u, u2, rfl⟩ := two_args hl
       have hu := hargs 0 _ u rfl rfl
       have hu2 := hargs 1 _ u2 rfl rfl
       cases hu; cases hu2
       obtain ⟨x, rfl⟩ : ∃ n : Nat, x = n := ⟨x.toNat, by omega⟩
       refine ⟨Tryz.call67 _ _, (fmtU x (by omega) w (tab_pow10 hM)).mono ?_⟩
       rintro e w' ⟨rfl, k, os, rfl⟩
       have hb : Below w.heap.size w (grow (w.drewN k) os) := ⟨rfl, rfl, rfl, by show w.heap.size ≤ (w.heap ++ os).size; rw [Array.size_append]; omega, fun j hj => by show (w.heap ++ os)[j]? = w.heap[j]?; rw [Array.getElem?_append_left hj]⟩
       rw [dec_eq, Int.toNat_natCast]
       exact ⟨ι, Z, .ofBelow hM hb, hM.below hb, _, rfl, .lit _ rfl⟩
     · cases hr
   · cases hr
 · cases hr
def primParseU (args : List AV) (σ : Sto) : Option (ARes × Sto) :=
 match args with
 | [.lit (.string s), .lit (.int .i64 b), .lit (.int .i64 z)] => if (b = 10 ∧ z = 64) ∧ s.size ≤ 18 ∧ s.data.toList ≠ [] ∧ isDec s.data.toList = true then some (.ret (.tup [.lit (.int .u64 (valD s.data.toList)), .lit .nilIface]), σ) else none
 | _ => none
theorem parseUintM_ok : ∀ (l : List UInt8) (acc : Nat), isDec l = true → acc < 10 ^ (18 - l.length) → l.length ≤ 18 → Lib.parseUintM (2 ^ 64 - 1) acc l = .ok (l.foldl (fun a b => a * 10 + (b.toNat - 48)) acc)
 | [], acc, _, _, _ => rfl
 | c :: r, acc, h, ha, hl => by
  simp only [isDec, List.all_cons, Bool.and_eq_true, decide_eq_true_eq] at h
  have hl' : r.length + 1 ≤ 18 := by simpa using hl
  have e : 18 - r.length = (18 - (c :: r).length) + 1 := by simp; omega
  have hp : (10 : Nat) ^ (18 - (c :: r).length) ≤ 10 ^ 17 := Nat.pow_le_pow_right (by omega) (by simp)
  rw [Lib.parseUintM, if_pos h.1, if_neg (by omega), if_neg (by omega), List.foldl_cons]
  refine parseUintM_ok r _ (by simpa [isDec] using h.2) ?_ (by omega)
  rw [e, Nat.pow_succ]; omega
theorem parseUintB_ok {l : List UInt8} (h : isDec l = true) (h0 : l ≠ []) (hl : l.length ≤ 18) : Lib.parseUintB 64 l = .ok (valD l) := by
 unfold Lib.parseUintB
 rw [if_neg h0]
 exact parseUintM_ok l 0 h (Nat.pow_pos (by omega)) hl
theorem three_args {us : Array Value} {d e f : AV} (h : [d, e, f].length = us.size) : ∃ u v x, us = #[u, v, x] := ⟨us[0]'(by simp at h; omega), us[1]'(by simp at h; omega), us[2]'(by simp at h; omega), by
 apply Array.ext
 · simp at h; simp; omega
 · intro i h1 h2
   simp at h2
   rcases i with _ | _ | _ | i
   · rfl
   · rfl
   · rfl
   · omega⟩
theorem primParseU_sound : CallSound Tryz.prog fun f args σ => if f = 124 then primParseU args σ else none := by
 intro f args σ r σ' hr ι Z w us hM hl hargs
 dsimp only at hr
 split at hr
 · rename_i e
   subst e
   unfold primParseU at hr
   split at hr
   · rename_i s b z
     split at hr
     · rename_i hc
       cases hr
       obtain ⟨⟨rfl, rfl⟩, h1, h2, h3⟩ := hc
       obtain ⟨u, u2, u3, rfl⟩ := three_args hl
       have hu := hargs 0 _ u rfl rfl
       have hu2 := hargs 1 _ u2 rfl rfl
       have hu3 := hargs 2 _ u3 rfl rfl
       cases hu; cases hu2; cases hu3
       refine ⟨Tryz.call124 _ _, (Tryz.strconv_ParseUint_10_at64_ok s (by omega) _ (parseUintB_ok h3 h2 (by rw [Array.length_toList]; exact h1)) w).mono ?_⟩
       rintro e w' ⟨rfl, hw⟩
       have hb : Below w.heap.size w w' := by
        rcases hw with rfl | rfl
        · exact Below.refl _ _
        · exact Lib.bytesWorld_below _ _ _
       refine ⟨ι, Z, .ofBelow hM hb, hM.below hb, _, rfl, .tup _ _ rfl fun i d u hd hu => ?_⟩
       rcases i with _ | _ | i
       · simp at hd hu; subst hd; subst hu; exact .lit _ rfl
       · simp at hd hu; subst hd; subst hu; exact .lit _ rfl
       · simp at hd
     · cases hr
   · cases hr
 · cases hr
noncomputable def codeEV (f : FuncId) : Option Func :=
 match f with
 | 3 => some Tryz.f3
 | 4 => some Tryz.f4
 | 9 => some Tryz.f9
 | 12 => some Tryz.f12
 | 14 => some Tryz.f14
 | 7 => some Tryz.f7
 | 28 => some Tryz.f28
 | 10 => some Tryz.f10
 | 5 => some Tryz.f5
 | 6 => some Tryz.f6
 | 8 => some Tryz.f8
 | 27 => some Tryz.f27
 | 32 => some Tryz.f32
 | 33 => some Tryz.f33
 | 20 => some Tryz.f20
 | 21 => some Tryz.f21
 | 22 => some Tryz.f22
 | 52 => some Tryz.f52
 | 23 => some Tryz.f23
 | 11 => some Tryz.f11
 | 13 => some Tryz.f13
 | 15 => some Tryz.f15
 | 16 => some Tryz.f16
 | 17 => some Tryz.f17
 | 18 => some Tryz.f18
 | 19 => some Tryz.f19
 | 50 => some Tryz.f50
 | 51 => some Tryz.f51
 | 60 => some Tryz.f60
 | 38 => some Tryz.f38
 | 39 => some Tryz.f39
 | 40 => some Tryz.f40
 | 42 => some Tryz.f42
 | 83 => some Tryz.f83
 | 84 => some Tryz.f84
 | 85 => some Tryz.f85
 | 86 => some Tryz.f86
 | 87 => some Tryz.f87
 | 24 => some Tryz.f24
 | 25 => some Tryz.f25
 | 29 => some Tryz.f29
 | 30 => some Tryz.f30
 | 31 => some Tryz.f31
 | 34 => some Tryz.f34
 | 35 => some Tryz.f35
 | 36 => some Tryz.f36
 | 37 => some Tryz.f37
 | 78 => some Tryz.f78
 | 80 => some Tryz.f80
 | 79 => some Tryz.f79
 | 66 => some Tryz.f66
 | 68 => some Tryz.f68
 | 69 => some Tryz.f69
 | 70 => some Tryz.f70
 | 106 => some Tryz.f106
 | 107 => some Tryz.f107
 | 105 => some Tryz.f105
 | 109 => some Tryz.f109
 | 108 => some Tryz.f108
 | 44 => some Tryz.f44
 | 45 => some Tryz.f45
 | 53 => some Tryz.f53
 | 54 => some Tryz.f54
 | 55 => some Tryz.f55
 | 56 => some Tryz.f56
 | 57 => some Tryz.f57
 | 58 => some Tryz.f58
 | 59 => some Tryz.f59
 | 61 => some Tryz.f61
 | 62 => some Tryz.f62
 | 63 => some Tryz.f63
 | 64 => some Tryz.f64
 | 65 => some Tryz.f65
 | 102 => some Tryz.f102
 | 103 => some Tryz.f103
 | 82 => some Tryz.f82
 | 81 => some Tryz.f81
 | 104 => some Tryz.f104
 | 94 => some Tryz.f94
 | 96 => some Tryz.f96
 | 97 => some Tryz.f97
 | 98 => some Tryz.f98
 | 125 => some Tryz.f125
 | 73 => some Tryz.f73
 | 74 => some Tryz.f74
 | 88 => some Tryz.f88
 | 89 => some Tryz.f89
 | 90 => some Tryz.f90
 | 91 => some Tryz.f91
 | 92 => some Tryz.f92
 | 93 => some Tryz.f93
 | 122 => some Tryz.f122
 | 123 => some Tryz.f123
 | 118 => some Tryz.f118
 | 119 => some Tryz.f119
 | 120 => some Tryz.f120
 | 111 => some Tryz.f111
 | 110 => some Tryz.f110
 | 112 => some Tryz.f112
 | 113 => some Tryz.f113
 | _ => none
noncomputable def primEV (f : FuncId) : Option (List AV → Sto → Option (ARes × Sto)) :=
 match f with
 | 26 => some primParse
 | 67 => some primFmtU
 | 124 => some primParseU
 | 71 => some primCheck
 | 43 => some primString
 | 41 => some primGrow
 | _ => none
def msEV (f : FuncId) : List TypeId :=
 match f with
 | 66 => [123]
 | 42 => [84]
 | _ => []
noncomputable def EV : Env := { code := codeEV, prim := primEV, ms := msEV }
theorem accEV {f : FuncId} (h : EV.prim f = none) {args : List AV} {σ σ' : Sto} {r : ARes} : accW EV f args σ r σ' = .calls σ.length fun a => extB σ σ' || keptB σ σ' a := by
 unfold accW
 exact @if_neg _ (Classical.propDecidable _) (fun ⟨g, hg, _⟩ => by rw [h] at hg; cases hg) _ _ _
theorem codeEV_ok (f : FuncId) (fn : Func) (h : codeEV f = some fn) : Tryz.prog.funcs[f]? = some fn ∧ ∀ args w, (callFunc f args).run Tryz.prog w = .ok (.enter f args) w := by
 unfold codeEV at h
 split at h
 · cases h; exact ⟨Tryz.func3, Tryz.call3⟩
 · cases h; exact ⟨Tryz.func4, Tryz.call4⟩
 · cases h; exact ⟨Tryz.func9, Tryz.call9⟩
 · cases h; exact ⟨Tryz.func12, Tryz.call12⟩
 · cases h; exact ⟨Tryz.func14, Tryz.call14⟩
 · cases h; exact ⟨Tryz.func7, Tryz.call7⟩
 · cases h; exact ⟨Tryz.func28, Tryz.call28⟩
 · cases h; exact ⟨Tryz.func10, Tryz.call10⟩
 · cases h; exact ⟨Tryz.func5, Tryz.call5⟩
 · cases h; exact ⟨Tryz.func6, Tryz.call6⟩
 · cases h; exact ⟨Tryz.func8, Tryz.call8⟩
 · cases h; exact ⟨Tryz.func27, Tryz.call27⟩
 · cases h; exact ⟨Tryz.func32, Tryz.call32⟩
 · cases h; exact ⟨Tryz.func33, Tryz.call33⟩
 · cases h; exact ⟨Tryz.func20, Tryz.call20⟩
 · cases h; exact ⟨Tryz.func21, Tryz.call21⟩
 · cases h; exact ⟨Tryz.func22, Tryz.call22⟩
 · cases h; exact ⟨Tryz.func52, Tryz.call52⟩
 · cases h; exact ⟨Tryz.func23, Tryz.call23⟩
 · cases h; exact ⟨Tryz.func11, Tryz.call11⟩
 · cases h; exact ⟨Tryz.func13, Tryz.call13⟩
 · cases h; exact ⟨Tryz.func15, Tryz.call15⟩
 · cases h; exact ⟨Tryz.func16, Tryz.call16⟩
 · cases h; exact ⟨Tryz.func17, Tryz.call17⟩
 · cases h; exact ⟨Tryz.func18, Tryz.call18⟩
 · cases h; exact ⟨Tryz.func19, Tryz.call19⟩
 · cases h; exact ⟨Tryz.func50, Tryz.call50⟩
 · cases h; exact ⟨Tryz.func51, Tryz.call51⟩
 · cases h; exact ⟨Tryz.func60, Tryz.call60⟩
 · cases h; exact ⟨Tryz.func38, Tryz.call38⟩
 · cases h; exact ⟨Tryz.func39, Tryz.call39⟩
 · cases h; exact ⟨Tryz.func40, Tryz.call40⟩
 · cases h; exact ⟨Tryz.func42, Tryz.call42⟩
 · cases h; exact ⟨Tryz.func83, Tryz.call83⟩
 · cases h; exact ⟨Tryz.func84, Tryz.call84⟩
 · cases h; exact ⟨Tryz.func85, Tryz.call85⟩
 · cases h; exact ⟨Tryz.func86, Tryz.call86⟩
 · cases h; exact ⟨Tryz.func87, Tryz.call87⟩
 · cases h; exact ⟨Tryz.func24, Tryz.call24⟩
 · cases h; exact ⟨Tryz.func25, Tryz.call25⟩
 · cases h; exact ⟨Tryz.func29, Tryz.call29⟩
 · cases h; exact ⟨Tryz.func30, Tryz.call30⟩
 · cases h; exact ⟨Tryz.func31, Tryz.call31⟩
 · cases h; exact ⟨Tryz.func34, Tryz.call34⟩
 · cases h; exact ⟨Tryz.func35, Tryz.call35⟩
 · cases h; exact ⟨Tryz.func36, Tryz.call36⟩
 · cases h; exact ⟨Tryz.func37, Tryz.call37⟩
 · cases h; exact ⟨Tryz.func78, Tryz.call78⟩
 · cases h; exact ⟨Tryz.func80, Tryz.call80⟩
 · cases h; exact ⟨Tryz.func79, Tryz.call79⟩
 · cases h; exact ⟨Tryz.func66, Tryz.call66⟩
 · cases h; exact ⟨Tryz.func68, Tryz.call68⟩
 · cases h; exact ⟨Tryz.func69, Tryz.call69⟩
 · cases h; exact ⟨Tryz.func70, Tryz.call70⟩
 · cases h; exact ⟨Tryz.func106, Tryz.call106⟩
 · cases h; exact ⟨Tryz.func107, Tryz.call107⟩
 · cases h; exact ⟨Tryz.func105, Tryz.call105⟩
 · cases h; exact ⟨Tryz.func109, Tryz.call109⟩
 · cases h; exact ⟨Tryz.func108, Tryz.call108⟩
 · cases h; exact ⟨Tryz.func44, Tryz.call44⟩
 · cases h; exact ⟨Tryz.func45, Tryz.call45⟩
 · cases h; exact ⟨Tryz.func53, Tryz.call53⟩
 · cases h; exact ⟨Tryz.func54, Tryz.call54⟩
 · cases h; exact ⟨Tryz.func55, Tryz.call55⟩
 · cases h; exact ⟨Tryz.func56, Tryz.call56⟩
 · cases h; exact ⟨Tryz.func57, Tryz.call57⟩
 · cases h; exact ⟨Tryz.func58, Tryz.call58⟩
 · cases h; exact ⟨Tryz.func59, Tryz.call59⟩
 · cases h; exact ⟨Tryz.func61, Tryz.call61⟩
 · cases h; exact ⟨Tryz.func62, Tryz.call62⟩
 · cases h; exact ⟨Tryz.func63, Tryz.call63⟩
 · cases h; exact ⟨Tryz.func64, Tryz.call64⟩
 · cases h; exact ⟨Tryz.func65, Tryz.call65⟩
 · cases h; exact ⟨Tryz.func102, Tryz.call102⟩
 · cases h; exact ⟨Tryz.func103, Tryz.call103⟩
 · cases h; exact ⟨Tryz.func82, Tryz.call82⟩
 · cases h; exact ⟨Tryz.func81, Tryz.call81⟩
 · cases h; exact ⟨Tryz.func104, Tryz.call104⟩
 · cases h; exact ⟨Tryz.func94, Tryz.call94⟩
 · cases h; exact ⟨Tryz.func96, Tryz.call96⟩
 · cases h; exact ⟨Tryz.func97, Tryz.call97⟩
 · cases h; exact ⟨Tryz.func98, Tryz.call98⟩
 · cases h; exact ⟨Tryz.func125, Tryz.call125⟩
 · cases h; exact ⟨Tryz.func73, Tryz.call73⟩
 · cases h; exact ⟨Tryz.func74, Tryz.call74⟩
 · cases h; exact ⟨Tryz.func88, Tryz.call88⟩
 · cases h; exact ⟨Tryz.func89, Tryz.call89⟩
 · cases h; exact ⟨Tryz.func90, Tryz.call90⟩
 · cases h; exact ⟨Tryz.func91, Tryz.call91⟩
 · cases h; exact ⟨Tryz.func92, Tryz.call92⟩
 · cases h; exact ⟨Tryz.func93, Tryz.call93⟩
 · cases h; exact ⟨Tryz.func122, Tryz.call122⟩
 · cases h; exact ⟨Tryz.func123, Tryz.call123⟩
 · cases h; exact ⟨Tryz.func118, Tryz.call118⟩
 · cases h; exact ⟨Tryz.func119, Tryz.call119⟩
 · cases h; exact ⟨Tryz.func120, Tryz.call120⟩
 · cases h; exact ⟨Tryz.func111, Tryz.call111⟩
 · cases h; exact ⟨Tryz.func110, Tryz.call110⟩
 · cases h; exact ⟨Tryz.func112, Tryz.call112⟩
 · cases h; exact ⟨Tryz.func113, Tryz.call113⟩
 · cases h
theorem EV_ok : EnvOk Tryz.prog EV where
 code := codeEV_ok
 prim := fun f g h => by
  have h : primEV f = some g := h
  unfold primEV at h
  split at h
  · cases h; exact primParse_sound
  · cases h; exact primFmtU_sound
  · cases h; exact primParseU_sound
  · cases h; exact primCheck_sound
  · cases h; exact primString_sound
  · cases h; exact primGrow_sound
  · cases h
def lb (l : List UInt8) : List AV := l.map fun b => .lit (.int .u8 b.toNat)
theorem lb_append (a b : List UInt8) : lb (a ++ b) = lb a ++ lb b := by simp [lb]
theorem lb_length (l : List UInt8) : (lb l).length = l.length := by simp [lb]
theorem byteAV_lb (s : ByteArray) : byteAV s = lb s.data.toList := rfl
theorem bytesAV_lb : ∀ l : List UInt8, bytesAV (lb l) = some l
 | [] => rfl
 | b :: l => by
  have hb : (0 : Int) ≤ (b.toNat : Int) ∧ (b.toNat : Int) < 256 := ⟨by omega, by have := b.toNat_lt; omega⟩
  show (if 0 ≤ (b.toNat : Int) ∧ (b.toNat : Int) < 256 then (bytesAV (lb l)).map (UInt8.ofNat (b.toNat : Int).toNat :: ·) else none) = _
  rw [if_pos hb, bytesAV_lb l]
  simp
def BufAt (σ0 σ : Sto) (id : Nat) (v : AV) (l : List UInt8) : Prop := (l = [] ∧ v = .sl [] .full) ∨ ∃ g, v = .asl g 0 l.length 1 ∧ g ≠ id ∧ σ0.length ≤ g ∧ (σ[g]? = some (.cells (lb l) 5) ∨ σ[g]? = some (.buf (lb l) 5))
def BldAt (σ0 σ : Sto) (id : Nat) (l : List UInt8) : Prop := σ0.length ≤ id ∧ ∃ v, σ[id]? = some (.cells [.ptr id 0, v] 86) ∧ BufAt σ0 σ id v l
theorem app_str (σ0 σ : Sto) (id : Nat) (v : AV) (l : List UInt8) (s : ByteArray) (cs : List AV) (hid : σ[id]? = some (.cells cs 86)) (h0 : σ0.length ≤ id) (hb : BufAt σ0 σ id v l) (hext : Ext σ0 σ) (hlen : l.length + s.size ≤ 140737488355328) :
    ∃ (v' : AV) (σ' : Sto) (acc : Acc), Ext σ0 σ' ∧ BufAt σ0 σ' id v' (l ++ s.data.toList) ∧ σ'[id]? = some (.cells cs 86) ∧ v'.one = true ∧
     ∀ (tm : List AV) (ds : Option Tmp) (ty : TypeId) (po : String) (af : Array Edge) (gu : Option (Nat × Bool)) (x y : Operand), evx tm x = some v → evx tm y = some (.lit (.string s)) →
      evStep Tryz.prog [84] (evx tm) σ ⟨ds, .call ⟨.builtin .append, #[x, y], #[84, 9]⟩, ty, po, af, gu⟩ = some (.val v' σ' acc) := by
 have hss : s.data.toList.length = s.size := by rw [Array.length_toList]; rfl
 have hz : ((Tryz.prog.info? 5).bind fun x => x.zero) = some (.int .u8 0) := zeroOf_5
 have step : ∀ (tm : List AV) (ds : Option Tmp) (ty : TypeId) (po : String) (af : Array Edge) (gu : Option (Nat × Bool)) (x y : Operand), evStep Tryz.prog [84] (evx tm) σ ⟨ds, .call ⟨.builtin .append, #[x, y], #[84, 9]⟩, ty, po, af, gu⟩ = evAppendS Tryz.prog (evx tm) σ 84 9 x y := by
  intro tm ds ty po af gu x y
  unfold evStep
  rw [if_pos (by simp [mutOp])]
  simp [evMut]
 rcases hb with ⟨rfl, rfl⟩ | ⟨g, rfl, hg1, hg2, hg3⟩
 · by_cases hs0 : s.size = 0
   · have hnil : s.data.toList = [] := List.eq_nil_of_length_eq_zero (by omega)
     refine ⟨.sl [] .full, σ, .pure, hext, .inl ⟨by rw [hnil]; rfl, rfl⟩, hid, rfl, fun tm ds ty po af gu x y hx hy => ?_⟩
     rw [step]
     unfold evAppendS
     simp only [Tryz.underlying84, Tryz.underlying9, hx, hy, szOf_5, bytesOf_5, hz]
     simp [hs0]
   · have hs1 : s.size ≤ 140737488355328 := by omega
     refine ⟨.asl σ.length 0 s.size 1, σ ++ [.cells (byteAV s) 5], .grows none σ.length, hext.push _, .inr ⟨σ.length, by simp [hss], fun e => ?_, hext.len, .inl ?_⟩, ?_, rfl, fun tm ds ty po af gu x y hx hy => ?_⟩
     · have := (List.getElem?_eq_some_iff.1 hid).1; omega
     · rw [List.getElem?_append_right (Nat.le_refl _)]; simp [byteAV_lb]
     · rw [List.getElem?_append_left (List.getElem?_eq_some_iff.1 hid).1]; exact hid
     · rw [step]
       unfold evAppendS
       simp only [Tryz.underlying84, Tryz.underlying9, hx, hy, szOf_5, bytesOf_5, hz]
       simp [hs0, hs1]
 · have hs1 : s.size ≤ 140737488355328 := by omega
   by_cases hs0 : s.size = 0
   · have hnil : s.data.toList = [] := List.eq_nil_of_length_eq_zero (by omega)
     refine ⟨.asl g 0 l.length 1, σ, .pure, hext, .inr ⟨g, by rw [hnil, List.append_nil], hg1, hg2, by rw [hnil, List.append_nil]; exact hg3⟩, hid, rfl, fun tm ds ty po af gu x y hx hy => ?_⟩
     rw [step]
     unfold evAppendS
     simp only [Tryz.underlying84, Tryz.underlying9, hx, hy, szOf_5, bytesOf_5, hz]
     simp [hs0]
   · have hle : l.length + s.size = (l ++ s.data.toList).length := by rw [List.length_append, hss]
     rcases hg3 with hg3 | hg3
     · have lg := (List.getElem?_eq_some_iff.1 hg3).1
       refine ⟨.asl σ.length 0 (l.length + s.size) 1, σ.set g .dead ++ [.cells (lb l ++ byteAV s) 5], .grows (some g) σ.length, (hext.set hg2).push _, .inr ⟨σ.length, by rw [hle], fun e => ?_, hext.len, .inl ?_⟩, ?_, rfl, fun tm ds ty po af gu x y hx hy => ?_⟩
       · have := (List.getElem?_eq_some_iff.1 hid).1; omega
       · rw [List.getElem?_append_right (by simp)]; simp [byteAV_lb, lb_append]
       · rw [List.getElem?_append_left (by simp; exact (List.getElem?_eq_some_iff.1 hid).1), List.getElem?_set_ne hg1]; exact hid
       · rw [step]
         unfold evAppendS
         simp only [Tryz.underlying84, Tryz.underlying9, hx, hy, szOf_5, bytesOf_5, hz]
         simp [hs0, hs1, hlen, hg3, lb_length]
         rw [List.take_of_length_le (by rw [lb_length]; exact Nat.le_refl _)]
     · have lg := (List.getElem?_eq_some_iff.1 hg3).1
       refine ⟨.asl σ.length 0 (l.length + s.size) 1, σ.set g .dead ++ [.buf (lb l ++ byteAV s) 5], .grows (some g) σ.length, (hext.set hg2).push _, .inr ⟨σ.length, by rw [hle], fun e => ?_, hext.len, .inr ?_⟩, ?_, rfl, fun tm ds ty po af gu x y hx hy => ?_⟩
       · have := (List.getElem?_eq_some_iff.1 hid).1; omega
       · rw [List.getElem?_append_right (by simp)]; simp [byteAV_lb, lb_append]
       · rw [List.getElem?_append_left (by simp; exact (List.getElem?_eq_some_iff.1 hid).1), List.getElem?_set_ne hg1]; exact hid
       · rw [step]
         unfold evAppendS
         simp only [Tryz.underlying84, Tryz.underlying9, hx, hy, szOf_5, bytesOf_5, hz]
         simp [hs0, hs1, hlen, hg3, lb_length]
end
section
open Go.RowKit
theorem grow_ev {σ0 σ : Sto} {id n : Nat} (h0 : σ0.length ≤ id) (hσ : σ[id]? = some (.cells [.lit (.pointer none), .sl [] .full] 86)) (hext : Ext σ0 σ) (hn : n ≤ 140737488355328) :
    CallW Tryz.prog EV 41 [.ptr id 0, .lit (.int .i64 n)] σ fun r σ' => r = .ret (.tup []) ∧ BldAt σ0 σ' id [] ∧ Ext σ0 σ' := by
 have hil := (List.getElem?_eq_some_iff.1 hσ).1
 have hc : 86 = 86 ∧ (0 : Int) ≤ (n : Int) ∧ (n : Int) ≤ 140737488355328 := ⟨rfl, by omega, by omega⟩
 by_cases hn0 : n = 0
 · subst hn0
   refine CallW.prim (g := primGrow) rfl (σ' := σ.set id (.cells [.ptr id 0, .sl [] .full] 86)) (r := .ret (.tup [])) ?_ ⟨rfl, ⟨h0, _, List.getElem?_set_self hil, .inl ⟨rfl, rfl⟩⟩, hext.set h0⟩
   simp [primGrow, hσ]
 · refine CallW.prim (g := primGrow) rfl (σ' := σ.set id (.cells [.ptr id 0, .asl σ.length 0 0 1] 86) ++ [.cells [] 5]) (r := .ret (.tup [])) ?_ ⟨rfl, ⟨h0, _, ?_, .inr ⟨σ.length, rfl, by omega, hext.len, .inl ?_⟩⟩, (hext.set h0).push _⟩
   · have hc2 : (n : Int) ≤ 140737488355328 := by omega
     simp [primGrow, hσ, hn0, hc2]
   · rw [List.getElem?_append_left (by simpa using hil)]; exact List.getElem?_set_self hil
   · rw [List.getElem?_append_right (by simp)]; simp [lb]
theorem check_ev {σ0 σ : Sto} {id : Nat} {l : List UInt8} (h : BldAt σ0 σ id l) : CallW Tryz.prog EV 71 [.ptr id 0] σ fun r σ' => r = .ret (.tup []) ∧ σ' = σ := by
 obtain ⟨h0, v, hσ, hb⟩ := h
 refine CallW.prim (g := primCheck) rfl (σ' := σ) (r := .ret (.tup [])) ?_ ⟨rfl, rfl⟩
 simp [primCheck, hσ]
theorem string_ev {σ0 σ : Sto} {id : Nat} {l : List UInt8} (h : BldAt σ0 σ id l) (hext : Ext σ0 σ) (hl : l ≠ []) (hmax : l.length ≤ 140737488355328) :
    CallW Tryz.prog EV 43 [.ptr id 0] σ fun r σ' => r = .ret (.lit (.string ⟨l.toArray⟩)) ∧ BldAt σ0 σ' id l ∧ Ext σ0 σ' := by
 obtain ⟨h0, v, hσ, hb⟩ := h
 rcases hb with ⟨rfl, _⟩ | ⟨g, rfl, hg1, hg2, hg3⟩
 · exact absurd rfl hl
 have hlen : 0 < l.length := List.length_pos_iff.2 hl
 have hll := lb_length l
 have htk : (lb l).take l.length = lb l := List.take_of_length_le (by rw [hll]; exact Nat.le_refl _)
 have lg : g < σ.length := by rcases hg3 with h | h <;> exact (List.getElem?_eq_some_iff.1 h).1
 refine CallW.prim (g := primString) rfl (σ' := σ.set g (.buf (lb l) 5)) (r := .ret (.lit (.string ⟨l.toArray⟩))) ?_ ⟨rfl, ⟨h0, _, by rw [List.getElem?_set_ne hg1]; exact hσ, .inr ⟨g, rfl, hg1, hg2, .inr (List.getElem?_set_self lg)⟩⟩, hext.set hg2⟩
 rcases hg3 with hg3 | hg3
 · simp [primString, hσ, hlen, hmax, hg3, hll, htk, bytesAV_lb]
 · simp [primString, hσ, hlen, hmax, hg3, hll, htk, bytesAV_lb]
theorem writeString_core {σ0 σ00 σ : Sto} {id : Nat} {l : List UInt8} (hchk : CallW Tryz.prog EV 71 [.ptr id 0] σ00 fun r σ' => r = .ret (.tup []) ∧ σ' = σ) (h : BldAt σ0 σ id l) (hext : Ext σ0 σ) (s : ByteArray) (hlen2 : l.length + s.size ≤ 140737488355328) :
    CallW Tryz.prog EV 42 [.ptr id 0, .lit (.string s)] σ00 fun r σ' => (∃ v, r = .ret v) ∧ BldAt σ0 σ' id (l ++ s.data.toList) ∧ Ext σ0 σ' := by
 obtain ⟨h0, v, hσ, hb⟩ := h
 have hil := (List.getElem?_eq_some_iff.1 hσ).1
 obtain ⟨v', σ', acc, e1, b1, hid', hone, hap⟩ := app_str σ0 σ id v l s _ hσ h0 hb hext hlen2
 have hil' := (List.getElem?_eq_some_iff.1 hid').1
 refine CallW.start (fn := Tryz.f42) (M := [84]) rfl rfl rfl rfl (by simp) fun tm hlen hs => ?_
 have g0 := hs 0 _ rfl
 have g1 := hs 1 _ rfl
 clear hs
 simp at hlen
 refine CW.hide fun R0 hR0 => ?_
 refine CW.seqK fun K hK => CW.region ?_
 simp [symB, List.length_set, andThen, hlen, g0, g1]
 refine hK _ _ ?_; clear hK K
 refine CW.seqK fun K hK => CW.region ?_
 simp (maxDischargeDepth := 8) [symB, List.length_set, andThen, hlen, g0, g1]
 refine hchk.mono ?_
 rintro r σ2 ⟨rfl, rfl⟩
 simp (maxDischargeDepth := 8) [symB, List.length_set, retK, andThen, hlen]
 refine hK _ _ ?_; clear hK K
 refine CW.seqK fun K hK => CW.region ?_
 have hc1 : AV.cells v' = [v'] := by cases v' <;> first | rfl | simp [AV.one] at hone
 have ht1 : AV.notTup v' = true := by cases v' <;> first | rfl | simp [AV.one] at hone
 have hst : ∀ (tm : List AV) (ty : TypeId) (po : String) (af : Array Edge) (gu : Option (Nat × Bool)) (x y : Operand), evx tm x = some (.ptr id 1) → evx tm y = some v' → evStep Tryz.prog [84] (evx tm) σ' ⟨none, .store 84 x y, ty, po, af, gu⟩ = some (.skip (σ'.set id (.cells [.ptr id 0, v'] 86)) (.writes id)) := by
  intro tm ty po af gu x y hx hy
  rw [es_store]
  unfold evStepU
  have hl : evLit Tryz.prog (evx tm) σ' ⟨none, .store 84 x y, ty, po, af, gu⟩ = none := by
   unfold evLit
   simp [Op.operands, hx, conc, conc2]
  rw [hl]
  simp [evPure, evMem, hx, hy, hid', hc1, ht1, putCells]
 simp (maxDischargeDepth := 8) [symB, List.length_set, andThen, hlen, g0, g1, hσ, hap, hst]
 refine hK _ _ ?_; clear hK K
 refine CW.seqK fun K hK => CW.region ?_
 simp (maxDischargeDepth := 8) [symB, List.length_set, andThen, hlen, g1]
 refine hK _ _ ?_; clear hK K
 refine CW.ret (hR0 _ _ _ ?_)
 refine ⟨_, by simp [zA, omap, zB, slot_eq, slot_ne, hlen]; rfl, ⟨_, rfl⟩, ⟨h0, v', List.getElem?_set_self hil', ?_⟩, e1.set h0⟩
 rcases b1 with b1 | ⟨g, q1, q2, q3, q4⟩
 · exact .inl b1
 · refine .inr ⟨g, q1, q2, q3, ?_⟩
   rw [List.getElem?_set_ne (Ne.symm q2)]
   exact q4
theorem writeString_ev {σ0 σ : Sto} {id : Nat} {l : List UInt8} (h : BldAt σ0 σ id l) (hext : Ext σ0 σ) (s : ByteArray) (hlen2 : l.length + s.size ≤ 140737488355328) :
    CallW Tryz.prog EV 42 [.ptr id 0, .lit (.string s)] σ fun r σ' => (∃ v, r = .ret v) ∧ BldAt σ0 σ' id (l ++ s.data.toList) ∧ Ext σ0 σ' := writeString_core (check_ev h) h hext s hlen2
theorem writeString0_ev {σ0 σ : Sto} {id : Nat} (h0 : σ0.length ≤ id) (hσ : σ[id]? = some (.cells [.lit (.pointer none), .sl [] .full] 86)) (hext : Ext σ0 σ) (s : ByteArray) (hlen2 : s.size ≤ 140737488355328) :
    CallW Tryz.prog EV 42 [.ptr id 0, .lit (.string s)] σ fun r σ' => (∃ v, r = .ret v) ∧ BldAt σ0 σ' id s.data.toList ∧ Ext σ0 σ' := by
 have hil := (List.getElem?_eq_some_iff.1 hσ).1
 refine (writeString_core (σ := σ.set id (.cells [.ptr id 0, .sl [] .full] 86)) (l := []) (CallW.prim (g := primCheck) rfl (σ' := σ.set id (.cells [.ptr id 0, .sl [] .full] 86)) (r := .ret (.tup [])) (by simp [primCheck, hσ]) ⟨rfl, rfl⟩) ⟨h0, _, List.getElem?_set_self hil, .inl ⟨rfl, rfl⟩⟩ (hext.set h0) s (by simpa using hlen2)).mono ?_
 rintro r σ' ⟨h1, h2, h3⟩
 exact ⟨h1, by simpa using h2, h3⟩
end
end Go.Proofs.YtmmgjaheffbpaaaGreatDoor
