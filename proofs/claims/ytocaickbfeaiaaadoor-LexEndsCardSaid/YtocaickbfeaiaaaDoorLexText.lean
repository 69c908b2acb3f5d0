/-
  THE WALK of lex.Text: what it writes (textR).
-/
import Derived.Test.YtocaickbfeaiaaaDoorBuilderW
import Derived.Test.YtocaickbfeaiaaaDoorLexLaw
import Derived.StillTailTactics
namespace Go.Proofs.YtocaickbfeaiaaaDoor
set_option linter.unusedSimpArgs false
set_option linter.unusedVariables false
set_option maxRecDepth 100000
open Go.RowKit

mutual
def textI : Tr → List UInt8
  | .mk x k r _ => if r then 40 :: (textR true k ++ [41]) else x
def textR : Bool → List Tr → List UInt8
  | _, [] => []
  | first, t :: l => (if first then [] else [32]) ++ (textI t ++ textR false l)
end

theorem lies_writer : liesAt Tryd.prog Tryd.prog.depth 69 (2 / Tryd.prog.cellsOf 69) 0 44 1 = true := by kernel_rfl
theorem lies_builder : liesAt Tryd.prog Tryd.prog.depth 44 (2 / Tryd.prog.cellsOf 44) 0 44 1 = true := by kernel_rfl

theorem Bld.stays {T : TypeId} {B : Nat} {w w' : World} {b : Nat} {v : Value} {l : List UInt8} (h : Bld T B w b v l) (hg : Below w.heap.size w w') : Bld T B w' b v l := by
  obtain ⟨p, hp, hb, ho, hne⟩ := h
  exact ⟨p, hp, hb.below hg, ho.kept (grownBy_of_below hg none) (by rcases h : v.ownBlock with _ | k; exact .inl rfl; exact .inr (by simp)), hne⟩

theorem Wrote.refl {T : TypeId} {B : Nat} {w : World} {b : Nat} {v : Value} {l : List UInt8} (h : Bld T B w b v l) : Wrote T B w b v l w := ⟨v, h, Grown2.refl _ _ _, .inl rfl⟩
theorem Grown2.below' {w w' : World} {b : Nat} {v : Value} (h : Below w.heap.size w w') : Grown2 w w' b v := ⟨h.os, h.tape, h.output, h.size, fun k hk _ _ => h.block k hk⟩
theorem Wrote.below {T : TypeId} {B : Nat} {w w1 w2 : World} {b : Nat} {v : Value} {l : List UInt8} (h : Wrote T B w b v l w1) (hb : Below w1.heap.size w1 w2) : Wrote T B w b v l w2 := by
  obtain ⟨v1, h1, g1, o1⟩ := h
  exact ⟨v1, h1.stays hb, g1.trans (Grown2.below' hb) o1, o1⟩
theorem Wrote.alloc {T : TypeId} {B : Nat} {w w1 : World} {b : Nat} {v : Value} {l : List UInt8} (h : Wrote T B w b v l w1) (x : Obj) : Wrote T B w b v l (w1.alloc x) := h.below ((Below.refl _ w1).alloc (Nat.le_refl _) x)
theorem Wrote.then {T : TypeId} {B : Nat} {w w1 w2 : World} {b : Nat} {v v1 : Value} {l : List UInt8} (g1 : Grown2 w w1 b v) (o1 : v1.ownBlock = v.ownBlock ∨ ∃ k, v1.ownBlock = some k ∧ w.heap.size ≤ k) (h : Wrote T B w1 b v1 l w2) : Wrote T B w b v l w2 := by
  obtain ⟨v2, h2, g2, o2⟩ := h
  refine ⟨v2, h2, g1.trans g2 o1, ?_⟩
  rcases o2 with o2 | ⟨k, o2, hk⟩
  · rw [o2]; exact o1
  · exact .inr ⟨k, o2, Nat.le_trans g1.size hk⟩

theorem Rep.g2 {w w' : World} {F : Nat → Prop} {u v : Value} {d : D} {b : Nat} (h : Rep w F u d) (g : Grown2 w w' b v) (hF : ∀ k, F k → k ≠ b ∧ some k ≠ v.ownBlock) : Rep w' F u d :=
  h.stays fun k hk hl => g.block k hl (hF k hk).1 (hF k hk).2

theorem Blk.wrote {w w' : World} {k : Nat} {c : Array Value} {t : TypeId} (h : Blk w k c t) {b : Nat} {v : Value} (g : Grown2 w w' b v) (hb : k ≠ b) (hv : some k ≠ v.ownBlock) : Blk w' k c t := h.stays (g.block k h.lt hb hv)

theorem own_new {v1 v : Value} {n k : Nat} (o : v1.ownBlock = v.ownBlock ∨ ∃ k, v1.ownBlock = some k ∧ n ≤ k) (hk : k < n) (hv : some k ≠ v.ownBlock) : some k ≠ v1.ownBlock := by
  rcases o with o | ⟨j, o, hj⟩
  · rw [o]; exact hv
  · rw [o]; intro e; cases e; omega

structure TSt (B : Nat) (w wc : World) (b : Nat) (v vc : Value) (lc : List UInt8) (N : Nat) (c : Array Value) : Prop where
  bld : Bld 69 B wc b vc lc
  g : Grown2 w wc b v
  o : vc.ownBlock = v.ownBlock ∨ ∃ k, vc.ownBlock = some k ∧ w.heap.size ≤ k
  blk : Blk wc N c 35
  nb : N ≠ b
  nv : some N ≠ vc.ownBlock

theorem TSt.step {B : Nat} {w wc wn : World} {b : Nat} {v vc : Value} {lc l' : List UInt8} {N : Nat} {c : Array Value} (h : TSt B w wc b v vc lc N c) (hw : Wrote 69 B wc b vc l' wn) : ∃ vn, TSt B w wn b v vn l' N c := by
  obtain ⟨vn, hb, g, o⟩ := hw
  refine ⟨vn, hb, h.g.trans g h.o, ?_, h.blk.wrote g h.nb h.nv, h.nb, own_new o h.blk.lt h.nv⟩
  rcases o with o | ⟨k, o, hk⟩
  · rw [o]; exact h.o
  · exact .inr ⟨k, o, Nat.le_trans h.g.size hk⟩
theorem TSt.below {B : Nat} {w wc wn : World} {b : Nat} {v vc : Value} {lc : List UInt8} {N : Nat} {c : Array Value} (h : TSt B w wc b v vc lc N c) (hb : Below wc.heap.size wc wn) : TSt B w wn b v vc lc N c :=
  ⟨h.bld.stays hb, h.g.trans (Grown2.below' hb) h.o, h.o, h.blk.below hb, h.nb, h.nv⟩
theorem TSt.out {B : Nat} {w wc : World} {b : Nat} {v vc : Value} {lc : List UInt8} {N : Nat} {c : Array Value} (h : TSt B w wc b v vc lc N c) : Wrote 69 B w b v lc wc := ⟨vc, h.bld, h.g, h.o⟩

set_option maxHeartbeats 4000000 in
theorem trees_walk (n : Nat) : ∀ (xs : List Tr) (va v : Value) (F : Nat → Prop) (B b : Nat) (l : List UInt8) (w : World), SizeOf.sizeOf xs < n → Rep w F va (.sl (encTrs xs)) → Bld 69 B w b v l →
    (∀ k, F k → k ≠ b ∧ some k ≠ v.ownBlock) → l.length + (textR true xs).length ≤ 140737488355328 → B ≤ w.heap.size →
    Calls Tryd.prog 27 #[.pointer (some ⟨b, 0, none⟩), va] w fun e w' => e = .returned (.tuple #[]) ∧ Wrote 69 B w b v (l ++ textR true xs) w' := by
  induction n with
  | zero => intro xs va v F B b l w h; omega
  | succ n ih =>
    intro xs va v F B b l w hn ha hbd hF hlen hB
    have hma := ha.trees_max
    unfold maxLen at hma
    obtain ⟨aa, ca, rfl⟩ := ha.trees_len
    have HA := Lib.hid ha.lt
    have HF : Hid (∀ k, F k ∧ k < w.heap.size → k ≠ b ∧ some k ≠ v.ownBlock) := Lib.hid fun k hk => hF k hk.1
    have IH := Lib.hid ih
    have hbw := hbd.lt
    have HBD := Lib.hid hbd
    clear ha ih hF hbd
    go_enter Tryd.func27, Tryd.ntmps27
    go_wp2_with fail
    go_loopg [8] xs.length (fun k iv wr => ∃ (i : Nat) (li : List UInt8), i ≤ xs.length ∧ k = xs.length - i ∧ iv = .int .i64 i ∧ l ++ textR true xs = li ++ textR (decide (i = 0)) (xs.drop i) ∧ Wrote 69 B w b v li wr)
    case atStart => exact ⟨0, l, Nat.zero_le _, rfl, rfl, by simp, Wrote.refl HBD.out⟩
    case round =>
      obtain ⟨i, li, hi, hk, rfl, hs, hwr⟩ := hrel
      have HK := Lib.hid hk
      have HS := Lib.hid hs
      have HW := Lib.hid hwr
      obtain ⟨v0, hb0, g0, o0⟩ := hwr
      have hws := g0.size
      have hb0l := hb0.lt
      have hrow := Lib.hid hb0.row
      have hll : li.length + (textR (decide (i = 0)) (xs.drop i)).length ≤ 140737488355328 := by
        rw [← List.length_append, ← hs, List.length_append]; exact hlen
      have HB0 := Lib.hid hb0
      have G0 := Lib.hid g0
      have O0 := Lib.hid o0
      have HLL := Lib.hid hll
      clear hk hs hb0 g0 o0 hll
      by_cases hlt : i < xs.length
      · have hlt' : (i : Int) < xs.length := by omega
        obtain ⟨b1, o1, c1, e1, hc1, hm1, hF1, f1⟩ := (HA.out.g2 G0.out HF.out).trees (by omega)
        obtain ⟨_, _, _, e2, _, _, _, f2⟩ := HA.out.trees (by omega)
        simp only [Value.slice.injEq] at e1
        obtain ⟨rfl, _, rfl⟩ := e1
        simp only [Value.slice.injEq, Option.some.injEq, Addr.mk.injEq] at e2
        obtain ⟨⟨rfl, rfl, _⟩, _, hcc⟩ := e2
        clear hcc
        have g1 := f1 i xs[i] (List.getElem?_eq_getElem hlt)
        have g2 := f2 i xs[i] (List.getElem?_eq_getElem hlt)
        have hx := List.drop_eq_getElem_cons hlt
        have hsz : SizeOf.sizeOf xs[i].kids < n := by
          have h1 := List.sizeOf_lt_of_mem (List.getElem_mem hlt)
          have h2 : SizeOf.sizeOf xs[i].kids < SizeOf.sizeOf xs[i] := by cases xs[i]; simp [Tr.kids]; omega
          omega
        generalize xs[i] = tx at *
        obtain ⟨x, kx, rx, ax⟩ := tx
        obtain ⟨d0, ⟨kv, d1, _⟩, d2, d3⟩ := g1
        obtain ⟨_, ⟨kw, q1, r1⟩, _, _⟩ := g2
        have hkw : kw = kv := by
          have e : wr.cell? ⟨b1, o1 + i * 4 + 1, none⟩ = w.cell? ⟨b1, o1 + i * 4 + 1, none⟩ := World.cell?_of_block (G0.out.block _ (World.block_lt_of_cell? w _ q1) (HF.out _ hF1).1 (HF.out _ hF1).2)
          rw [d1, q1] at e
          exact (Option.some.inj e).symm
        subst hkw
        simp only [Tr.word, Tr.kids, Tr.row, Tr.at_] at *
        obtain ⟨ka, kc, rfl⟩ := r1.trees_len
        have HX := Lib.hid hx
        have R1 := Lib.hid r1
        have hlt1 : b1 < wr.heap.size := World.block_lt_of_cell? wr _ d0
        clear f1 f2 hx r1 q1
        have S0 : Hid (TSt B w (wr.alloc (.cells #[.string ⟨x.toArray⟩, .slice ka kx.length kc, .bool rx, .int .i64 ax] 35)) b v v0 li wr.heap.size #[.string ⟨x.toArray⟩, .slice ka kx.length kc, .bool rx, .int .i64 ax]) := Lib.hid
          ⟨HB0.out.stays ((Below.refl _ wr).alloc (Nat.le_refl _) _), G0.out.trans (Grown2.below' ((Below.refl _ wr).alloc (Nat.le_refl _) _)) O0.out, O0.out, Blk.new wr _ _, by omega, fun e => by have := (hrow.out _ e.symm).2; omega⟩
        by_cases h0 : (i : Int) > 0
        · have hi0 : i ≠ 0 := by omega
          go_wp2_with fail
          refine (writeByte_any _ lies_writer B b _ _ 32 _ S0.out.bld ?len ?b0).mono ?_
          case len =>
            have := HLL.out
            rw [HX.out] at this
            simp [textR, hi0] at this
            omega
          case b0 => have := S0.out.g.size; omega
          rintro e w1 ⟨rfl, hw1⟩
          obtain ⟨v1, s1⟩ := S0.out.step hw1
          have S1 := Lib.hid s1
          clear hw1 s1
          have hk0 := S1.out.blk.cell 0
          have hk1 := S1.out.blk.cell 1
          have hk2 := S1.out.blk.cell 2
          simp at hk0 hk1 hk2
          have hsz1 := S1.out.g.size
          cases rx with
          | false =>
            go_wp2_with fail
            refine wp_region_still_tail 5 (by kernel_rfl) (by kernel_rfl) ?_
            simp only [List.take_succ_cons, List.take_zero, List.drop_succ_cons, List.drop_zero, World.drew_eq]
            repeat still_step
            refine wpStill_nil ?_
            go_wp2_with fail
            have S2 := S1.out.below ((Below.refl _ _).drew)
            refine (writeString_any _ lies_writer B b _ _ ⟨x.toArray⟩ _ S2.bld ?len ?b0).mono ?_
            case len =>
              have := HLL.out
              rw [HX.out] at this
              simp [textR, textI, hi0] at this
              simp [ByteArray.size]
              omega
            case b0 => have := S2.g.size; omega
            rintro e w3 ⟨rfl, hw3⟩
            obtain ⟨v3, s3⟩ := S2.step hw3
            have S3 := Lib.hid s3
            clear hw3 s3 S2
            go_wp2_with fail
            go_roundg (xs.length - (i + 1))
            case measure => rw [HK.out]; omega
            case rel =>
              refine ⟨i + 1, _, by omega, rfl, by go_num, ?_, S3.out.out⟩
              rw [HS.out, HX.out, textR]
              simp [textI, hi0]
          | true =>
            have HL2 : Hid ((li ++ [32]).length + 1 + (textR true kx).length + 1 ≤ 140737488355328) := Lib.hid (by
              have := HLL.out
              rw [HX.out] at this
              simp [textR, textI, hi0] at this
              simp
              omega)
            go_wp2_with fail
            refine (writeByte_any _ lies_writer B b _ _ 40 _ S1.out.bld ?len ?b0).mono ?_
            case len => have := HL2.out; omega
            case b0 => omega
            rintro e w2 ⟨rfl, hw2⟩
            obtain ⟨v2, s2⟩ := S1.out.step hw2
            have S2 := Lib.hid s2
            clear hw2 s2
            have m1 := S2.out.blk.cell 1
            simp at m1
            have hsz2 := S2.out.g.size
            go_wp2_with fail
            refine (IH.out kx _ v2 _ B b _ w2 hsz ?rep S2.out.bld (fun k (hk : F k ∧ k < w.heap.size) => ⟨(HF.out k hk).1, own_new S2.out.o hk.2 (HF.out k hk).2⟩) ?len ?b0).mono ?_
            case rep => exact (R1.out.g2 S2.out.g HF.out)
            case len => have := HL2.out; simp at this ⊢; omega
            case b0 => omega
            rintro e w3 ⟨rfl, hw3⟩
            obtain ⟨v3, s3⟩ := S2.out.step hw3
            have S3 := Lib.hid s3
            clear hw3 s3
            have hsz3 := S3.out.g.size
            go_wp2_with fail
            refine (writeByte_any _ lies_writer B b _ _ 41 _ S3.out.bld ?len ?b0).mono ?_
            case len => have := HL2.out; simp at this ⊢; omega
            case b0 => omega
            rintro e w4 ⟨rfl, hw4⟩
            obtain ⟨v4, s4⟩ := S3.out.step hw4
            have S4 := Lib.hid s4
            clear hw4 s4
            go_wp2_with fail
            go_roundg (xs.length - (i + 1))
            case measure => rw [HK.out]; omega
            case rel =>
              refine ⟨i + 1, _, by omega, rfl, by go_num, ?_, S4.out.out⟩
              rw [HS.out, HX.out, textR]
              simp [textI, hi0]
        · have hi0 : Hid (i = 0) := Lib.hid (by omega)
          have h0' : decide (0 < i) = false := by have := hi0.out; simp [this]
          clear h0
          have S1 := S0
          have hk0 := S1.out.blk.cell 0
          have hk1 := S1.out.blk.cell 1
          have hk2 := S1.out.blk.cell 2
          simp at hk0 hk1 hk2
          have hsz1 := S1.out.g.size
          cases rx with
          | false =>
            go_wp2_with fail
            refine wp_region_still_tail 5 (by kernel_rfl) (by kernel_rfl) ?_
            simp only [List.take_succ_cons, List.take_zero, List.drop_succ_cons, List.drop_zero, World.drew_eq]
            repeat still_step
            refine wpStill_nil ?_
            go_wp2_with fail
            have S2 := S1.out.below ((Below.refl _ _).drew)
            refine (writeString_any _ lies_writer B b _ _ ⟨x.toArray⟩ _ S2.bld ?len ?b0).mono ?_
            case len =>
              have := HLL.out
              rw [HX.out] at this
              simp [textR, textI, hi0.out] at this
              simp [ByteArray.size]
              omega
            case b0 => have := S2.g.size; omega
            rintro e w3 ⟨rfl, hw3⟩
            obtain ⟨v3, s3⟩ := S2.step hw3
            have S3 := Lib.hid s3
            clear hw3 s3 S2
            go_wp2_with fail
            go_roundg (xs.length - (i + 1))
            case measure => rw [HK.out]; omega
            case rel =>
              refine ⟨i + 1, _, by omega, rfl, by go_num, ?_, S3.out.out⟩
              rw [HS.out, HX.out, textR]
              simp [textI, hi0.out]
          | true =>
            have HL2 : Hid ((li).length + 1 + (textR true kx).length + 1 ≤ 140737488355328) := Lib.hid (by
              have := HLL.out
              rw [HX.out] at this
              simp [textR, textI, hi0.out] at this
              simp
              omega)
            go_wp2_with fail
            refine (writeByte_any _ lies_writer B b _ _ 40 _ S1.out.bld ?len ?b0).mono ?_
            case len => have := HL2.out; omega
            case b0 => omega
            rintro e w2 ⟨rfl, hw2⟩
            obtain ⟨v2, s2⟩ := S1.out.step hw2
            have S2 := Lib.hid s2
            clear hw2 s2
            have m1 := S2.out.blk.cell 1
            simp at m1
            have hsz2 := S2.out.g.size
            go_wp2_with fail
            refine (IH.out kx _ v2 _ B b _ w2 hsz ?rep S2.out.bld (fun k (hk : F k ∧ k < w.heap.size) => ⟨(HF.out k hk).1, own_new S2.out.o hk.2 (HF.out k hk).2⟩) ?len ?b0).mono ?_
            case rep => exact (R1.out.g2 S2.out.g HF.out)
            case len => have := HL2.out; simp at this ⊢; omega
            case b0 => omega
            rintro e w3 ⟨rfl, hw3⟩
            obtain ⟨v3, s3⟩ := S2.out.step hw3
            have S3 := Lib.hid s3
            clear hw3 s3
            have hsz3 := S3.out.g.size
            go_wp2_with fail
            refine (writeByte_any _ lies_writer B b _ _ 41 _ S3.out.bld ?len ?b0).mono ?_
            case len => have := HL2.out; simp at this ⊢; omega
            case b0 => omega
            rintro e w4 ⟨rfl, hw4⟩
            obtain ⟨v4, s4⟩ := S3.out.step hw4
            have S4 := Lib.hid s4
            clear hw4 s4
            go_wp2_with fail
            go_roundg (xs.length - (i + 1))
            case measure => rw [HK.out]; omega
            case rel =>
              refine ⟨i + 1, _, by omega, rfl, by go_num, ?_, S4.out.out⟩
              rw [HS.out, HX.out, textR]
              simp [textI, hi0.out]
      · have hlt' : ¬ (i : Int) < xs.length := by omega
        go_wp2_with fail
        go_end0
        refine ⟨rfl, ?_⟩
        rw [HS.out, List.drop_eq_nil_of_le (by omega), textR, List.append_nil]
        exact HW.out

set_option maxHeartbeats 1000000 in
theorem text_any (xs : List Tr) (va : Value) (F : Nat → Prop) (w : World) (ha : Rep w F va (.sl (encTrs xs))) (hlen : (textR true xs).length ≤ 140737488355328) :
    Calls Tryd.prog 9 #[va] w fun e w' => e = .returned (.string ⟨(textR true xs).toArray⟩) ∧ Below w.heap.size w w' := by
  obtain ⟨aa, ca, rfl⟩ := ha.trees_len
  have HA := Lib.hid ha
  clear ha
  go_enter Tryd.func9, Tryd.ntmps9
  go_wp2_with fail
  refine (trees_walk (SizeOf.sizeOf xs + 1) xs _ _ (fun k => k < w.heap.size) w.heap.size w.heap.size [] _ (by omega) ((HA.out.lt.ext ((Below.refl _ w).alloc (Nat.le_refl _) _)).mono fun k hk => hk.2) (Bld.new _ _ w (Nat.le_refl _)) (fun k hk => ⟨by omega, by simp [Value.ownBlock]⟩) (by simpa using hlen) (by simp)).mono ?_
  rintro e w1 ⟨rfl, v1, hb1, g1, o1⟩
  have hs1 := g1.size
  simp at hs1
  have HB1 := Lib.hid hb1
  have G1 := Lib.hid g1
  clear hb1 g1 o1
  go_wp2_with fail
  refine (string_any _ w.heap.size _ v1 _ w1 HB1.out (by omega)).mono ?_
  rintro e w2 ⟨rfl, hb2⟩
  have HB2 := Lib.hid hb2
  clear hb2
  go_wp2_with fail
  go_ret
  refine ⟨rfl, ?_⟩
  have hg : Below w.heap.size w w1 := ((Below.refl _ w).alloc (Nat.le_refl _) _).trans (G1.out.below (Nat.le_refl _) (by intro k hk; simp [Value.ownBlock] at hk) (by simp))
  exact hg.trans HB2.out

end Go.Proofs.YtocaickbfeaiaaaDoor
