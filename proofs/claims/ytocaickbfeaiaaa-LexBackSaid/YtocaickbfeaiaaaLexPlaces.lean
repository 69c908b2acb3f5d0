/-
  THE WALK of places (where every tree lies in the text).
-/
import Derived.Test.YtocaickbfeaiaaaLexDeep
namespace Go.Proofs.Ytocaickbfeaiaaa
open Go.RowKit

def stopT (t : Nat) : List Tr → Nat
  | [] => t
  | .mk _ _ _ a :: _ => a.toNat

/-- every tree of the list lies in the text where it says, from f on, and below t -/
def Pl (s : List UInt8) : List Tr → Nat → Nat → Prop
  | [], _, _ => True
  | .mk x k r a :: l, f, t => ∃ p : Nat, a = p ∧ f ≤ p ∧ p < t ∧
      (if r then s[p]? = some 40 ∧ x = [] ∧ stopT t l ≤ t ∧ Pl s k (p + 1) (stopT t l) ∧ Pl s l (p + 1) t
       else k = [] ∧ x ≠ [] ∧ x.length ≤ t - p ∧ (s.drop p).take x.length = x ∧ Pl s l (p + x.length) t)

theorem below_drewN {B : Nat} {a b : World} (h : Below B a b) (n : Nat) : Below B a (b.drewN n) := ⟨h.os, h.tape, h.output, h.size, h.block⟩
theorem below_chain' {B : Nat} {a b c : World} (h : Below B a b) (g : Below b.heap.size b c) (hB : B ≤ b.heap.size := by omega) : Below B a c := h.trans (g.mono hB)

set_option maxHeartbeats 4000000 in
set_option maxRecDepth 20000 in
theorem places_any (n : Nat) : ∀ (s : ByteArray) (xs : List Tr) (v : Value) (f t : Nat) (F : Nat → Prop) (w : World), SizeOf.sizeOf xs < n → s.size ≤ 262144 → t ≤ s.size → Rep w F v (.sl (encTrs xs)) → Pl s.data.toList xs f t →
    Calls Try.prog 17 #[.string s, v, .int .i64 f, .int .i64 t] w fun e w' => e = .returned (.bool true) ∧ Below w.heap.size w w' := by
  induction n with
  | zero => intro s xs v f t F w h; omega
  | succ n ih =>
    intro s xs v f t F w hn hsz ht ha hpl
    have hma := ha.trees_max
    unfold maxLen at hma
    obtain ⟨aa, ca, rfl⟩ := ha.trees_len
    have HA := Lib.hid ha
    have IH := Lib.hid ih
    have HP := Lib.hid hpl
    clear ha ih hpl
    go_enter Try.func17, Try.ntmps17
    go_wp2_with fail
    go_loopg [2, 9] xs.length (fun k fv iv wr => ∃ i m : Nat, i ≤ xs.length ∧ k = xs.length - i ∧ iv = .int .i64 i ∧ fv = .int .i64 m ∧ Pl s.data.toList (xs.drop i) m t ∧ Below w.heap.size w wr)
    case atStart => exact ⟨0, f, Nat.zero_le _, rfl, rfl, rfl, HP.out, Below.refl _ _⟩
    case round =>
      obtain ⟨i, m, hi, hk, rfl, rfl, hs, hb⟩ := hrel
      have hwr := hb.size
      have HK := Lib.hid hk
      have HS := Lib.hid hs
      have HB := Lib.hid hb
      clear hk hs hb
      by_cases hlt : i < xs.length
      · have hlt' : (i : Int) < xs.length := by omega
        obtain ⟨b1, o1, c1, e1, hc1, hm1, _, f1⟩ := (HA.out.ext HB.out).trees (by omega)
        simp only [Value.slice.injEq] at e1
        obtain ⟨rfl, _, rfl⟩ := e1
        have g1 := f1 i xs[i] (List.getElem?_eq_getElem hlt)
        have hx := List.drop_eq_getElem_cons hlt
        have hsz2 : SizeOf.sizeOf xs[i].kids < n := by
          have h1 := List.sizeOf_lt_of_mem (List.getElem_mem hlt)
          have h2 : SizeOf.sizeOf xs[i].kids < SizeOf.sizeOf xs[i] := by cases xs[i]; simp [Tr.kids]; omega
          omega
        have hnext : ∀ (h : i + 1 < xs.length), wr.cell? ⟨b1, o1 + (i + 1) * 4 + 3, none⟩ = some (.int .i64 xs[i + 1].at_) ∧ stopT t (xs.drop (i + 1)) = xs[i + 1].at_.toNat := fun h => by
          have := f1 (i + 1) xs[i + 1] (List.getElem?_eq_getElem h)
          refine ⟨this.2.2.2, ?_⟩
          rw [List.drop_eq_getElem_cons h]
          cases xs[i + 1]; rfl
        generalize xs[i] = tx at *
        obtain ⟨x, kx, rx, ax⟩ := tx
        obtain ⟨d0, ⟨kv, d1, r1⟩, d2, d3⟩ := g1
        simp only [Tr.word, Tr.kids, Tr.row, Tr.at_] at hsz2 d0 d1 d2 d3 r1
        obtain ⟨ka, kc, rfl⟩ := r1.trees_len
        have hp := HS.out
        rw [hx, Pl] at hp
        obtain ⟨p, rfl, hfp, hpt, hcase⟩ := hp
        have R1 := Lib.hid r1
        have HN := Lib.hid hnext
        have hlt1 : b1 < wr.heap.size := World.block_lt_of_cell? wr _ d0
        clear f1 hx r1 hnext
        have t1 : ¬ (p : Int) < m := by omega
        have t2 : ¬ (t : Int) ≤ p := by omega
        cases rx with
        | false =>
          rw [if_neg (by simp)] at hcase
          obtain ⟨rfl, hx0, hxl, hxs, hrest⟩ := hcase
          have HR := Lib.hid hrest
          have HXS := Lib.hid hxs
          have hx1 : 0 < x.length := List.length_pos_iff.2 hx0
          clear hrest hxs hx0
          have u1 : ((x.length : Int) == 0) = false := by rw [beq_eq_false_iff_ne]; omega
          have u2 : ¬ (t : Int) - p < x.length := by omega
          have w1 : IntKind.i64.wrap ((t : Int) - p) = (t : Int) - p := IntWalk.i64_in _ (by omega)
          have w2 : IntKind.i64.wrap ((p : Int) + x.length) = (p : Int) + x.length := IntWalk.i64_in _ (by omega)
          have y1 : (p : Int) ≤ p + x.length := by omega
          have y2 : (p : Int) + x.length ≤ s.size := by omega
          have k1 : ((s.extract p ((p : Int) + (x.length : Int)).toNat).toList == x) = true := by
            have e : s.extract p (p + x.length) = ⟨x.toArray⟩ := bytes_ext (by rw [Lib.extract_data, Nat.add_sub_cancel_left]; exact HXS.out)
            rw [show ((p : Int) + (x.length : Int)).toNat = p + x.length by omega, e, Lib.toList_data]
            simp
          go_wp2_with fail
          go_quiet (fail)
          go_wp2_with fail
          go_roundg (xs.length - (i + 1))
          case measure => rw [HK.out]; omega
          case rel => exact ⟨i + 1, p + x.length, by omega, rfl, by go_num, by go_num, HR.out, below_drewN (HB.out.alloc hwr _) _⟩
        | true =>
          rw [if_pos rfl] at hcase
          obtain ⟨hc40, rfl, hst, hkp, hrest⟩ := hcase
          have HKP := Lib.hid hkp
          have HR := Lib.hid hrest
          clear hkp hrest
          have hps : p < s.size := by omega
          have y1 : (p : Int) < s.size := by omega
          have hc : (s[p].toNat : Int) = 40 := by
            have e : s.data.toList[p]? = some s[p] := by rw [List.getElem?_eq_getElem (by simpa using hps)]; rfl
            rw [e] at hc40
            rw [Option.some.inj hc40]
            rfl
          by_cases hnx : i + 1 < xs.length
          · have hnx' : (i : Int) + 1 < xs.length := by omega
            have hnt : (((i + 1 : Nat) : Int)) < xs.length := by omega
            obtain ⟨q1, q2⟩ := HN.out hnx
            obtain ⟨p', hp'⟩ : ∃ p' : Nat, xs[i + 1].at_ = p' := by
              have := HR.out
              rw [List.drop_eq_getElem_cons hnx] at this
              generalize xs[i + 1] = ty at *
              obtain ⟨_, _, _, a'⟩ := ty
              rw [Pl] at this
              obtain ⟨p', rfl, _⟩ := this
              exact ⟨p', rfl⟩
            rw [hp'] at q1 q2
            simp only [Int.toNat_natCast] at q2
            rw [q2] at hst
            have KP : Hid (Pl s.data.toList kx (p + 1) p') := Lib.hid (q2 ▸ HKP.out)
            have t3 : ¬ (t : Int) < p' := by omega
            clear q2 hp' hc40
            go_wp2_with fail
            refine (IH.out s kx _ (p + 1) p' F _ hsz2 hsz (by omega) (R1.out.ext ((Below.refl _ wr).alloc (Nat.le_refl _) _)) KP.out).mono ?_
            rintro e w2 ⟨rfl, hb2⟩
            have bk : Blk w2 wr.heap.size #[.string ⟨#[]⟩, .slice ka kx.length kc, .bool true, .int .i64 p] 31 := (Blk.new wr _ _).below hb2
            have z3 := bk.cell 3
            simp at z3
            clear bk
            have HB2 := Lib.hid (below_chain' (HB.out.alloc hwr _) hb2 (by simp; omega))
            clear hb2
            go_wp2_with fail
            go_roundg (xs.length - (i + 1))
            case measure => rw [HK.out]; omega
            case rel => exact ⟨i + 1, p + 1, by omega, rfl, by go_num, by go_num, HR.out, HB2.out⟩
          · have hnx' : ¬ (i : Int) + 1 < xs.length := by omega
            have q2 : stopT t (xs.drop (i + 1)) = t := by rw [List.drop_eq_nil_of_le (by omega)]; rfl
            have KP : Hid (Pl s.data.toList kx (p + 1) t) := Lib.hid (q2 ▸ HKP.out)
            clear q2 hc40 hst
            go_wp2_with fail
            refine (IH.out s kx _ (p + 1) t F _ hsz2 hsz (by omega) (R1.out.ext ((Below.refl _ wr).alloc (Nat.le_refl _) _)) KP.out).mono ?_
            rintro e w2 ⟨rfl, hb2⟩
            have bk : Blk w2 wr.heap.size #[.string ⟨#[]⟩, .slice ka kx.length kc, .bool true, .int .i64 p] 31 := (Blk.new wr _ _).below hb2
            have z3 := bk.cell 3
            simp at z3
            clear bk
            have HB2 := Lib.hid (below_chain' (HB.out.alloc hwr _) hb2 (by simp; omega))
            clear hb2
            go_wp2_with fail
            go_roundg (xs.length - (i + 1))
            case measure => rw [HK.out]; omega
            case rel => exact ⟨i + 1, p + 1, by omega, rfl, by go_num, by go_num, HR.out, HB2.out⟩
      · have hlt' : ¬ (i : Int) < xs.length := by omega
        go_wp2_with fail
        go_ret
        exact ⟨rfl, HB.out⟩
end Go.Proofs.Ytocaickbfeaiaaa
