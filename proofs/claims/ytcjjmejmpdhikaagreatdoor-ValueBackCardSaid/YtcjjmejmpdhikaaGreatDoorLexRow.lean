/-
  THE WALKS of the program's lex: row and tree together, by induction.
-/
import Derived.Test.YtcjjmejmpdhikaaGreatDoorLexTree
namespace Go.Proofs.YtcjjmejmpdhikaaGreatDoor
set_option linter.unusedSimpArgs false
set_option linter.unusedVariables false
set_option maxRecDepth 100000
open Go.RowKit

theorem bytes_get {s : ByteArray} {i : Nat} (h : i < s.size) : s.data.toList[i]? = some s[i] := by
  rw [List.getElem?_eq_getElem (by simpa using h)]; rfl

theorem size_bytes (s : ByteArray) : s.data.toList.length = s.size := by simp

theorem tree_any (n : Nat) (s : ByteArray) (o b : Nat) (hs : s.size ≤ 262144) (ho : o ≤ 400)
    (hrow : ∀ (w : World) (i : Nat), i ≤ s.size → 2 * (s.size - i) + 2 ≤ n → St w b s i (o + 1) → o + 1 ≤ 400 → Calls Tryz.prog 54 #[.pointer (some ⟨b, 0, none⟩)] w (RowPost w b s (o + 1) (rowN n s.data.toList i (o + 1))))
    (i : Nat) (w : World) (hi : i < s.size) (hn : 2 * (s.size - i) + 1 ≤ n + 1) (hb : St w b s i o) :
    Calls Tryz.prog 87 #[.pointer (some ⟨b, 0, none⟩)] w (TreePost w b s o (treeN (n + 1) s.data.toList i o)) := by
  have hl := size_bytes s
  rw [treeN, bytes_get hi]
  by_cases hc : s[i] = 40
  · have hc' : ((s[i].toNat : Int) == 40) = true := by rw [hc]; rfl
    rw [if_pos (by rw [hc])]
    by_cases hd : o < 400
    · rw [if_pos hd]
      have hj : ∀ ts j, rowN n s.data.toList (i + 1) (o + 1) = .ok (ts, j) → j ≤ s.size := fun ts j h => by
        have := (rowN_le n _ (i + 1) (o + 1) (by omega) ts j h).2
        omega
      have := tree_row s i o b w hs hi hb hc' (by omega) _ hj (fun w' h' => hrow w' (i + 1) (by omega) (by omega) h' (by omega))
      cases hr : rowN n s.data.toList (i + 1) (o + 1) with
      | bad p e => rw [hr] at this; exact this
      | ok x =>
        obtain ⟨ts, j⟩ := x
        rw [hr] at this
        simp only [treeOf] at this
        rw [hl]
        exact this
    · rw [if_neg hd]
      exact tree_deep s i o b w hs hi hb hc' (by simp; omega)
  · have hc' : ((s[i].toNat : Int) == 40) = false := by
      rw [beq_eq_false_iff_ne]; intro h; exact hc (UInt8.toNat_inj.1 (by show s[i].toNat = 40; omega))
    rw [if_neg (by simpa using hc)]
    have hge := skipTo_ge sgn s.data.toList i
    by_cases hj : skipTo sgn s.data.toList i = i
    · rw [if_pos hj]
      exact tree_none s i o b w hs hi hb hc' hj
    · rw [if_neg hj]
      exact tree_word s i o b w hs hi hb hc' (by omega)

theorem info_tree : (Tryz.prog.info? 64).map (fun i => (i.zero, i.size, i.bytes)) = some (some (.agg #[.string ⟨#[]⟩, .slice none 0 0, .bool false, .int .i64 0]), 4, 56) := by kernel_rfl

set_option maxRecDepth 100000 in
set_option maxHeartbeats 4000000 in
theorem row_any (N : Nat) (s : ByteArray) (o b i0 : Nat) (w : World) (hs : s.size ≤ 262144) (hi0 : i0 ≤ s.size) (hN : 2 * (s.size - i0) + 2 ≤ N) (hb : St w b s i0 o)
    (htree : ∀ n, n < N → ∀ (i : Nat) (w : World), i < s.size → 2 * (s.size - i) + 1 ≤ n → St w b s i o → Calls Tryz.prog 87 #[.pointer (some ⟨b, 0, none⟩)] w (TreePost w b s o (treeN n s.data.toList i o))) :
    Calls Tryz.prog 54 #[.pointer (some ⟨b, 0, none⟩)] w (RowPost w b s o (rowN N s.data.toList i0 o)) := by
  obtain ⟨ti, hti, hz0, hz1, hz2⟩ := info_parts info_tree
  have HT := Lib.hid htree
  have HB := Lib.hid hb
  have hbl := hb.lt
  have HL := Lib.hid (size_bytes s)
  clear htree hb
  go_enter Tryz.func54, Tryz.ntmps54
  go_wp2_with fail
  go_loopg [2] N (fun f v wr => ∃ (i : Nat) (ts : List Tr), i ≤ s.size ∧ 2 * (s.size - i) + 2 ≤ f ∧ f ≤ N ∧ ts.length ≤ i ∧ St wr b s i o ∧ w.grownBy wr (some b) ∧
    Own wr w.heap.size (fun k => w.heap.size ≤ k) 64 4 v (encTrs ts) ∧ rowN N s.data.toList i0 o = pre ts (rowN f s.data.toList i o))
  case atStart => exact ⟨i0, [], hi0, hN, Nat.le_refl _, Nat.zero_le _, HB.out, .refl _ _, Own.nil _ _ _ _ _, (pre_nil _).symm⟩
  case round =>
    obtain ⟨i, ts, hi, hf, hfN, hts, hst, hg, hown, heq⟩ := hrel
    obtain ⟨f, rfl⟩ : ∃ f, gk = f + 1 := ⟨gk - 1, by omega⟩
    have H1 := Lib.hid hst
    have H2 := Lib.hid hg
    have H3 := Lib.hid hown
    have H4 := Lib.hid heq
    have hw1 := hg.size
    clear hst hg hown heq
    go_wp2_with fail
    refine (while_any 86 blk call_blank blank_any s i o b _ hs hi H1.out).mono ?_
    rintro e w1 ⟨rfl, hst, hg⟩
    have hj1 := skipTo_ge blk s.data.toList i
    have hj2 := skipTo_le blk s.data.toList i (by rw [HL.out]; exact hi)
    rw [HL.out] at hj2
    have hrw : ∀ c, s.data.toList[skipTo blk s.data.toList i]? = c → rowN (f + 1) s.data.toList i o = (match c with
        | none => .ok ([], skipTo blk s.data.toList i)
        | some c => if c = 41 then .ok ([], skipTo blk s.data.toList i) else
          match treeN f s.data.toList (skipTo blk s.data.toList i) o with
          | .bad p e => .bad p e
          | .ok (t, k) => match rowN f s.data.toList k o with
            | .bad p e => .bad p e
            | .ok (ts, m) => .ok (t :: ts, m)) := fun c hc => by rw [rowN, hc]; rfl
    generalize skipTo blk s.data.toList i = j at *
    have HR := Lib.hid hrw
    have K1 := Lib.hid hst
    have hw2 := hg.size
    have K2 := Lib.hid (grownBy_trans H2.out hg)
    have K3 := Lib.hid (H3.out.keptOld hg (fun k hk => by cases hk; exact hbl))
    have c0 := hst.c0
    have c1 := hst.c1
    clear hst hg hrw H1 H2 H3
    by_cases hlt : j < s.size
    · by_cases hc : s[j] = 41
      · have hc' : ((s[j].toNat : Int) == 41) = true := by rw [hc]; rfl
        go_wp2_with fail
        go_quiet (refine Calls.quiet_of (more_yes s j b _ (by simpa using c0) (by simpa using c1) hlt))
        go_wp2_with fail
        go_ret
        rw [H4.out, HR.out _ (bytes_get hlt), hc]
        refine ⟨_, rfl, ?_, K1.out, ?_⟩
        · simp only [List.append_nil]
          refine (K3.out.drewN _).rep.mono ?_
          rintro k (hk | hk)
          · exact hk
          · exact (K3.out.lt k hk).1
        · exact grownBy_drewN' K2.out _
      · have hc' : ((s[j].toNat : Int) == 41) = false := by
          rw [beq_eq_false_iff_ne]; intro h; exact hc (UInt8.toNat_inj.1 (by show s[j].toNat = 41; omega))
        go_wp2_with fail
        go_quiet (refine Calls.quiet_of (more_yes s j b _ (by simpa using c0) (by simpa using c1) hlt))
        go_wp2_with fail
        refine (HT.out f (by omega) j _ hlt (by omega) (K1.out.drewN _)).mono ?_
        have hR := HR.out _ (bytes_get hlt)
        simp only [if_neg hc] at hR
        cases hr : treeN f s.data.toList j o with
        | bad p c =>
          simp only [hr] at hR
          rintro e w2 ⟨rfl, hg⟩
          refine ⟨rfl, ?_⟩
          rw [H4.out, hR]
          exact ⟨rfl, grownBy_trans (grownBy_drewN' K2.out _) hg⟩
        | ok x =>
          obtain ⟨t, k⟩ := x
          have hl := size_bytes s
          have hk1 := treeN_lt f _ j o (by omega) t k hr
          have hk2 := (treeN_le f _ j o (by omega) t k hr).2
          simp only [hr] at hR
          rintro e w2 ⟨v, rfl, hrep, hst, hg⟩
          have hw3 := hg.size
          simp at hw3
          have H5 := Lib.hid hR
          have H6 := Lib.hid hrep
          have H7 := Lib.hid hst
          have H8 := Lib.hid (grownBy_trans (grownBy_drewN' K2.out _) hg)
          have H9 := Lib.hid ((K3.out.drewN _).keptOld hg (fun k hk => by cases hk; exact hbl))
          have hk2' : k ≤ s.size := by omega
          have hv : ∃ a n c, v = .slice a n c := by obtain ⟨a, c, h⟩ := hrep.slice; exact ⟨a, _, c, h⟩
          obtain ⟨a, n, c, rfl⟩ := hv
          clear hrep hst hg hR hr hl
          have hown := H9.out
          go_wp2_with (at_builtin; refine wpList_append_Own _ rfl (.tmp 27) (.tmp 30) 59 rfl w.heap.size (fun k => w.heap.size ≤ k) 64 ti _ 4 56 Tryz.underlying59 hti hz0 hz1 hz2 rfl (by decide) u2 (encTrs ts) rfl ?own (some ⟨w2.heap.size, 0, none⟩) 1 1 rfl [.string ⟨t.word.toArray⟩, .slice a n c, .bool t.row, .int .i64 t.at_] [encTr t] rfl ?hds (by simp) ?news ?one ?reps ?b1 ?b2 ?b3 ?next)
          case own => exact hown.alloc _
          case hds => intro d hd; simp at hd; subst hd; exact encTr_length t
          case news => exact cells_new (c := #[_, _, _, _]) rfl
          case one => simp [Value.oneCell']
          case reps =>
            have e : [encTr t].flatten = [.leaf (.string ⟨t.word.toArray⟩), .sl (encTrs t.kids), .leaf (.bool t.row), .leaf (.int .i64 t.at_)] := by cases t; rfl
            rw [e]
            refine .cons (.leaf _) (.cons ?_ (.cons (.leaf _) (.cons (.leaf _) (.nil _ _))))
            refine (H6.out.alloc _).mono fun k hk => ?_
            simp at hk
            refine ⟨by omega, fun e => ?_⟩
            have := (K3.out.lt k e.symm).2
            omega
          case b1 => rw [encTrs_length]; simp only [maxLen]; omega
          case b2 => rw [encTrs_length]; omega
          case b3 => simp; omega
          case next =>
            intro v' w' hown' hgrow _
            have hst' : St w' b s k o := (H7.out.alloc _).stays (hgrow.block b (by simp; omega) (fun e => by have := (hown.lt b e.symm).1; omega))
            have H10 := Lib.hid hown'
            have H11 := Lib.hid hst'
            have H12 := Lib.hid (grownBy_own (grownBy_alloc' H8.out _) hgrow (fun k hk => (hown.lt k hk).1))
            clear hown hown' hgrow hst'
            go_wp2_with fail
            go_roundg f
            case measure => omega
            case rel =>
              refine ⟨k, ts ++ [t], hk2', by omega, by omega, by simp; omega, H11.out, H12.out, ?_, ?_⟩
              · rw [encTrs_append]; simpa [encTrs] using H10.out
              · rw [H4.out, H5.out]
                cases rowN f s.data.toList k o with
                | bad p e => rfl
                | ok x => simp [pre]
    · go_wp2_with fail
      go_quiet (refine Calls.quiet_of (more_no s j b _ (by simpa using c0) (by simpa using c1) hlt))
      go_wp2_with fail
      go_ret
      rw [H4.out, HR.out none (by simp; omega)]
      refine ⟨_, rfl, ?_, K1.out, ?_⟩
      · simp only [List.append_nil]
        refine (K3.out.drewN _).rep.mono ?_
        rintro k (hk | hk)
        · exact hk
        · exact (K3.out.lt k hk).1
      · exact grownBy_drewN' K2.out _

end Go.Proofs.YtcjjmejmpdhikaaGreatDoor
