/-
 The package term: a text that a term alone has (plain law); sameTerm.
-/
import Derived.Test.YtncoidmbmihliaaGreatDoorTKeyM
import Derived.Test.YtncoidmbmihliaaGreatDoorTSubM
import Derived.Test.YtncoidmbmihliaaGreatDoorTFree2M
import Derived.Test.YtncoidmbmihliaaGreatDoorTSameM
import Derived.Test.YtncoidmbmihliaaGreatDoorTCntM
import Derived.Test.YtncoidmbmihliaaGreatDoorTOfM
import Derived.Test.YtncoidmbmihliaaGreatDoorEvOpenM
namespace Go.Proofs.YtncoidmbmihliaaGreatDoor
set_option maxRecDepth 100000
set_option maxHeartbeats 8000000
set_option linter.unusedSimpArgs false
set_option linter.unusedVariables false
section
open Go.RowKit
def isD (b : UInt8) : Bool := 48 ≤ b.toNat && b.toNat ≤ 57
theorem decD_all (n : Nat) : ∀ b ∈ Lib.decDigits n, isD b = true := by
 induction n using Nat.strongRecOn with
 | ind n ih =>
  rw [Lib.decDigits]
  split
  · rename_i h
    intro b hb
    simp only [List.mem_singleton] at hb
    subst hb
    unfold isD
    have : (UInt8.ofNat (48 + n)).toNat = 48 + n := by simp [UInt8.toNat_ofNat']; omega
    rw [this]; simp; omega
  · rename_i h
    intro b hb
    rw [List.mem_append] at hb
    rcases hb with hb | hb
    · exact ih _ (by omega) b hb
    · simp only [List.mem_singleton] at hb
      subst hb
      unfold isD
      have : (UInt8.ofNat (48 + n % 10)).toNat = 48 + n % 10 := by simp [UInt8.toNat_ofNat']; omega
      rw [this]; simp; omega
def valB (l : List UInt8) : Nat := l.foldl (fun a b => 10 * a + (b.toNat - 48)) 0
theorem valB_dec (n : Nat) : valB (Lib.decDigits n) = n := by
 induction n using Nat.strongRecOn with
 | ind n ih =>
  rw [Lib.decDigits]
  split
  · rename_i h
    have : (UInt8.ofNat (48 + n)).toNat = 48 + n := by simp [UInt8.toNat_ofNat']; omega
    simp only [valB, List.foldl_cons, List.foldl_nil]
    rw [this]; omega
  · rename_i h
    have h1 := ih (n / 10) (by omega)
    unfold valB at h1 ⊢
    have : (UInt8.ofNat (48 + n % 10)).toNat = 48 + n % 10 := by simp [UInt8.toNat_ofNat']; omega
    rw [List.foldl_append, h1]
    simp only [List.foldl_cons, List.foldl_nil]
    rw [this]; omega
theorem decD_ne (n : Nat) : Lib.decDigits n ≠ [] := by
 rw [Lib.decDigits]; split <;> simp
theorem dec_split {x y : Nat} {c d : UInt8} {r s : List UInt8} (hc : isD c = false) (hd : isD d = false) (h : Lib.decDigits x ++ c :: r = Lib.decDigits y ++ d :: s) : x = y ∧ c :: r = d :: s := by
 have h1 : ∀ (x : Nat) (c : UInt8) (r : List UInt8), isD c = false → (Lib.decDigits x ++ c :: r).takeWhile isD = Lib.decDigits x := fun x c r hc => by
  rw [List.takeWhile_append_of_pos (decD_all x), List.takeWhile_cons_of_neg (by rw [hc]; simp), List.append_nil]
 have e := congrArg (List.takeWhile isD) h
 rw [h1 x c r hc, h1 y d s hd] at e
 have e2 : x = y := by rw [← valB_dec x, e, valB_dec]
 subst e2
 exact ⟨rfl, List.append_cancel_left h⟩
theorem itoa_split {x y : Int} {c d : UInt8} {r s : List UInt8} (hx : 0 ≤ x) (hy : 0 ≤ y) (hc : isD c = false) (hd : isD d = false) (h : Lib.itoa x ++ c :: r = Lib.itoa y ++ d :: s) : x = y ∧ c :: r = d :: s := by
 unfold Lib.itoa at h
 rw [if_neg (by omega), if_neg (by omega)] at h
 obtain ⟨h1, h2⟩ := dec_split hc hd h
 exact ⟨by omega, h2⟩
theorem itoa_head {x : Int} (hx : 0 ≤ x) : ∃ c r, Lib.itoa x = c :: r ∧ isD c = true := by
 unfold Lib.itoa
 rw [if_neg (by omega)]
 have h1 := decD_ne x.toNat
 have h2 := decD_all x.toNat
 cases h : Lib.decDigits x.toNat with
 | nil => exact absurd h h1
 | cons c r => exact ⟨c, r, rfl, h2 c (by rw [h]; exact List.mem_cons_self)⟩
theorem dgL_split : ∀ {a b : List Int} {r s : List UInt8}, (∀ d ∈ a, 0 ≤ d ∧ d < 4294967296) → (∀ d ∈ b, 0 ≤ d ∧ d < 4294967296) → dgL a ++ 32 :: r = dgL b ++ 32 :: s → a = b ∧ r = s
 | [], [], r, s, _, _, h => by simpa [dgL] using h
 | [], d :: b, r, s, _, hb, h => by
  exfalso
  have h0 := hb d List.mem_cons_self
  have hw : IntKind.i64.wrap d = d := IntWalk.i64_in _ ⟨by omega, by omega⟩
  obtain ⟨c, q, h1, h2⟩ := itoa_head h0.1
  simp only [dgL, List.nil_append, hw, h1, List.cons_append, List.cons.injEq] at h
  rw [← h.1] at h2
  exact absurd h2 (by decide)
 | d :: a, [], r, s, ha, _, h => by
  exfalso
  have h0 := ha d List.mem_cons_self
  have hw : IntKind.i64.wrap d = d := IntWalk.i64_in _ ⟨by omega, by omega⟩
  obtain ⟨c, q, h1, h2⟩ := itoa_head h0.1
  simp only [dgL, List.nil_append, hw, h1, List.cons_append, List.cons.injEq] at h
  rw [h.1] at h2
  exact absurd h2 (by decide)
 | d :: a, e :: b, r, s, ha, hb, h => by
  have h0 := ha d List.mem_cons_self
  have h1 := hb e List.mem_cons_self
  have hw : IntKind.i64.wrap d = d := IntWalk.i64_in _ ⟨by omega, by omega⟩
  have hw2 : IntKind.i64.wrap e = e := IntWalk.i64_in _ ⟨by omega, by omega⟩
  simp only [dgL, hw, hw2, List.append_assoc, List.cons_append, List.nil_append] at h
  obtain ⟨e1, e2⟩ := itoa_split h0.1 h1.1 (by decide) (by decide) h
  simp only [List.cons.injEq, true_and] at e2
  obtain ⟨e3, e4⟩ := dgL_split (fun x hx => ha x (List.mem_cons_of_mem _ hx)) (fun x hx => hb x (List.mem_cons_of_mem _ hx)) e2
  rw [e1, e3]; exact ⟨rfl, e4⟩
theorem rgW_ok {k : Int} {dg : List Int} (h : rgW k dg ≤ 1000000000000) : (0 ≤ k ∧ k < 256) ∧ ∀ d ∈ dg, 0 ≤ d ∧ d < 4294967296 := by
 unfold rgW at h
 split at h
 · assumption
 · omega
mutual
theorem keyL_inj : ∀ (a b : Trm) (r s : List UInt8), a.w ≤ 1000000000000 → b.w ≤ 1000000000000 → keyL a ++ r = keyL b ++ s → a = b ∧ r = s
 | .mk k nm ng dg ks, .mk k2 nm2 ng2 dg2 ks2, r, s, ha, hb, h => by
  simp only [Trm.w] at ha hb
  obtain ⟨r1, r2⟩ := rgW_ok (k := k) (dg := dg) (by omega)
  obtain ⟨q1, q2⟩ := rgW_ok (k := k2) (dg := dg2) (by omega)
  have w1 : IntKind.i64.wrap k = k := IntWalk.i64_in _ ⟨by omega, by omega⟩
  have w2 : IntKind.i64.wrap k2 = k2 := IntWalk.i64_in _ ⟨by omega, by omega⟩
  simp only [keyL, w1, w2, List.append_assoc, List.cons_append, List.nil_append] at h
  obtain ⟨e1, h⟩ := itoa_split r1.1 q1.1 (by decide) (by decide) h
  simp only [List.cons.injEq, true_and] at h
  obtain ⟨e2, h⟩ := itoa_split (by omega) (by omega) (by decide) (by decide) h
  simp only [List.cons.injEq, true_and] at h
  have hs1 : nm.data.toList.length = nm.size := by rw [Array.length_toList]; rfl
  have hs2 : nm2.data.toList.length = nm2.size := by rw [Array.length_toList]; rfl
  obtain ⟨e3, h⟩ := List.append_inj h (by omega)
  have e4 : nm = nm2 := by cases nm; cases nm2; simpa using e3
  simp only [List.cons.injEq, true_and] at h
  have hd : ∀ (dg : List Int) (t : List UInt8), (∀ d ∈ dg, 0 ≤ d ∧ d < 4294967296) → ∃ c q, dgL dg ++ 32 :: t = c :: q ∧ c ≠ 45 := by
   intro dg t hr
   cases dg with
   | nil => exact ⟨32, t, rfl, by decide⟩
   | cons d l =>
    have h0 := hr d List.mem_cons_self
    have hw : IntKind.i64.wrap d = d := IntWalk.i64_in _ ⟨by omega, by omega⟩
    obtain ⟨c, q, h1, h2⟩ := itoa_head h0.1
    refine ⟨c, q ++ ([46] ++ (dgL l ++ 32 :: t)), by simp [dgL, hw, h1], fun e => ?_⟩
    subst e
    exact absurd h2 (by decide)
  have e5 : ng = ng2 ∧ dgL dg ++ 32 :: (Lib.itoa ks.length ++ 59 :: (keysL ks ++ r)) = dgL dg2 ++ 32 :: (Lib.itoa ks2.length ++ 59 :: (keysL ks2 ++ s)) := by
   obtain ⟨c, q, g1, g2⟩ := hd dg (Lib.itoa ks.length ++ 59 :: (keysL ks ++ r)) r2
   obtain ⟨c2, p, g3, g4⟩ := hd dg2 (Lib.itoa ks2.length ++ 59 :: (keysL ks2 ++ s)) q2
   cases ng <;> cases ng2
   · exact ⟨rfl, by simpa using h⟩
   · exfalso
     simp only [Bool.false_eq_true, if_false, if_true, List.nil_append, List.cons_append] at h
     rw [g1] at h
     simp only [List.cons.injEq] at h
     exact g2 h.1
   · exfalso
     simp only [Bool.false_eq_true, if_false, if_true, List.nil_append, List.cons_append] at h
     rw [g3] at h
     simp only [List.cons.injEq] at h
     exact g4 h.1.symm
   · exact ⟨rfl, by simpa using h⟩
  obtain ⟨e6, h⟩ := dgL_split r2 q2 e5.2
  obtain ⟨e7, h⟩ := itoa_split (by omega) (by omega) (by decide) (by decide) h
  simp only [List.cons.injEq, true_and] at h
  obtain ⟨e8, e9⟩ := keysL_inj ks ks2 r s (by omega) (by omega) (by omega) h
  rw [e1, e4, e5.1, e6, e8]
  exact ⟨rfl, e9⟩
theorem keysL_inj : ∀ (a b : List Trm) (r s : List UInt8), trmW a ≤ 1000000000000 → trmW b ≤ 1000000000000 → a.length = b.length → keysL a ++ r = keysL b ++ s → a = b ∧ r = s
 | [], [], r, s, _, _, _, h => ⟨rfl, h⟩
 | [], _ :: _, _, _, _, _, hl, _ => by simp at hl
 | _ :: _, [], _, _, _, _, hl, _ => by simp at hl
 | x :: a, y :: b, r, s, ha, hb, hl, h => by
  simp only [trmW] at ha hb
  simp only [keysL, List.append_assoc] at h
  obtain ⟨e1, h⟩ := keyL_inj x y _ _ (by omega) (by omega) h
  obtain ⟨e2, h⟩ := keysL_inj a b _ _ (by omega) (by omega) (by simpa using hl) h
  rw [e1, e2]; exact ⟨rfl, h⟩
end
theorem keyL_one {a b : Trm} (ha : a.w ≤ 1000000000000) (hb : b.w ≤ 1000000000000) (h : keyL a = keyL b) : a = b := (keyL_inj a b [] [] ha hb (by rw [h])).1
variable {S : Sp} {N : Nat}
theorem key_eqb {a b : Trm} (ha : a.w ≤ 1000000000000) (hb : b.w ≤ 1000000000000) : (keyL a == keyL b) = eqb a b := by
 cases h : eqb a b with
 | true => rw [eqb_iff.1 h]; exact beq_self_eq_true _
 | false => exact beq_eq_false_iff_ne.2 fun e => eqb_no h (keyL_one ha hb e)
theorem sameTerm_w (hc : S.code = codeP Tryz.prog) (hm : S.ms 73 = []) (h1 : S.sp 112 = some keyF) : SmOk Tryz.prog S N 73 (fun p : Trm × Trm => [.agg p.1.cs, .agg p.2.cs]) (fun p => .lit (.bool (eqb p.1 p.2))) (fun p => p.1.w ≤ 1000000000000 ∧ p.2.w ≤ 1000000000000) (fun p => p.1.w + p.2.w) 2 := by
 rintro ⟨a, b⟩ σ ⟨hl, hl2⟩ hN
 dsimp only at hl hl2 hN ⊢
 refine JC.startF (fn := Tryz.f73) (codeOf hc Tryz.func73 rfl (by kernel_rfl)) rfl hm rfl (zL rfl) fun tm => ?_
 refine CW.hide fun R0 hR0 => ?_
 refine CW.seqK fun K hK => CW.region ?_
 simp (maxDischargeDepth := 16) [zY]
 refine hK _ _ ?_; clear hK K
 refine CW.seqK fun K hK => CW.draw (by kernel_rfl) ?_
 simp (maxDischargeDepth := 16) [zY, Trm.len, Trm.tk]
 refine call_sm a h1 (fun a b e => by simp only [List.cons.injEq, and_true, AV.agg.injEq] at e; exact Trm.inj e) (by simp only [nrmR, AV.nrm, Trm.nrm]) hl (by omega) fun hac => ?_
 simp (maxDischargeDepth := 16) [zY, hac, Trm.len, Trm.tk]
 refine call_sm b h1 (fun a b e => by simp only [List.cons.injEq, and_true, AV.agg.injEq] at e; exact Trm.inj e) (by simp only [nrmR, AV.nrm, Trm.nrm]) hl2 (by omega) fun hac2 => ?_
 have hk := key_eqb hl hl2
 simp (maxDischargeDepth := 16) [zY, hac2, hk]
 refine ⟨by kernel_rfl, hK _ _ (CW.ret (hR0 _ _ _ ⟨.lit (.bool (eqb a b)), by simp [zA, omap, zB, zF, lk], done rfl rfl⟩))⟩
end
section
set_option maxRecDepth 100000
open Go.RowKit
def look : List (FuncId × FS) → FuncId → Option FS
 | [], _ => none
 | p :: l, f => cond (Nat.beq p.1 f) (some p.2) (look l f)
def lookB : List (FuncId × (List AV → Sto → Option (ARes × Sto))) → FuncId → Option (List AV → Sto → Option (ARes × Sto))
 | [], _ => none
 | p :: l, f => cond (Nat.beq p.1 f) (some p.2) (lookB l f)
def lookM : List (FuncId × List TypeId) → FuncId → List TypeId
 | [], _ => []
 | p :: l, f => cond (Nat.beq p.1 f) p.2 (lookM l f)
theorem look_mem : ∀ {l : List (FuncId × FS)} {f : FuncId} {s : FS}, look l f = some s → (f, s) ∈ l
 | p :: l, f, s, h => by
  rw [look] at h
  cases hb : Nat.beq p.1 f with
  | true => rw [hb] at h; cases Nat.eq_of_beq_eq_true hb; cases h; exact .head _
  | false => rw [hb] at h; exact .tail _ (look_mem h)
theorem lookB_mem : ∀ {l : List (FuncId × (List AV → Sto → Option (ARes × Sto)))} {f : FuncId} {s}, lookB l f = some s → (f, s) ∈ l
 | p :: l, f, s, h => by
  rw [lookB] at h
  cases hb : Nat.beq p.1 f with
  | true => rw [hb] at h; cases Nat.eq_of_beq_eq_true hb; cases h; exact .head _
  | false => rw [hb] at h; exact .tail _ (lookB_mem h)
noncomputable def spT : List (FuncId × FS) := [
 (9, lvF),
 (155, trim1F),
 (151, plus1F),
 (142, read1F),
 (141, write1F),
 (123, Trim1F),
 (93, of1F),
 (52, Of1F),
 (19, lnF),
 (17, lyesF),
 (16, lbaseF),
 (18, laddF),
 (20, lretF),
 (15, lletF),
 (55, limF),
 (24, atomF),
 (26, copAF),
 (25, sub2F),
 (124, mustF),
 (100, moreF),
 (101, aloneF),
 (98, copiedF),
 (97, putF),
 (59, ofF),
 (58, sub1F),
 (57, triedF),
 (28, substF),
 (27, sub3F),
 (103, (mkF (fun m t => [.ptr m.mid 0, .agg t.cs]) (fun m t => .agg (m.putP t).cs) Prm.n Prm.c 12)),
 (102, (mkF (fun m l => [.sl (prmR l) .no, .fn (.func 103) [.ptr m.mid 0] []]) (fun m l => .sl (prmR (m.putPs l)) .no) prmN prmC 13)),
 (61, (mkF (fun m t => [.ptr m.mid 0, .agg t.cs]) (fun m t => .agg (m.putY t).cs) Ty.n Ty.c 11)),
 (60, (mkF (fun m l => [.sl (tyR l) .no, .fn (.func 61) [.ptr m.mid 0] []]) (fun m l => .sl (tyR (m.putYs l)) .no) tyN tyC 12)),
 (104, (mkF (fun m l => [.sl (atmR l) .no, m.fA]) (fun m l => .sl (atmR (m.putAs l)) .no) atmN atmC 10)),
 (64, (mkF (fun m l => [.sl (expR l) .no, .fn (.func 29) [.ptr m.mid 0] []]) (fun m l => .sl (expR (m.putEs l)) .no) expN expC 15)),
 (105, (mkF (fun m l => [.sl (trmR l) .no, m.fT]) (fun m l => .sl (trmR (m.e.puts l)) .no) trmN trmCs 10)),
 (63, (mkF (fun m t => [.ptr m.mid 0, .agg t.cs]) (fun m t => .agg (m.putR t).cs) Rhs.n Rhs.c 14)),
 (62, (mkF (fun m l => [.sl (rhsR l) .no, .fn (.func 63) [.ptr m.mid 0] []]) (fun m l => .sl (rhsR (m.putRs l)) .no) rhsN rhsC 15)),
 (106, txtF),
 (66, (mkF (fun m t => [.ptr m.mid 0, .agg t.cs]) (fun m t => .agg (m.putM t).cs) Arm.n Arm.c 14)),
 (65, (mkF (fun m l => [.sl (armR l) .no, .fn (.func 66) [.ptr m.mid 0] []]) (fun m l => .sl (armR (m.putMs l)) .no) armN armC 15)),
 (29, (mkF (fun m t => [.ptr m.mid 0, .agg t.cs]) (fun m t => .agg (m.putE t).cs) Exp.n Exp.c 14)),
 (7, substEF),
 (48, ownF),
 (13, countF),
 (118, tfreeF),
 (14, treeFreeF),
 (21, (sameF (fun l => .sl (txtR l) .no) List.length 0)),
 (111, (sameF (fun l => .sl (limR l) .no) List.length 0)),
 (69, (sameF intA intN 1)),
 (110, (sameF (fun l => .sl (trmR l) .no) trmN 3)),
 (107, (sameF (fun t : Trm => .agg t.cs) Trm.n 2)),
 (125, (sameF (fun t : Prm => .agg t.cs) Prm.n 5)),
 (108, (sameF (fun l => .sl (prmR l) .no) prmN 6)),
 (67, (sameF (fun t : Ty => .agg t.cs) Ty.n 4)),
 (30, (sameF (fun l => .sl (tyR l) .no) tyN 6)),
 (32, (sameF (fun t : Atm => .agg t.cs) Atm.n 2)),
 (109, (sameF (fun l => .sl (atmR l) .no) atmN 3)),
 (34, (sameF (fun l => .sl (expR l) .no) expN 10)),
 (68, (sameF (fun t : Rhs => .agg t.cs) Rhs.n 9)),
 (31, (sameF (fun l => .sl (rhsR l) .no) rhsN 10)),
 (70, (sameF (fun t : Arm => .agg t.cs) Arm.n 9)),
 (33, (sameF (fun l => .sl (armR l) .no) armN 10)),
 (8, (sameF (fun t : Exp => .agg t.cs) Exp.n 9)),
 (5, awakeF),
 (96, trmsGoF),
 (94, trmOfF),
 (53, tysGoF),
 (95, prmsGoF),
 (54, rhssGoF),
 (22, expsGoF),
 (6, lgreatF),
 (112, keyF),
 (73, (sameW (fun t : Trm => .agg t.cs) Trm.w 2)),
 (75, (sameW (fun t : Prm => .agg t.cs) Prm.w 2)),
 (113, (sameG (fun l : List Prm => .sl (prmR l) .no) 75 prmW 3)),
 (74, (sameG (fun l : List Prm => .sl (prmR l) .no) 75 prmW 4)),
 (41, (sameW (fun t : Ty => .agg t.cs) Ty.w 2)),
 (72, (sameG (fun l : List Ty => .sl (tyR l) .no) 41 tyW 3)),
 (40, (sameG (fun l : List Ty => .sl (tyR l) .no) 41 tyW 4)),
 (71, (sameW (fun l => .sl (limR l) .no) List.length 0)),
 (39, (sameW (fun t : Atm => .agg t.cs) Atm.w 2)),
 (114, (sameG (fun l : List Atm => .sl (atmR l) .no) 39 atmW 3)),
 (77, (sameG (fun l : List Atm => .sl (atmR l) .no) 39 atmW 4)),
 (79, (sameG (fun l : List Exp => .sl (expR l) .no) 11 expW 3)),
 (44, (sameG (fun l : List Exp => .sl (expR l) .no) 11 expW 4)),
 (115, (sameG (fun l : List Trm => .sl (trmR l) .no) 73 trmW 3)),
 (78, (sameG (fun l : List Trm => .sl (trmR l) .no) 73 trmW 4)),
 (43, (sameW (fun t : Rhs => .agg t.cs) Rhs.w 2)),
 (76, (sameG (fun l : List Rhs => .sl (rhsR l) .no) 43 rhsW 3)),
 (42, (sameG (fun l : List Rhs => .sl (rhsR l) .no) 43 rhsW 4)),
 (81, (sameW (fun l => .sl (txtR l) .no) txtW 0)),
 (46, (sameW (fun t : Arm => .agg t.cs) Arm.w 2)),
 (80, (sameG (fun l : List Arm => .sl (armR l) .no) 46 armW 3)),
 (45, (sameG (fun l : List Arm => .sl (armR l) .no) 46 armW 4)),
 (11, (sameW (fun t : Exp => .agg t.cs) Exp.w 2)),
 (35, latomsF),
 (38, ltermsF),
 (37, lparamsF),
 (36, ltypesF),
 (10, lplainF),
 (47, lwholeF),
 (12, lstandsF),
 (3, lsubstF)]
noncomputable def spB : List (FuncId × (List AV → Sto → Option (ARes × Sto))) := [(156, primCheck), (127, primString), (144, primItoa), (91, primSort), (129, primCompact), (50, primKeys)]
def spM : List (FuncId × List TypeId) := [(7, [52]), (152, [168]), (128, [35])]
noncomputable def SP : Sp := { code := codeP Tryz.prog, ms := lookM spM, base := lookB spB, sp := look spT }
theorem mixed : Tryz.prog.follows .mixedOrders = true := by kernel_rfl
def OkE (f : FuncId) (s : FS) : Prop := ∀ N, EnvOk Tryz.prog (SP.E N) → ∀ (a : s.α) (σ : Sto), s.pre a σ → s.sz a ≤ N → s.Ok Tryz.prog f a σ
theorem ok_sm {f : FuncId} {α : Type} {A : α → List AV} {R : α → AV} {p : α → Prop} {n : α → Nat} {r : Nat} (h : ∀ N, SmOk Tryz.prog SP N f A R p n r) : OkE f (smF A R p n r) := fun N hE a σ hp hN => J.tells mixed hE (h N a σ hp hN)
theorem ok_pure {f : FuncId} {α : Type} {A : α → List AV} {R : α → AV} {n : α → Nat} {r : Nat} (h : ∀ N, PureOk Tryz.prog SP N f A R n r) : OkE f (pureF A R n r) := fun N hE a σ hp hN => J.tells mixed hE (h N a σ hp hN)
theorem ok_same {f : FuncId} {α : Type} {A : α → AV} {n : α → Nat} {r : Nat} (h : ∀ N, SameOk SP N f A n r) : OkE f (sameF A n r) := fun N hE a σ hp hN => J.tells mixed hE (h N a.1 a.2 σ hp hN)
theorem ok_mk {f : FuncId} {α : Type} {A : MkE → α → List AV} {R : MkE → α → AV} {n c : α → Nat} {r : Nat} (h : ∀ N, MkOk SP N f A R n c r) : OkE f (mkF A R n c r) := fun N hE a σ hp hN => J.tells mixed hE (h N a.1 a.2 σ hp.1 hp.2 hN)
theorem bldH : BldH SP := { code := rfl, ck := by kernel_rfl, ckb := by kernel_rfl, st := by kernel_rfl, stb := by kernel_rfl, ws := by kernel_rfl, wsb := by kernel_rfl, wsm := by kernel_rfl }
theorem wrH : WrH SP := { toBldH := bldH, pt := by kernel_rfl, ptb := by kernel_rfl, ptm := by kernel_rfl, tm := by kernel_rfl, tmb := by kernel_rfl, tmm := by kernel_rfl, it := by kernel_rfl, itb := by kernel_rfl }
theorem lkH : LkH SP := { code := rfl, s1 := by kernel_rfl, b1 := by kernel_rfl, m1 := by kernel_rfl, s2 := by kernel_rfl, b2 := by kernel_rfl, m2 := by kernel_rfl, s3 := by kernel_rfl, b3 := by kernel_rfl, m3 := by kernel_rfl, s4 := by kernel_rfl, b4 := by kernel_rfl, m4 := by kernel_rfl, s5 := by kernel_rfl, b5 := by kernel_rfl, m5 := by kernel_rfl, s6 := by kernel_rfl, b6 := by kernel_rfl, m6 := by kernel_rfl, s7 := by kernel_rfl, b7 := by kernel_rfl, m7 := by kernel_rfl, s8 := by kernel_rfl, b8 := by kernel_rfl, m8 := by kernel_rfl, s9 := by kernel_rfl, b9 := by kernel_rfl, m9 := by kernel_rfl, s10 := by kernel_rfl, b10 := by kernel_rfl, m10 := by kernel_rfl, s11 := by kernel_rfl, b11 := by kernel_rfl, m11 := by kernel_rfl, s12 := by kernel_rfl, b12 := by kernel_rfl, m12 := by kernel_rfl, ow := by kernel_rfl }
theorem tfH : TfH SP := { code := rfl, s1 := by kernel_rfl, b1 := by kernel_rfl, m1 := by kernel_rfl, s2 := by kernel_rfl, b2 := by kernel_rfl, s3 := by kernel_rfl, b3 := by kernel_rfl }
theorem spw_0 : OkE 9 (lvF) := ok_sm fun N => lv_w (S := SP) (N := N) rfl (by kernel_rfl)
theorem spw_1 : OkE 155 (trim1F) := ok_sm fun N => trim1_w (S := SP) (N := N) rfl (by kernel_rfl)
theorem spw_2 : OkE 151 (plus1F) := ok_sm fun N => plus1_w (S := SP) (N := N) rfl (by kernel_rfl) (by kernel_rfl)
theorem spw_3 : OkE 142 (read1F) := ok_sm fun N => read1_w (S := SP) (N := N) rfl (by kernel_rfl) (by kernel_rfl)
theorem spw_4 : OkE 141 (write1F) := ok_sm fun N => write1_w (S := SP) (N := N) rfl (by kernel_rfl)
theorem spw_5 : OkE 123 (Trim1F) := ok_sm fun N => Trim1_w (S := SP) (N := N) rfl (by kernel_rfl) (by kernel_rfl) (by kernel_rfl)
theorem spw_6 : OkE 93 (of1F) := ok_sm fun N => of1_w (S := SP) (N := N) rfl (by kernel_rfl) (by kernel_rfl)
theorem spw_7 : OkE 52 (Of1F) := ok_sm fun N => Of1_w (S := SP) (N := N) rfl (by kernel_rfl) (by kernel_rfl)
theorem spw_8 : OkE 19 (lnF) := ok_sm fun N => ln_w (S := SP) (N := N) rfl (by kernel_rfl) (by kernel_rfl)
theorem spw_9 : OkE 17 (lyesF) := ok_sm fun N => lyes_w (S := SP) (N := N) rfl (by kernel_rfl)
theorem spw_10 : OkE 16 (lbaseF) := ok_sm fun N => lbase_w (S := SP) (N := N) rfl (by kernel_rfl)
theorem spw_11 : OkE 18 (laddF) := ok_sm fun N => ladd_w (S := SP) (N := N) rfl (by kernel_rfl)
theorem spw_12 : OkE 20 (lretF) := ok_sm fun N => lret_w (S := SP) (N := N) rfl (by kernel_rfl)
theorem spw_13 : OkE 15 (lletF) := ok_sm fun N => llet_w (S := SP) (N := N) rfl (by kernel_rfl)
theorem spw_14 : OkE 55 (limF) := ok_pure fun N => Clone_w (S := SP) (N := N) rfl (by kernel_rfl)
theorem spw_15 : OkE 24 (atomF) := ok_pure fun N => atom_w (S := SP) (N := N) rfl (by kernel_rfl) (by kernel_rfl)
theorem spw_16 : OkE 26 (copAF) := ok_pure fun N => copA_w (S := SP) (N := N) rfl (by kernel_rfl) (by kernel_rfl)
theorem spw_17 : OkE 25 (sub2F) := fun N hE a σ hp hN => J.tells mixed hE (sub2_w (S := SP) (N := N) rfl (by kernel_rfl) (by kernel_rfl) a.1 a.2 σ hp.1 hp.2 hN)
theorem spw_18 : OkE 124 (mustF) := ok_pure fun N => must_w (S := SP) (N := N) rfl (by kernel_rfl)
theorem spw_19 : OkE 100 (moreF) := fun N hE a σ hp hN => J.tells mixed hE (more_w (S := SP) (N := N) rfl (by kernel_rfl) (by kernel_rfl) a σ hp.1 hp.2 hN)
theorem spw_20 : OkE 101 (aloneF) := ok_pure fun N => alone_w (S := SP) (N := N) rfl (by kernel_rfl) (by kernel_rfl)
theorem spw_21 : OkE 98 (copiedF) := fun N hE a σ hp hN => J.tells mixed hE (copied_w (S := SP) (N := N) rfl (by kernel_rfl) (by kernel_rfl) (by kernel_rfl) (by kernel_rfl) a.1 a.2 σ hp.1 hp.2.1 hp.2.2 hN)
theorem spw_22 : OkE 97 (putF) := fun N hE a σ hp hN => J.tells mixed hE (put_w (S := SP) (N := N) rfl (by kernel_rfl) (by kernel_rfl) a.1 a.2.1 a.2.2 σ hp.1 hp.2.1 hp.2.2.1 hp.2.2.2 hN)
theorem spw_23 : OkE 59 (ofF) := fun N hE a σ hp hN => J.tells mixed hE (of_w (S := SP) (N := N) rfl (by kernel_rfl) (by kernel_rfl) (by kernel_rfl) (by kernel_rfl) (by kernel_rfl) a.1 a.2.1 a.2.2 σ hp.1 hp.2.1 hp.2.2.1 hp.2.2.2 hN)
theorem spw_24 : OkE 58 (sub1F) := fun N hE a σ hp hN => J.tells mixed hE (sub1_w (S := SP) (N := N) rfl (by kernel_rfl) (by kernel_rfl) a σ hp hN)
theorem spw_25 : OkE 57 (triedF) := fun N hE a σ hp hN => tried_w (S := SP) (N := N) rfl hE (by kernel_rfl) (by kernel_rfl) (by kernel_rfl) a σ hp hN
theorem spw_26 : OkE 28 (substF) := fun N hE a σ hp hN => J.tells mixed hE (subst_w (S := SP) (N := N) rfl (by kernel_rfl) (by kernel_rfl) (by kernel_rfl) (by kernel_rfl) (by kernel_rfl) a.1 a.2 σ hp hN)
theorem spw_27 : OkE 27 (sub3F) := fun N hE a σ hp hN => J.tells mixed hE (sub3_w (S := SP) (N := N) rfl (by kernel_rfl) (by kernel_rfl) a.1 a.2 σ hp.1 hp.2.1 hp.2.2 hN)
theorem spw_28 : OkE 103 ((mkF (fun m t => [.ptr m.mid 0, .agg t.cs]) (fun m t => .agg (m.putP t).cs) Prm.n Prm.c 12)) := ok_mk fun N => param_w (S := SP) (N := N) rfl (by kernel_rfl) (by kernel_rfl)
theorem spw_29 : OkE 102 ((mkF (fun m l => [.sl (prmR l) .no, .fn (.func 103) [.ptr m.mid 0] []]) (fun m l => .sl (prmR (m.putPs l)) .no) prmN prmC 13)) := ok_mk fun N => eachPrm_w (S := SP) (N := N) rfl (by kernel_rfl) (by kernel_rfl)
theorem spw_30 : OkE 61 ((mkF (fun m t => [.ptr m.mid 0, .agg t.cs]) (fun m t => .agg (m.putY t).cs) Ty.n Ty.c 11)) := ok_mk fun N => kind_w (S := SP) (N := N) rfl (by kernel_rfl) (by kernel_rfl) (by kernel_rfl) (by kernel_rfl)
theorem spw_31 : OkE 60 ((mkF (fun m l => [.sl (tyR l) .no, .fn (.func 61) [.ptr m.mid 0] []]) (fun m l => .sl (tyR (m.putYs l)) .no) tyN tyC 12)) := ok_mk fun N => eachTy_w (S := SP) (N := N) rfl (by kernel_rfl) (by kernel_rfl)
theorem spw_32 : OkE 104 ((mkF (fun m l => [.sl (atmR l) .no, m.fA]) (fun m l => .sl (atmR (m.putAs l)) .no) atmN atmC 10)) := ok_mk fun N => eachAtm_w (S := SP) (N := N) rfl (by kernel_rfl) (by kernel_rfl)
theorem spw_33 : OkE 64 ((mkF (fun m l => [.sl (expR l) .no, .fn (.func 29) [.ptr m.mid 0] []]) (fun m l => .sl (expR (m.putEs l)) .no) expN expC 15)) := ok_mk fun N => eachExp_w (S := SP) (N := N) rfl (by kernel_rfl) (by kernel_rfl)
theorem spw_34 : OkE 105 ((mkF (fun m l => [.sl (trmR l) .no, m.fT]) (fun m l => .sl (trmR (m.e.puts l)) .no) trmN trmCs 10)) := ok_mk fun N => eachTrm_w (S := SP) (N := N) rfl (by kernel_rfl) (by kernel_rfl)
theorem spw_35 : OkE 63 ((mkF (fun m t => [.ptr m.mid 0, .agg t.cs]) (fun m t => .agg (m.putR t).cs) Rhs.n Rhs.c 14)) := ok_mk fun N => rhs_w (S := SP) (N := N) rfl (by kernel_rfl) (by kernel_rfl) (by kernel_rfl) (by kernel_rfl) (by kernel_rfl) (by kernel_rfl)
theorem spw_36 : OkE 62 ((mkF (fun m l => [.sl (rhsR l) .no, .fn (.func 63) [.ptr m.mid 0] []]) (fun m l => .sl (rhsR (m.putRs l)) .no) rhsN rhsC 15)) := ok_mk fun N => eachRhs_w (S := SP) (N := N) rfl (by kernel_rfl) (by kernel_rfl)
theorem spw_37 : OkE 106 (txtF) := ok_pure fun N => CloneT_w (S := SP) (N := N) rfl (by kernel_rfl)
theorem spw_38 : OkE 66 ((mkF (fun m t => [.ptr m.mid 0, .agg t.cs]) (fun m t => .agg (m.putM t).cs) Arm.n Arm.c 14)) := ok_mk fun N => arm_w (S := SP) (N := N) rfl (by kernel_rfl) (by kernel_rfl) (by kernel_rfl)
theorem spw_39 : OkE 65 ((mkF (fun m l => [.sl (armR l) .no, .fn (.func 66) [.ptr m.mid 0] []]) (fun m l => .sl (armR (m.putMs l)) .no) armN armC 15)) := ok_mk fun N => eachArm_w (S := SP) (N := N) rfl (by kernel_rfl) (by kernel_rfl)
theorem spw_40 : OkE 29 ((mkF (fun m t => [.ptr m.mid 0, .agg t.cs]) (fun m t => .agg (m.putE t).cs) Exp.n Exp.c 14)) := ok_mk fun N => expr_w (S := SP) (N := N) rfl (by kernel_rfl) (by kernel_rfl) (by kernel_rfl) (by kernel_rfl) (by kernel_rfl) (by kernel_rfl)
theorem spw_41 : OkE 7 (substEF) := fun N hE a σ hp hN => substE_w (S := SP) (N := N) rfl hE (by kernel_rfl) (by kernel_rfl) (by kernel_rfl) (by kernel_rfl) a σ hp hN
theorem spw_42 : OkE 48 (ownF) := ok_sm fun N => own_w (S := SP) (N := N) rfl (by kernel_rfl)
theorem spw_43 : OkE 13 (countF) := ok_sm fun N => Count_w (S := SP) (N := N) rfl (by kernel_rfl) (by kernel_rfl) (by kernel_rfl)
theorem spw_44 : OkE 118 (tfreeF) := ok_sm fun N => tfree_w (S := SP) (N := N) tfH (by kernel_rfl)
theorem spw_45 : OkE 14 (treeFreeF) := ok_sm fun N => treeFree_w (S := SP) (N := N) lkH (by kernel_rfl) (by kernel_rfl) (by kernel_rfl) (by kernel_rfl) (by kernel_rfl) (by kernel_rfl) (by kernel_rfl)
theorem spw_46 : OkE 21 ((sameF (fun l => .sl (txtR l) .no) List.length 0)) := ok_same fun N => SameTexts_w (S := SP) (N := N) rfl (by kernel_rfl)
theorem spw_47 : OkE 111 ((sameF (fun l => .sl (limR l) .no) List.length 0)) := ok_same fun N => SameLimbs_w (S := SP) (N := N) rfl (by kernel_rfl)
theorem spw_48 : OkE 69 ((sameF intA intN 1)) := ok_same fun N => SameInt_w (S := SP) (N := N) rfl (by kernel_rfl) (by kernel_rfl)
theorem spw_49 : OkE 110 ((sameF (fun l => .sl (trmR l) .no) trmN 3)) := ok_same fun N => SameTerms_w (S := SP) (N := N) rfl (by kernel_rfl) (by kernel_rfl)
theorem spw_50 : OkE 107 ((sameF (fun t : Trm => .agg t.cs) Trm.n 2)) := ok_same fun N => SameTerm_w (S := SP) (N := N) rfl (by kernel_rfl) (by kernel_rfl) (by kernel_rfl)
theorem spw_51 : OkE 125 ((sameF (fun t : Prm => .agg t.cs) Prm.n 5)) := ok_same fun N => SameParam_w (S := SP) (N := N) rfl (by kernel_rfl) (by kernel_rfl)
theorem spw_52 : OkE 108 ((sameF (fun l => .sl (prmR l) .no) prmN 6)) := ok_same fun N => SameParams_w (S := SP) (N := N) rfl (by kernel_rfl) (by kernel_rfl)
theorem spw_53 : OkE 67 ((sameF (fun t : Ty => .agg t.cs) Ty.n 4)) := ok_same fun N => SameType_w (S := SP) (N := N) rfl (by kernel_rfl) (by kernel_rfl) (by kernel_rfl) (by kernel_rfl)
theorem spw_54 : OkE 30 ((sameF (fun l => .sl (tyR l) .no) tyN 6)) := ok_same fun N => SameTypes_w (S := SP) (N := N) rfl (by kernel_rfl) (by kernel_rfl)
theorem spw_55 : OkE 32 ((sameF (fun t : Atm => .agg t.cs) Atm.n 2)) := ok_same fun N => SameAtom_w (S := SP) (N := N) rfl (by kernel_rfl) (by kernel_rfl)
theorem spw_56 : OkE 109 ((sameF (fun l => .sl (atmR l) .no) atmN 3)) := ok_same fun N => SameAtoms_w (S := SP) (N := N) rfl (by kernel_rfl) (by kernel_rfl)
theorem spw_57 : OkE 34 ((sameF (fun l => .sl (expR l) .no) expN 10)) := ok_same fun N => SameExprs_w (S := SP) (N := N) rfl (by kernel_rfl) (by kernel_rfl)
theorem spw_58 : OkE 68 ((sameF (fun t : Rhs => .agg t.cs) Rhs.n 9)) := ok_same fun N => SameRhs_w (S := SP) (N := N) rfl (by kernel_rfl) (by kernel_rfl) (by kernel_rfl) (by kernel_rfl) (by kernel_rfl) (by kernel_rfl)
theorem spw_59 : OkE 31 ((sameF (fun l => .sl (rhsR l) .no) rhsN 10)) := ok_same fun N => SameRhss_w (S := SP) (N := N) rfl (by kernel_rfl) (by kernel_rfl)
theorem spw_60 : OkE 70 ((sameF (fun t : Arm => .agg t.cs) Arm.n 9)) := ok_same fun N => SameArm_w (S := SP) (N := N) rfl (by kernel_rfl) (by kernel_rfl) (by kernel_rfl)
theorem spw_61 : OkE 33 ((sameF (fun l => .sl (armR l) .no) armN 10)) := ok_same fun N => SameArms_w (S := SP) (N := N) rfl (by kernel_rfl) (by kernel_rfl)
theorem spw_62 : OkE 8 ((sameF (fun t : Exp => .agg t.cs) Exp.n 9)) := ok_same fun N => SameExpr_w (S := SP) (N := N) rfl (by kernel_rfl) (by kernel_rfl) (by kernel_rfl) (by kernel_rfl) (by kernel_rfl) (by kernel_rfl)
theorem spw_63 : OkE 5 (awakeF) := ok_sm fun N => awake_w (S := SP) (N := N) rfl (by kernel_rfl) (by kernel_rfl) (by kernel_rfl) (by kernel_rfl) (by kernel_rfl) (by kernel_rfl) (by kernel_rfl) (by kernel_rfl) (by kernel_rfl) (by kernel_rfl) (by kernel_rfl) (by kernel_rfl) (by kernel_rfl)
theorem spw_64 : OkE 96 (trmsGoF) := ok_sm fun N => TermsOf_w (S := SP) (N := N) rfl (by kernel_rfl) (by kernel_rfl)
theorem spw_65 : OkE 94 (trmOfF) := ok_sm fun N => TermOf_w (S := SP) (N := N) rfl (by kernel_rfl) (by kernel_rfl)
theorem spw_66 : OkE 53 (tysGoF) := ok_sm fun N => TypesOf_w (S := SP) (N := N) rfl (by kernel_rfl) (by kernel_rfl) (by kernel_rfl) (by kernel_rfl)
theorem spw_67 : OkE 95 (prmsGoF) := ok_sm fun N => ParamsOf_w (S := SP) (N := N) rfl (by kernel_rfl) (by kernel_rfl)
theorem spw_68 : OkE 54 (rhssGoF) := ok_sm fun N => RhssOf_w (S := SP) (N := N) rfl (by kernel_rfl) (by kernel_rfl) (by kernel_rfl) (by kernel_rfl) (by kernel_rfl)
theorem spw_69 : OkE 22 (expsGoF) := ok_sm fun N => ExprsOf_w (S := SP) (N := N) rfl (by kernel_rfl) (by kernel_rfl) (by kernel_rfl) (by kernel_rfl)
theorem spw_70 : OkE 6 (lgreatF) := ok_sm fun N => lgreat_w (S := SP) (N := N) rfl (by kernel_rfl) (by kernel_rfl)
theorem spw_71 : OkE 112 (keyF) := ok_sm fun N => Key_w (S := SP) (N := N) wrH (by kernel_rfl)
theorem spw_72 : OkE 73 ((sameW (fun t : Trm => .agg t.cs) Trm.w 2)) := ok_sm fun N => sameTerm_w (S := SP) (N := N) rfl (by kernel_rfl) (by kernel_rfl)
theorem spw_73 : OkE 75 ((sameW (fun t : Prm => .agg t.cs) Prm.w 2)) := ok_sm fun N => tSPrm_w (S := SP) (N := N) rfl (by kernel_rfl) (by kernel_rfl)
theorem spw_74 : OkE 113 ((sameG (fun l : List Prm => .sl (prmR l) .no) 75 prmW 3)) := ok_sm fun N => EqFPrm_w (S := SP) (N := N) rfl (by kernel_rfl) (by kernel_rfl)
theorem spw_75 : OkE 74 ((sameG (fun l : List Prm => .sl (prmR l) .no) 75 prmW 4)) := ok_sm fun N => SameGPrm_w (S := SP) (N := N) rfl (by kernel_rfl) (by kernel_rfl)
theorem spw_76 : OkE 41 ((sameW (fun t : Ty => .agg t.cs) Ty.w 2)) := ok_sm fun N => tSTy_w (S := SP) (N := N) rfl (by kernel_rfl) (by kernel_rfl) (by kernel_rfl) (by kernel_rfl)
theorem spw_77 : OkE 72 ((sameG (fun l : List Ty => .sl (tyR l) .no) 41 tyW 3)) := ok_sm fun N => EqFTy_w (S := SP) (N := N) rfl (by kernel_rfl) (by kernel_rfl)
theorem spw_78 : OkE 40 ((sameG (fun l : List Ty => .sl (tyR l) .no) 41 tyW 4)) := ok_sm fun N => SameGTy_w (S := SP) (N := N) rfl (by kernel_rfl) (by kernel_rfl)
theorem spw_79 : OkE 71 ((sameW (fun l => .sl (limR l) .no) List.length 0)) := ok_sm fun N => EqL_w (S := SP) (N := N) rfl (by kernel_rfl)
theorem spw_80 : OkE 39 ((sameW (fun t : Atm => .agg t.cs) Atm.w 2)) := ok_sm fun N => tSAtm_w (S := SP) (N := N) rfl (by kernel_rfl) (by kernel_rfl)
theorem spw_81 : OkE 114 ((sameG (fun l : List Atm => .sl (atmR l) .no) 39 atmW 3)) := ok_sm fun N => EqFAtm_w (S := SP) (N := N) rfl (by kernel_rfl) (by kernel_rfl)
theorem spw_82 : OkE 77 ((sameG (fun l : List Atm => .sl (atmR l) .no) 39 atmW 4)) := ok_sm fun N => SameGAtm_w (S := SP) (N := N) rfl (by kernel_rfl) (by kernel_rfl)
theorem spw_83 : OkE 79 ((sameG (fun l : List Exp => .sl (expR l) .no) 11 expW 3)) := ok_sm fun N => EqFExp_w (S := SP) (N := N) rfl (by kernel_rfl) (by kernel_rfl)
theorem spw_84 : OkE 44 ((sameG (fun l : List Exp => .sl (expR l) .no) 11 expW 4)) := ok_sm fun N => SameGExp_w (S := SP) (N := N) rfl (by kernel_rfl) (by kernel_rfl)
theorem spw_85 : OkE 115 ((sameG (fun l : List Trm => .sl (trmR l) .no) 73 trmW 3)) := ok_sm fun N => EqFTrm_w (S := SP) (N := N) rfl (by kernel_rfl) (by kernel_rfl)
theorem spw_86 : OkE 78 ((sameG (fun l : List Trm => .sl (trmR l) .no) 73 trmW 4)) := ok_sm fun N => SameGTrm_w (S := SP) (N := N) rfl (by kernel_rfl) (by kernel_rfl)
theorem spw_87 : OkE 43 ((sameW (fun t : Rhs => .agg t.cs) Rhs.w 2)) := ok_sm fun N => tSRhs_w (S := SP) (N := N) rfl (by kernel_rfl) (by kernel_rfl) (by kernel_rfl) (by kernel_rfl) (by kernel_rfl) (by kernel_rfl)
theorem spw_88 : OkE 76 ((sameG (fun l : List Rhs => .sl (rhsR l) .no) 43 rhsW 3)) := ok_sm fun N => EqFRhs_w (S := SP) (N := N) rfl (by kernel_rfl) (by kernel_rfl)
theorem spw_89 : OkE 42 ((sameG (fun l : List Rhs => .sl (rhsR l) .no) 43 rhsW 4)) := ok_sm fun N => SameGRhs_w (S := SP) (N := N) rfl (by kernel_rfl) (by kernel_rfl)
theorem spw_90 : OkE 81 ((sameW (fun l => .sl (txtR l) .no) txtW 0)) := ok_sm fun N => EqX_w (S := SP) (N := N) rfl (by kernel_rfl)
theorem spw_91 : OkE 46 ((sameW (fun t : Arm => .agg t.cs) Arm.w 2)) := ok_sm fun N => tSArm_w (S := SP) (N := N) rfl (by kernel_rfl) (by kernel_rfl) (by kernel_rfl)
theorem spw_92 : OkE 80 ((sameG (fun l : List Arm => .sl (armR l) .no) 46 armW 3)) := ok_sm fun N => EqFArm_w (S := SP) (N := N) rfl (by kernel_rfl) (by kernel_rfl)
theorem spw_93 : OkE 45 ((sameG (fun l : List Arm => .sl (armR l) .no) 46 armW 4)) := ok_sm fun N => SameGArm_w (S := SP) (N := N) rfl (by kernel_rfl) (by kernel_rfl)
theorem spw_94 : OkE 11 ((sameW (fun t : Exp => .agg t.cs) Exp.w 2)) := ok_sm fun N => tSExp_w (S := SP) (N := N) rfl (by kernel_rfl) (by kernel_rfl) (by kernel_rfl) (by kernel_rfl) (by kernel_rfl) (by kernel_rfl)
theorem spw_95 : OkE 35 (latomsF) := ok_pure fun N => latoms_w (S := SP) (N := N) rfl (by kernel_rfl)
theorem spw_96 : OkE 38 (ltermsF) := ok_pure fun N => lterms_w (S := SP) (N := N) rfl (by kernel_rfl) (by kernel_rfl)
theorem spw_97 : OkE 37 (lparamsF) := ok_pure fun N => lparams_w (S := SP) (N := N) rfl (by kernel_rfl) (by kernel_rfl)
theorem spw_98 : OkE 36 (ltypesF) := ok_pure fun N => ltypes_w (S := SP) (N := N) rfl (by kernel_rfl) (by kernel_rfl) (by kernel_rfl) (by kernel_rfl)
theorem spw_99 : OkE 10 (lplainF) := ok_pure fun N => lplain_w (S := SP) (N := N) rfl (by kernel_rfl) (by kernel_rfl) (by kernel_rfl) (by kernel_rfl) (by kernel_rfl) (by kernel_rfl)
theorem spw_100 : OkE 47 (lwholeF) := ok_sm fun N => lwhole_w (S := SP) (N := N) rfl (by kernel_rfl) (by kernel_rfl) (by kernel_rfl) (by kernel_rfl)
theorem spw_101 : OkE 12 (lstandsF) := ok_sm fun N => lstands_w (S := SP) (N := N) rfl (by kernel_rfl) (by kernel_rfl) (by kernel_rfl)
theorem spw_102 : OkE 3 (lsubstF) := ok_sm fun N => lsubst_w (S := SP) (N := N) rfl (by kernel_rfl) (by kernel_rfl) (by kernel_rfl) (by kernel_rfl) (by kernel_rfl) (by kernel_rfl) (by kernel_rfl) (by kernel_rfl) (by kernel_rfl) (by kernel_rfl)
def AllE : List (FuncId × FS) → Prop
 | [] => True
 | p :: l => OkE p.1 p.2 ∧ AllE l
theorem AllE.mem : ∀ {l : List (FuncId × FS)}, AllE l → ∀ p ∈ l, OkE p.1 p.2
 | q :: l, h, p, hp => by
  rcases List.mem_cons.1 hp with rfl | hp
  · exact h.1
  · exact AllE.mem h.2 p hp
theorem all_ok : AllE spT := ⟨spw_0, spw_1, spw_2, spw_3, spw_4, spw_5, spw_6, spw_7, spw_8, spw_9, spw_10, spw_11, spw_12, spw_13, spw_14, spw_15, spw_16, spw_17, spw_18, spw_19, spw_20, spw_21, spw_22, spw_23, spw_24, spw_25, spw_26, spw_27, spw_28, spw_29, spw_30, spw_31, spw_32, spw_33, spw_34, spw_35, spw_36, spw_37, spw_38, spw_39, spw_40, spw_41, spw_42, spw_43, spw_44, spw_45, spw_46, spw_47, spw_48, spw_49, spw_50, spw_51, spw_52, spw_53, spw_54, spw_55, spw_56, spw_57, spw_58, spw_59, spw_60, spw_61, spw_62, spw_63, spw_64, spw_65, spw_66, spw_67, spw_68, spw_69, spw_70, spw_71, spw_72, spw_73, spw_74, spw_75, spw_76, spw_77, spw_78, spw_79, spw_80, spw_81, spw_82, spw_83, spw_84, spw_85, spw_86, spw_87, spw_88, spw_89, spw_90, spw_91, spw_92, spw_93, spw_94, spw_95, spw_96, spw_97, spw_98, spw_99, spw_100, spw_101, spw_102, trivial⟩
def AllB : List (FuncId × (List AV → Sto → Option (ARes × Sto))) → Prop
 | [] => True
 | p :: l => (CallSound Tryz.prog fun f' args σ => if f' = p.1 then p.2 args σ else none) ∧ AllB l
theorem AllB.mem : ∀ {l : List (FuncId × (List AV → Sto → Option (ARes × Sto)))}, AllB l → ∀ p ∈ l, CallSound Tryz.prog fun f' args σ => if f' = p.1 then p.2 args σ else none
 | q :: l, h, p, hp => by
  rcases List.mem_cons.1 hp with rfl | hp
  · exact h.1
  · exact AllB.mem h.2 p hp
theorem all_b : AllB spB := ⟨primCheck_sound, primString_sound, primItoa_sound, primSort_sound, primCompact_sound, primKeys_sound, trivial⟩
theorem SP_ok : ∀ N, EnvOk Tryz.prog (SP.E N) := Sp.ok (fun f fn h => codeP_ok f fn h) (fun f g h => all_b.mem (f, g) (lookB_mem h)) fun N hE f s h a σ hp hN => all_ok.mem (f, s) (look_mem h) N hE a σ hp hN
end
section
open Go.RowKit
section
variable {H : Type} (P : Program)
def wfFields (g : TypeId → DataW H → Prop) : List Field → List (DataW H) → Prop
 | f :: fs, d :: ds => g f.type d ∧ wfFields g fs ds
 | _, _ => True
def wfD : Nat → TypeId → DataW H → Prop
 | 0, _, _ => True
 | n + 1, t, d =>
  match P.underlying t, d with
  | some (.int k), .lit (.int k' m) => k' = k ∧ (Lit.int k m).wf = true
  | some (.slice e), .slice elems _ => ∀ x ∈ elems, wfD n e x
  | some (.struct fs), .agg parts => wfFields (wfD n) fs.toList parts
  | _, _ => True
end
section
variable {H : Type} {enc : TypeId × Value → H} {P : Program} {w : World}
theorem wfFields_of {n : Nat} {cs : List Value} (ih : ∀ (t : TypeId) (c : List Value) (d : DataW H) (ps : List MemPlace), DataW.trod enc P w 0 (fun _ => true) true n t c = some (d, ps) → wfD P n t d) :
    ∀ (fs : List Field) (xs : List (DataW H × List MemPlace)), omap (fun f : Field => DataW.trod enc P w 0 (fun _ => true) true n f.type ((cs.drop f.offset).take (P.cellsOf f.type))) fs = some xs → wfFields (wfD P n) fs (xs.map (·.1))
 | [], xs, h => by
  simp [omap] at h; subst h; trivial
 | f :: fs, xs, h => by
  rw [omap] at h
  split at h
  · rename_i b bs h1 h2
    cases h
    obtain ⟨d, ps⟩ := b
    exact ⟨ih f.type _ d ps h1, wfFields_of ih fs bs h2⟩
  · cases h
theorem trod_wf : ∀ (n : Nat) (t : TypeId) (c : List Value) (d : DataW H) (ps : List MemPlace), DataW.trod enc P w 0 (fun _ => true) true n t c = some (d, ps) → wfD P n t d
 | 0, t, c, d, ps, h => trivial
 | n + 1, t, c, d, ps, h => by
  rw [DataW.trod_step] at h
  unfold DataW.trodStep at h
  split at h
  case h_2 k k' m hu =>
   split at h
   · rename_i hc
     obtain ⟨rfl, hw⟩ := hc
     cases h
     unfold wfD
     simp only [hu]
     exact ⟨trivial, hw⟩
   · cases h
  case h_8 e a len cap hu =>
   dsimp only at h
   split at h
   · rw [Option.bind_eq_some_iff] at h
     obtain ⟨els, h1, h2⟩ := h
     rw [Option.map_eq_some_iff] at h2
     obtain ⟨rest, h2, h3⟩ := h2
     cases h3
     unfold wfD
     simp only [hu]
     intro x hx
     obtain ⟨y, hy, rfl⟩ := List.mem_map.1 hx
     rw [← omap_mapM] at h1
     obtain ⟨i, hi⟩ := List.getElem?_of_mem hy
     obtain ⟨i', e1, e2⟩ := omap_get h1 i y hi
     rw [Option.bind_eq_some_iff] at e2
     obtain ⟨c', f1, f2⟩ := e2
     exact trod_wf n e c' y.1 y.2 f2
   · cases h
  case h_9 fs hu =>
   split at h
   · rw [Option.map_eq_some_iff] at h
     obtain ⟨xs, h1, h2⟩ := h
     cases h2
     rw [← omap_mapM] at h1
     unfold wfD
     simp only [hu]
     exact wfFields_of (fun t c d ps h => trod_wf n t c d ps h) fs.toList xs h1
   · cases h
  all_goals
   unfold wfD
   split
   all_goals first
    | trivial
    | (simp_all; done)
end
end
end Go.Proofs.YtncoidmbmihliaaGreatDoor
