/-
 EV: the document's answer for layer 19: Stem.
-/
import Derived.Test.YteajcnilihgheaaGreatDoorSc1M
import Derived.Test.YteajcnilihgheaaGreatDoorRw1M
import Derived.Test.YteajcnilihgheaaGreatDoorRStemM
import Derived.Test.YteajcnilihgheaaGreatDoorEvDrawJM
namespace Go.Proofs.YteajcnilihgheaaGreatDoor
set_option maxRecDepth 100000
set_option maxHeartbeats 8000000
set_option linter.unusedSimpArgs false
set_option linter.unusedVariables false
section
open Go.RowKit
variable {S : Sp} {N : Nat}
theorem stem_run {s : List UInt8} {k : Nat} (hk : k ≤ s.length) (hd : ∀ x ∈ s.drop k, isD x = true) (h0 : ∀ x, s[k - 1]? = some x → 0 < k → isD x = false) : stemL s = (if k < s.length ∧ 0 < k ∧ s[k - 1]? = some 95 then s.take (k - 1) else s).take 30 := by
 have e : (s.reverse.dropWhile isD).reverse = s.take k := by
  have e1 : s.reverse = (s.drop k).reverse ++ (s.take k).reverse := by rw [← List.reverse_append, List.take_append_drop]
  rw [e1, List.dropWhile_append, dropWhile_all fun x hx => hd x (by simpa using hx)]
  simp only [List.isEmpty_nil, if_true]
  rcases Nat.eq_zero_or_pos k with rfl | hp
  · simp
  · have hl : k - 1 < s.length := by omega
    have e2 : s.take k = s.take (k - 1) ++ [s[k - 1]] := by rw [← List.take_succ_eq_append_getElem hl]; congr 1; omega
    rw [e2, List.reverse_append, List.reverse_singleton, List.singleton_append, List.dropWhile_cons, h0 _ (List.getElem?_eq_getElem hl) hp]
    simp
 unfold stemL
 dsimp only
 rw [e]
 have hlen : (s.take k).length = k := List.length_take_of_le hk
 have hlast : (s.take k).getLast? = if 0 < k then s[k - 1]? else none := by
  rw [List.getLast?_eq_getElem?, hlen]
  split
  · rw [List.getElem?_take, if_pos (by omega)]
  · obtain rfl : k = 0 := by omega
    simp
 have hdl : (s.take k).dropLast = s.take (k - 1) := by rw [List.dropLast_eq_take, hlen, List.take_take]; congr 1; omega
 rw [hlen, hlast, hdl]
 congr 1
 rcases Nat.eq_zero_or_pos k with rfl | hp
 · simp
 · simp [hp]
theorem isD_rng {x : UInt8} : isD x = true ↔ 48 ≤ x.toNat ∧ x.toNat ≤ 57 := by
 have h : ∀ n, n < 256 → (isD (UInt8.ofNat n) = true ↔ 48 ≤ n ∧ n ≤ 57) := by decide +kernel
 have := h x.toNat x.toNat_lt
 rwa [UInt8.ofNat_toNat] at this
theorem stem9_w (hc : S.code = codeP Tryz.prog) (hm : S.ms 12 = []) : SmOk Tryz.prog S N 12 (fun s : ByteArray => [.lit (.string s)]) (fun s => strV (stemL s.data.toList)) (fun s => s.size ≤ 1000000000000) (fun _ => 0) 0 := by
 intro s σ hs hN
 refine JC.startF (fn := Tryz.f12) (codeOf hc Tryz.func12 rfl (by kernel_rfl)) rfl hm rfl (zL rfl) fun tm => ?_
 refine CW.hide fun R0 hR0 => ?_
 refine CW.seqK fun K hK => CW.region ?_
 simp (maxDischargeDepth := 16) [zY]
 refine hK _ _ ?_; clear hK K
 refine CW.seqK fun K hK => CW.region ?_
 simp (maxDischargeDepth := 16) [zY]
 refine hK _ _ ?_; clear hK K
 refine CW.seqK fun KL hKL => ?_
 refine CW.block (CW.hide fun R hR => ?_)
 refine CW.loopF (fun p : Nat => [(0, .lit (.string s)), (3, intV p)]) (fun _ => σ) (fun p => p ≤ s.size ∧ ∀ x ∈ s.data.toList.drop p, isD x = true) (fun p => p) s.size (by simp [sub, lk]) rfl ⟨Nat.le_refl _, by intro x hx; rw [List.drop_of_length_le (by rw [Array.length_toList]; exact Nat.le_refl _)] at hx; cases hx⟩ ?_
 have exit : ∀ (k : Nat) (fr : List (Nat × AV)) (tm : List AV), k ≤ s.size → (∀ x ∈ s.data.toList.drop k, isD x = true) → (∀ x, s.data.toList[k - 1]? = some x → 0 < k → isD x = false) → sub [(0, .lit (.string s)), (3, intV k)] fr → KL (fm 48 fr tm) σ := by
  intro k fr tm h1 h2 h3 hfr
  rw [fm_sub hfr]
  refine hKL _ _ ?_
  clear hR hKL hfr
  have hst := stem_run (s := s.data.toList) (k := k) (by rw [Array.length_toList]; exact h1) h2 h3
  rw [Array.length_toList] at hst
  have z30 : ∀ x : ByteArray, AV.lit (.string (x.extract 0 30)) = strV (x.data.toList.take 30) := fun x => by
   unfold strV; rw [← ext_take]
  have zle : ∀ x : ByteArray, x.size ≤ 30 → AV.lit (.string x) = strV (x.data.toList.take 30) := fun x h => by
   unfold strV
   rw [List.take_of_length_le (by rw [Array.length_toList]; exact h)]
  refine CW.seqK fun K hK => ?_
  have fin : ∀ (x : ByteArray) (fr : List (Nat × AV)) (tm : List AV), x.size ≤ 1000000000000 → stemL s.data.toList = x.data.toList.take 30 → sub [(0, .lit (.string x))] fr → K (fm 48 fr tm) σ := by
   intro x fr tm hx hs hfr
   rw [fm_sub hfr]
   refine hK _ _ ?_
   dsimp only at hR0
   rw [hs] at hR0
   rcases Nat.lt_or_ge 30 x.size with h30 | h30
   · have e1 : ((30 : Int) < (x.size : Int)) = True := eq_true (by omega)
     have e2 : ((30 : Int) ≤ (x.size : Int)) = True := eq_true (by omega)
     refine CW.seqK fun K hK => CW.region ?_
     simp (maxDischargeDepth := 16) [zY, es_min, e1, e2]
     refine hK _ _ ?_; clear hK K
     exact CW.ret (hR0 _ _ _ ⟨.lit (.string (x.extract 0 30)), by simp [zA, omap, zB, zF, lk], done0 rfl (z30 x)⟩)
   · have e1 : ((30 : Int) < (x.size : Int)) = False := eq_false (by omega)
     have e2 : (x.size ≤ 30) = True := eq_true (by omega)
     refine CW.seqK fun K hK => CW.region ?_
     simp (maxDischargeDepth := 16) [zY, es_min, e1, e2]
     refine hK _ _ ?_; clear hK K
     exact CW.ret (hR0 _ _ _ ⟨.lit (.string x), by simp [zA, omap, zB, zF, lk], done0 rfl (zle x h30)⟩)
  clear hR0 z30 zle hK h2
  refine CW.seqK fun K2 hK2 => CW.region ?_
  rcases Nat.lt_or_ge k s.size with hk | hk
  · have e1 : ((k : Int) < (s.size : Int)) = True := eq_true (by omega)
    rcases Nat.eq_zero_or_pos k with h0 | h0
    · subst h0
      rw [if_neg (fun h => absurd h.2.1 (by omega))] at hst
      have e1' : (0 < s.size) = True := eq_true hk
      simp (maxDischargeDepth := 16) [zY, e1']
      refine hK2 _ _ ?_
      refine CW.cond (t := false) (by simp [zT, zF, lk]) ?_
      exact CW.skip (fin s _ _ hs hst (by simp [sub, lk]))
    · have hlt : k - 1 < s.size := by omega
      have hx : s[k - 1]? = some s[k - 1] := by simp [hlt]
      have hx2 : s.data.toList[k - 1]? = some s[k - 1] := by rw [Array.getElem?_toList]; exact Array.getElem?_eq_getElem hlt
      have e2 : (0 < k) = True := eq_true h0
      have hw : IntKind.i64.wrap ((k : Int) - 1) = ((k - 1 : Nat) : Int) := by rw [IntWalk.i64_in _ (by omega)]; omega
      have e3 : ((0 : Int) ≤ ((k - 1 : Nat) : Int)) = True := eq_true (Int.natCast_nonneg _)
      have e4 : (((k - 1 : Nat) : Int) ≤ (s.size : Int)) = True := eq_true (by omega)
      have e5 : (k - 1 ≤ s.size) = True := eq_true (by omega)
      generalize s[k - 1] = x at *
      generalize hj : k - 1 = j at *
      rw [hx2] at hst
      rcases Classical.em (x = 95) with h95 | h95
      · rw [if_pos ⟨hk, h0, by rw [h95]⟩, ← ext_take] at hst
        have e6 : ((x.toNat : Int) = 95) = True := eq_true (by rw [h95]; rfl)
        simp (maxDischargeDepth := 16) [zY, e1, e2, hw, hx, e3, e6]
        refine hK2 _ _ ?_
        refine CW.cond (t := true) (by simp [zT, zF, lk, e6]) ?_
        refine CW.region ?_
        simp (maxDischargeDepth := 16) [zY, hw, e3, e4, e5]
        exact fin _ _ _ (by rw [ByteArray.size_extract]; omega) hst (by simp [sub, lk])
      · rw [if_neg (fun h => h95 (Option.some.inj h.2.2))] at hst
        have e6 : ((x.toNat : Int) = 95) = False := eq_false fun h => h95 (by
         have h1 : x.toNat = 95 := by omega
         have h2 : UInt8.ofNat x.toNat = UInt8.ofNat 95 := by rw [h1]
         rwa [UInt8.ofNat_toNat] at h2)
        simp (maxDischargeDepth := 16) [zY, e1, e2, hw, hx, e3, e6]
        refine hK2 _ _ ?_
        refine CW.cond (t := false) (by simp [zT, zF, lk, e6]) ?_
        exact CW.skip (fin s _ _ hs hst (by simp [sub, lk]))
  · have e1 : ((k : Int) < (s.size : Int)) = False := eq_false (by omega)
    rw [if_neg (fun h => absurd h.1 (by show ¬ k < s.size; omega))] at hst
    simp (maxDischargeDepth := 16) [zY, e1]
    refine hK2 _ _ ?_
    refine CW.cond (t := false) (by simp [zT, zF, lk]) ?_
    exact CW.skip (fin s _ _ hs hst (by simp [sub, lk]))
 rintro p tm ⟨hp, hq⟩
 rcases p with _ | i
 · refine CW.hide fun R2 hR2 => CW.seqK fun K4 hK4 => CW.seqK fun K5 hK5 => CW.region ?_
   simp (maxDischargeDepth := 16) [zY]
   refine hK5 _ _ ?_
   refine CW.cond (t := false) (by simp [zT, zF, lk]) ?_
   refine CW.exit (hR2 _ _ _ (hR _ _ _ ?_))
   simp only [outOf, if_true, andThen]
   exact exit 0 _ _ hp hq (fun x _ h => absurd h (by omega)) (by simp [sub, lk])
 · have hlt : i < s.size := hp
   have hw : IntKind.i64.wrap (i : Int) = (i : Int) := IntWalk.i64_in _ (by omega)
   have hx : s[i]? = some s[i] := by simp [hlt]
   have hx2 : s.data.toList[i]? = some s[i] := by rw [Array.getElem?_toList]; exact Array.getElem?_eq_getElem hlt
   have h0 : ((0 : Int) ≤ (i : Int)) = True := eq_true (Int.natCast_nonneg i)
   have hdr : s.data.toList.drop i = s[i] :: s.data.toList.drop (i + 1) := by
    have hl : i < s.data.toList.length := by rw [Array.length_toList]; exact hlt
    rw [List.drop_eq_getElem_cons hl]
    congr 1
   generalize s[i] = x at *
   cases hd : isD x with
   | true =>
    obtain ⟨d1, d2⟩ := isD_rng.1 hd
    have d1' : ((48 : Int) ≤ (x.toNat : Int)) = True := eq_true (by omega)
    have d2' : ((x.toNat : Int) ≤ 57) = True := eq_true (by omega)
    refine CW.hide fun R2 hR2 => CW.seqK fun K4 hK4 => CW.seqK fun K5 hK5 => CW.region ?_
    simp (maxDischargeDepth := 16) [zY, hw, hx, h0, d1', d2']
    refine hK5 _ _ ?_
    refine CW.cond (t := true) (by simp [zT, zF, lk]) ?_
    refine CW.skip (hK4 _ _ ?_)
    refine CW.block ?_
    refine CW.region ?_
    simp (maxDischargeDepth := 16) [zY, hw]
    refine hR2 _ _ _ ⟨i, _, _, rfl, by simp [sub, lk], rfl, ⟨by omega, fun y hy => ?_⟩, Nat.lt_succ_self i⟩
    rw [hdr] at hy
    rcases List.mem_cons.1 hy with rfl | hy
    · exact hd
    · exact hq y hy
   | false =>
    have ex : ∀ (fr : List (Nat × AV)) (tm : List AV), sub [(0, .lit (.string s)), (3, intV (i + 1 : Nat))] fr → KL (fm 48 fr tm) σ := fun fr tm hfr => exit (i + 1) fr tm hp hq (fun y hy _ => by rw [Nat.add_sub_cancel, hx2] at hy; cases hy; exact hd) hfr
    rcases Nat.lt_or_ge x.toNat 48 with hlo | hlo
    · have d1' : ((48 : Int) ≤ (x.toNat : Int)) = False := eq_false (by omega)
      refine CW.hide fun R2 hR2 => CW.seqK fun K4 hK4 => CW.seqK fun K5 hK5 => CW.region ?_
      simp (maxDischargeDepth := 16) [zY, hw, hx, h0, d1']
      refine hK5 _ _ ?_
      refine CW.cond (t := false) (by simp [zT, zF, lk]) ?_
      refine CW.exit (hR2 _ _ _ (hR _ _ _ ?_))
      simp only [outOf, if_true, andThen]
      exact ex _ _ (by simp [sub, lk])
    · have d1' : ((48 : Int) ≤ (x.toNat : Int)) = True := eq_true (by omega)
      have d2' : ((x.toNat : Int) ≤ 57) = False := eq_false fun h => by rw [isD_rng.2 ⟨hlo, by omega⟩] at hd; cases hd
      refine CW.hide fun R2 hR2 => CW.seqK fun K4 hK4 => CW.seqK fun K5 hK5 => CW.region ?_
      simp (maxDischargeDepth := 16) [zY, hw, hx, h0, d1', d2']
      refine hK5 _ _ ?_
      refine CW.cond (t := false) (by simp [zT, zF, lk]) ?_
      refine CW.exit (hR2 _ _ _ (hR _ _ _ ?_))
      simp only [outOf, if_true, andThen]
      exact ex _ _ (by simp [sub, lk])
end
section
open Go.RowKit
def strC (l : List ByteArray) : List AV := l.map fun r => .lit (.string r)
structure BS (st : ByteArray → List ByteArray) (bs : List (Value × AV)) (σ : Sto) : Prop where
 k : strK bs
 g : ∀ s, (mapGet (.string s) bs = none ∧ st s = []) ∨ ∃ id cs, mapGet (.string s) bs = some (.asl id 0 (st s).length 1) ∧ σ[id]? = some (.cells cs 9) ∧ cs.take (st s).length = strC (st s)
 inj : ∀ s s' id n n', mapGet (.string s) bs = some (.asl id 0 n 1) → mapGet (.string s') bs = some (.asl id 0 n' 1) → s = s'
def upd (st : ByteArray → List ByteArray) (s : ByteArray) (l : List ByteArray) : ByteArray → List ByteArray := fun x => if x = s then l else st x
theorem BS.put {st : ByteArray → List ByteArray} {bs : List (Value × AV)} {σ σ' : Sto} (h : BS st bs σ) (s : ByteArray) (l : List ByteArray) (id' : Nat) (cs : List AV)
    (hid : ∀ x id n, x ≠ s → mapGet (.string x) bs = some (.asl id 0 n 1) → id ≠ id') (h1 : σ'[id']? = some (.cells cs 9)) (h2 : cs.take l.length = strC l) (h3 : ∀ x id n, x ≠ s → mapGet (.string x) bs = some (.asl id 0 n 1) → σ'[id]? = σ[id]?) :
    BS (upd st s l) (mapPut (.string s) (.asl id' 0 l.length 1) bs) σ' := by
 refine ⟨h.k.put _ _, fun x => ?_, fun x y id n n' hx hy => ?_⟩
 · rw [mapGet_put h.k]
   unfold upd
   by_cases e : x = s
   · rw [if_pos e, if_pos e]
     exact .inr ⟨id', cs, rfl, h1, h2⟩
   · rw [if_neg e, if_neg e]
     rcases h.g x with a | ⟨id, cs', a, b, c⟩
     · exact .inl a
     · exact .inr ⟨id, cs', a, (h3 x id _ e a).trans b, c⟩
 · rw [mapGet_put h.k] at hx hy
   by_cases e : x = s <;> by_cases f : y = s
   · rw [e, f]
   · rw [if_pos e] at hx; rw [if_neg f] at hy
     injection hx with hx; injection hx with hx
     exact absurd hx.symm (hid y id n' f hy)
   · rw [if_neg e] at hx; rw [if_pos f] at hy
     injection hy with hy; injection hy with hy
     exact absurd hy.symm (hid x id n e hx)
   · rw [if_neg e] at hx; rw [if_neg f] at hy
     exact h.inj x y id n n' hx hy
theorem BS.push {st : ByteArray → List ByteArray} {bs : List (Value × AV)} {σ σ' : Sto} (h : BS st bs σ) (s r : ByteArray) (id' : Nat) (hn : σ.length ≤ id') (h1 : σ'[id']? = some (.cells (strC (st s ++ [r])) 9)) (h3 : ∀ x id n, x ≠ s → mapGet (.string x) bs = some (.asl id 0 n 1) → σ'[id]? = σ[id]?) :
    BS (upd st s (st s ++ [r])) (mapPut (.string s) (.asl id' 0 ((st s).length + 1) 1) bs) σ' := by
 have := h.put s (st s ++ [r]) id' (strC (st s ++ [r])) (fun x id n e a => by
  rcases h.g x with ⟨b, _⟩ | ⟨id2, cs, b, c, _⟩
  · rw [b] at a; cases a
  · rw [b] at a
    cases a
    have := (List.getElem?_eq_some_iff.1 c).1
    omega) h1 (List.take_of_length_le (by simp [strC])) h3
 rw [List.length_append] at this
 exact this
theorem BS.pop {st : ByteArray → List ByteArray} {bs : List (Value × AV)} {σ : Sto} (h : BS st bs σ) (s r : ByteArray) (l : List ByteArray) (hs : st s = l ++ [r]) : ∃ id, mapGet (.string s) bs = some (.asl id 0 (l.length + 1) 1) ∧ BS (upd st s l) (mapPut (.string s) (.asl id 0 l.length 1) bs) σ := by
 rcases h.g s with ⟨_, b⟩ | ⟨id, cs, a, b, c⟩
 · rw [hs] at b; simp at b
 · have e : (st s).length = l.length + 1 := by rw [hs]; simp
   rw [e] at a c
   refine ⟨id, a, h.put s l id cs (fun x id2 n f g e2 => f ?_) b ?_ fun _ _ _ _ _ => rfl⟩
   · subst e2
     exact h.inj x s _ _ _ g a
   · have h2 : (cs.take (l.length + 1)).take l.length = cs.take l.length := by rw [List.take_take, Nat.min_eq_left (by omega)]
     rw [← h2, c, hs]
     unfold strC
     rw [List.map_append, List.take_append_of_le_length (by simp), List.take_of_length_le (by simp)]
theorem BS.top {st : ByteArray → List ByteArray} {bs : List (Value × AV)} {σ : Sto} (h : BS st bs σ) (hl : ∀ s, (st s).length ≤ 1000000000) (s : ByteArray) : topB σ bs s ((st s).getLast?.getD s) := by
 rcases h.g s with ⟨a, b⟩ | ⟨id, cs, a, b, c⟩
 · exact .inl ⟨a, by rw [b]; rfl⟩
 · have hlen : (st s).length ≤ cs.length := by
    have := congrArg List.length c
    rw [List.length_take] at this
    simp only [strC, List.length_map] at this
    omega
   refine .inr ⟨id, (st s).length, cs, a, b, ⟨hlen, hl s⟩, ?_⟩
   rcases List.eq_nil_or_concat (st s) with e | ⟨l, r, e⟩
   · exact .inl ⟨by rw [e]; rfl, by rw [e]; rfl⟩
   · refine .inr ⟨by rw [e]; simp, ?_⟩
     have h1 : cs[(st s).length - 1]? = (cs.take (st s).length)[(st s).length - 1]? := by
      have : 0 < (st s).length := by rw [e]; simp
      rw [List.getElem?_take_of_lt (by omega)]
     rw [h1, c, e]
     simp [strC]
end
section
open Go.RowKit
theorem bs_M {σ : Sto} {w : ByteArray} (tm : List AV) (ds : Option Tmp) (ty : TypeId) (po : String) (af : Array Edge) (gu : Option (Nat × Bool)) (x : Operand) (hx : evx tm x = some (.lit (.string w))) :
    evStep Tryz.prog [23] (evx tm) σ ⟨ds, .buildSlice 23 1 #[(0, x)], ty, po, af, gu⟩ = some (.val (.asl σ.length 0 1 1) (σ ++ [.cells [.lit (.string w)] 9]) (.news σ.length)) := by
 rw [es_buildSliceM _ _ _ (by rfl)]
 have hz : ((Tryz.prog.info? 9).bind fun x => x.zero) = some (.string ⟨#[]⟩) := by kernel_rfl
 have hk : szOf Tryz.prog 9 = some 1 := by kernel_rfl
 have hp : parts? (evx tm) #[(0, x)] = some [(0, .lit (.string w))] := by simp [parts?, hx, omap]
 unfold evMut
 have ha : abs2 (.string ⟨#[]⟩) = some (.lit (.string ⟨#[]⟩)) := by kernel_rfl
 simp only [Tryz.underlying23, hp, hk, hz, ha]
 simp [ fillA, AV.cells, AV.notTup, putCells, List.replicate]
theorem app_M0 {σ : Sto} {B : Nat} {c : AV} (hB : σ[B]? = some (.cells [c] 9)) (tm : List AV) (ds : Option Tmp) (ty : TypeId) (po : String) (af : Array Edge) (gu : Option (Nat × Bool)) (x y : Operand) (hx : evx tm x = some (.sl [] .full)) (hy : evx tm y = some (.asl B 0 1 1)) :
    evStep Tryz.prog [23] (evx tm) σ ⟨ds, .call ⟨.builtin .append, #[x, y], #[23, 23]⟩, ty, po, af, gu⟩ = some (.val (.asl σ.length 0 1 1) (σ ++ [.cells [c] 9]) (.grows none σ.length)) := by
 rw [es_appendM _ _ _ (by rfl)]
 have hz : ((Tryz.prog.info? 9).bind (·.zero)).map (·.cells.size) = some 1 := by kernel_rfl
 have hk : szOf Tryz.prog 9 = some 1 := by kernel_rfl
 have hb : bytesOf Tryz.prog 9 = some 16 := by kernel_rfl
 unfold evAppendM
 simp only [Tryz.underlying23, hx, hy, hk, hz, hb]
 simp [rowsA, hB, chunks]
theorem app_M1 {σ : Sto} {B id n : Nat} {c : AV} {cs : List AV} (hB : σ[B]? = some (.cells [c] 9)) (hid : σ[id]? = some (.cells cs 9)) (hn : n ≤ cs.length) (hn2 : n ≤ 1000000000) (he : (chunks 1 n cs).length = n) (tm : List AV) (ds : Option Tmp) (ty : TypeId) (po : String) (af : Array Edge) (gu : Option (Nat × Bool)) (x y : Operand) (hx : evx tm x = some (.asl id 0 n 1)) (hy : evx tm y = some (.asl B 0 1 1)) :
    evStep Tryz.prog [23] (evx tm) σ ⟨ds, .call ⟨.builtin .append, #[x, y], #[23, 23]⟩, ty, po, af, gu⟩ = some (.val (.asl σ.length 0 (n + 1) 1) (σ.set id .dead ++ [.cells ((chunks 1 n cs).flatten ++ [c]) 9]) (.grows (some id) σ.length)) := by
 rw [es_appendM _ _ _ (by rfl)]
 have hz : ((Tryz.prog.info? 9).bind (·.zero)).map (·.cells.size) = some 1 := by kernel_rfl
 have hk : szOf Tryz.prog 9 = some 1 := by kernel_rfl
 have hb : bytesOf Tryz.prog 9 = some 16 := by kernel_rfl
 have h1 : rowsA σ 1 (.asl id 0 n 1) = some (chunks 1 n cs) := by simp [rowsA, hid, hn]
 have h2 : rowsA σ 1 (.asl B 0 1 1) = some [[c]] := by simp [rowsA, hB, chunks]
 unfold evAppendM
 simp only [Tryz.underlying23, hx, hy, hk, hz, hb, h1, h2]
 rw [if_pos ⟨trivial, by rw [he]; simp; omega, by rw [he]; simp; omega, by simp⟩]
 simp only [hid, he]
 simp
theorem chunks_one : ∀ (n : Nat) (cs : List AV), n ≤ cs.length → (chunks 1 n cs).flatten = cs.take n ∧ (chunks 1 n cs).length = n
 | 0, cs, _ => by simp [chunks]
 | n + 1, [], h => by simp at h
 | n + 1, c :: cs, h => by
  have := chunks_one n cs (by simpa using h)
  simp [chunks, this.1, this.2]
end
section
open Go.RowKit
structure RQ where
 rid : Nat
 iid : Nat
 nid : Nat
 bid : Nat
structure St (q : RQ) (u : List ByteArray) (st : ByteArray → List ByteArray) (σ : Sto) : Prop where
 a : ∃ tok, (⟨q.rid, q.iid, q.nid, q.bid, tok, u⟩ : NS).At σ
 b : ∃ bs, σ[q.bid]? = some (.map .str bs) ∧ BS st bs σ
 h : ∀ s, (st s).length ≤ u.length
 ib : q.iid ≠ q.bid
 nb : q.nid ≠ q.bid
def Own (q : RQ) (σ : Sto) (p : Nat) : Prop :=
 p = q.rid ∨ p = q.iid ∨ p = q.nid ∨ p = q.bid ∨ (∃ u x y z, σ[q.rid]? = some (.cells [.sl u (.own p), x, y, z] 99)) ∨ ∃ bs s n, σ[q.bid]? = some (.map .str bs) ∧ mapGet (.string s) bs = some (.asl p 0 n 1)
structure Fr (q : RQ) (V : Nat → Prop) (σ σ' : Sto) : Prop where
 len : σ.length ≤ σ'.length
 keep : ∀ p, p < σ.length → ¬ Own q σ p → ¬ V p → σ'[p]? = σ[p]?
 own : ∀ p, Own q σ' p → Own q σ p ∨ σ.length ≤ p
def nV : Nat → Prop := fun _ => False
theorem Fr.refl (q : RQ) (V : Nat → Prop) (σ : Sto) : Fr q V σ σ := ⟨Nat.le_refl _, fun _ _ _ _ => rfl, fun _ h => .inl h⟩
theorem Fr.trans {q : RQ} {V V' : Nat → Prop} {σ σ1 σ2 : Sto} (h : Fr q V σ σ1) (g : Fr q V' σ1 σ2) (hV : ∀ p, V' p → V p ∨ σ.length ≤ p) : Fr q V σ σ2 := by
 refine ⟨Nat.le_trans h.len g.len, fun p hp ho hv => ?_, fun p hp => ?_⟩
 · have h1 := h.len
   rw [g.keep p (by omega) (fun o => ?_) (fun v => ?_), h.keep p hp ho hv]
   · rcases h.own p o with o | o
     · exact ho o
     · omega
   · rcases hV p v with v | v
     · exact hv v
     · omega
 · have h1 := h.len
   rcases g.own p hp with o | o
   · exact h.own p o
   · exact .inr (by omega)
theorem Fr.trans0 {q : RQ} {V : Nat → Prop} {σ σ1 σ2 : Sto} (h : Fr q V σ σ1) (g : Fr q V σ1 σ2) : Fr q V σ σ2 := h.trans g fun _ h => .inl h
theorem Fr.more {q : RQ} {V V' : Nat → Prop} {σ σ1 : Sto} (h : Fr q V σ σ1) (hV : ∀ p, V p → V' p ∨ σ.length ≤ p) : Fr q V' σ σ1 := (Fr.refl q V' σ).trans h hV
theorem Fr.none {q : RQ} {V : Nat → Prop} {σ σ1 : Sto} (h : Fr q nV σ σ1) : Fr q V σ σ1 := h.more fun _ h => h.elim
variable {q : RQ} {u : List ByteArray} {st : ByteArray → List ByteArray} {σ σ' : Sto} {V : Nat → Prop}
theorem own_keep (h : ∀ p, Own q σ p → σ'[p]? = σ[p]?) (p : Nat) : Own q σ' p ↔ Own q σ p := by
 have h1 := h q.rid (.inl rfl)
 have h2 := h q.bid (.inr (.inr (.inr (.inl rfl))))
 unfold Own
 rw [h1, h2]
theorem St.get (h : St q u st σ) : ∃ tok bs is nx, σ[q.rid]? = some (.cells [.sl (txtR u) tok, .mp q.iid, .mp q.nid, .mp q.bid] 99) ∧ TokS σ u.length 9 tok ∧ σ[q.iid]? = some (.map .str is) ∧ isOk u is ∧ σ[q.nid]? = some (.map .str nx) ∧ nextOk u nx ∧ σ[q.bid]? = some (.map .str bs) ∧ BS st bs σ := by
 obtain ⟨tok, a⟩ := h.a
 obtain ⟨bs, b1, b2⟩ := h.b
 obtain ⟨is, i1, i2⟩ := a.i
 obtain ⟨nx, n1, n2⟩ := a.n
 exact ⟨tok, bs, is, nx, a.r, a.t, i1, i2, n1, n2, b1, b2⟩
theorem St.keep (h : St q u st σ) (hk : ∀ p, Own q σ p → σ'[p]? = σ[p]?) : St q u st σ' := by
 obtain ⟨tok, a⟩ := h.a
 obtain ⟨bs, b1, b2⟩ := h.b
 refine ⟨⟨tok, ?_, ?_, ?_, ?_, a.ne⟩, ⟨bs, by rw [hk _ (.inr (.inr (.inr (.inl rfl))))]; exact b1, b2.k, fun s => ?_, b2.inj⟩, h.h, h.ib, h.nb⟩
 · show σ'[q.rid]? = _
   rw [hk _ (.inl rfl)]; exact a.r
 · rcases a.t with g | ⟨i, e1, e2⟩
   · exact .inl g
   · refine .inr ⟨i, e1, ?_⟩
     have hr := a.r
     dsimp only at hr e1
     rw [e1] at hr
     rw [hk i (.inr (.inr (.inr (.inr (.inl ⟨_, _, _, _, hr⟩)))))]
     exact e2
 · obtain ⟨is, i1, i2⟩ := a.i
   exact ⟨is, by show σ'[q.iid]? = _; rw [hk _ (.inr (.inl rfl))]; exact i1, i2⟩
 · obtain ⟨nx, n1, n2⟩ := a.n
   exact ⟨nx, by show σ'[q.nid]? = _; rw [hk _ (.inr (.inr (.inl rfl)))]; exact n1, n2⟩
 · rcases b2.g s with g | ⟨id, cs, g1, g2, g3⟩
   · exact .inl g
   · exact .inr ⟨id, cs, g1, by rw [hk id (.inr (.inr (.inr (.inr (.inr ⟨bs, s, _, b1, g1⟩)))))]; exact g2, g3⟩
theorem St.lt (h : St q u st σ) {p : Nat} (hp : Own q σ p) : p < σ.length := by
 obtain ⟨tok, bs, is, nx, r, t, i1, i2, n1, n2, b1, b2⟩ := h.get
 rcases hp with rfl | rfl | rfl | rfl | ⟨_, _, _, _, e⟩ | ⟨bs', s, n, e1, e2⟩
 · exact (List.getElem?_eq_some_iff.1 r).1
 · exact (List.getElem?_eq_some_iff.1 i1).1
 · exact (List.getElem?_eq_some_iff.1 n1).1
 · exact (List.getElem?_eq_some_iff.1 b1).1
 · rw [r] at e
   simp only [Option.some.injEq, AObj.cells.injEq, List.cons.injEq, AV.sl.injEq, and_true] at e
   rcases t with ⟨t1, _⟩ | ⟨i, t1, t2⟩
   · rw [t1] at e; cases e.1.2
   · rw [t1] at e
     cases e.1.2
     exact (List.getElem?_eq_some_iff.1 t2).1
 · rw [b1] at e1
   cases e1
   rcases b2.g s with ⟨g, _⟩ | ⟨id, cs, g1, g2, _⟩
   · rw [g] at e2; cases e2
   · rw [g1] at e2
     cases e2
     exact (List.getElem?_eq_some_iff.1 g2).1
theorem St.new (h : St q u st σ) : ¬ Own q σ σ.length := fun e => by have := h.lt e; omega
theorem St.app (h : St q u st σ) (l : Sto) : St q u st (σ ++ l) := h.keep fun p hp => List.getElem?_append_left (h.lt hp)
theorem St.frA (h : St q u st σ) (V : Nat → Prop) (l : Sto) : Fr q V σ (σ ++ l) :=
 ⟨by simp, fun p hp _ _ => List.getElem?_append_left hp, fun p hp => .inl ((own_keep (fun p hp => List.getElem?_append_left (h.lt hp)) p).1 hp)⟩
theorem St.set (h : St q u st σ) {p : Nat} (hp : ¬ Own q σ p) (o : AObj) : St q u st (σ.set p o) := h.keep fun x hx => List.getElem?_set_ne (fun e => hp (by rw [e]; exact hx))
theorem St.frS (h : St q u st σ) {p : Nat} (hp : ¬ Own q σ p) (hV : V p ∨ σ.length ≤ p) (o : AObj) : Fr q V σ (σ.set p o) :=
 ⟨by simp, fun x hx _ hv => List.getElem?_set_ne (fun e => by
  subst e
  rcases hV with hV | hV
  · exact hv hV
  · omega), fun x hx => .inl ((own_keep (fun x hx => List.getElem?_set_ne (fun e => hp (by rw [e]; exact hx))) x).1 hx)⟩
theorem Fr.not (h : Fr q V σ σ') {p : Nat} (hp : ¬ Own q σ p) (hl : p < σ.length) : ¬ Own q σ' p := fun o => by
 rcases h.own p o with o | o
 · exact hp o
 · omega
theorem Fr.not' (h : Fr q V σ σ') {p : Nat} (hp : ¬ Own q σ p ∧ p < σ.length) : ¬ Own q σ' p ∧ p < σ'.length := ⟨h.not hp.1 hp.2, Nat.lt_of_lt_of_le hp.2 h.len⟩
theorem St.names (h : St q u st σ) {m : NS} {u' : List ByteArray} (hm : m = ⟨q.rid, q.iid, q.nid, q.bid, m.tok, u⟩) (hA : m.At σ) (tok' : Tok) (hA' : (⟨q.rid, q.iid, q.nid, q.bid, tok', u'⟩ : NS).At σ') (ht : ∀ i, tok' = .own i → m.tok = .own i ∨ σ.length ≤ i) (hk : m.Kp σ σ') (hu : u.length ≤ u'.length) : St q u' st σ' ∧ Fr q nV σ σ' := by
 obtain ⟨tok, bs, is, nx, r, t, i1, i2, n1, n2, b1, b2⟩ := h.get
 have hr := hA.r
 have hrid : m.rid = q.rid := by rw [hm]
 have hiid : m.iid = q.iid := by rw [hm]
 have hnid : m.nid = q.nid := by rw [hm]
 rw [hrid, r] at hr
 simp only [Option.some.injEq, AObj.cells.injEq, List.cons.injEq, AV.sl.injEq, and_true] at hr
 have htk : m.tok = tok := hr.1.2.symm
 have hno : ∀ p, m.own p → p = q.rid ∨ p = q.iid ∨ p = q.nid ∨ tok = .own p := fun p hp => by
  rcases hp with e | e | e | e
  · exact .inl (e.trans hrid)
  · exact .inr (.inl (e.trans hiid))
  · exact .inr (.inr (.inl (e.trans hnid)))
  · exact .inr (.inr (.inr (by rw [← htk]; exact e)))
 have hbo : ¬ m.own q.bid := fun hp => by
  rcases hno _ hp with e | e | e | e
  · rw [← e] at r; rw [r] at b1; cases b1
  · exact h.ib e.symm
  · exact h.nb e.symm
  · rcases t with ⟨t1, _⟩ | ⟨i, t1, t2⟩
    · rw [t1] at e; cases e
    · rw [t1] at e
      cases e
      rw [t2] at b1; cases b1
 have hbl := (List.getElem?_eq_some_iff.1 b1).1
 have b1' : σ'[q.bid]? = some (.map .str bs) := by rw [hk.keep _ hbl hbo]; exact b1
 have hst : ∀ (s : ByteArray) (id n : Nat), mapGet (.string s) bs = some (.asl id 0 n 1) → σ'[id]? = σ[id]? := fun s id n e => by
  rcases b2.g s with ⟨g, _⟩ | ⟨id', cs, g1, g2, _⟩
  · rw [g] at e; cases e
  · rw [g1] at e
    cases e
    refine hk.keep _ (List.getElem?_eq_some_iff.1 g2).1 fun hp => ?_
    rcases hno _ hp with e | e | e | e
    · rw [← e, g2] at r; cases r
    · rw [← e, g2] at i1; cases i1
    · rw [← e, g2] at n1; cases n1
    · rcases t with ⟨t1, _⟩ | ⟨i, t1, t2⟩
      · rw [t1] at e; cases e
      · rw [t1] at e
        cases e
        rw [t2] at g2; cases g2
 refine ⟨⟨⟨tok', hA'⟩, ⟨bs, b1', b2.k, fun s => ?_, b2.inj⟩, fun s => Nat.le_trans (h.h s) hu, h.ib, h.nb⟩, hk.len, fun p hp ho _ => hk.keep p hp fun hm' => ho ?_, fun p hp => ?_⟩
 · rcases b2.g s with g | ⟨id, cs, g1, g2, g3⟩
   · exact .inl g
   · exact .inr ⟨id, cs, g1, by rw [hst s id _ g1]; exact g2, g3⟩
 · rcases hno p hm' with e | e | e | e
   · exact .inl e
   · exact .inr (.inl e)
   · exact .inr (.inr (.inl e))
   · rw [e] at r; exact .inr (.inr (.inr (.inr (.inl ⟨_, _, _, _, r⟩))))
 · rcases hp with e | e | e | e | ⟨_, _, _, _, e⟩ | ⟨bs', s, n, e1, e2⟩
   · exact .inl (.inl e)
   · exact .inl (.inr (.inl e))
   · exact .inl (.inr (.inr (.inl e)))
   · exact .inl (.inr (.inr (.inr (.inl e))))
   · have := hA'.r
     dsimp only at this
     rw [this] at e
     simp only [Option.some.injEq, AObj.cells.injEq, List.cons.injEq, AV.sl.injEq, and_true] at e
     rcases ht p e.1.2 with g | g
     · rw [htk] at g
       rw [g] at r
       exact .inl (.inr (.inr (.inr (.inr (.inl ⟨_, _, _, _, r⟩)))))
     · exact .inr g
   · rw [b1'] at e1
     cases e1
     exact .inl (.inr (.inr (.inr (.inr (.inr ⟨bs, s, n, b1, e2⟩)))))
def Top (l : Bnd) (st : ByteArray → List ByteArray) : Prop := ∀ s, nowB l s = (st s).getLast?.getD s
theorem St.rs (h : St q u st σ) {l : Bnd} (hl : Top l st) (hu : u.length ≤ 1000000000) : (⟨q.rid, l⟩ : RS).At σ := by
 obtain ⟨tok, bs, is, nx, r, t, i1, i2, n1, n2, b1, b2⟩ := h.get
 exact ⟨_, _, _, _, bs, r, b1, fun s => by show topB σ bs s (nowB l s); rw [hl s]; exact b2.top (fun s => Nat.le_trans (h.h s) hu) s⟩
def pushN (st : ByteArray → List ByteArray) (l : Bnd) : ByteArray → List ByteArray := fun s => st s ++ (l.filter fun p => decide (p.1 = s)).map (·.2)
theorem pushN_len (st : ByteArray → List ByteArray) (l : Bnd) (s : ByteArray) : (pushN st l s).length ≤ (st s).length + l.length := by
 unfold pushN
 rw [List.length_append, List.length_map]
 have := List.length_filter_le (fun p : ByteArray × ByteArray => decide (p.1 = s)) l
 omega
theorem pushN_nil (st : ByteArray → List ByteArray) : pushN st [] = st := by funext s; simp [pushN]
theorem pushN_take (st : ByteArray → List ByteArray) (l : Bnd) {i : Nat} (h : i < l.length) : pushN st (l.take (i + 1)) = upd (pushN st (l.take i)) l[i].1 (pushN st (l.take i) l[i].1 ++ [l[i].2]) := by
 funext s
 unfold pushN upd
 rw [List.take_succ_eq_append_getElem h, List.filter_append, List.map_append, ← List.append_assoc]
 by_cases e : s = l[i].1
 · subst e
   rw [if_pos rfl]
   congr 1
   rw [List.filter_cons, if_pos (by simp)]
   rfl
 · rw [if_neg e, List.filter_cons, if_neg (by simpa using fun h => e h.symm)]
   simp
theorem now_push (s : ByteArray) : ∀ (k l : Bnd), nowB (k.reverse ++ l) s = ((k.filter fun p => decide (p.1 = s)).map (·.2)).getLast?.getD (nowB l s)
 | [], l => rfl
 | p :: k, l => by
  rw [List.reverse_cons, List.append_assoc, List.singleton_append, now_push s k (p :: l), List.filter_cons]
  by_cases e : p.1 = s
  · rw [if_pos (by simpa using e), List.map_cons, List.getLast?_cons, Option.getD_some, nowB, if_pos e]
  · rw [if_neg (by simpa using e), nowB, if_neg e]
theorem Top.push {l : Bnd} (h : Top l st) (k : Bnd) : Top (k.reverse ++ l) (pushN st k) := by
 intro s
 rw [now_push s k l, h s]
 unfold pushN
 rw [List.getLast?_append]
 generalize ((k.filter fun p => decide (p.1 = s)).map (·.2)).getLast? = o
 cases o <;> rfl
def popN (st : ByteArray → List ByteArray) (l : Bnd) (j : Nat) : ByteArray → List ByteArray := fun s => (pushN st l s).take ((st s).length + ((l.drop j).filter fun p => decide (p.1 = s)).length)
theorem popN_zero (st : ByteArray → List ByteArray) (l : Bnd) : popN st l 0 = pushN st l := by
 funext s
 unfold popN
 rw [List.take_of_length_le]
 simp [pushN]
theorem popN_end (st : ByteArray → List ByteArray) (l : Bnd) {j : Nat} (h : l.length ≤ j) : popN st l j = st := by
 funext s
 unfold popN pushN
 rw [List.drop_eq_nil_of_le h]
 simp
theorem popN_step (st : ByteArray → List ByteArray) (l : Bnd) {j : Nat} (h : j < l.length) : ∃ x, popN st l j l[j].1 = popN st l (j + 1) l[j].1 ++ [x] ∧ popN st l (j + 1) = upd (popN st l j) l[j].1 (popN st l (j + 1) l[j].1) := by
 have hd : l.drop j = l[j] :: l.drop (j + 1) := List.drop_eq_getElem_cons h
 have hlen : ∀ s, ((l.drop j).filter fun p => decide (p.1 = s)).length ≤ (l.filter fun p => decide (p.1 = s)).length := fun s => by
  have := (List.drop_sublist j l).filter (fun p => decide (p.1 = s))
  exact this.length_le
 have hpl : ∀ s, (pushN st l s).length = (st s).length + (l.filter fun p => decide (p.1 = s)).length := fun s => by unfold pushN; simp
 have hn : ((l.drop j).filter fun p => decide (p.1 = l[j].1)).length = ((l.drop (j + 1)).filter fun p => decide (p.1 = l[j].1)).length + 1 := by
  rw [hd, List.filter_cons, if_pos (by simp)]; rfl
 have h1 := hlen l[j].1
 have h2 := hpl l[j].1
 have hlt : (st l[j].1).length + ((l.drop (j + 1)).filter fun p => decide (p.1 = l[j].1)).length < (pushN st l l[j].1).length := by omega
 refine ⟨(pushN st l l[j].1)[(st l[j].1).length + ((l.drop (j + 1)).filter fun p => decide (p.1 = l[j].1)).length], ?_, ?_⟩
 · unfold popN
   rw [hn, ← Nat.add_assoc, List.take_succ_eq_append_getElem hlt]
 · funext s
   unfold upd
   by_cases e : s = l[j].1
   · subst e; rw [if_pos rfl]
   · rw [if_neg e]
     unfold popN
     rw [hd, List.filter_cons, if_neg (by simpa using fun h => e h.symm)]
end
section
open Go.RowKit
variable {S : Sp} {N : Nat}
def prC (p : ByteArray × ByteArray) : List AV := [.lit (.string p.1), .lit (.string p.2)]
def prR (l : Bnd) : List (List AV) := l.map prC
theorem prR_get {l : Bnd} {i : Nat} (h : i < l.length) : (prR l)[i]? = some [.lit (.string l[i].1), .lit (.string l[i].2)] := by simp [prR, prC, h]
theorem St.stack {q : RQ} {u : List ByteArray} {st st' : ByteArray → List ByteArray} {σ σ' : Sto} {bs' : List (Value × AV)} (h : St q u st σ) (hk : ∀ p, p = q.rid ∨ p = q.iid ∨ p = q.nid ∨ (∃ u x y z, σ[q.rid]? = some (.cells [.sl u (.own p), x, y, z] 99)) → σ'[p]? = σ[p]?) (hb : σ'[q.bid]? = some (.map .str bs')) (hB : BS st' bs' σ') (hh : ∀ s, (st' s).length ≤ u.length) : St q u st' σ' := by
 obtain ⟨tok, a⟩ := h.a
 refine ⟨⟨tok, ?_, ?_, ?_, ?_, a.ne⟩, ⟨bs', hb, hB⟩, hh, h.ib, h.nb⟩
 · show σ'[q.rid]? = _
   rw [hk _ (.inl rfl)]; exact a.r
 · rcases a.t with g | ⟨i, e1, e2⟩
   · exact .inl g
   · refine .inr ⟨i, e1, ?_⟩
     have hr := a.r
     dsimp only at hr e1
     rw [e1] at hr
     rw [hk i (.inr (.inr (.inr ⟨_, _, _, _, hr⟩)))]
     exact e2
 · obtain ⟨is, i1, i2⟩ := a.i
   exact ⟨is, by show σ'[q.iid]? = _; rw [hk _ (.inr (.inl rfl))]; exact i1, i2⟩
 · obtain ⟨nx, n1, n2⟩ := a.n
   exact ⟨nx, by show σ'[q.nid]? = _; rw [hk _ (.inr (.inr (.inl rfl)))]; exact n1, n2⟩
theorem St.frB {q : RQ} {u : List ByteArray} {st : ByteArray → List ByteArray} {σ σ' : Sto} {bs bs' : List (Value × AV)} (h : St q u st σ) (hb : σ[q.bid]? = some (.map .str bs)) (hb' : σ'[q.bid]? = some (.map .str bs')) (hl : σ.length ≤ σ'.length) (hk : ∀ p, p < σ.length → p ≠ q.bid → (∀ s n, mapGet (.string s) bs ≠ some (.asl p 0 n 1)) → σ'[p]? = σ[p]?)
    (hr : σ'[q.rid]? = σ[q.rid]?) (hg : ∀ s p n, mapGet (.string s) bs' = some (.asl p 0 n 1) → (∃ s n, mapGet (.string s) bs = some (.asl p 0 n 1)) ∨ σ.length ≤ p) : Fr q nV σ σ' := by
 refine ⟨hl, fun p hp ho _ => hk p hp (fun e => ho (.inr (.inr (.inr (.inl e))))) fun s n e => ho (.inr (.inr (.inr (.inr (.inr ⟨bs, s, n, hb, e⟩))))), fun p hp => ?_⟩
 rcases hp with e | e | e | e | ⟨a, x, y, z, e⟩ | ⟨bs2, s, n, e1, e2⟩
 · exact .inl (.inl e)
 · exact .inl (.inr (.inl e))
 · exact .inl (.inr (.inr (.inl e)))
 · exact .inl (.inr (.inr (.inr (.inl e))))
 · rw [hr] at e; exact .inl (.inr (.inr (.inr (.inr (.inl ⟨a, x, y, z, e⟩)))))
 · rw [hb'] at e1
   cases e1
   rcases hg s p n e2 with ⟨s2, n2, g⟩ | g
   · exact .inl (.inr (.inr (.inr (.inr (.inr ⟨bs, s2, n2, hb, g⟩)))))
   · exact .inr g
theorem St.apart {q : RQ} {u : List ByteArray} {st : ByteArray → List ByteArray} {σ : Sto} {bs : List (Value × AV)} (h : St q u st σ) (hb : σ[q.bid]? = some (.map .str bs)) {p : Nat} (hp : p = q.rid ∨ p = q.iid ∨ p = q.nid ∨ (∃ u x y z, σ[q.rid]? = some (.cells [.sl u (.own p), x, y, z] 99))) : p ≠ q.bid ∧ (∀ s n, mapGet (.string s) bs ≠ some (.asl p 0 n 1)) ∧ p < σ.length := by
 obtain ⟨tok, bs', is, nx, r, t, i1, i2, n1, n2, b1, b2⟩ := h.get
 rw [hb] at b1
 cases b1
 have hn : ∀ (s : ByteArray) (n : Nat) (o : AObj), σ[p]? = some o → (∀ cs, o ≠ .cells cs 9) → mapGet (.string s) bs ≠ some (.asl p 0 n 1) := fun s n o ho hno e => by
  rcases b2.g s with ⟨g, _⟩ | ⟨id, cs, g1, g2, _⟩
  · rw [g] at e; cases e
  · rw [g1] at e
    cases e
    rw [ho] at g2
    cases g2
    exact hno _ rfl
 rcases hp with rfl | rfl | rfl | ⟨_, _, _, _, e⟩
 · exact ⟨fun e => (by rw [e, hb] at r; cases r), fun s n => hn s n _ r (fun cs e => (by cases e)), (List.getElem?_eq_some_iff.1 r).1⟩
 · exact ⟨h.ib, fun s n => hn s n _ i1 (fun cs e => (by cases e)), (List.getElem?_eq_some_iff.1 i1).1⟩
 · exact ⟨h.nb, fun s n => hn s n _ n1 (fun cs e => (by cases e)), (List.getElem?_eq_some_iff.1 n1).1⟩
 · rw [r] at e
   simp only [Option.some.injEq, AObj.cells.injEq, List.cons.injEq, AV.sl.injEq, and_true] at e
   rcases t with ⟨t1, _⟩ | ⟨i, t1, t2⟩
   · rw [t1] at e; cases e.1.2
   · rw [t1] at e
     cases e.1.2
     exact ⟨fun e => (by rw [e, hb] at t2; cases t2), fun s n => hn s n _ t2 (fun cs e => (by cases e)), (List.getElem?_eq_some_iff.1 t2).1⟩
theorem BS.mono {st : ByteArray → List ByteArray} {bs : List (Value × AV)} {σ σ' : Sto} (h : BS st bs σ) (hk : ∀ s id n, mapGet (.string s) bs = some (.asl id 0 n 1) → σ'[id]? = σ[id]?) : BS st bs σ' :=
 ⟨h.k, fun s => by
  rcases h.g s with g | ⟨id, cs, g1, g2, g3⟩
  · exact .inl g
  · exact .inr ⟨id, cs, g1, by rw [hk s id _ g1]; exact g2, g3⟩, h.inj⟩
theorem BS.lt {st : ByteArray → List ByteArray} {bs : List (Value × AV)} {σ : Sto} (h : BS st bs σ) {s : ByteArray} {id n : Nat} (hg : mapGet (.string s) bs = some (.asl id 0 n 1)) : id < σ.length ∧ ∃ cs, σ[id]? = some (.cells cs 9) := by
 rcases h.g s with ⟨g, _⟩ | ⟨id', cs, g1, g2, _⟩
 · rw [g] at hg; cases hg
 · rw [g1] at hg
   cases hg
   exact ⟨(List.getElem?_eq_some_iff.1 g2).1, cs, g2⟩
theorem St.push {q : RQ} {u : List ByteArray} {st : ByteArray → List ByteArray} {σ σ' : Sto} {bs : List (Value × AV)} (h : St q u st σ) (hb : σ[q.bid]? = some (.map .str bs)) (hB : BS st bs σ) (o w : ByteArray) (id' n' : Nat) (hn' : n' = (st o).length + 1) (hid : σ.length ≤ id') (hl : σ.length ≤ σ'.length)
    (hb' : σ'[q.bid]? = some (.map .str (mapPut (.string o) (.asl id' 0 n' 1) bs))) (h1 : σ'[id']? = some (.cells (strC (st o ++ [w])) 9)) (hk : ∀ p, p < σ.length → p ≠ q.bid → (∀ n, mapGet (.string o) bs ≠ some (.asl p 0 n 1)) → σ'[p]? = σ[p]?) (hu : (st o).length + 1 ≤ u.length) :
    St q u (upd st o (st o ++ [w])) σ' ∧ Fr q nV σ σ' := by
 subst hn'
 have hbid : ∀ s id n, mapGet (.string s) bs = some (.asl id 0 n 1) → id ≠ q.bid := fun s id n e f => by
  obtain ⟨_, cs, g⟩ := hB.lt e
  rw [f, hb] at g; cases g
 have hB' := hB.push (σ' := σ') o w id' hid h1 fun x id n hx hg => hk id (hB.lt hg).1 (hbid _ _ _ hg) fun n' e => hx (hB.inj x o id _ _ hg e)
 refine ⟨h.stack (fun p hp => ?_) hb' hB' fun s => ?_, h.frB hb hb' hl (fun p hp h1 h2 => hk p hp h1 (h2 o)) ?_ fun s p n e => ?_⟩
 · obtain ⟨a, b, c⟩ := h.apart hb hp
   exact hk p c a (b o)
 · unfold upd
   split
   · rw [List.length_append]; exact hu
   · exact h.h s
 · obtain ⟨a, b, c⟩ := h.apart hb (.inl rfl)
   exact hk _ c a (b o)
 · rw [mapGet_put hB.k] at e
   by_cases f : s = o
   · rw [if_pos f] at e
     injection e with e
     injection e with e
     exact .inr (by omega)
   · rw [if_neg f] at e
     exact .inl ⟨s, n, e⟩
theorem St.pop {q : RQ} {u : List ByteArray} {st : ByteArray → List ByteArray} {σ : Sto} {bs : List (Value × AV)} (h : St q u st σ) (hb : σ[q.bid]? = some (.map .str bs)) (hB : BS st bs σ) (o r : ByteArray) (l : List ByteArray) (hs : st o = l ++ [r]) :
    ∃ id cs, mapGet (.string o) bs = some (.asl id 0 (l.length + 1) 1) ∧ id ≠ q.bid ∧ σ[id]? = some (.cells cs 9) ∧ l.length + 1 ≤ cs.length ∧ ∀ σ' : Sto, σ.length ≤ σ'.length → (∀ p, p < σ.length → p ≠ q.bid → σ'[p]? = σ[p]?) → σ'[q.bid]? = some (.map .str (mapPut (.string o) (.asl id 0 l.length 1) bs)) → St q u (upd st o l) σ' ∧ Fr q nV σ σ' := by
 obtain ⟨id, e1, e2⟩ := hB.pop o r l hs
 have hbid : ∀ s id n, mapGet (.string s) bs = some (.asl id 0 n 1) → id ≠ q.bid := fun s id n e f => by
  obtain ⟨_, cs, g⟩ := hB.lt e
  rw [f, hb] at g; cases g
 rcases hB.g o with ⟨g, _⟩ | ⟨id', cs, g1, g2, g3⟩
 · rw [g] at e1; cases e1
 rw [g1] at e1
 injection e1 with e1
 injection e1 with e1 _ e3
 subst e1
 have hlen : (st o).length ≤ cs.length := by
  have := congrArg List.length g3
  rw [List.length_take] at this
  simp only [strC, List.length_map] at this
  omega
 refine ⟨id', cs, by rw [g1, e3], hbid _ _ _ g1, g2, by omega, fun σ' hl hk hb' => ⟨h.stack (fun p hp => ?_) hb' (e2.mono fun s id2 n hg => ?_) fun s => ?_, h.frB hb hb' hl (fun p hp h1 _ => hk p hp h1) ?_ fun s p n e => ?_⟩⟩
 · obtain ⟨a, b, c⟩ := h.apart hb hp
   exact hk p c a
 · have hx : ∃ s n, mapGet (.string s) bs = some (.asl id2 0 n 1) := by
    rw [mapGet_put hB.k] at hg
    by_cases f : s = o
    · rw [if_pos f] at hg
      injection hg with hg
      injection hg with hg
      subst hg
      exact ⟨o, _, g1⟩
    · rw [if_neg f] at hg; exact ⟨s, n, hg⟩
   obtain ⟨s2, n2, hx⟩ := hx
   exact hk id2 (hB.lt hx).1 (hbid _ _ _ hx)
 · unfold upd
   split
   · have := h.h o; rw [hs, List.length_append] at this; omega
   · exact h.h s
 · obtain ⟨a, b, c⟩ := h.apart hb (.inl rfl)
   exact hk _ c a
 · rw [mapGet_put hB.k] at e
   by_cases f : s = o
   · rw [if_pos f] at e
     injection e with e
     injection e with e
     subst e
     exact .inl ⟨o, _, g1⟩
   · rw [if_neg f] at e
     exact .inl ⟨s, n, e⟩
end
end Go.Proofs.YteajcnilihgheaaGreatDoor
