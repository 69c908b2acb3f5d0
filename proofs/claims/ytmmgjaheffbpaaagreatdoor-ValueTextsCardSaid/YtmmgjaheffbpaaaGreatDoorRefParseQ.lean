/-
 EV: the document's Parse: what it computes, as a plain function; the walk.
-/
import Derived.Test.YtmmgjaheffbpaaaGreatDoorRefPutQ
namespace Go.Proofs.YtmmgjaheffbpaaaGreatDoor
set_option maxRecDepth 100000
set_option maxHeartbeats 8000000
set_option linter.unusedSimpArgs false
set_option linter.unusedVariables false
open Go.RowKit
def putS (st : List (List Tr × Int)) (t : Tr) : List (List Tr × Int) :=
 match st with
 | (xs, b) :: rest => (xs ++ [t], b) :: rest
 | [] => []
def closeS (st : List (List Tr × Int)) : List (List Tr × Int) :=
 match st with
 | (xs1, b1) :: (xs, b) :: rest => (xs ++ [.mk [] xs1 true b1], b) :: rest
 | st => st
def runP : Nat → List UInt8 → Nat → List (List Tr × Int) → Res (List Tr)
 | 0, _, i, _ => .bad i 0
 | n + 1, l, i, st =>
  match l[i]? with
  | none => if 1 < st.length then .bad l.length 20 else (match st with | (xs, _) :: _ => .ok xs | [] => .ok [])
  | some c =>
   if blk c then runP n l (i + 1) st
   else if c = 40 then (if 400 < st.length then .bad i 3 else runP n l (i + 1) (([], (i : Int)) :: st))
   else if c = 41 then (if st.length = 1 then .bad i 20 else runP n l (i + 1) (closeS st))
   else if sgn c then runP n l (skipTo sgn l i) (putS st (.mk ((l.drop i).takeWhile sgn) [] false i))
   else .bad i 20
theorem runP_some {n : Nat} {l : List UInt8} {i : Nat} {st : List (List Tr × Int)} {c : UInt8} (h : l[i]? = some c) : runP (n + 1) l i st =
      if blk c then runP n l (i + 1) st
      else if c = 40 then (if 400 < st.length then .bad i 3 else runP n l (i + 1) (([], (i : Int)) :: st))
      else if c = 41 then (if st.length = 1 then .bad i 20 else runP n l (i + 1) (closeS st))
      else if sgn c then runP n l (skipTo sgn l i) (putS st (.mk ((l.drop i).takeWhile sgn) [] false i))
      else .bad i 20 := by
 show (match l[i]? with | none => _ | some c => _) = _
 rw [h]
theorem runP_none {n : Nat} {l : List UInt8} {i : Nat} {xs : List Tr} {b : Int} {rest : List (List Tr × Int)} (h : l[i]? = none) : runP (n + 1) l i ((xs, b) :: rest) = if 1 < rest.length + 1 then .bad l.length 20 else .ok xs := by
 show (match l[i]? with | none => _ | some c => _) = _
 rw [h]; rfl
def RefPost (σ0 : Sto) (F : Res (List Tr)) (r : ARes) (σ' : Sto) : Prop :=
 (∀ j, j < σ0.length → σ'[j]? = σ0[j]?) ∧ σ0.length ≤ σ'.length ∧
 match F with
 | .bad p e => r = .ret (.tup [.sl [] .full, .lit (.int .i64 p), .lit (.int .i64 e)])
 | .ok ts => ∃ g v, r = .ret (.tup [v, .lit (.int .i64 0), .lit (.int .i64 0)]) ∧ OpenRow g σ' v ts 0
theorem str_get {l : List UInt8} {i : Nat} (h : i < l.length) : (⟨l.toArray⟩ : ByteArray)[i]? = some l[i] := by
 rw [getElem?_pos (⟨l.toArray⟩ : ByteArray) i (by simpa [ByteArray.size] using h)]
 rfl
theorem str_size (l : List UInt8) : (⟨l.toArray⟩ : ByteArray).size = l.length := by simp [ByteArray.size]
theorem appM1 {P : Program} {M : List TypeId} {t e by_ : Nat} {z : Value} (ht : P.underlying t = some (.slice e)) (hk : szOf P e = some 1) (hb : bytesOf P e = some by_) (hz : ((P.info? e).bind fun x => x.zero) = some z) (hzk : z.cells.size = 1) (hM : M.contains t = true) (hby0 : by_ ≤ 1000)
    (σ : Sto) (id m : Nat) (cs : List AV) (x : AV) (ho : σ[id]? = some (.cells cs e)) (hm : m ≤ cs.length) (hmax : m ≤ 1000000) :
    ∃ σ' : Sto, σ'.length = σ.length + 2 ∧ σ'[σ.length + 1]? = some (.cells (cs.take m ++ [x]) e) ∧ (∀ j, j < σ.length → j ≠ id → σ'[j]? = σ[j]?) ∧
     ∀ (tm : List AV) (ds : Option Tmp) (ty : TypeId) (po : String) (af : Array Edge) (gu : Option (Nat × Bool)) (u y : Operand), evx tm u = some (.asl id 0 m 1) → evx tm y = some (.asl σ.length 0 1 1) →
      evStep P M (evx tm) (σ ++ [AObj.cells [x] e]) ⟨ds, .call ⟨.builtin .append, #[u, y], #[t, t]⟩, ty, po, af, gu⟩ = some (.val (.asl (σ.length + 1) 0 (m + 1) 1) σ' (.grows (some id) (σ.length + 1))) := by
 have lid := (List.getElem?_eq_some_iff.1 ho).1
 have fit : rowsA (σ ++ [AObj.cells [x] e]) (0 + 1) (.asl σ.length 0 1 1) = some [[x]] := by
  have : (σ ++ [AObj.cells [x] e])[σ.length]? = some (.cells [x] e) := by rw [List.getElem?_append_right (Nat.le_refl _)]; simp
  simp [rowsA, this, chunks]
 refine ⟨(σ ++ [AObj.cells [x] e]).set id .dead ++ [.cells (cs.take (m * 1) ++ [[x]].flatten) e], by simp, ?_, fun j hj hji => ?_, ?_⟩
 · rw [List.getElem?_append_right (by simp)]; simp
 · rw [List.getElem?_append_left (by simp; omega), List.getElem?_set_ne (Ne.symm hji), List.getElem?_append_left hj]
 · intro tm ds ty po af gu u y hu hy
   have := appendM_own (P := P) (k := 0) (m := m) (es := chunks 1 m cs) (M := M) (σ ++ [AObj.cells [x] e]) ht hk hb hz hzk hM (by rw [List.getElem?_append_left lid]; exact ho) rfl (by omega) fit (by simp)
    (by show (m + 1) * by_ ≤ _; have : (m + 1) * by_ ≤ (m + 1) * 1000 := Nat.mul_le_mul_left _ hby0; omega) (by show m + 1 ≤ _; omega) tm ds ty po af gu u y hu hy
   rw [this]
   simp
theorem refParse_ev (l : List UInt8) (σ0 : Sto) (hlong : l.length ≤ 262144) (F : Res (List Tr)) (hF : runP (l.length + 1) l 0 [([], 0)] = F) : JC Tryz.prog EL 29 [.lit (.string ⟨l.toArray⟩)] σ0 (RefPost σ0 F) := by
 refine JC.start (fn := Tryz.f29) (M := [109, 110, 71]) rfl rfl rfl (by simp) fun tm hlen hs => ?_
 have h0 := hs 0 _ rfl
 clear hs
 simp at hlen
 have hsz := str_size l
 have hlong' : ¬ (262144 : Int) < (l.length : Int) := by omega
 refine JD.hide fun R0 hR0 => ?_
 have fin : ∀ (tm2 : List AV) (σ2 : Sto) (v2 v3 v4 : AV), tm2.length = 115 → slot tm2 2 = v2 → slot tm2 3 = v3 → slot tm2 4 = v4 → RefPost σ0 F (.ret (.tup [v2, v3, v4])) σ2 → R0 .ret tm2 σ2 := by
  intro tm2 σ2 v2 v3 v4 hl g2 g3 g4 hp
  exact hR0 _ _ _ ⟨.tup [v2, v3, v4], by simp [zA, omap, zB, g2, g3, g4], hp⟩
 refine JD.seqK fun K hK => JD.region ?_
 simp (maxDischargeDepth := 16) [symB, List.length_set, LJ_nil, LJ_guardS, LJ_guardN, LJ_val, LJ_skip, LJ_enter, andThen, hlen, h0]
 refine hK _ _ ?_; clear hK K
 refine JD.seqK fun K hK => ?_
 refine JD.seqK fun K2 hK2 => JD.region ?_
 simp (maxDischargeDepth := 16) [symB, List.length_set, LJ_nil, LJ_guardS, LJ_guardN, LJ_val, LJ_skip, LJ_enter, andThen, hlen, h0, hsz, hlong']
 refine hK2 _ _ ?_; clear hK2 K2
 refine JD.cond (t := false) (by simp [zT, slot_eq, hlen, hlong']) (JD.skip ?_)
 simp only [andThen]
 refine hK _ _ ?_; clear hK K
 refine JD.seqK fun K hK => JD.region ?_
 simp (maxDischargeDepth := 16) [symB, List.length_set, LJ_nil, LJ_guardS, LJ_guardN, LJ_val, LJ_skip, LJ_enter, andThen, hlen, h0]
 refine hK _ _ ?_; clear hK K
 refine JD.seqK fun K hK => ?_
 refine JD.seqK fun K2 hK2 => JD.region ?_
 simp (maxDischargeDepth := 16) [symB, List.length_set, LJ_nil, LJ_guardS, LJ_guardN, LJ_val, LJ_skip, LJ_enter, andThen, hlen]
 refine hK2 _ _ ?_; clear hK2 K2
 refine JD.block ?_
 refine JD.hide fun R hR => ?_
 refine JD.loopI (fun k tm σ1 => ∃ (i n : Nat) (st : List (List Tr × Int)), k = l.length - i ∧ i ≤ l.length ∧ tm.length = 115 ∧ slot tm 0 = .lit (.string ⟨l.toArray⟩) ∧ slot tm 5 = .ptr (σ0.length + 2) 0 ∧ slot tm 6 = .lit (.int .i64 i) ∧ PState σ0 σ1 (σ0.length + 2) st ∧ runP n l i st = F ∧ l.length - i < n ∧ st ≠ [] ∧ st.length ≤ i + 1 ∧ ∀ q ∈ st, q.1.length ≤ i) ?_ l.length _ _ ?_
 rotate_left
 · refine ⟨0, l.length + 1, [([], 0)], by simp, by omega, by simp [hlen], by simp (maxDischargeDepth := 16) [slot_ne, h0], by simp (maxDischargeDepth := 16) [slot_ne, slot_eq, hlen], by simp (maxDischargeDepth := 16) [slot_eq, hlen], ?_, hF, by omega, by simp, by simp, by simp⟩
   refine ⟨σ0.length, σ0.length + 1, fun _ => 0, [.sl [] .full], [.lit (.int .i64 0)], ?_⟩
   exact { r := by rw [List.getElem?_append_right (by omega)]; simp, l := by rw [List.getElem?_append_right (by omega)]; simp, b := by rw [List.getElem?_append_right (by omega)]; simp, ll := by simp, lb := by simp, rl := by omega, rb := by omega, lb' := by omega, r0 := by omega, l0 := by omega, b0 := by omega, gr := rfl, gl := rfl, gb := rfl,
           g0 := fun j hj => absurd rfl hj, keep := fun j hj => List.getElem?_append_left hj, le := by simp, lev := ⟨⟨.sl [] .full, rfl, .inl ⟨rfl, rfl⟩⟩, rfl, trivial⟩ }
 clear h0 hlen tm hF
 rintro k tm σ1 ⟨i, n, st, rfl, hi, hlen, h0, h5, h6, hP, hrun, hn, hne, hstl, hxs⟩
 refine JD.hide fun R2 hR2 => ?_
 refine JD.seqK fun K3 hK3 => ?_
 obtain ⟨m, rfl⟩ : ∃ m, n = m + 1 := ⟨n - 1, by omega⟩
 by_cases hlt : i < l.length
 · have hlt' : (i : Int) < (l.length : Int) := by omega
   refine JD.seqK fun K4 hK4 => JD.region ?_
   simp (maxDischargeDepth := 16) [symB, List.length_set, LJ_nil, LJ_guardS, LJ_guardN, LJ_val, LJ_skip, LJ_enter, andThen, hlen, h0, h6, hsz, hlt, hlt']
   refine hK4 _ _ ?_; clear hK4 K4
   refine JD.cond (t := true) (by simp [zT, slot_eq, hlen, hlt, hlt']) (JD.skip ?_)
   simp only [andThen]
   refine hK3 _ _ ?_; clear hK3 K3
   refine JD.seqK fun K3 hK3 => JD.block ?_
   have hc := List.getElem?_eq_getElem hlt
   have hcs := str_get hlt
   generalize l[i] = c at hc hcs
   rw [runP_some hc] at hrun
   have next : ∀ (tm2 : List AV) (σ2 : Sto) (i2 : Nat) (st2 : List (List Tr × Int)), tm2.length = 115 → slot tm2 0 = .lit (.string ⟨l.toArray⟩) → slot tm2 5 = .ptr (σ0.length + 2) 0 → slot tm2 6 = .lit (.int .i64 i2) → i ≤ i2 → i2 < l.length → PState σ0 σ2 (σ0.length + 2) st2 → runP m l (i2 + 1) st2 = F → st2 ≠ [] → st2.length ≤ i2 + 2 → (∀ q ∈ st2, q.1.length ≤ i2 + 1) → K3 tm2 σ2 := by
    intro tm2 σ2 i2 st2 hlen g0 g5 g6 q1 q2 hP2 hr2 q3 q4 q5
    have hw : IntKind.i64.wrap ((i2 : Int) + 1) = ((i2 + 1 : Nat) : Int) := wrap_succ (by omega)
    refine hK3 _ _ ?_; clear hK3 K3
    refine JD.region ?_
    simp (maxDischargeDepth := 16) [symB, List.length_set, LJ_nil, LJ_guardS, LJ_guardN, LJ_val, LJ_skip, LJ_enter, hlen, g6, hw]
    exact hR2 _ _ _ ⟨l.length - (i2 + 1), by omega, i2 + 1, m, st2, rfl, by omega, by simp [hlen], by simp [slot_ne, g0], by simp [slot_ne, g5], by simp [slot_eq, hlen], hP2, hr2, by omega, q3, by omega, q5⟩
   refine JD.hide fun R3 hR3 => ?_
   refine JD.seqK fun K4 hK4 => JD.region ?_
   simp (maxDischargeDepth := 16) [symB, List.length_set, LJ_nil, LJ_guardS, LJ_guardN, LJ_val, LJ_skip, LJ_enter, andThen, hlen, h0, h6, hcs]
   refine hK4 _ _ ?_; clear hK4 K4
   refine JD.block ?_
   refine JD.hide fun R4 hR4 => ?_
   have out : ∀ tm2 σ2, K3 tm2 σ2 → R4 .normal tm2 σ2 := fun tm2 σ2 h => hR4 _ _ _ (hR3 _ _ _ h)
   have retOut : ∀ tm2 σ2, R0 .ret tm2 σ2 → R4 .ret tm2 σ2 := fun tm2 σ2 h => hR4 _ _ _ (hR3 _ _ _ (hR2 _ _ _ (hR _ _ _ h)))
   clear hR4 hR3
   refine JD.seqK fun K4 hK4 => JD.region ?_
   have e32 : (c = 32) = ((c.toNat : Int) = 32) := propext ⟨fun e => by rw [e]; rfl, fun e => UInt8.toNat_inj.1 (by rw [show (32 : UInt8).toNat = 32 from rfl]; omega)⟩
   have e10 : (c = 10) = ((c.toNat : Int) = 10) := propext ⟨fun e => by rw [e]; rfl, fun e => UInt8.toNat_inj.1 (by rw [show (10 : UInt8).toNat = 10 from rfl]; omega)⟩
   have e40 : (c = 40) = ((c.toNat : Int) = 40) := propext ⟨fun e => by rw [e]; rfl, fun e => UInt8.toNat_inj.1 (by rw [show (40 : UInt8).toNat = 40 from rfl]; omega)⟩
   have e41 : (c = 41) = ((c.toNat : Int) = 41) := propext ⟨fun e => by rw [e]; rfl, fun e => UInt8.toNat_inj.1 (by rw [show (41 : UInt8).toNat = 41 from rfl]; omega)⟩
   have grow : ∀ st2 : List (List Tr × Int), (∀ q ∈ st2, q.1.length ≤ i) → ∀ q ∈ st2, q.1.length ≤ i + 1 := fun st2 h q hq => Nat.le_succ_of_le (h q hq)
   have c9t : ∀ (tm2 : List AV), tm2.length = 115 → slot tm2 0 = .lit (.string ⟨l.toArray⟩) → slot tm2 5 = .ptr (σ0.length + 2) 0 → slot tm2 6 = .lit (.int .i64 i) → slot tm2 7 = .lit (.int .u8 c.toNat) → slot tm2 26 = .lit (.bool true) → blk c = true → K4 tm2 σ1 := by
    intro tm2 hlen h0 h5 h6 h7 h26 hb
    rw [if_pos hb] at hrun
    refine hK4 _ _ ?_; clear hK4 K4
    refine JD.cond (t := true) (by rw [zT, h26]) (JD.skip ?_)
    exact out _ _ (next tm2 σ1 i st hlen h0 h5 h6 (Nat.le_refl _) hlt hP hrun hne (by omega) (grow st hxs))
   have c9f : ∀ (tm2 : List AV), tm2.length = 115 → slot tm2 0 = .lit (.string ⟨l.toArray⟩) → slot tm2 5 = .ptr (σ0.length + 2) 0 → slot tm2 6 = .lit (.int .i64 i) → slot tm2 7 = .lit (.int .u8 c.toNat) → slot tm2 26 = .lit (.bool false) → ¬ blk c = true → K4 tm2 σ1 := by
    intro tm2 hlen h0 h5 h6 h7 h26 hb
    rw [if_neg hb] at hrun
    refine hK4 _ _ ?_; clear hK4 K4 c9t
    refine JD.cond (t := false) (by rw [zT, h26]) ?_
    refine JD.seqK fun K4 hK4 => JD.region ?_
    have c40 : ∀ (tm2 : List AV), tm2.length = 115 → slot tm2 0 = .lit (.string ⟨l.toArray⟩) → slot tm2 5 = .ptr (σ0.length + 2) 0 → slot tm2 6 = .lit (.int .i64 i) → slot tm2 7 = .lit (.int .u8 c.toNat) → slot tm2 33 = .lit (.bool true) → c = 40 → K4 tm2 σ1 := by
     clear h26 h7 h6 h5 h0 hlen tm2
     intro tm2 hlen h0 h5 h6 h7 h33 hc40
     refine hK4 _ _ ?_; clear hK4 K4
     refine JD.cond (t := true) (by rw [zT, h33]) ?_
     rw [if_pos hc40] at hrun
     obtain ⟨L, B, g, ls, bs, hps⟩ := hP
     have lR := (List.getElem?_eq_some_iff.1 hps.r).1
     have lL := (List.getElem?_eq_some_iff.1 hps.l).1
     have lB := (List.getElem?_eq_some_iff.1 hps.b).1
     have hpr := hps.r
     refine JD.seqK fun K4 hK4 => ?_
     refine JD.seqK fun K5 hK5 => JD.region ?_
     by_cases p400 : (400 : Int) < (st.length : Int)
     · simp (maxDischargeDepth := 16) [symB, List.length_set, LJ_nil, LJ_guardS, LJ_guardN, LJ_val, LJ_skip, LJ_enter, andThen, hlen, h5, hpr, p400]
       refine hK5 _ _ ?_; clear hK5 K5
       refine JD.cond (t := true) (by simp [zT, slot_eq, hlen, p400]) ?_
       rw [if_pos (by omega)] at hrun
       refine JD.seqK fun K5 hK5 => JD.region ?_
       simp (maxDischargeDepth := 16) [symB, List.length_set, LJ_nil, LJ_guardS, LJ_guardN, LJ_val, LJ_skip, LJ_enter, andThen, hlen, h6]
       refine hK5 _ _ ?_; clear hK5 K5
       refine JD.ret ?_
       refine retOut _ _ (fin _ _ (.sl [] .full) (.lit (.int .i64 i)) (.lit (.int .i64 3)) (by simp [hlen]) (by simp [slot_ne, slot_eq, hlen]) (by simp [slot_ne, slot_eq, hlen]) (by simp [slot_ne, slot_eq, hlen]) ?_)
       rw [← hrun]
       exact ⟨hps.keep, hps.le, rfl⟩
     simp (maxDischargeDepth := 16) [symB, List.length_set, LJ_nil, LJ_guardS, LJ_guardN, LJ_val, LJ_skip, LJ_enter, andThen, hlen, h5, hpr, p400]
     refine hK5 _ _ ?_; clear hK5 K5
     refine JD.cond (t := false) (by simp [zT, slot_eq, hlen, p400]) (JD.skip ?_)
     rw [if_neg (by omega)] at hrun
     simp only [andThen]
     refine hK4 _ _ ?_; clear hK4 K4
     obtain ⟨σ2, k1, k2, k3, hap⟩ := appM1 (P := Tryz.prog) (M := [109, 110, 71]) Tryz.underlying109 szOf_71 bytesOf_71 zeroOf_71 rfl rfl (by omega) σ1 L st.length ls (.sl [] .full) hps.l hps.ll (by omega)
     have hrl := hps.rl
     have hrb := hps.rb
     have hlb := hps.lb'
     have r2 : σ2[σ0.length + 2]? = some (.cells [.asl L 0 st.length 1, .asl B 0 st.length 1] 112) := by rw [k3 _ lR hrl]; exact hpr
     have r2b : ∀ X, (σ2.set (σ0.length + 2) X)[B]? = some (.cells bs 3) := fun X => by rw [List.getElem?_set_ne hrb, k3 _ lB (Ne.symm hlb)]; exact hps.b
     have lR2 : σ0.length + 2 < σ2.length := by omega
     refine JD.seqK fun K4 hK4 => JD.region ?_
     simp (maxDischargeDepth := 16) [symB, List.length_set, LJ_nil, LJ_guardS, LJ_guardN, LJ_val, LJ_skip, LJ_enter, andThen, hlen, h5, hpr, List.getElem?_append_left lR, hap, r2]
     refine hK4 _ _ ?_; clear hK4 K4
     generalize hσ3 : σ2.set (σ0.length + 2) _ = σ3
     have r3 : σ3[σ0.length + 2]? = some (.cells [.asl (σ1.length + 1) 0 (st.length + 1) 1, .asl B 0 st.length 1] 112) := by rw [← hσ3]; exact List.getElem?_set_self lR2
     have b3 : σ3[B]? = some (.cells bs 3) := by rw [← hσ3]; exact r2b _
     have l3 : σ3.length = σ1.length + 2 := by rw [← hσ3]; simp [k1]
     obtain ⟨σ4, m1, m2, m3, hap2⟩ := appM1 (P := Tryz.prog) (M := [109, 110, 71]) Tryz.underlying110 szOf_3 bytesOf_3 zeroOf_3 rfl rfl (by omega) σ3 B st.length bs (.lit (.int .i64 i)) b3 hps.lb (by omega)
     have r4 : σ4[σ0.length + 2]? = some (.cells [.asl (σ1.length + 1) 0 (st.length + 1) 1, .asl B 0 st.length 1] 112) := by rw [m3 _ (by omega) hrb]; exact r3
     refine JD.region ?_
     simp (maxDischargeDepth := 16) [symB, List.length_set, LJ_nil, LJ_guardS, LJ_guardN, LJ_val, LJ_skip, LJ_enter, andThen, hlen, h5, h6, r3, List.getElem?_append_left (show σ0.length + 2 < σ3.length by omega), hap2, r4]
     refine out _ _ (next _ _ i (([], (i : Int)) :: st) (by simp [hlen]) (by simp (maxDischargeDepth := 8) [slot_ne, h0]) (by simp (maxDischargeDepth := 8) [slot_ne, h5]) (by simp (maxDischargeDepth := 8) [slot_ne, h6]) (Nat.le_refl _) hlt ?_ hrun (by simp) (by simp; omega) ?_)
     · refine hps.push (L' := σ1.length + 1) (B' := σ3.length + 1) (b := i) rfl rfl (List.getElem?_set_self (by omega)) ?_ ?_ (by omega) (by omega) (by omega) (by simp; omega) ?_
       · rw [List.getElem?_set_ne (by omega), m3 _ (by omega) (by omega), ← hσ3, List.getElem?_set_ne (by omega)]; exact k2
       · rw [List.getElem?_set_ne (by omega)]; exact m2
       · intro j hj j1 j2 j3
         rw [List.getElem?_set_ne (Ne.symm j1), m3 _ (by omega) j3, ← hσ3, List.getElem?_set_ne (Ne.symm j1), k3 _ hj j2]
     · intro q hq
       rcases List.mem_cons.1 hq with rfl | hq
       · simp
       · exact grow st hxs q hq
    have cn40 : ∀ (tm2 : List AV), tm2.length = 115 → slot tm2 0 = .lit (.string ⟨l.toArray⟩) → slot tm2 5 = .ptr (σ0.length + 2) 0 → slot tm2 6 = .lit (.int .i64 i) → slot tm2 7 = .lit (.int .u8 c.toNat) → slot tm2 33 = .lit (.bool false) → ¬ c = 40 → K4 tm2 σ1 := by
     clear h26 h7 h6 h5 h0 hlen tm2 c40
     intro tm2 hlen h0 h5 h6 h7 h33 hc40
     refine hK4 _ _ ?_; clear hK4 K4
     refine JD.cond (t := false) (by rw [zT, h33]) ?_
     rw [if_neg hc40] at hrun
     refine JD.seqK fun K4 hK4 => JD.region ?_
     have c41 : ∀ (tm2 : List AV), tm2.length = 115 → slot tm2 0 = .lit (.string ⟨l.toArray⟩) → slot tm2 5 = .ptr (σ0.length + 2) 0 → slot tm2 6 = .lit (.int .i64 i) → slot tm2 7 = .lit (.int .u8 c.toNat) → slot tm2 62 = .lit (.bool true) → c = 41 → K4 tm2 σ1 := by
      clear h33 h7 h6 h5 h0 hlen tm2
      intro tm2 hlen h0 h5 h6 h7 h62 hc41
      refine hK4 _ _ ?_; clear hK4 K4
      refine JD.cond (t := true) (by rw [zT, h62]) ?_
      rw [if_pos hc41] at hrun
      obtain ⟨L, B, g, ls, bs, hps⟩ := hP
      have hpr := hps.r
      refine JD.seqK fun K4 hK4 => ?_
      refine JD.seqK fun K5 hK5 => JD.region ?_
      by_cases p1 : (st.length : Int) = 1
      · have p1' : st.length = 1 := by omega
        simp (maxDischargeDepth := 16) [symB, List.length_set, LJ_nil, LJ_guardS, LJ_guardN, LJ_val, LJ_skip, LJ_enter, andThen, hlen, h5, hpr, p1, p1']
        refine hK5 _ _ ?_; clear hK5 K5
        refine JD.cond (t := true) (by simp [zT, slot_eq, hlen, p1, p1']) ?_
        rw [if_pos p1'] at hrun
        refine JD.seqK fun K5 hK5 => JD.region ?_
        simp (maxDischargeDepth := 16) [symB, List.length_set, LJ_nil, LJ_guardS, LJ_guardN, LJ_val, LJ_skip, LJ_enter, andThen, hlen, h6]
        refine hK5 _ _ ?_; clear hK5 K5
        refine JD.ret ?_
        refine retOut _ _ (fin _ _ (.sl [] .full) (.lit (.int .i64 i)) (.lit (.int .i64 20)) (by simp [hlen]) (by simp [slot_ne, slot_eq, hlen]) (by simp [slot_ne, slot_eq, hlen]) (by simp [slot_ne, slot_eq, hlen]) ?_)
        rw [← hrun]
        exact ⟨hps.keep, hps.le, rfl⟩
      · have p1' : ¬ st.length = 1 := by omega
        simp (maxDischargeDepth := 16) [symB, List.length_set, LJ_nil, LJ_guardS, LJ_guardN, LJ_val, LJ_skip, LJ_enter, andThen, hlen, h5, hpr, p1, p1']
        refine hK5 _ _ ?_; clear hK5 K5
        refine JD.cond (t := false) (by simp [zT, slot_eq, hlen, p1, p1']) (JD.skip ?_)
        rw [if_neg p1'] at hrun
        simp only [andThen]
        refine hK4 _ _ ?_; clear hK4 K4
        refine JD.region ?_
        simp (maxDischargeDepth := 16) [symB, List.length_set, LJ_nil, LJ_guardS, LJ_guardN, LJ_val, LJ_skip, LJ_enter, andThen, hlen, h5]
        match st, hne, hstl, hxs, hps, p1', hrun with
        | [], hne, _, _, _, _, _ => exact absurd rfl hne
        | [q], _, _, _, _, p1', _ => exact absurd rfl p1'
        | (xs1, b1) :: (xs, b) :: rest, _, hstl, hxs, hps, _, hrun =>
         simp only [List.length_cons] at hstl
         have x1 := hxs (xs1, b1) (by simp)
         have x2 := hxs (xs, b) (by simp)
         refine (close_st hps (by dsimp only at x2; omega) (by omega)).mono ?_
         rintro r σ2 ⟨rfl, hP2⟩
         simp only [retK]
         refine out _ _ (next _ σ2 i ((xs ++ [Tr.mk [] xs1 true b1], b) :: rest) (by simp [hlen]) (by simp [slot_ne, h0]) (by simp [slot_ne, h5]) (by simp [slot_ne, h6]) (Nat.le_refl _) hlt hP2 hrun (by simp) (by simp; omega) ?_)
         intro q hq
         rcases List.mem_cons.1 hq with rfl | hq
         · simp; exact x2
         · exact Nat.le_succ_of_le (hxs q (by simp [hq]))
     have cn41 : ∀ (tm2 : List AV), tm2.length = 115 → slot tm2 0 = .lit (.string ⟨l.toArray⟩) → slot tm2 5 = .ptr (σ0.length + 2) 0 → slot tm2 6 = .lit (.int .i64 i) → slot tm2 7 = .lit (.int .u8 c.toNat) → slot tm2 62 = .lit (.bool false) → ¬ c = 41 → K4 tm2 σ1 := by
      clear h33 h7 h6 h5 h0 hlen tm2 c41
      intro tm2 hlen h0 h5 h6 h7 h62 hc41
      refine hK4 _ _ ?_; clear hK4 K4
      refine JD.cond (t := false) (by rw [zT, h62]) ?_
      rw [if_neg hc41] at hrun
      refine JD.seqK fun K4 hK4 => JD.region ?_
      simp (maxDischargeDepth := 16) [symB, List.length_set, LJ_nil, LJ_guardS, LJ_guardN, LJ_val, LJ_skip, LJ_enter, andThen, hlen, h7]
      refine (sign_ev c σ1).toJ.mono ?_
      rintro r σ2 ⟨rfl, rfl⟩
      simp (maxDischargeDepth := 16) [symB, List.length_set, LJ_nil, LJ_guardS, LJ_guardN, LJ_val, LJ_skip, LJ_enter, retK, andThen, hlen]
      refine hK4 _ _ ?_; clear hK4 K4
      refine JD.cond (t := sgn c) (by simp [zT, slot_eq, hlen]) ?_
      cases hsg : sgn c with
      | false =>
       rw [hsg, if_neg (by simp)] at hrun
       obtain ⟨L, B, g, ls, bs, hps⟩ := hP
       refine JD.seqK fun K5 hK5 => JD.region ?_
       simp (maxDischargeDepth := 16) [symB, List.length_set, LJ_nil, LJ_guardS, LJ_guardN, LJ_val, LJ_skip, LJ_enter, andThen, hlen, h6]
       refine hK5 _ _ ?_; clear hK5 K5
       refine JD.ret ?_
       refine retOut _ _ (fin _ _ (.sl [] .full) (.lit (.int .i64 i)) (.lit (.int .i64 20)) (by simp [hlen]) (by simp [slot_ne, slot_eq, hlen]) (by simp [slot_ne, slot_eq, hlen]) (by simp [slot_ne, slot_eq, hlen]) ?_)
       rw [← hrun]
       exact ⟨hps.keep, hps.le, rfl⟩
      | true =>
       rw [hsg, if_pos rfl] at hrun
       refine JD.seqK fun K5 hK5 => JD.region ?_
       simp (maxDischargeDepth := 16) [symB, List.length_set, LJ_nil, LJ_guardS, LJ_guardN, LJ_val, LJ_skip, LJ_enter, andThen, hlen, h6]
       refine hK5 _ _ ?_; clear hK5 K5
       refine JD.seqK fun K5 hK5 => JD.block ?_
       refine JD.hide fun R5 hR5 => ?_
       have fin5 : ∀ (tm2 : List AV) (j : Nat), tm2.length = 115 → slot tm2 0 = .lit (.string ⟨l.toArray⟩) → slot tm2 5 = .ptr (σ0.length + 2) 0 → slot tm2 6 = .lit (.int .i64 j) → slot tm2 8 = .lit (.int .i64 i) → i ≤ j → j < l.length → skipTo sgn l i = j + 1 → R5 (.exit 3) tm2 σ2 := by
        clear h62 h7 h6 h5 h0 hlen tm2
        intro tm2 j hlen h0 h5 h6 h8 hij hj hsk
        refine hR5 _ _ _ ?_
        simp only [outOf, if_true, andThen]
        refine hK5 _ _ ?_; clear hR5 hK5 R5 K5
        refine JD.region ?_
        have hw : IntKind.i64.wrap ((j : Int) + 1) = (j : Int) + 1 := by rw [wrap_succ (by omega)]; omega
        have w1 : (0 : Int) ≤ (j : Int) + 1 := by omega
        have w2 : ((j : Int) + 1).toNat = j + 1 := by omega
        have w3 : (i : Int) ≤ (j : Int) + 1 := by omega
        have w4 : (j : Int) + 1 ≤ (l.length : Int) := by omega
        simp (maxDischargeDepth := 16) [symB, List.length_set, LJ_nil, LJ_guardS, LJ_guardN, LJ_val, LJ_skip, LJ_enter, andThen, hlen, h0, h5, h6, h8, hw, w1, w2, w3, w4, hsz]
        obtain ⟨L, B, g, ls, bs, hps⟩ := hP
        match st, hne, hstl, hxs, hps, hrun with
        | [], hne, _, _, _, _ => exact absurd rfl hne
        | (xs, b) :: rest, _, hstl, hxs, hps, hrun =>
         simp only [List.length_cons] at hstl
         have x2 := hxs (xs, b) (by simp)
         have hword := extract_word sgn (⟨l.toArray⟩ : ByteArray) i
         simp only [hsk] at hword
         refine (put_st hps (t := .mk ((l.drop i).takeWhile sgn) [] false i) ⟨.sl [] .full, by rw [hword], .inl ⟨rfl, rfl⟩⟩ (by dsimp only at x2; omega) (by omega)).mono ?_
         rintro r σ3 ⟨rfl, hP2⟩
         simp only [retK]
         rw [hsk] at hrun
         refine out _ _ (next _ σ3 j ((xs ++ [Tr.mk ((l.drop i).takeWhile sgn) [] false i], b) :: rest) (by simp [hlen]) (by simp [slot_ne, h0]) (by simp [slot_ne, h5]) (by simp [slot_ne, h6]) hij hj hP2 hrun (by simp) (by simp; omega) ?_)
         intro q hq
         rcases List.mem_cons.1 hq with rfl | hq
         · simp; dsimp only at x2; omega
         · have := hxs q (by simp [hq]); omega
       refine JD.loopI (fun k tm σ' => ∃ (j : Nat) (d : UInt8), k = l.length - j ∧ i ≤ j ∧ j < l.length ∧ tm.length = 115 ∧ slot tm 0 = .lit (.string ⟨l.toArray⟩) ∧ slot tm 5 = .ptr (σ0.length + 2) 0 ∧ slot tm 6 = .lit (.int .i64 j) ∧ slot tm 8 = .lit (.int .i64 i) ∧ σ' = σ2 ∧ skipTo sgn l i = skipTo sgn l j ∧ l[j]? = some d ∧ sgn d = true) ?_ (l.length - i) _ _ ?_
       rotate_left
       · exact ⟨i, c, rfl, Nat.le_refl _, hlt, by simp [hlen], by simp [slot_ne, h0], by simp [slot_ne, h5], by simp [slot_ne, h6], by simp [slot_eq, hlen], rfl, rfl, hc, hsg⟩
       clear h62 h7 h6 h5 h0 hlen tm2
       rintro k tm σ' ⟨j, d, rfl, hij, hj, hlen, h0, h5, h6, h8, rfl, hsk, hd, hdg⟩
       have hsk1 : skipTo sgn l (j + 1) = skipTo sgn l j := skipTo_yes sgn l j hj (by have := List.getElem?_eq_getElem hj; rw [hd] at this; injection this with this; rw [← this]; exact hdg)
       have hw : IntKind.i64.wrap ((j : Int) + 1) = (j : Int) + 1 := by rw [wrap_succ (by omega)]; omega
       have w1 : (0 : Int) ≤ (j : Int) + 1 := by omega
       have w2 : ((j : Int) + 1).toNat = j + 1 := by omega
       refine JD.hide fun R6 hR6 => ?_
       refine JD.seqK fun K7 hK7 => ?_
       refine JD.seqK fun K6 hK6 => JD.region ?_
       by_cases hlt2 : j + 1 < l.length
       · have hlt2' : (j : Int) + 1 < (l.length : Int) := by omega
         have hd2 := List.getElem?_eq_getElem hlt2
         have hcs2 := str_get hlt2
         have hno : sgn l[j + 1] = false → skipTo sgn l (j + 1) = j + 1 := skipTo_no sgn l (j + 1) hlt2
         generalize l[j + 1] = d2 at hd2 hcs2 hno
         simp (maxDischargeDepth := 16) [symB, List.length_set, LJ_nil, LJ_guardS, LJ_guardN, LJ_val, LJ_skip, LJ_enter, andThen, hlen, h0, h6, hw, w1, w2, hlt2', hsz, hcs2]
         refine (sign_ev d2 σ').toJ.mono ?_
         rintro r σ3 ⟨rfl, rfl⟩
         simp (maxDischargeDepth := 16) [symB, List.length_set, LJ_nil, LJ_guardS, LJ_guardN, LJ_val, LJ_skip, LJ_enter, retK, andThen, hlen]
         refine hK6 _ _ ?_; clear hK6 K6
         refine JD.cond (t := sgn d2) (by simp [zT, slot_eq, hlen]) ?_
         cases hs2 : sgn d2 with
         | true =>
          refine JD.skip ?_
          simp only [andThen]
          refine hK7 _ _ ?_; clear hK7 K7
          refine JD.block ?_
          refine JD.region ?_
          simp (maxDischargeDepth := 16) [symB, List.length_set, LJ_nil, LJ_guardS, LJ_guardN, LJ_val, LJ_skip, LJ_enter, hlen, h6, hw, outOf]
          exact hR6 _ _ _ ⟨l.length - (j + 1), by omega, j + 1, d2, rfl, by omega, hlt2, by simp [hlen], by simp [slot_ne, h0], by simp [slot_ne, h5], by simp [slot_eq, hlen], by simp [slot_ne, h8], rfl, by rw [hsk, hsk1], hd2, hs2⟩
         | false =>
          refine JD.exit ?_
          refine hR6 _ _ _ ?_
          exact fin5 _ j (by simp [hlen]) (by simp [slot_ne, h0]) (by simp [slot_ne, h5]) (by simp [slot_ne, h6]) (by simp [slot_ne, h8]) hij hj (by rw [hsk, ← hsk1]; exact hno hs2)
       · have hlt2' : ¬ (j : Int) + 1 < (l.length : Int) := by omega
         simp (maxDischargeDepth := 16) [symB, List.length_set, LJ_nil, LJ_guardS, LJ_guardN, LJ_val, LJ_skip, LJ_enter, andThen, hlen, h0, h6, hw, w1, w2, hlt2', hsz]
         refine hK6 _ _ ?_; clear hK6 K6
         refine JD.cond (t := false) (by simp [zT, slot_eq, hlen]) (JD.exit ?_)
         refine hR6 _ _ _ ?_
         exact fin5 _ j (by simp [hlen]) (by simp [slot_ne, h0]) (by simp [slot_ne, h5]) (by simp [slot_ne, h6]) (by simp [slot_ne, h8]) hij hj (by rw [hsk, ← hsk1, skipTo_end sgn l (j + 1) (by omega)])
     by_cases p41 : (c.toNat : Int) = 41
     · simp (maxDischargeDepth := 16) [symB, List.length_set, LJ_nil, LJ_guardS, LJ_guardN, LJ_val, LJ_skip, LJ_enter, andThen, hlen, h7, p41]
       exact c41 _ (by simp [hlen]) (by simp [slot_ne, h0]) (by simp [slot_ne, h5]) (by simp [slot_ne, h6]) (by simp [slot_ne, slot_eq, hlen, h7]) (by simp [slot_eq, hlen]) (by rw [e41]; exact p41)
     · simp (maxDischargeDepth := 16) [symB, List.length_set, LJ_nil, LJ_guardS, LJ_guardN, LJ_val, LJ_skip, LJ_enter, andThen, hlen, h7, p41]
       exact cn41 _ (by simp [hlen]) (by simp [slot_ne, h0]) (by simp [slot_ne, h5]) (by simp [slot_ne, h6]) (by simp [slot_ne, slot_eq, hlen, h7]) (by simp [slot_eq, hlen, p41]) (by rw [e41]; exact p41)
    by_cases p40 : (c.toNat : Int) = 40
    · simp (maxDischargeDepth := 16) [symB, List.length_set, LJ_nil, LJ_guardS, LJ_guardN, LJ_val, LJ_skip, LJ_enter, andThen, hlen, h7, p40]
      exact c40 _ (by simp [hlen]) (by simp [slot_ne, h0]) (by simp [slot_ne, h5]) (by simp [slot_ne, h6]) (by simp [slot_ne, slot_eq, hlen, h7]) (by simp [slot_eq, hlen]) (by rw [e40]; exact p40)
    · simp (maxDischargeDepth := 16) [symB, List.length_set, LJ_nil, LJ_guardS, LJ_guardN, LJ_val, LJ_skip, LJ_enter, andThen, hlen, h7, p40]
      exact cn40 _ (by simp [hlen]) (by simp [slot_ne, h0]) (by simp [slot_ne, h5]) (by simp [slot_ne, h6]) (by simp [slot_ne, slot_eq, hlen, h7]) (by simp [slot_eq, hlen, p40]) (by rw [e40]; exact p40)
   have h7 : ∀ tm2 : List AV, tm2.length = 115 → slot (tm2.set 7 (.lit (.int .u8 c.toNat))) 7 = .lit (.int .u8 c.toNat) := fun tm2 h => slot_eq (by omega)
   by_cases p32 : (c.toNat : Int) = 32
   · simp (maxDischargeDepth := 16) [symB, List.length_set, LJ_nil, LJ_guardS, LJ_guardN, LJ_val, LJ_skip, LJ_enter, andThen, hlen, p32]
     exact c9t _ (by simp [hlen]) (by simp [slot_ne, h0]) (by simp [slot_ne, h5]) (by simp [slot_ne, h6]) (by simp [slot_ne, slot_eq, hlen, p32]) (by simp [slot_eq, hlen]) (by rw [← e32] at p32; rw [p32]; rfl)
   by_cases p10 : (c.toNat : Int) = 10
   · simp (maxDischargeDepth := 16) [symB, List.length_set, LJ_nil, LJ_guardS, LJ_guardN, LJ_val, LJ_skip, LJ_enter, andThen, hlen, p32, p10]
     exact c9t _ (by simp [hlen]) (by simp [slot_ne, h0]) (by simp [slot_ne, h5]) (by simp [slot_ne, h6]) (by simp [slot_ne, slot_eq, hlen, p32, p10]) (by simp [slot_eq, hlen]) (by rw [← e10] at p10; rw [p10]; rfl)
   have hb : ¬ blk c = true := by
    unfold blk
    simp only [Bool.or_eq_true, beq_iff_eq, not_or, e32, e10]
    exact ⟨p32, p10⟩
   simp (maxDischargeDepth := 16) [symB, List.length_set, LJ_nil, LJ_guardS, LJ_guardN, LJ_val, LJ_skip, LJ_enter, andThen, hlen, p32, p10]
   exact c9f _ (by simp [hlen]) (by simp [slot_ne, h0]) (by simp [slot_ne, h5]) (by simp [slot_ne, h6]) (by simp [slot_ne, slot_eq, hlen, p32, p10]) (by simp [slot_eq, hlen, p10]) hb
 · have hlt' : ¬ (i : Int) < (l.length : Int) := by omega
   refine JD.seqK fun K4 hK4 => JD.region ?_
   simp (maxDischargeDepth := 16) [symB, List.length_set, LJ_nil, LJ_guardS, LJ_guardN, LJ_val, LJ_skip, LJ_enter, andThen, hlen, h0, h6, hsz, hlt, hlt']
   refine hK4 _ _ ?_; clear hK4 K4
   refine JD.cond (t := false) (by simp [zT, slot_eq, hlen, hlt, hlt']) (JD.exit ?_)
   simp only [andThen]
   refine hR2 _ _ _ (hR _ _ _ ?_)
   simp only [outOf, if_true, andThen]
   refine hK _ _ ?_; clear hK hR2 hR hK3
   obtain ⟨L, B, g, ls, bs, hps⟩ := hP
   match st, hne, hps, hrun with
   | [], hne, _, _ => exact absurd rfl hne
   | (xs, b) :: rest, _, hps, hrun =>
    rw [runP_none (List.getElem?_eq_none (by omega))] at hrun
    have hpr := hps.r
    refine JD.seqK fun K hK => ?_
    refine JD.seqK fun K2 hK2 => JD.region ?_
    by_cases p1 : 0 < rest.length
    · have p1' : (1 : Int) < (rest.length : Int) + 1 := by omega
      rw [if_pos (by omega)] at hrun
      simp (maxDischargeDepth := 16) [symB, List.length_set, LJ_nil, LJ_guardS, LJ_guardN, LJ_val, LJ_skip, LJ_enter, andThen, hlen, h5, hpr, p1, p1']
      refine hK2 _ _ ?_; clear hK2 K2
      refine JD.cond (t := true) (by simp [zT, slot_eq, hlen, p1, p1']) ?_
      refine JD.seqK fun K5 hK5 => JD.region ?_
      simp (maxDischargeDepth := 16) [symB, List.length_set, LJ_nil, LJ_guardS, LJ_guardN, LJ_val, LJ_skip, LJ_enter, andThen, hlen, h0, hsz]
      refine hK5 _ _ ?_; clear hK5 K5
      refine JD.ret ?_
      refine fin _ _ (.sl [] .full) (.lit (.int .i64 l.length)) (.lit (.int .i64 20)) (by simp [hlen]) (by simp [slot_ne, slot_eq, hlen]) (by simp [slot_ne, slot_eq, hlen]) (by simp [slot_ne, slot_eq, hlen]) ?_
      rw [← hrun]
      exact ⟨hps.keep, hps.le, rfl⟩
    · have p1' : ¬ (1 : Int) < (rest.length : Int) + 1 := by omega
      rw [if_neg (by omega)] at hrun
      simp (maxDischargeDepth := 16) [symB, List.length_set, LJ_nil, LJ_guardS, LJ_guardN, LJ_val, LJ_skip, LJ_enter, andThen, hlen, h5, hpr, p1, p1']
      refine hK2 _ _ ?_; clear hK2 K2
      refine JD.cond (t := false) (by simp [zT, slot_eq, hlen, p1, p1']) (JD.skip ?_)
      simp only [andThen]
      refine hK _ _ ?_; clear hK K
      obtain rfl : rest = [] := List.eq_nil_of_length_eq_zero (by omega)
      obtain ⟨⟨v, hv, hop⟩, _, _⟩ := hps.lev
      have hl := hps.l
      simp only [List.length_nil] at hv
      refine JD.seqK fun K5 hK5 => JD.region ?_
      simp (maxDischargeDepth := 16) [symB, List.length_set, LJ_nil, LJ_guardS, LJ_guardN, LJ_val, LJ_skip, LJ_enter, andThen, hlen, h5, hpr, hl, hv]
      refine hK5 _ _ ?_; clear hK5 K5
      refine JD.ret ?_
      refine fin _ _ v (.lit (.int .i64 0)) (.lit (.int .i64 0)) (by simp [hlen]) (by simp [slot_ne, slot_eq, hlen]) (by simp [slot_ne, slot_eq, hlen]) (by simp [slot_ne, slot_eq, hlen]) ?_
      rw [← hrun]
      exact ⟨hps.keep, hps.le, g, v, rfl, hop⟩
end Go.Proofs.YtmmgjaheffbpaaaGreatDoor
