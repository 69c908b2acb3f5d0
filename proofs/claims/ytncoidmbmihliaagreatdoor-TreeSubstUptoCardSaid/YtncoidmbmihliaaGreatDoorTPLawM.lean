/-
 The package tree, plainly: what is put for names, and what stays: plain names, the names that are free, the counts.
-/
import Derived.Test.YtncoidmbmihliaaGreatDoorTr7M
import Derived.Test.YtncoidmbmihliaaGreatDoorTBoundM
import Derived.Test.YtncoidmbmihliaaGreatDoorTFree2M
import Derived.Test.YtncoidmbmihliaaGreatDoorTCntM
namespace Go.Proofs.YtncoidmbmihliaaGreatDoor
set_option linter.unusedSimpArgs false
set_option linter.unusedVariables false
open Go.RowKit
theorem seek_map {α : Type} (f : ByteArray → α) (names : List ByteArray) (nm : ByteArray) : ∀ j, seek names (names.map f) nm j = none ∨ seek names (names.map f) nm j = some (f nm)
 | 0 => .inl rfl
 | j + 1 => by
  rw [seek]
  split
  · rename_i h
    rw [List.getElem?_map, h]
    exact .inr rfl
  · exact seek_map f names nm j
abbrev ownM (names : List ByteArray) : MkE := mkOf names (names.map aV)
theorem own_ts (names : List ByteArray) : (ownM names).ts = names.map fun nm => (aV nm).toT := by
 show ((names.map aV).take (min names.length (names.map aV).length)).map Atm.toT = _
 rw [List.length_map, Nat.min_self, List.take_of_length_le (by rw [List.length_map]; exact Nat.le_refl _), List.map_map]
 rfl
mutual
theorem own_t (names : List ByteArray) : ∀ t : Trm, t.pl = true → (ownM names).e.put t = t
 | .mk k nm ng dg ks, h => by
  simp only [Trm.pl, Bool.and_eq_true, Bool.or_eq_true, Bool.not_eq_true', decide_eq_false_iff_not, List.isEmpty_iff] at h
  obtain ⟨h1, h2⟩ := h
  rw [EnvT.put]
  split
  · rename_i x hx
    rw [EnvT.find_eq] at hx
    split at hx
    · rename_i hk
      rcases h1 with h1 | ⟨⟨rfl, rfl⟩, rfl⟩
      · exact absurd hk h1
      have e : (ownM names).e.ts = names.map fun nm => (aV nm).toT := own_ts names
      rw [e] at hx
      rcases seek_map (fun nm => (aV nm).toT) names nm (min names.length (names.map fun nm => (aV nm).toT).length) with hs | hs
      · exact absurd (hs.symm.trans hx) (by simp)
      · have := hs.symm.trans hx
        cases this
        rw [hk]; rfl
    · cases hx
  · rw [own_ts' names ks h2]
theorem own_ts' (names : List ByteArray) : ∀ l : List Trm, trmPl l = true → (ownM names).e.puts l = l
 | [], _ => rfl
 | t :: l, h => by
  rw [trmPl, Bool.and_eq_true] at h
  rw [EnvT.puts, own_t names t h.1, own_ts' names l h.2]
end
theorem own_a (names : List ByteArray) (a : Atm) (h : a.pl = true) : (ownM names).a2.put a = a := by
 obtain ⟨k, nm, ng, dg, tr⟩ := a
 simp only [Atm.pl, Bool.or_eq_true, Bool.not_eq_true', decide_eq_false_iff_not, Bool.and_eq_true, List.isEmpty_iff] at h
 rw [A2.put_eq]
 split
 · rename_i hk
   rcases h with h | ⟨⟨rfl, rfl⟩, rfl⟩
   · exact absurd hk h
   rcases seek_map aV names nm (ownM names).a2.k with hs | hs
   · rw [show seek (ownM names).a2.names (ownM names).a2.atoms nm (ownM names).a2.k = none from hs]; rfl
   · rw [show seek (ownM names).a2.names (ownM names).a2.atoms nm (ownM names).a2.k = some (aV nm) from hs, hk]; rfl
 · rfl
theorem own_as (names : List ByteArray) : ∀ l : List Atm, atmPl l = true → (ownM names).putAs l = l
 | [], _ => rfl
 | a :: l, h => by
  rw [atmPl, Bool.and_eq_true] at h
  have := own_as names l h.2
  rw [MkE.putAs] at this ⊢
  rw [List.map_cons, own_a names a h.1, this]
mutual
theorem own_y (names : List ByteArray) : ∀ t : Ty, t.pl = true → (ownM names).putY t = t
 | .mk fn st rf ps rs, h => by
  simp only [Ty.pl, Bool.and_eq_true] at h
  rw [MkE.putY, own_t names rf h.1.1, own_ps names ps h.1.2, own_ys names rs h.2]
theorem own_p (names : List ByteArray) : ∀ t : Prm, t.pl = true → (ownM names).putP t = t
 | .mk nm ty, h => by
  rw [Prm.pl] at h
  rw [MkE.putP, own_y names ty h]
theorem own_ps (names : List ByteArray) : ∀ l : List Prm, prmPl l = true → (ownM names).putPs l = l
 | [], _ => rfl
 | x :: l, h => by
  rw [prmPl, Bool.and_eq_true] at h
  rw [MkE.putPs, own_p names x h.1, own_ps names l h.2]
theorem own_ys (names : List ByteArray) : ∀ l : List Ty, tyPl l = true → (ownM names).putYs l = l
 | [], _ => rfl
 | x :: l, h => by
  rw [tyPl, Bool.and_eq_true] at h
  rw [MkE.putYs, own_y names x h.1, own_ys names l h.2]
end
mutual
def Exp.pl : Exp → Bool
 | .mk k nm ty rh am ar bd => am.pl && tyPl ty && rhsPl rh && armPl ar && expPl bd
def expPl : List Exp → Bool
 | [] => true
 | x :: l => x.pl && expPl l
def Rhs.pl : Rhs → Bool
 | .mk k nm ats ps rs bd ts => atmPl ats && prmPl ps && tyPl rs && trmPl ts && expPl bd
def rhsPl : List Rhs → Bool
 | [] => true
 | x :: l => x.pl && rhsPl l
def Arm.pl : Arm → Bool
 | .mk cn ns bd => expPl bd
def armPl : List Arm → Bool
 | [] => true
 | x :: l => x.pl && armPl l
end
mutual
theorem own_e (names : List ByteArray) : ∀ t : Exp, t.pl = true → (ownM names).putE t = t
 | .mk k nm ty rh am ar bd, h => by
  simp only [Exp.pl, Bool.and_eq_true] at h
  rw [MkE.putE, own_a names am h.1.1.1.1, own_ys names ty h.1.1.1.2, own_rs names rh h.1.1.2, own_ms names ar h.1.2, own_es names bd h.2]
theorem own_es (names : List ByteArray) : ∀ l : List Exp, expPl l = true → (ownM names).putEs l = l
 | [], _ => rfl
 | x :: l, h => by
  rw [expPl, Bool.and_eq_true] at h
  rw [MkE.putEs, own_e names x h.1, own_es names l h.2]
theorem own_r (names : List ByteArray) : ∀ t : Rhs, t.pl = true → (ownM names).putR t = t
 | .mk k nm ats ps rs bd ts, h => by
  simp only [Rhs.pl, Bool.and_eq_true] at h
  rw [MkE.putR, own_as names ats h.1.1.1.1, own_ps names ps h.1.1.1.2, own_ys names rs h.1.1.2, own_es names bd h.2, own_ts' names ts h.1.2]
theorem own_rs (names : List ByteArray) : ∀ l : List Rhs, rhsPl l = true → (ownM names).putRs l = l
 | [], _ => rfl
 | x :: l, h => by
  rw [rhsPl, Bool.and_eq_true] at h
  rw [MkE.putRs, own_r names x h.1, own_rs names l h.2]
theorem own_m (names : List ByteArray) : ∀ t : Arm, t.pl = true → (ownM names).putM t = t
 | .mk cn ns bd, h => by
  rw [Arm.pl] at h
  rw [MkE.putM, own_es names bd h]
theorem own_ms (names : List ByteArray) : ∀ l : List Arm, armPl l = true → (ownM names).putMs l = l
 | [], _ => rfl
 | x :: l, h => by
  rw [armPl, Bool.and_eq_true] at h
  rw [MkE.putMs, own_m names x h.1, own_ms names l h.2]
end
structure MkE.Imp (m m2 : MkE) : Prop where
 t : ∀ x : Trm, m.e.put x = x → m2.e.put x = x
 a : ∀ x : Atm, m.a2.put x = x → m2.a2.put x = x
variable {m m2 : MkE}
theorem MkE.Imp.ts (h : m.Imp m2) : ∀ l : List Trm, m.e.puts l = l → m2.e.puts l = l
 | [], _ => rfl
 | x :: l, e => by
  rw [EnvT.puts] at e ⊢
  simp only [List.cons.injEq] at e
  rw [h.t x e.1, MkE.Imp.ts h l e.2]
theorem MkE.Imp.as (h : m.Imp m2) : ∀ l : List Atm, m.putAs l = l → m2.putAs l = l
 | [], _ => rfl
 | x :: l, e => by
  have ih := MkE.Imp.as h l
  simp only [MkE.putAs, List.map_cons, List.cons.injEq] at e ih ⊢
  exact ⟨h.a x e.1, ih e.2⟩
mutual
theorem MkE.Imp.y (h : m.Imp m2) : ∀ t : Ty, m.putY t = t → m2.putY t = t
 | .mk fn st rf ps rs, e => by
  rw [MkE.putY] at e ⊢
  simp only [Ty.mk.injEq, true_and] at e
  rw [h.t rf e.1, MkE.Imp.ps h ps e.2.1, MkE.Imp.ys h rs e.2.2]
theorem MkE.Imp.p (h : m.Imp m2) : ∀ t : Prm, m.putP t = t → m2.putP t = t
 | .mk nm ty, e => by
  rw [MkE.putP] at e ⊢
  simp only [Prm.mk.injEq, true_and] at e
  rw [MkE.Imp.y h ty e]
theorem MkE.Imp.ps (h : m.Imp m2) : ∀ t : List Prm, m.putPs t = t → m2.putPs t = t
 | [], _ => rfl
 | x :: l, e => by
  rw [MkE.putPs] at e ⊢
  simp only [List.cons.injEq] at e
  rw [MkE.Imp.p h x e.1, MkE.Imp.ps h l e.2]
theorem MkE.Imp.ys (h : m.Imp m2) : ∀ t : List Ty, m.putYs t = t → m2.putYs t = t
 | [], _ => rfl
 | x :: l, e => by
  rw [MkE.putYs] at e ⊢
  simp only [List.cons.injEq] at e
  rw [MkE.Imp.y h x e.1, MkE.Imp.ys h l e.2]
end
mutual
theorem MkE.Imp.x (h : m.Imp m2) : ∀ t : Exp, m.putE t = t → m2.putE t = t
 | .mk k nm ty rh am ar bd, e => by
  rw [MkE.putE] at e ⊢
  simp only [Exp.mk.injEq, true_and] at e
  rw [h.ys ty e.1, MkE.Imp.rs h rh e.2.1, h.a am e.2.2.1, MkE.Imp.ms h ar e.2.2.2.1, MkE.Imp.xs h bd e.2.2.2.2]
theorem MkE.Imp.r (h : m.Imp m2) : ∀ t : Rhs, m.putR t = t → m2.putR t = t
 | .mk k nm ats ps rs bd ts, e => by
  rw [MkE.putR] at e ⊢
  simp only [Rhs.mk.injEq, true_and] at e
  rw [h.as ats e.1, h.ps ps e.2.1, h.ys rs e.2.2.1, MkE.Imp.xs h bd e.2.2.2.1, h.ts ts e.2.2.2.2]
theorem MkE.Imp.arm (h : m.Imp m2) : ∀ t : Arm, m.putM t = t → m2.putM t = t
 | .mk cn ns bd, e => by
  rw [MkE.putM] at e ⊢
  simp only [Arm.mk.injEq, true_and] at e
  rw [MkE.Imp.xs h bd e]
theorem MkE.Imp.xs (h : m.Imp m2) : ∀ t : List Exp, m.putEs t = t → m2.putEs t = t
 | [], _ => rfl
 | x :: l, e => by
  rw [MkE.putEs] at e ⊢
  simp only [List.cons.injEq] at e
  rw [MkE.Imp.x h x e.1, MkE.Imp.xs h l e.2]
theorem MkE.Imp.rs (h : m.Imp m2) : ∀ t : List Rhs, m.putRs t = t → m2.putRs t = t
 | [], _ => rfl
 | x :: l, e => by
  rw [MkE.putRs] at e ⊢
  simp only [List.cons.injEq] at e
  rw [MkE.Imp.r h x e.1, MkE.Imp.rs h l e.2]
theorem MkE.Imp.ms (h : m.Imp m2) : ∀ t : List Arm, m.putMs t = t → m2.putMs t = t
 | [], _ => rfl
 | x :: l, e => by
  rw [MkE.putMs] at e ⊢
  simp only [List.cons.injEq] at e
  rw [MkE.Imp.arm h x e.1, MkE.Imp.ms h l e.2]
end
theorem seek_one {α : Type} (n nm : ByteArray) (ts : List α) (h : n ≠ nm) : ∀ j, seek [n] ts nm j = none
 | 0 => rfl
 | j + 1 => by
  rw [seek, if_neg, seek_one n nm ts h j]
  cases j with
  | zero => simpa using h
  | succ j => simp
theorem imp_one (n o : ByteArray) (hno : o ≠ n) (put : List Atm) : (mkOf [n] [aV o]).Imp (mkOf [n] put) := by
 have key : ∀ k : Nat, (∀ t : Trm, t.n ≤ k → (mkOf [n] [aV o]).e.put t = t → (mkOf [n] put).e.put t = t) ∧ ∀ l : List Trm, trmN l ≤ k → (mkOf [n] [aV o]).e.puts l = l → (mkOf [n] put).e.puts l = l := by
  intro k
  induction k with
  | zero =>
   refine ⟨fun t ht => absurd t.n_pos (by omega), fun l hl _ => ?_⟩
   cases l with
   | nil => rfl
   | cons t l => have := t.n_pos; simp only [trmN] at hl; omega
  | succ k ih =>
   have h1 : ∀ t : Trm, t.n ≤ k + 1 → (mkOf [n] [aV o]).e.put t = t → (mkOf [n] put).e.put t = t := by
    intro t ht he
    obtain ⟨kd, nm, ng, dg, ks⟩ := t
    simp only [Trm.n] at ht
    rcases Classical.em (kd = 1 ∧ n = nm) with hk | hk
    · obtain ⟨rfl, rfl⟩ := hk
      have hf : (mkOf [n] [aV o]).e.find (.mk 1 n ng dg ks) = some (aV o).toT := by
       rw [EnvT.find_eq, if_pos rfl]; show seek [n] [(aV o).toT] n 1 = _; rw [seek, if_pos (by simp)]; rfl
      rw [EnvT.put, hf] at he
      have : (aV o).toT = Trm.mk 1 n ng dg ks := he
      rw [show (aV o).toT = Trm.mk 1 o false [] [] from rfl, Trm.mk.injEq] at this
      exact absurd this.2.1 hno
    · have hf : ∀ put : List Atm, (mkOf [n] put).e.find (.mk kd nm ng dg ks) = none := by
       intro put
       rw [EnvT.find_eq]
       split
       · rename_i hk1
         exact seek_one n nm _ (fun h => hk ⟨hk1, h⟩) _
       · rfl
      rw [EnvT.put, hf] at he
      rw [EnvT.put, hf]
      simp only [Trm.mk.injEq, true_and] at he
      simp only [Trm.mk.injEq, true_and]
      exact ih.2 ks (by omega) he
   refine ⟨h1, fun l => ?_⟩
   induction l with
   | nil => exact fun _ _ => rfl
   | cons t l ihl =>
    intro hl he
    simp only [trmN] at hl
    rw [EnvT.puts] at he ⊢
    simp only [List.cons.injEq] at he
    rw [h1 t (by omega) he.1, ihl (by omega) he.2]
 refine ⟨fun x hx => (key x.n).1 x (Nat.le_refl _) hx, fun x hx => ?_⟩
 obtain ⟨kd, nm, ng, dg, tr⟩ := x
 rw [A2.put_eq] at hx ⊢
 split
 · rename_i hk
   rw [if_pos hk] at hx
   rcases Classical.em (n = nm) with hn | hn
   · subst hn
     have hs : seek (mkOf [n] [aV o]).a2.names (mkOf [n] [aV o]).a2.atoms n (mkOf [n] [aV o]).a2.k = some (aV o) := by
      show seek [n] [aV o] n 1 = _; rw [seek, if_pos (by simp)]; rfl
     rw [hs] at hx
     have : aV o = Atm.mk kd n ng dg tr := hx
     rw [Atm.mk.injEq] at this
     exact absurd this.2.1 hno
   · rw [show seek (mkOf [n] put).a2.names (mkOf [n] put).a2.atoms nm (mkOf [n] put).a2.k = none from seek_one n nm _ hn _]; rfl
 · rfl
theorem putEs_len (m : MkE) : ∀ l : List Exp, (m.putEs l).length = l.length
 | [] => rfl
 | x :: l => by rw [MkE.putEs, List.length_cons, List.length_cons, putEs_len m l]
mutual
theorem put_cr (m : MkE) : ∀ e : Exp, (m.putE e).cr = e.cr
 | .mk k nm ty rh am ar bd => by rw [MkE.putE, Exp.cr, Exp.cr, put_ct m rh, put_cm m ar, putEs_len, put_cs m bd]
theorem put_cs (m : MkE) : ∀ l : List Exp, expCr (m.putEs l) = expCr l
 | [] => rfl
 | x :: l => by rw [MkE.putEs, expCr, expCr, put_cr m x, put_cs m l]
theorem put_c1 (m : MkE) : ∀ r : Rhs, (m.putR r).ct = r.ct
 | .mk k nm ats ps rs bd ts => by rw [MkE.putR, Rhs.ct, Rhs.ct, MkE.putAs, List.length_map, putEs_len, put_cs m bd]
theorem put_ct (m : MkE) : ∀ l : List Rhs, rhsCt (m.putRs l) = rhsCt l
 | [] => rfl
 | x :: l => by rw [MkE.putRs, rhsCt, rhsCt, put_c1 m x, put_ct m l]
theorem put_c2 (m : MkE) : ∀ r : Arm, (m.putM r).ct = r.ct
 | .mk cn ns bd => by rw [MkE.putM, Arm.ct, Arm.ct, putEs_len, put_cs m bd]
theorem put_cm (m : MkE) : ∀ l : List Arm, armCt (m.putMs l) = armCt l
 | [] => rfl
 | x :: l => by rw [MkE.putMs, armCt, armCt, put_c2 m x, put_cm m l]
end
theorem put_cnt1 (m : MkE) (e : Exp) : cntN [m.putE e] = cntN [e] := by simp only [cntN, expCr, put_cr, List.length_cons, List.length_nil]
def MkE.V (m : MkE) (s : ByteArray) : Prop := ∃ a ∈ m.atoms, frA a s
theorem toT_names (a : Atm) (s : ByteArray) (h : s ∈ namesT a.toT) : frA a s := by
 obtain ⟨k, nm, ng, dg, tr⟩ := a
 rw [Atm.toT_eq] at h
 rw [frA]
 split at h
 · rename_i hk
   refine ⟨hk, ?_⟩
   simpa [namesT, namesTs] using h
 · repeat' split at h
   all_goals simp [namesT, namesTs] at h
theorem put_names (m : MkE) : ∀ n : Nat, (∀ t : Trm, t.n ≤ n → ∀ s, s ∈ namesT (m.e.put t) → s ∈ namesT t ∨ m.V s) ∧ ∀ l : List Trm, trmN l ≤ n → ∀ s, s ∈ namesTs (m.e.puts l) → s ∈ namesTs l ∨ m.V s := by
 intro n
 induction n with
 | zero =>
  refine ⟨fun t ht => absurd t.n_pos (by omega), fun l hl s hs => ?_⟩
  cases l with
  | nil => exact .inl hs
  | cons t l => have := t.n_pos; simp only [trmN] at hl; omega
 | succ n ih =>
  have h1 : ∀ t : Trm, t.n ≤ n + 1 → ∀ s, s ∈ namesT (m.e.put t) → s ∈ namesT t ∨ m.V s := by
   intro t ht s hs
   obtain ⟨k, nm, ng, dg, ks⟩ := t
   simp only [Trm.n] at ht
   rw [EnvT.put] at hs
   split at hs
   · rename_i x hx
     obtain ⟨a, ha, rfl⟩ := List.mem_map.1 (EnvT.find_mem hx)
     exact .inr ⟨a, List.mem_of_mem_take ha, toT_names a s hs⟩
   · rw [namesT, List.mem_append] at hs ⊢
     rcases hs with hs | hs
     · exact .inl (.inl hs)
     · rcases ih.2 ks (by omega) s hs with h | h
       · exact .inl (.inr h)
       · exact .inr h
  refine ⟨h1, fun l => ?_⟩
  induction l with
  | nil => exact fun _ s hs => .inl hs
  | cons t l ihl =>
   intro hl s hs
   simp only [trmN] at hl
   rw [EnvT.puts, namesTs, List.mem_append] at hs
   rw [namesTs, List.mem_append]
   rcases hs with hs | hs
   · rcases h1 t (by omega) s hs with h | h
     · exact .inl (.inl h)
     · exact .inr h
   · rcases ihl (by omega) s hs with h | h
     · exact .inl (.inr h)
     · exact .inr h
theorem put_frT (m : MkE) (t : Trm) (s : ByteArray) (h : frT (m.e.put t) s) : frT t s ∨ m.V s := by
 rcases (put_names m t.n).1 t (Nat.le_refl _) s h.1 with h1 | h1
 · exact .inl ⟨h1, h.2⟩
 · exact .inr h1
theorem put_frA (m : MkE) (a : Atm) (s : ByteArray) (h : frA (m.a2.put a) s) : frA a s ∨ m.V s := by
 obtain ⟨k, nm, ng, dg, tr⟩ := a
 rw [A2.put_eq] at h
 split at h
 · cases hs : seek m.a2.names m.a2.atoms nm m.a2.k with
   | none => rw [hs] at h; exact .inl h
   | some x => rw [hs] at h; exact .inr ⟨x, seek_mem hs, h⟩
 · exact .inl h
theorem put_nmOf (m : MkE) (p : Prm) : (m.putP p).nmOf = p.nmOf := by obtain ⟨nm, ty⟩ := p; rw [MkE.putP]; rfl
mutual
theorem put_frY (m : MkE) : ∀ (t : Ty) (s : ByteArray), frY (m.putY t) s → frY t s ∨ m.V s
 | .mk fn st rf ps rs, s, h => by
  rw [MkE.putY, frY] at h
  rw [frY]
  rcases h with ⟨h1, h2⟩ | ⟨h1, h2⟩
  · rcases put_frPs m ps (fun s => frYs (m.putYs rs) s) (fun s => frYs rs s) (fun s h => put_frYs m rs s h) s h2 with h | h
    · exact .inl (.inl ⟨h1, h⟩)
    · exact .inr h
  · rcases put_frT m rf s h2 with h | h
    · exact .inl (.inr ⟨h1, h⟩)
    · exact .inr h
theorem put_frP (m : MkE) : ∀ (t : Prm) (s : ByteArray), frP (m.putP t) s → frP t s ∨ m.V s
 | .mk nm ty, s, h => by
  rw [MkE.putP, frP] at h
  rw [frP]
  exact put_frY m ty s h
theorem put_frPs (m : MkE) : ∀ (l : List Prm) (G G2 : ByteArray → Prop), (∀ s, G s → G2 s ∨ m.V s) → ∀ s, frPs (m.putPs l) G s → frPs l G2 s ∨ m.V s
 | [], G, G2, hG, s, h => by
  rw [MkE.putPs, frPs] at h
  rw [frPs]
  exact hG s h
 | p :: l, G, G2, hG, s, h => by
  rw [MkE.putPs, frPs, put_nmOf] at h
  rw [frPs]
  rcases h with h | ⟨h1, h2⟩
  · rcases put_frP m p s h with h | h
    · exact .inl (.inl h)
    · exact .inr h
  · rcases put_frPs m l G G2 hG s h2 with h | h
    · exact .inl (.inr ⟨h1, h⟩)
    · exact .inr h
theorem put_frYs (m : MkE) : ∀ (l : List Ty) (s : ByteArray), frYs (m.putYs l) s → frYs l s ∨ m.V s
 | [], s, h => by rw [MkE.putYs] at h; exact .inl h
 | t :: l, s, h => by
  rw [MkE.putYs, frYs] at h
  rw [frYs]
  rcases h with h | h
  · rcases put_frY m t s h with h | h
    · exact .inl (.inl h)
    · exact .inr h
  · rcases put_frYs m l s h with h | h
    · exact .inl (.inr h)
    · exact .inr h
end
mutual
theorem put_frE (m : MkE) : ∀ (t : Exp) (s : ByteArray), frE (m.putE t) s → frE t s ∨ m.V s
 | .mk k nm ty rh am ar bd, s, h => by
  rw [MkE.putE, frE] at h
  rw [frE]
  rcases h with (((⟨h0, h⟩ | h) | h) | ⟨h0, h⟩) | h
  · rcases put_frA m am s h with h | h
    · exact .inl (.inl (.inl (.inl (.inl ⟨h0, h⟩))))
    · exact .inr h
  · rcases put_frYs m ty s h with h | h
    · exact .inl (.inl (.inl (.inl (.inr h))))
    · exact .inr h
  · rcases put_frRs m rh s h with h | h
    · exact .inl (.inl (.inl (.inr h)))
    · exact .inr h
  · rcases put_frEs m bd s h with h | h
    · exact .inl (.inl (.inr ⟨h0, h⟩))
    · exact .inr h
  · rcases put_frMs m ar s h with h | h
    · exact .inl (.inr h)
    · exact .inr h
theorem put_frEs (m : MkE) : ∀ (l : List Exp) (s : ByteArray), frEs (m.putEs l) s → frEs l s ∨ m.V s
 | [], s, h => by rw [MkE.putEs] at h; exact .inl h
 | t :: l, s, h => by
  rw [MkE.putEs, frEs] at h
  rw [frEs]
  rcases h with h | h
  · rcases put_frE m t s h with h | h
    · exact .inl (.inl h)
    · exact .inr h
  · rcases put_frEs m l s h with h | h
    · exact .inl (.inr h)
    · exact .inr h
theorem put_frR (m : MkE) : ∀ (t : Rhs) (s : ByteArray), frR (m.putR t) s → frR t s ∨ m.V s
 | .mk k nm ats ps rs bd ts, s, h => by
  rw [MkE.putR, frR] at h
  rw [frR]
  rcases h with (⟨a, h1, h2⟩ | ⟨a, h1, h2⟩) | h
  · obtain ⟨b, hb, rfl⟩ := List.mem_map.1 h1
    rcases put_frA m b s h2 with h | h
    · exact .inl (.inl (.inl ⟨b, hb, h⟩))
    · exact .inr h
  · have key : ∀ l : List Trm, a ∈ m.e.puts l → ∃ b ∈ l, a = m.e.put b := by
     intro l
     induction l with
     | nil => intro h; cases h
     | cons x l ih =>
      intro h
      rw [EnvT.puts] at h
      rcases List.mem_cons.1 h with h | h
      · exact ⟨x, by simp, h⟩
      · obtain ⟨b, hb, e⟩ := ih h
        exact ⟨b, by simp [hb], e⟩
    obtain ⟨b, hb, rfl⟩ := key ts h1
    rcases put_frT m b s h2 with h | h
    · exact .inl (.inl (.inr ⟨b, hb, h⟩))
    · exact .inr h
  · rcases put_frPs m ps (fun s => frYs (m.putYs rs) s ∨ frEs (m.putEs bd) s) (fun s => frYs rs s ∨ frEs bd s) (fun s h => by
     rcases h with h | h
     · rcases put_frYs m rs s h with h | h
       · exact .inl (.inl h)
       · exact .inr h
     · rcases put_frEs m bd s h with h | h
       · exact .inl (.inr h)
       · exact .inr h) s h with h | h
    · exact .inl (.inr h)
    · exact .inr h
theorem put_frRs (m : MkE) : ∀ (l : List Rhs) (s : ByteArray), frRs (m.putRs l) s → frRs l s ∨ m.V s
 | [], s, h => by rw [MkE.putRs] at h; exact .inl h
 | t :: l, s, h => by
  rw [MkE.putRs, frRs] at h
  rw [frRs]
  rcases h with h | h
  · rcases put_frR m t s h with h | h
    · exact .inl (.inl h)
    · exact .inr h
  · rcases put_frRs m l s h with h | h
    · exact .inl (.inr h)
    · exact .inr h
theorem put_frM (m : MkE) : ∀ (t : Arm) (s : ByteArray), frM (m.putM t) s → frM t s ∨ m.V s
 | .mk cn ns bd, s, h => by
  rw [MkE.putM, frM] at h
  rw [frM]
  rcases put_frEs m bd s h.2 with h2 | h2
  · exact .inl ⟨h.1, h2⟩
  · exact .inr h2
theorem put_frMs (m : MkE) : ∀ (l : List Arm) (s : ByteArray), frMs (m.putMs l) s → frMs l s ∨ m.V s
 | [], s, h => by rw [MkE.putMs] at h; exact .inl h
 | t :: l, s, h => by
  rw [MkE.putMs, frMs] at h
  rw [frMs]
  rcases h with h | h
  · rcases put_frM m t s h with h | h
    · exact .inl (.inl h)
    · exact .inr h
  · rcases put_frMs m l s h with h | h
    · exact .inl (.inr h)
    · exact .inr h
end
def Fin1 (n : Nat) (G : ByteArray → Prop) : Prop := ∃ l : List ByteArray, l.length ≤ n ∧ ∀ s, s ∈ l ↔ G s
theorem Fin1.or {n m : Nat} {G H : ByteArray → Prop} : Fin1 n G → Fin1 m H → Fin1 (n + m) fun s => G s ∨ H s
 | ⟨a, la, ha⟩, ⟨b, lb, hb⟩ => ⟨a ++ b, by rw [List.length_append]; omega, fun s => by rw [List.mem_append, ha, hb]⟩
theorem Fin1.and {n : Nat} {G : ByteArray → Prop} (C : ByteArray → Prop) : Fin1 n G → Fin1 n fun s => C s ∧ G s
 | ⟨a, la, ha⟩ => ⟨a.filter fun s => @decide (C s) (Classical.propDecidable _), Nat.le_trans (List.length_filter_le _ _) la, fun s => by rw [List.mem_filter, ha]; simp [and_comm]⟩
theorem Fin1.no : Fin1 0 fun _ => False := ⟨[], Nat.le_refl _, by simp⟩
theorem Fin1.iff {n m : Nat} {G H : ByteArray → Prop} (hn : n ≤ m) (h : ∀ s, G s ↔ H s) : Fin1 n G → Fin1 m H
 | ⟨a, la, ha⟩ => ⟨a, Nat.le_trans la hn, fun s => (ha s).trans (h s)⟩
mutual
theorem namesT_n : ∀ t : Trm, (namesT t).length ≤ t.n
 | .mk k nm ng dg ks => by
  have := namesTs_n ks
  simp only [namesT, List.length_append, Trm.n]
  split
  · simp only [List.length_cons, List.length_nil]; omega
  · simp only [List.length_nil]; omega
theorem namesTs_n : ∀ l : List Trm, (namesTs l).length ≤ trmN l
 | [] => Nat.le_refl _
 | t :: l => by have := namesT_n t; have := namesTs_n l; simp only [namesTs, List.length_append, trmN]; omega
end
theorem fin_T (t : Trm) : Fin1 t.n (frT t) := Fin1.iff (Nat.le_refl _) (fun s => by rw [frT, and_comm]) (Fin1.and (fun s => s ≠ vB) ⟨namesT t, namesT_n t, fun s => Iff.rfl⟩)
theorem fin_A : ∀ a : Atm, Fin1 a.n (frA a)
 | .mk k nm ng dg tr => Fin1.iff (by simp only [Atm.n]; omega) (fun s => by rw [frA]) (Fin1.and (n := 1) (fun _ => k = 1) (G := fun s => s = nm) ⟨[nm], Nat.le_refl _, by simp⟩)
theorem fin_As : ∀ l : List Atm, Fin1 (atmN l) fun s => ∃ a ∈ l, frA a s
 | [] => Fin1.iff (Nat.zero_le _) (by simp) Fin1.no
 | a :: l => Fin1.iff (by simp only [atmN]; omega) (by simp) (Fin1.or (fin_A a) (fin_As l))
theorem fin_Ts : ∀ l : List Trm, Fin1 (trmN l) fun s => ∃ a ∈ l, frT a s
 | [] => Fin1.iff (Nat.zero_le _) (by simp) Fin1.no
 | a :: l => Fin1.iff (by simp only [trmN]; omega) (by simp) (Fin1.or (fin_T a) (fin_Ts l))
mutual
theorem fin_Y : ∀ t : Ty, Fin1 t.n (frY t)
 | .mk fn st rf ps rs => Fin1.iff (by rw [Ty.n_eq]; omega) (fun s => by rw [frY]) (Fin1.or (Fin1.and (fun _ => fn = true) (fin_Ps ps _ _ (fin_Ys rs))) (Fin1.and (fun _ => fn = false) (fin_T rf)))
theorem fin_P : ∀ t : Prm, Fin1 t.n (frP t)
 | .mk nm ty => Fin1.iff (by rw [Prm.n_eq]; exact Nat.le_refl _) (fun s => by rw [frP]) (fin_Y ty)
theorem fin_Ps : ∀ (l : List Prm) (n : Nat) (G : ByteArray → Prop), Fin1 n G → Fin1 (prmN l + n) (frPs l G)
 | [], n, G, h => Fin1.iff (Nat.le_add_left _ _) (fun s => by rw [frPs]) h
 | p :: l, n, G, h => Fin1.iff (by simp only [prmN]; omega) (fun s => by rw [frPs]) (Fin1.or (fin_P p) (Fin1.and (fun s => s ≠ p.nmOf) (fin_Ps l n G h)))
theorem fin_Ys : ∀ l : List Ty, Fin1 (tyN l) (frYs l)
 | [] => Fin1.iff (Nat.zero_le _) (fun s => by rw [frYs]) Fin1.no
 | t :: l => Fin1.iff (by simp only [tyN]; omega) (fun s => by rw [frYs]) (Fin1.or (fin_Y t) (fin_Ys l))
end
mutual
theorem fin_E : ∀ t : Exp, Fin1 t.n (frE t)
 | .mk k nm ty rh am ar bd => Fin1.iff (by rw [Exp.n_eq]; omega) (fun s => by rw [frE]) (Fin1.or (Fin1.or (Fin1.or (Fin1.or (Fin1.and (fun _ => ownK k = true) (fin_A am)) (fin_Ys ty)) (fin_Rs rh)) (Fin1.and (fun s => k = 1 → s ≠ nm) (fin_Es bd))) (fin_Ms ar))
theorem fin_Es : ∀ l : List Exp, Fin1 (expN l) (frEs l)
 | [] => Fin1.iff (Nat.zero_le _) (fun s => by rw [frEs]) Fin1.no
 | t :: l => Fin1.iff (by simp only [expN]; omega) (fun s => by rw [frEs]) (Fin1.or (fin_E t) (fin_Es l))
theorem fin_R : ∀ t : Rhs, Fin1 t.n (frR t)
 | .mk k nm ats ps rs bd ts => Fin1.iff (by simp only [Rhs.n]; omega) (fun s => by rw [frR]) (Fin1.or (Fin1.or (fin_As ats) (fin_Ts ts)) (fin_Ps ps _ _ (Fin1.or (fin_Ys rs) (fin_Es bd))))
theorem fin_Rs : ∀ l : List Rhs, Fin1 (rhsN l) (frRs l)
 | [] => Fin1.iff (Nat.zero_le _) (fun s => by rw [frRs]) Fin1.no
 | t :: l => Fin1.iff (by simp only [rhsN]; omega) (fun s => by rw [frRs]) (Fin1.or (fin_R t) (fin_Rs l))
theorem fin_M : ∀ t : Arm, Fin1 t.n (frM t)
 | .mk cn ns bd => Fin1.iff (by simp only [Arm.n]; omega) (fun s => by rw [frM]) (Fin1.and (fun s => s ∉ ns) (fin_Es bd))
theorem fin_Ms : ∀ l : List Arm, Fin1 (armN l) (frMs l)
 | [] => Fin1.iff (Nat.zero_le _) (fun s => by rw [frMs]) Fin1.no
 | t :: l => Fin1.iff (by simp only [armN]; omega) (fun s => by rw [frMs]) (Fin1.or (fin_M t) (fin_Ms l))
end
theorem nodup_of (l : List ByteArray) : ∃ k : List ByteArray, k.Nodup ∧ k.length ≤ l.length ∧ ∀ s, s ∈ k ↔ s ∈ l := by
 induction l with
 | nil => exact ⟨[], by simp, Nat.le_refl _, by simp⟩
 | cons x l ih =>
  obtain ⟨k, h1, h3, h2⟩ := ih
  rcases Classical.em (x ∈ k) with h | h
  · refine ⟨k, h1, Nat.le_succ_of_le h3, fun s => ?_⟩
    rw [h2, List.mem_cons]
    constructor
    · exact .inr
    · rintro (rfl | h')
      · exact (h2 _).1 h
      · exact h'
  · exact ⟨x :: k, List.nodup_cons.2 ⟨h, h1⟩, by simp only [List.length_cons]; omega, fun s => by rw [List.mem_cons, List.mem_cons, h2]⟩
theorem mem_free (e : Exp) (s : ByteArray) : s ∈ setL (frE e) ↔ frE e s := by
 obtain ⟨l, _, hl⟩ := fin_E e
 obtain ⟨k, h1, _, h2⟩ := nodup_of l
 exact mem_setL h1 (fun s => (h2 s).trans (hl s)) s
theorem free_len (e : Exp) : (setL (frE e)).length ≤ e.n := by
 obtain ⟨l, h0, hl⟩ := fin_E e
 obtain ⟨k, h1, h3, h2⟩ := nodup_of l
 rw [setL_eq h1 fun s => (h2 s).trans (hl s)]
 simp only [sortB, List.length_map, List.length_mergeSort]
 omega
end Go.Proofs.YtncoidmbmihliaaGreatDoor
