/-
 The package rename, plainly: names made anew: what is used then, which names are bound, how great, which are free.
-/
import Derived.Test.YteajcnilihgheaaGreatDoorEvRange3M
import Derived.Test.YteajcnilihgheaaGreatDoorTFr4M
import Derived.Test.YteajcnilihgheaaGreatDoorTCntM
import Derived.Test.YteajcnilihgheaaGreatDoorStrsM
import Derived.Lib.SlTrimSet
import Derived.Lib.LastIndexByte
namespace Go.Proofs.YteajcnilihgheaaGreatDoor
set_option linter.unusedSimpArgs false
set_option linter.unusedVariables false
section
open Go.RowKit
mutual
def bY : Ty → List ByteArray
 | .mk fn st rf ps rs => if fn then bPs ps ++ bYs rs else []
def bP : Prm → List ByteArray
 | .mk nm ty => nm :: bY ty
def bPs : List Prm → List ByteArray
 | [] => []
 | p :: ps => bP p ++ bPs ps
def bYs : List Ty → List ByteArray
 | [] => []
 | t :: ts => bY t ++ bYs ts
end
mutual
def bE : Exp → List ByteArray
 | .mk k nm ty rh am ar bd => (if k = 1 then [nm] else []) ++ bYs ty ++ bRs rh ++ bEs bd ++ bMs ar
def bEs : List Exp → List ByteArray
 | [] => []
 | x :: xs => bE x ++ bEs xs
def bR : Rhs → List ByteArray
 | .mk k nm ats ps rs bd ts => bPs ps ++ bYs rs ++ bEs bd
def bRs : List Rhs → List ByteArray
 | [] => []
 | x :: xs => bR x ++ bRs xs
def bM : Arm → List ByteArray
 | .mk cn ns bd => ns ++ bEs bd
def bMs : List Arm → List ByteArray
 | [] => []
 | x :: xs => bM x ++ bMs xs
end
variable {F : NF}
def Anew (u : List ByteArray) (u' b b0 : List ByteArray) : Prop := u' = u ++ b ∧ b.length = b0.length ∧ b.Nodup ∧ ∀ x ∈ b, x ∉ u
theorem Anew.nil (u : List ByteArray) : Anew u u [] [] := ⟨by simp, rfl, by simp, by simp⟩
theorem Anew.trans {u u1 u2 a a0 b b0 : List ByteArray} (h : Anew u u1 a a0) (k : Anew u1 u2 b b0) : Anew u u2 (a ++ b) (a0 ++ b0) := by
 obtain ⟨rfl, h2, h3, h4⟩ := h
 obtain ⟨rfl, k2, k3, k4⟩ := k
 refine ⟨by rw [List.append_assoc], by rw [List.length_append, List.length_append, h2, k2], ?_, ?_⟩
 · rw [List.nodup_append]
   exact ⟨h3, k3, fun x hx y hy e => k4 y hy (by rw [← e, List.mem_append]; exact .inr hx)⟩
 · intro x hx
   rcases List.mem_append.1 hx with hx | hx
   · exact h4 x hx
   · exact fun hu => k4 x hx (List.mem_append.2 (.inl hu))
theorem Anew.one (u : List ByteArray) (s : ByteArray) : Anew u (u ++ [F.f u s]) [F.f u s] [s] := ⟨rfl, rfl, by simp, fun x hx => by rw [List.mem_singleton.1 hx]; exact F.no u s⟩
mutual
theorem anew_Y (l : Bnd) (u : List ByteArray) : ∀ t : Ty, Anew u (renY F l u t).2 (bY (renY F l u t).1) (bY t)
 | .mk fn st rf ps rs => by
  cases fn with
  | false => simp only [renY, bY, Bool.false_eq_true, if_false]; exact Anew.nil u
  | true => simp only [renY, bY, if_true]; exact (anew_Ps l u ps).trans (anew_Ys _ _ rs)
theorem anew_P (l : Bnd) (u : List ByteArray) : ∀ t : Prm, Anew u (renP F l u t).2 (bP (renP F l u t).1) (bP t)
 | .mk nm ty => by
  simp only [renP, bP]
  exact (Anew.one u nm).trans (anew_Y l _ ty)
theorem anew_Ps (l : Bnd) (u : List ByteArray) : ∀ t : List Prm, Anew u (renPs F l u t).2.2 (bPs (renPs F l u t).1) (bPs t)
 | [] => by simp only [renPs, bPs]; exact Anew.nil u
 | p :: ps => by
  simp only [renPs, bPs]
  exact (anew_P l u p).trans (anew_Ps _ _ ps)
theorem anew_Ys (l : Bnd) (u : List ByteArray) : ∀ t : List Ty, Anew u (renYs F l u t).2 (bYs (renYs F l u t).1) (bYs t)
 | [] => by simp only [renYs, bYs]; exact Anew.nil u
 | p :: ps => by
  simp only [renYs, bYs]
  exact (anew_Y l u p).trans (anew_Ys _ _ ps)
end
theorem anew_Ns (l : Bnd) (u : List ByteArray) : ∀ t : List ByteArray, Anew u (renNs F l u t).2.2 (renNs F l u t).1 t
 | [] => by simp only [renNs]; exact Anew.nil u
 | n :: ns => by
  simp only [renNs]
  exact (Anew.one u n).trans (anew_Ns _ _ ns)
theorem anew_let (l : Bnd) (u : List ByteArray) (k : Int) (nm : ByteArray) : Anew u (letN F l u k nm).2.2 (if k = 1 then [(letN F l u k nm).1] else []) (if k = 1 then [nm] else []) := by
 unfold letN
 by_cases h : k = 1
 · simp only [h, if_true]; exact Anew.one u nm
 · simp only [h, if_false]; exact Anew.nil u
mutual
theorem anew_E (l : Bnd) (u : List ByteArray) : ∀ t : Exp, Anew u (renE F l u t).2 (bE (renE F l u t).1) (bE t)
 | .mk k nm ty rh am ar bd => by
  simp only [renE, bE]
  exact ((((anew_let l u k nm).trans (anew_Ys _ _ ty)).trans (anew_Rs _ _ rh)).trans (anew_Es _ _ bd)).trans (anew_Ms _ _ ar)
theorem anew_Es (l : Bnd) (u : List ByteArray) : ∀ t : List Exp, Anew u (renEs F l u t).2 (bEs (renEs F l u t).1) (bEs t)
 | [] => by simp only [renEs, bEs]; exact Anew.nil u
 | p :: ps => by
  simp only [renEs, bEs]
  exact (anew_E l u p).trans (anew_Es _ _ ps)
theorem anew_R (l : Bnd) (u : List ByteArray) : ∀ t : Rhs, Anew u (renR F l u t).2 (bR (renR F l u t).1) (bR t)
 | .mk k nm ats ps rs bd ts => by
  simp only [renR, bR]
  exact ((anew_Ps l u ps).trans (anew_Ys _ _ rs)).trans (anew_Es _ _ bd)
theorem anew_Rs (l : Bnd) (u : List ByteArray) : ∀ t : List Rhs, Anew u (renRs F l u t).2 (bRs (renRs F l u t).1) (bRs t)
 | [] => by simp only [renRs, bRs]; exact Anew.nil u
 | p :: ps => by
  simp only [renRs, bRs]
  exact (anew_R l u p).trans (anew_Rs _ _ ps)
theorem anew_M (l : Bnd) (u : List ByteArray) : ∀ t : Arm, Anew u (renM F l u t).2 (bM (renM F l u t).1) (bM t)
 | .mk cn ns bd => by
  simp only [renM, bM]
  exact (anew_Ns l u ns).trans (anew_Es _ _ bd)
theorem anew_Ms (l : Bnd) (u : List ByteArray) : ∀ t : List Arm, Anew u (renMs F l u t).2 (bMs (renMs F l u t).1) (bMs t)
 | [] => by simp only [renMs, bMs]; exact Anew.nil u
 | p :: ps => by
  simp only [renMs, bMs]
  exact (anew_M l u p).trans (anew_Ms _ _ ps)
end
theorem renEs_len (l : Bnd) : ∀ (t : List Exp) (u : List ByteArray), (renEs F l u t).1.length = t.length
 | [], u => rfl
 | x :: xs, u => by simp only [renEs, List.length_cons, renEs_len l xs]
mutual
theorem ren_cr (l : Bnd) (u : List ByteArray) : ∀ t : Exp, (renE F l u t).1.cr = t.cr
 | .mk k nm ty rh am ar bd => by simp only [renE, Exp.cr, ren_ct, ren_cm, ren_cs, renEs_len]
theorem ren_cs (l : Bnd) (u : List ByteArray) : ∀ t : List Exp, expCr (renEs F l u t).1 = expCr t
 | [] => rfl
 | x :: xs => by simp only [renEs, expCr, ren_cr l u x, ren_cs l _ xs]
theorem ren_c1 (l : Bnd) (u : List ByteArray) : ∀ t : Rhs, (renR F l u t).1.ct = t.ct
 | .mk k nm ats ps rs bd ts => by simp only [renR, Rhs.ct, List.length_map, renEs_len, ren_cs _ _ bd]
theorem ren_ct (l : Bnd) (u : List ByteArray) : ∀ t : List Rhs, rhsCt (renRs F l u t).1 = rhsCt t
 | [] => rfl
 | x :: xs => by simp only [renRs, rhsCt, ren_c1 l u x, ren_ct l _ xs]
theorem ren_c2 (l : Bnd) (u : List ByteArray) : ∀ t : Arm, (renM F l u t).1.ct = t.ct
 | .mk cn ns bd => by simp only [renM, Arm.ct, renEs_len, ren_cs _ _ bd]
theorem ren_cm (l : Bnd) (u : List ByteArray) : ∀ t : List Arm, armCt (renMs F l u t).1 = armCt t
 | [] => rfl
 | x :: xs => by simp only [renMs, armCt, ren_c2 l u x, ren_cm l _ xs]
end
def Cov (l : Bnd) (u : List ByteArray) (G : ByteArray → Prop) : Prop := ∀ x, G x → nowB l x ∈ u
def NV (l : Bnd) : Prop := ∀ p ∈ l, p.2 ≠ vB
theorem Cov.less {l : Bnd} {u u' : List ByteArray} {G H : ByteArray → Prop} (h : Cov l u G) (hu : ∀ x ∈ u, x ∈ u') (hG : ∀ x, H x → G x) : Cov l u' H := fun x hx => hu _ (h x (hG x hx))
theorem Anew.sub {u u' b b0 : List ByteArray} (h : Anew u u' b b0) : ∀ x ∈ u, x ∈ u' := fun x hx => by rw [h.1, List.mem_append]; exact .inl hx
theorem NV.now {l : Bnd} (h : NV l) {x : ByteArray} (hx : x ≠ vB) : nowB l x ≠ vB := by
 induction l with
 | nil => exact hx
 | cons p l ih =>
  rw [nowB]
  split
  · exact h p (by simp)
  · exact ih fun q hq => h q (by simp [hq])
theorem NV.cons {l : Bnd} (h : NV l) (o : ByteArray) (u : List ByteArray) (s : ByteArray) : NV ((o, F.f u s) :: l) := fun p hp => by
 rcases List.mem_cons.1 hp with rfl | hp
 · exact F.nv u s
 · exact h p hp
theorem now_cons {l : Bnd} {o n x : ByteArray} : nowB ((o, n) :: l) x = if o = x then n else nowB l x := rfl
theorem bind_free {l : Bnd} {u : List ByteArray} {o n : ByteArray} {G G' : ByteArray → Prop} (hn : n ∉ u) (hc : Cov l u fun x => x ≠ o ∧ G x) (h : ∀ s, G' s ↔ ∃ x, G x ∧ nowB ((o, n) :: l) x = s) (s : ByteArray) : (s ≠ n ∧ G' s) ↔ ∃ x, (x ≠ o ∧ G x) ∧ nowB l x = s := by
 rw [h]
 constructor
 · rintro ⟨h1, x, h2, h3⟩
   rw [now_cons] at h3
   split at h3
   · exact absurd h3.symm h1
   · rename_i hx
     exact ⟨x, ⟨fun e => hx e.symm, h2⟩, h3⟩
 · rintro ⟨x, ⟨h1, h2⟩, h3⟩
   refine ⟨fun e => hn ?_, x, h2, ?_⟩
   · rw [← e, ← h3]; exact hc x ⟨h1, h2⟩
   · rw [now_cons, if_neg (fun e => h1 e.symm)]; exact h3
theorem bind_cov {l : Bnd} {u u' : List ByteArray} {o n : ByteArray} {G : ByteArray → Prop} (hn : n ∈ u') (hu : ∀ x ∈ u, x ∈ u') (hc : Cov l u fun x => x ≠ o ∧ G x) : Cov ((o, n) :: l) u' G := fun x hx => by
 rw [now_cons]
 split
 · exact hn
 · rename_i h
   exact hu _ (hc x ⟨fun e => h e.symm, hx⟩)
theorem free_A (l : Bnd) (a : Atm) (s : ByteArray) : frA (renA l a) s ↔ ∃ x, frA a x ∧ nowB l x = s := by
 obtain ⟨k, nm, ng, dg, tr⟩ := a
 simp only [renA, frA]
 constructor
 · rintro ⟨h1, rfl⟩
   rw [if_pos h1]
   exact ⟨nm, ⟨h1, rfl⟩, rfl⟩
 · rintro ⟨x, ⟨h1, rfl⟩, rfl⟩
   rw [if_pos h1]
   exact ⟨h1, rfl⟩
mutual
theorem names_T (l : Bnd) : ∀ (t : Trm) (s : ByteArray), s ∈ namesT (renT l t) ↔ ∃ x ∈ namesT t, (if x ≠ vB then nowB l x else x) = s
 | .mk k nm ng dg ks, s => by
  rw [renT, namesT, namesT, List.mem_append, names_Ts l ks s]
  by_cases hk : k = 1
  · by_cases hv : nm = vB
    · simp only [hk, hv, if_true, List.mem_singleton, List.mem_append, ne_eq, not_true_eq_false, and_false, if_false]
      constructor
      · rintro (h | ⟨x, h1, h2⟩)
        · exact ⟨vB, .inl rfl, by simp [h]⟩
        · exact ⟨x, .inr h1, h2⟩
      · rintro ⟨x, rfl | h1, h2⟩
        · simp at h2; exact .inl h2.symm
        · exact .inr ⟨x, h1, h2⟩
    · simp only [hk, if_true, List.mem_singleton, List.mem_append, ne_eq, hv, not_false_eq_true, and_self]
      constructor
      · rintro (h | ⟨x, h1, h2⟩)
        · exact ⟨nm, .inl rfl, by simp [hv, h]⟩
        · exact ⟨x, .inr h1, h2⟩
      · rintro ⟨x, rfl | h1, h2⟩
        · simp [hv] at h2; exact .inl h2.symm
        · exact .inr ⟨x, h1, h2⟩
  · simp only [hk, if_false, List.not_mem_nil, false_or, List.nil_append]
theorem names_Ts (l : Bnd) : ∀ (t : List Trm) (s : ByteArray), s ∈ namesTs (renTs l t) ↔ ∃ x ∈ namesTs t, (if x ≠ vB then nowB l x else x) = s
 | [], s => by simp [renTs, namesTs]
 | t :: ts, s => by
  rw [renTs, namesTs, namesTs, List.mem_append, names_T l t s, names_Ts l ts s]
  constructor
  · rintro (⟨x, h1, h2⟩ | ⟨x, h1, h2⟩)
    · exact ⟨x, List.mem_append.2 (.inl h1), h2⟩
    · exact ⟨x, List.mem_append.2 (.inr h1), h2⟩
  · rintro ⟨x, h1, h2⟩
    rcases List.mem_append.1 h1 with h1 | h1
    · exact .inl ⟨x, h1, h2⟩
    · exact .inr ⟨x, h1, h2⟩
end
theorem free_T {l : Bnd} (hl : NV l) (t : Trm) (s : ByteArray) : frT (renT l t) s ↔ ∃ x, frT t x ∧ nowB l x = s := by
 simp only [frT, names_T]
 constructor
 · rintro ⟨⟨x, h1, h2⟩, h3⟩
   by_cases hx : x = vB
   · simp [hx] at h2; exact absurd h2.symm h3
   · simp [hx] at h2; exact ⟨x, ⟨h1, hx⟩, h2⟩
 · rintro ⟨x, ⟨h1, h2⟩, rfl⟩
   exact ⟨⟨x, h1, by simp [h2]⟩, hl.now h2⟩
theorem ex_or {G H : ByteArray → Prop} {f : ByteArray → ByteArray} {s : ByteArray} : (∃ x, (G x ∨ H x) ∧ f x = s) ↔ (∃ x, G x ∧ f x = s) ∨ ∃ x, H x ∧ f x = s := by
 constructor
 · rintro ⟨x, h | h, e⟩
   · exact .inl ⟨x, h, e⟩
   · exact .inr ⟨x, h, e⟩
 · rintro (⟨x, h, e⟩ | ⟨x, h, e⟩)
   · exact ⟨x, .inl h, e⟩
   · exact ⟨x, .inr h, e⟩
theorem renP_nm (l : Bnd) (u : List ByteArray) (p : Prm) : (renP F l u p).1.nmOf = F.f u p.nmOf := by obtain ⟨nm, ty⟩ := p; rfl
theorem renP_in (l : Bnd) (u : List ByteArray) (p : Prm) : F.f u p.nmOf ∈ (renP F l u p).2 := by
 obtain ⟨nm, ty⟩ := p
 simp only [renP]
 exact (anew_Y l _ ty).sub _ (by simp [Prm.nmOf])
theorem cov_Ps : ∀ (ps : List Prm) (l : Bnd) (u : List ByteArray) (G : ByteArray → Prop), Cov l u (frPs ps G) → Cov (renPs F l u ps).2.1 (renPs F l u ps).2.2 G
 | [], l, u, G, h => by simp only [renPs, frPs] at h ⊢; exact h
 | p :: ps, l, u, G, h => by
  simp only [renPs, renP_nm]
  refine cov_Ps ps _ _ G (bind_cov (renP_in l u p) (anew_P l u p).sub fun x hx => h x ?_)
  rw [frPs]
  exact .inr hx
theorem nv_Ps : ∀ (ps : List Prm) (l : Bnd) (u : List ByteArray), NV l → NV (renPs F l u ps).2.1
 | [], l, u, h => by simp only [renPs]; exact h
 | p :: ps, l, u, h => by
  simp only [renPs, renP_nm]
  exact nv_Ps ps _ _ (h.cons _ _ _)
mutual
theorem free_Y (l : Bnd) (u : List ByteArray) (hl : NV l) : ∀ (t : Ty), Cov l u (frY t) → ∀ s, frY (renY F l u t).1 s ↔ ∃ x, frY t x ∧ nowB l x = s
 | .mk fn st rf ps rs, hc, s => by
  cases fn with
  | false =>
   simp only [renY, Bool.false_eq_true, if_false, frY, false_and, false_or, true_and]
   exact free_T hl rf s
  | true =>
   simp only [renY, if_true, frY, true_and, Bool.true_eq_false, false_and, or_false]
   have hc' : Cov l u (frPs ps fun s => frYs rs s) := fun x hx => hc x (by rw [frY]; exact .inl ⟨rfl, hx⟩)
   exact free_Ps l u hl ps _ _ hc' (free_Ys _ _ (nv_Ps ps l u hl) rs (cov_Ps ps l u _ hc')) s
theorem free_P (l : Bnd) (u : List ByteArray) (hl : NV l) : ∀ (t : Prm), Cov l u (frP t) → ∀ s, frP (renP F l u t).1 s ↔ ∃ x, frP t x ∧ nowB l x = s
 | .mk nm ty, hc, s => by
  simp only [renP, frP]
  exact free_Y l _ hl ty (hc.less (fun x hx => by simp [hx]) (fun x hx => by rw [frP]; exact hx)) s
theorem free_Ps (l : Bnd) (u : List ByteArray) (hl : NV l) : ∀ (ps : List Prm) (G G' : ByteArray → Prop), Cov l u (frPs ps G) → (∀ s, G' s ↔ ∃ x, G x ∧ nowB (renPs F l u ps).2.1 x = s) → ∀ s, frPs (renPs F l u ps).1 G' s ↔ ∃ x, frPs ps G x ∧ nowB l x = s
 | [], G, G', hc, h, s => by
  simp only [renPs, frPs] at h ⊢
  exact h s
 | p :: ps, G, G', hc, h, s => by
  simp only [renPs, renP_nm] at h ⊢
  simp only [frPs, renP_nm, ex_or]
  have hc1 : Cov l u (frP p) := fun x hx => hc x (by rw [frPs]; exact .inl hx)
  have hc2 : Cov l u fun x => x ≠ p.nmOf ∧ frPs ps G x := fun x hx => hc x (by rw [frPs]; exact .inr hx)
  rw [free_P l u hl p hc1 s]
  rw [bind_free (F.no u p.nmOf) hc2 (free_Ps _ _ (hl.cons _ _ _) ps G G' (bind_cov (renP_in l u p) (anew_P l u p).sub hc2) h) s]
theorem free_Ys (l : Bnd) (u : List ByteArray) (hl : NV l) : ∀ (t : List Ty), Cov l u (frYs t) → ∀ s, frYs (renYs F l u t).1 s ↔ ∃ x, frYs t x ∧ nowB l x = s
 | [], hc, s => by simp [renYs, frYs]
 | t :: ts, hc, s => by
  simp only [renYs, frYs, ex_or]
  rw [free_Y l u hl t (fun x hx => hc x (by rw [frYs]; exact .inl hx)) s]
  rw [free_Ys l _ hl ts (hc.less (anew_Y l u t).sub (fun x hx => by rw [frYs]; exact .inr hx)) s]
end
theorem cov_Ns : ∀ (ns : List ByteArray) (l : Bnd) (u : List ByteArray) (G : ByteArray → Prop), Cov l u (fun x => x ∉ ns ∧ G x) → Cov (renNs F l u ns).2.1 (renNs F l u ns).2.2 G
 | [], l, u, G, h => by simp only [renNs]; exact fun x hx => h x ⟨by simp, hx⟩
 | n :: ns, l, u, G, h => by
  simp only [renNs]
  refine cov_Ns ns _ _ G (bind_cov (by simp) (fun x hx => by simp [hx]) fun x hx => h x ⟨?_, hx.2.2⟩)
  simp only [List.mem_cons, not_or]
  exact ⟨hx.1, hx.2.1⟩
theorem nv_Ns : ∀ (ns : List ByteArray) (l : Bnd) (u : List ByteArray), NV l → NV (renNs F l u ns).2.1
 | [], l, u, h => by simp only [renNs]; exact h
 | n :: ns, l, u, h => by
  simp only [renNs]
  exact nv_Ns ns _ _ (h.cons _ _ _)
theorem free_Ns : ∀ (ns : List ByteArray) (l : Bnd) (u : List ByteArray) (G G' : ByteArray → Prop), Cov l u (fun x => x ∉ ns ∧ G x) → (∀ s, G' s ↔ ∃ x, G x ∧ nowB (renNs F l u ns).2.1 x = s) → ∀ s, (s ∉ (renNs F l u ns).1 ∧ G' s) ↔ ∃ x, (x ∉ ns ∧ G x) ∧ nowB l x = s
 | [], l, u, G, G', hc, h, s => by
  simp only [renNs] at h ⊢
  rw [h]
  simp
 | n :: ns, l, u, G, G', hc, h, s => by
  simp only [renNs] at h ⊢
  have hc2 : Cov l u fun x => x ≠ n ∧ (x ∉ ns ∧ G x) := fun x hx => hc x ⟨by simp only [List.mem_cons, not_or]; exact ⟨hx.1, hx.2.1⟩, hx.2.2⟩
  have key := bind_free (F.no u n) hc2 (free_Ns ns _ _ G G' (bind_cov (by simp) (fun x hx => by simp [hx]) hc2) h) s
  constructor
  · rintro ⟨h1, h2⟩
    simp only [List.mem_cons, not_or] at h1
    obtain ⟨x, ⟨e1, e2, e3⟩, e4⟩ := key.1 ⟨h1.1, h1.2, h2⟩
    exact ⟨x, ⟨by simp only [List.mem_cons, not_or]; exact ⟨e1, e2⟩, e3⟩, e4⟩
  · rintro ⟨x, ⟨e1, e3⟩, e4⟩
    simp only [List.mem_cons, not_or] at e1
    obtain ⟨f1, f2, f3⟩ := key.2 ⟨x, ⟨e1.1, e1.2, e3⟩, e4⟩
    exact ⟨by simp only [List.mem_cons, not_or]; exact ⟨f1, f2⟩, f3⟩
theorem cov_let (l : Bnd) (u : List ByteArray) (k : Int) (nm : ByteArray) {G : ByteArray → Prop} (h : Cov l u fun x => (k = 1 → x ≠ nm) ∧ G x) : Cov (letN F l u k nm).2.1 (letN F l u k nm).2.2 G := by
 unfold letN
 by_cases hk : k = 1
 · simp only [hk, if_true]
   exact bind_cov (by simp) (fun x hx => by simp [hx]) fun x hx => h x ⟨fun _ => hx.1, hx.2⟩
 · simp only [hk, if_false]
   exact fun x hx => h x ⟨fun e => absurd e hk, hx⟩
theorem nv_let {l : Bnd} (u : List ByteArray) (k : Int) (nm : ByteArray) (h : NV l) : NV (letN F l u k nm).2.1 := by
 unfold letN
 by_cases hk : k = 1
 · simp only [hk, if_true]; exact h.cons _ _ _
 · simp only [hk, if_false]; exact h
theorem free_let (l : Bnd) (u : List ByteArray) (k : Int) (nm : ByteArray) {G G' : ByteArray → Prop} (h : Cov l u fun x => (k = 1 → x ≠ nm) ∧ G x) (hG : ∀ s, G' s ↔ ∃ x, G x ∧ nowB (letN F l u k nm).2.1 x = s) (s : ByteArray) : ((k = 1 → s ≠ (letN F l u k nm).1) ∧ G' s) ↔ ∃ x, ((k = 1 → x ≠ nm) ∧ G x) ∧ nowB l x = s := by
 unfold letN at hG ⊢
 by_cases hk : k = 1
 · simp only [hk, if_true, true_implies] at hG h ⊢
   exact bind_free (F.no u nm) h hG s
 · simp only [hk, if_false, false_implies, true_and] at hG ⊢
   exact hG s
mutual
theorem free_E (l : Bnd) (u : List ByteArray) (hl : NV l) : ∀ (t : Exp), Cov l u (frE t) → ∀ s, frE (renE F l u t).1 s ↔ ∃ x, frE t x ∧ nowB l x = s
 | .mk k nm ty rh am ar bd, hc, s => by
  simp only [renE, frE, ex_or]
  have s1 := (anew_let (F := F) l u k nm).sub
  have s2 := fun x hx => (anew_Ys (F := F) l (letN F l u k nm).2.2 ty).sub x (s1 x hx)
  have s3 := fun x hx => (anew_Rs (F := F) l _ rh).sub x (s2 x hx)
  have t3 := fun x (hx : x ∈ (letN F l u k nm).2.2) => (anew_Rs (F := F) l _ rh).sub x ((anew_Ys (F := F) l (letN F l u k nm).2.2 ty).sub x hx)
  have s4 := fun x hx => (anew_Es (F := F) (letN F l u k nm).2.1 _ bd).sub x (s3 x hx)
  rw [free_Ys l _ hl ty (hc.less s1 fun x hx => by simp only [frE]; exact .inl (.inl (.inl (.inr hx)))) s]
  rw [free_Rs l _ hl rh (hc.less s2 fun x hx => by simp only [frE]; exact .inl (.inl (.inr hx))) s]
  rw [free_Ms l _ hl ar (hc.less s4 fun x hx => by simp only [frE]; exact .inr hx) s]
  have hcl : Cov l u fun x => (k = 1 → x ≠ nm) ∧ frEs bd x := fun x hx => hc x (by simp only [frE]; exact .inl (.inr hx))
  rw [free_let l u k nm hcl (free_Es _ _ (nv_let u k nm hl) bd ((cov_let l u k nm hcl).less t3 fun x hx => hx)) s]
  have ha : (ownK k = true ∧ frA (renA l am) s) ↔ ∃ x, (ownK k = true ∧ frA am x) ∧ nowB l x = s := by
   rw [free_A]
   constructor
   · rintro ⟨h1, x, h2, h3⟩; exact ⟨x, ⟨h1, h2⟩, h3⟩
   · rintro ⟨x, ⟨h1, h2⟩, h3⟩; exact ⟨h1, x, h2, h3⟩
  rw [ha]
theorem free_Es (l : Bnd) (u : List ByteArray) (hl : NV l) : ∀ (t : List Exp), Cov l u (frEs t) → ∀ s, frEs (renEs F l u t).1 s ↔ ∃ x, frEs t x ∧ nowB l x = s
 | [], hc, s => by simp [renEs, frEs]
 | t :: ts, hc, s => by
  simp only [renEs, frEs, ex_or]
  rw [free_E l u hl t (fun x hx => hc x (by rw [frEs]; exact .inl hx)) s]
  rw [free_Es l _ hl ts (hc.less (anew_E l u t).sub (fun x hx => by rw [frEs]; exact .inr hx)) s]
theorem free_R (l : Bnd) (u : List ByteArray) (hl : NV l) : ∀ (t : Rhs), Cov l u (frR t) → ∀ s, frR (renR F l u t).1 s ↔ ∃ x, frR t x ∧ nowB l x = s
 | .mk k nm ats ps rs bd ts, hc, s => by
  have h1 : (∃ a ∈ ats.map (renA l), frA a s) ↔ ∃ x, (∃ a ∈ ats, frA a x) ∧ nowB l x = s := by
   constructor
   · rintro ⟨a, ha, h⟩
     obtain ⟨b, hb, rfl⟩ := List.mem_map.1 ha
     obtain ⟨x, h1, h2⟩ := (free_A l b s).1 h
     exact ⟨x, ⟨b, hb, h1⟩, h2⟩
   · rintro ⟨x, ⟨b, hb, h1⟩, h2⟩
     exact ⟨_, List.mem_map.2 ⟨b, hb, rfl⟩, (free_A l b s).2 ⟨x, h1, h2⟩⟩
  have key : ∀ ts : List Trm, (∃ a ∈ renTs l ts, frT a s) ↔ ∃ x, (∃ a ∈ ts, frT a x) ∧ nowB l x = s := by
   intro ts
   induction ts with
   | nil => simp [renTs]
   | cons t ts ih =>
    have e1 : ∀ {α : Type} (a : α) (l : List α) (P : α → Prop), (∃ x ∈ a :: l, P x) ↔ P a ∨ ∃ x ∈ l, P x := fun a l P => by simp
    rw [renTs, e1, ih, free_T hl t s]
    simp only [e1, ex_or]
  have hcp : Cov l u (frPs ps fun s => frYs rs s ∨ frEs bd s) := fun x hx => hc x (by simp only [frR]; exact .inr hx)
  have hcq := cov_Ps (F := F) ps l u _ hcp
  have hlq := nv_Ps (F := F) ps l u hl
  have hG : ∀ s, (frYs (renYs F (renPs F l u ps).2.1 (renPs F l u ps).2.2 rs).1 s ∨ frEs (renEs F (renPs F l u ps).2.1 (renYs F (renPs F l u ps).2.1 (renPs F l u ps).2.2 rs).2 bd).1 s) ↔ ∃ x, (frYs rs x ∨ frEs bd x) ∧ nowB (renPs F l u ps).2.1 x = s := fun s => by
   rw [ex_or, free_Ys _ _ hlq rs (hcq.less (fun x hx => hx) fun x hx => .inl hx) s, free_Es _ _ hlq bd (hcq.less (anew_Ys (F := F) _ _ rs).sub fun x hx => .inr hx) s]
  have h2 := free_Ps l u hl ps _ _ hcp hG s
  simp only [renR, frR, ex_or]
  rw [h1, key, h2]
theorem free_Rs (l : Bnd) (u : List ByteArray) (hl : NV l) : ∀ (t : List Rhs), Cov l u (frRs t) → ∀ s, frRs (renRs F l u t).1 s ↔ ∃ x, frRs t x ∧ nowB l x = s
 | [], hc, s => by simp [renRs, frRs]
 | t :: ts, hc, s => by
  simp only [renRs, frRs, ex_or]
  rw [free_R l u hl t (fun x hx => hc x (by rw [frRs]; exact .inl hx)) s]
  rw [free_Rs l _ hl ts (hc.less (anew_R l u t).sub (fun x hx => by rw [frRs]; exact .inr hx)) s]
theorem free_M (l : Bnd) (u : List ByteArray) (hl : NV l) : ∀ (t : Arm), Cov l u (frM t) → ∀ s, frM (renM F l u t).1 s ↔ ∃ x, frM t x ∧ nowB l x = s
 | .mk cn ns bd, hc, s => by
  simp only [renM, frM]
  have hcn : Cov l u fun x => x ∉ ns ∧ frEs bd x := fun x hx => hc x (by simp only [frM]; exact hx)
  exact free_Ns ns l u _ _ hcn (free_Es _ _ (nv_Ns ns l u hl) bd (cov_Ns ns l u _ hcn)) s
theorem free_Ms (l : Bnd) (u : List ByteArray) (hl : NV l) : ∀ (t : List Arm), Cov l u (frMs t) → ∀ s, frMs (renMs F l u t).1 s ↔ ∃ x, frMs t x ∧ nowB l x = s
 | [], hc, s => by simp [renMs, frMs]
 | t :: ts, hc, s => by
  simp only [renMs, frMs, ex_or]
  rw [free_M l u hl t (fun x hx => hc x (by rw [frMs]; exact .inl hx)) s]
  rw [free_Ms l _ hl ts (hc.less (anew_M l u t).sub (fun x hx => by rw [frMs]; exact .inr hx)) s]
end
end
section
open Go.RowKit
section
variable (F : NF)
def renF (u : List ByteArray) : Fun → Fun × List ByteArray
 | .mk nm ps rs bd =>
  let a := renPs F [] u ps
  let b := renY F a.2.1 a.2.2 rs
  let c := renE F a.2.1 b.2 bd
  (.mk nm a.1 b.1 c.1, c.2)
end
def bF : Fun → List ByteArray
 | .mk nm ps rs bd => bPs ps ++ bY rs ++ bE bd
def frF : Fun → ByteArray → Prop
 | .mk nm ps rs bd => frPs ps fun s => frY rs s ∨ frE bd s
def Fun.bdOf : Fun → Exp
 | .mk _ _ _ bd => bd
def Fun.nmOf : Fun → ByteArray
 | .mk nm _ _ _ => nm
variable {F : NF}
theorem anew_F (u : List ByteArray) : ∀ f : Fun, Anew u (renF F u f).2 (bF (renF F u f).1) (bF f)
 | .mk nm ps rs bd => by
  simp only [renF, bF]
  exact ((anew_Ps [] u ps).trans (anew_Y _ _ rs)).trans (anew_E _ _ bd)
theorem cnt_F (u : List ByteArray) : ∀ f : Fun, cntN [(renF F u f).1.bdOf] = cntN [f.bdOf]
 | .mk nm ps rs bd => by
  simp only [renF, Fun.bdOf, cntN, expCr, ren_cr, List.length_cons, List.length_nil]
theorem nm_F (u : List ByteArray) : ∀ f : Fun, (renF F u f).1.nmOf = f.nmOf
 | .mk nm ps rs bd => rfl
theorem free_F (u : List ByteArray) : ∀ f : Fun, (∀ x, frF f x → x ∈ u) → ∀ s, frF (renF F u f).1 s ↔ frF f s
 | .mk nm ps rs bd, h, s => by
  have hc : Cov [] u (frPs ps fun s => frY rs s ∨ frE bd s) := h
  have hcq := cov_Ps (F := F) ps [] u _ hc
  have hlq := nv_Ps (F := F) ps [] u (fun p hp => by cases hp)
  have hG : ∀ s, (frY (renY F (renPs F [] u ps).2.1 (renPs F [] u ps).2.2 rs).1 s ∨ frE (renE F (renPs F [] u ps).2.1 (renY F (renPs F [] u ps).2.1 (renPs F [] u ps).2.2 rs).2 bd).1 s) ↔ ∃ x, (frY rs x ∨ frE bd x) ∧ nowB (renPs F [] u ps).2.1 x = s := fun s => by
   rw [ex_or, free_Y _ _ hlq rs (hcq.less (fun x hx => hx) fun x hx => .inl hx) s, free_E _ _ hlq bd (hcq.less (anew_Y (F := F) _ _ rs).sub fun x hx => .inr hx) s]
  have h2 := free_Ps [] u (fun p hp => by cases hp) ps _ _ hc hG s
  simp only [renF, frF]
  rw [h2]
  simp [nowB]
def lamE : Fun → Exp
 | .mk nm ps rs bd => .mk 0 ⟨#[]⟩ [] [.mk 4 ⟨#[]⟩ [] ps [rs] [bd] []] (.mk 0 ⟨#[]⟩ false [] false) [] []
theorem lam_free : ∀ (f : Fun) (s : ByteArray), frE (lamE f) s ↔ frF f s
 | .mk nm ps rs bd, s => by
  simp [lamE, frE, frRs, frR, frYs, frEs, frMs, frF, ownK]
end
section
open Go.RowKit
def isD (b : UInt8) : Bool := 48 ≤ b.toNat && b.toNat ≤ 57
theorem decD_all (n : Nat) : ∀ b ∈ Lib.decDigits n, isD b = true := by
 induction n using Nat.strongRecOn with
 | ind n ih =>
  rw [Lib.decDigits]
  split
  · rename_i h
    intro b hb
    simp only [List.mem_singleton] at hb
    subst hb
    unfold isD
    have : (UInt8.ofNat (48 + n)).toNat = 48 + n := by simp [UInt8.toNat_ofNat']; omega
    rw [this]; simp; omega
  · rename_i h
    intro b hb
    rw [List.mem_append] at hb
    rcases hb with hb | hb
    · exact ih _ (by omega) b hb
    · simp only [List.mem_singleton] at hb
      subst hb
      unfold isD
      have : (UInt8.ofNat (48 + n % 10)).toNat = 48 + n % 10 := by simp [UInt8.toNat_ofNat']; omega
      rw [this]; simp; omega
def valB (l : List UInt8) : Nat := l.foldl (fun a b => 10 * a + (b.toNat - 48)) 0
theorem valB_dec (n : Nat) : valB (Lib.decDigits n) = n := by
 induction n using Nat.strongRecOn with
 | ind n ih =>
  rw [Lib.decDigits]
  split
  · rename_i h
    have : (UInt8.ofNat (48 + n)).toNat = 48 + n := by simp [UInt8.toNat_ofNat']; omega
    simp only [valB, List.foldl_cons, List.foldl_nil]
    rw [this]; omega
  · rename_i h
    have h1 := ih (n / 10) (by omega)
    unfold valB at h1 ⊢
    have : (UInt8.ofNat (48 + n % 10)).toNat = 48 + n % 10 := by simp [UInt8.toNat_ofNat']; omega
    rw [List.foldl_append, h1]
    simp only [List.foldl_cons, List.foldl_nil]
    rw [this]; omega
theorem decD_ne (n : Nat) : Lib.decDigits n ≠ [] := by
 rw [Lib.decDigits]; split <;> simp
theorem dec_split {x y : Nat} {c d : UInt8} {r s : List UInt8} (hc : isD c = false) (hd : isD d = false) (h : Lib.decDigits x ++ c :: r = Lib.decDigits y ++ d :: s) : x = y ∧ c :: r = d :: s := by
 have h1 : ∀ (x : Nat) (c : UInt8) (r : List UInt8), isD c = false → (Lib.decDigits x ++ c :: r).takeWhile isD = Lib.decDigits x := fun x c r hc => by
  rw [List.takeWhile_append_of_pos (decD_all x), List.takeWhile_cons_of_neg (by rw [hc]; simp), List.append_nil]
 have e := congrArg (List.takeWhile isD) h
 rw [h1 x c r hc, h1 y d s hd] at e
 have e2 : x = y := by rw [← valB_dec x, e, valB_dec]
 subst e2
 exact ⟨rfl, List.append_cancel_left h⟩
end
section
open Go.RowKit
theorem dec_inj {x y : Nat} (h : Lib.decDigits x = Lib.decDigits y) : x = y :=
 (dec_split (c := 32) (d := 32) (r := []) (s := []) (by decide) (by decide) (by rw [h])).1
def nameN (b : List UInt8) (n : Nat) : ByteArray := ⟨(b ++ Lib.decDigits n).toArray⟩
theorem nameN_inj {b : List UInt8} {n m : Nat} (h : nameN b n = nameN b m) : n = m := by
 unfold nameN at h
 have h2 := congrArg (fun x : ByteArray => x.data.toList) h
 simp only [List.toList_toArray] at h2
 exact dec_inj (List.append_cancel_left h2)
def decM (s : ByteArray) (u : List ByteArray) : Bool := u.any fun x => decide (x = s)
theorem decM_iff {s : ByteArray} {u : List ByteArray} : decM s u = true ↔ s ∈ u := by
 unfold decM
 rw [List.any_eq_true]
 constructor
 · rintro ⟨x, h1, h2⟩; rw [← of_decide_eq_true h2]; exact h1
 · intro h; exact ⟨s, h, by simp⟩
def srch (u : List ByteArray) (b : List UInt8) : Nat → Nat → Nat
 | 0, k => k
 | m + 1, k => if decM (nameN b k) u = true then srch u b m (k + 1) else k
theorem srch_ge (u : List ByteArray) (b : List UInt8) : ∀ m k, k ≤ srch u b m k
 | 0, k => Nat.le_refl _
 | m + 1, k => by
  rw [srch]
  split
  · exact Nat.le_trans (Nat.le_succ k) (srch_ge u b m (k + 1))
  · exact Nat.le_refl _
theorem srch_lt (u : List ByteArray) (b : List UInt8) : ∀ m k j, k ≤ j → j < srch u b m k → nameN b j ∈ u
 | 0, k, j, h1, h2 => by rw [srch] at h2; omega
 | m + 1, k, j, h1, h2 => by
  rw [srch] at h2
  split at h2
  · rename_i h
    rw [decM_iff] at h
    rcases Nat.eq_or_lt_of_le h1 with rfl | h3
    · exact h
    · exact srch_lt u b m (k + 1) j h3 h2
  · omega
theorem srch_no (u : List ByteArray) (b : List UInt8) : ∀ m k, nameN b (srch u b m k) ∈ u → ∀ j, k ≤ j → j < k + m → nameN b j ∈ u
 | 0, k, h, j, h1, h2 => by omega
 | m + 1, k, h, j, h1, h2 => by
  rw [srch] at h
  split at h
  · rename_i hk
    rw [decM_iff] at hk
    rcases Nat.eq_or_lt_of_le h1 with rfl | h3
    · exact hk
    · exact srch_no u b m (k + 1) h j h3 (by omega)
  · rename_i hk
    rw [decM_iff] at hk
    exact absurd h hk
theorem sub_len {α : Type} : ∀ (k l : List α), k.Nodup → (∀ x ∈ k, x ∈ l) → k.length ≤ l.length
 | [], l, _, _ => Nat.zero_le _
 | x :: k, l, h, hs => by
  rw [List.nodup_cons] at h
  obtain ⟨a, b, rfl⟩ := List.append_of_mem (hs x (by simp))
  have := sub_len k (a ++ b) h.2 fun y hy => by
   have h2 := hs y (by simp [hy])
   simp only [List.mem_append, List.mem_cons] at h2 ⊢
   rcases h2 with h2 | rfl | h2
   · exact .inl h2
   · exact absurd hy h.1
   · exact .inr h2
  simp only [List.length_append, List.length_cons] at this ⊢
  omega
theorem range_nodup (b : List UInt8) (n : Nat) : ((List.range n).map fun i => nameN b (i + 1)).Nodup := by
 rw [List.nodup_iff_pairwise_ne, List.pairwise_map]
 refine List.Pairwise.imp ?_ (List.nodup_iff_pairwise_ne.1 List.nodup_range)
 intro i j hij h
 have := nameN_inj h
 exact hij (by omega)
def leastN (u : List ByteArray) (b : List UInt8) : Nat := srch u b (u.length + 1) 1
theorem leastN_no (u : List ByteArray) (b : List UInt8) : nameN b (leastN u b) ∉ u := fun h => by
 have h1 := srch_no u b (u.length + 1) 1 h
 have := sub_len _ u (range_nodup b (u.length + 1)) fun x hx => by
  obtain ⟨i, hi, rfl⟩ := List.mem_map.1 hx
  exact h1 (i + 1) (by omega) (by have := List.mem_range.1 hi; omega)
 rw [List.length_map, List.length_range] at this
 omega
theorem leastN_lt (u : List ByteArray) (b : List UInt8) (j : Nat) (h1 : 1 ≤ j) (h2 : j < leastN u b) : nameN b j ∈ u := srch_lt u b _ 1 j h1 h2
theorem leastN_pos (u : List ByteArray) (b : List UInt8) : 1 ≤ leastN u b := srch_ge u b _ 1
theorem leastN_le (u : List ByteArray) (b : List UInt8) : leastN u b ≤ u.length + 1 := by
 have h1 := leastN_lt u b
 have hp := leastN_pos u b
 have := sub_len ((List.range (leastN u b - 1)).map fun i => nameN b (i + 1)) u (range_nodup b _) fun x hx => by
  obtain ⟨i, hi, rfl⟩ := List.mem_map.1 hx
  exact h1 (i + 1) (by omega) (by have := List.mem_range.1 hi; omega)
 rw [List.length_map, List.length_range] at this
 omega
theorem leastN_eq {u : List ByteArray} {b : List UInt8} {n : Nat} (h1 : 1 ≤ n) (h2 : nameN b n ∉ u) (h3 : ∀ j, 1 ≤ j → j < n → nameN b j ∈ u) : leastN u b = n := by
 rcases Nat.lt_trichotomy (leastN u b) n with h | h | h
 · exact absurd (h3 _ (leastN_pos u b) h) (leastN_no u b)
 · exact h
 · exact absurd (leastN_lt u b n h1 h) h2
def stemL (s : List UInt8) : List UInt8 :=
 let d := (s.reverse.dropWhile isD).reverse
 let t := if d.length < s.length ∧ d.getLast? = some 95 then d.dropLast else s
 t.take 30
def beginL (s : ByteArray) : List UInt8 := stemL s.data.toList ++ [95]
def freshB (u : List ByteArray) (s : ByteArray) : ByteArray := nameN (beginL s) (leastN u (beginL s))
def NFp : NF := ⟨freshB, fun u s => leastN_no u (beginL s), fun u s h => by
 have h2 : (freshB u s).data.toList.length = 1 := by rw [h]; rfl
 have h3 := decD_ne (leastN u (beginL s))
 have h4 : (Lib.decDigits (leastN u (beginL s))).length ≠ 0 := fun e => h3 (List.eq_nil_of_length_eq_zero e)
 simp only [freshB, nameN, beginL, List.toList_toArray, List.length_append, List.length_cons, List.length_nil] at h2
 simp only [beginL] at h4
 omega⟩
end
section
open Go.RowKit
theorem isD_digs (x : UInt8) : ([48, 49, 50, 51, 52, 53, 54, 55, 56, 57] : List UInt8).contains x = isD x := by
 have h : ∀ n, n < 256 → ([48, 49, 50, 51, 52, 53, 54, 55, 56, 57] : List UInt8).contains (UInt8.ofNat n) = isD (UInt8.ofNat n) := by decide +kernel
 have := h x.toNat x.toNat_lt
 rwa [UInt8.ofNat_toNat] at this
theorem dropWhile_nil {p : UInt8 → Bool} : ∀ {l : List UInt8}, l.dropWhile p = [] → ∀ x ∈ l, p x = true
 | [], _, x, h => absurd h (by simp)
 | y :: l, h, x, hx => by
  rw [List.dropWhile_cons] at h
  split at h
  · rename_i hy
    rcases List.mem_cons.1 hx with rfl | hx
    · exact hy
    · exact dropWhile_nil h x hx
  · cases h
theorem dropWhile_all {p : UInt8 → Bool} : ∀ {l : List UInt8}, (∀ x ∈ l, p x = true) → l.dropWhile p = []
 | [], _ => rfl
 | y :: l, h => by
  rw [List.dropWhile_cons, if_pos (h y (List.mem_cons_self ..))]
  exact dropWhile_all fun x hx => h x (List.mem_cons_of_mem _ hx)
theorem dropWhile_head {p : UInt8 → Bool} : ∀ {l r : List UInt8} {y : UInt8}, l.dropWhile p = y :: r → p y = false
 | [], r, y, h => by cases h
 | z :: l, r, y, h => by
  rw [List.dropWhile_cons] at h
  split at h
  · exact dropWhile_head h
  · rename_i hz
    injection h with h1 h2
    subst h1
    simpa using hz
theorem trim_nil {b : List UInt8} : Lib.trimS b [48, 49, 50, 51, 52, 53, 54, 55, 56, 57] = [] ↔ ∀ x ∈ b, isD x = true := by
 unfold Lib.trimS Lib.trimLeftS Lib.trimRightS
 have e : (fun x => ([48, 49, 50, 51, 52, 53, 54, 55, 56, 57] : List UInt8).contains x) = isD := funext isD_digs
 rw [e]
 constructor
 · intro h x hx
   have h1 := dropWhile_nil h
   cases hd : b.reverse.dropWhile isD with
   | nil => exact dropWhile_nil hd x (by simpa using hx)
   | cons y r =>
    have h2 := dropWhile_head hd
    have h3 := h1 y (by rw [hd]; simp)
    rw [h2] at h3; cases h3
 · intro h
   rw [dropWhile_all (l := b.reverse) (fun x hx => h x (by simpa using hx))]
   rfl
theorem stem_none {l : List UInt8} (h : (95 : UInt8) ∉ l) : stemL l = l.take 30 := by
 unfold stemL
 dsimp only
 rw [if_neg]
 rintro ⟨_, h2⟩
 refine h ?_
 have h3 := List.mem_of_getLast? h2
 rw [List.mem_reverse] at h3
 have h4 := (List.dropWhile_suffix isD (l := l.reverse)).subset h3
 simpa using h4
theorem stem_at {a b : List UInt8} (hb : (95 : UInt8) ∉ b) : stemL (a ++ 95 :: b) = (if b ≠ [] ∧ ∀ x ∈ b, isD x = true then a else a ++ 95 :: b).take 30 := by
 have hr : (a ++ 95 :: b).reverse = b.reverse ++ 95 :: a.reverse := by simp
 have h95 : isD 95 = false := by decide
 unfold stemL
 dsimp only
 rw [hr, List.dropWhile_append]
 by_cases hall : ∀ x ∈ b, isD x = true
 · have hd : b.reverse.dropWhile isD = [] := dropWhile_all fun x hx => hall x (by simpa using hx)
   rw [hd]
   have hd2 : (95 :: a.reverse).dropWhile isD = 95 :: a.reverse := by rw [List.dropWhile_cons, h95]; rfl
   simp only [List.isEmpty_nil, if_true, hd2]
   have e : (95 :: a.reverse).reverse = a ++ [95] := by simp
   simp only [e]
   cases b with
   | nil => rw [if_neg (by simp), if_neg (by simp)]
   | cons y b => rw [if_pos (by simp), if_pos ⟨by simp, hall⟩, List.dropLast_concat]
 · rw [if_neg (c := b ≠ [] ∧ ∀ x ∈ b, isD x = true) (fun h => hall h.2)]
   cases hd : b.reverse.dropWhile isD with
   | nil => exact absurd (fun x hx => dropWhile_nil hd x (by simpa using hx)) hall
   | cons y r =>
    simp only [List.isEmpty_cons, Bool.false_eq_true, if_false]
    rw [if_neg]
    rintro ⟨_, h2⟩
    have h3 : (y :: r ++ 95 :: a.reverse).reverse = (a ++ 95 :: r.reverse) ++ [y] := by simp
    rw [h3, List.getLast?_concat] at h2
    injection h2 with h2
    subst h2
    refine hb ?_
    have h4 := (List.dropWhile_suffix isD (l := b.reverse)).subset (by rw [hd]; exact List.mem_cons_self ..)
    simpa using h4
theorem stem_found (s : ByteArray) : (Lib.lastIndexByte s 95 = -1 ∧ stemL s.data.toList = s.data.toList.take 30) ∨
    ∃ i : Nat, i < s.size ∧ Lib.lastIndexByte s 95 = i ∧
     stemL s.data.toList = (if i + 1 < s.size ∧ Lib.trimS (s.data.toList.drop (i + 1)) [48, 49, 50, 51, 52, 53, 54, 55, 56, 57] = [] then s.data.toList.take i else s.data.toList).take 30 := by
 have hsz : s.data.toList.length = s.size := by rw [Array.length_toList]; rfl
 have hat : ∀ j, j < s.size → s.data[j]! = s.data.toList[j]! := fun j hj => by rw [getElem!_pos s.data j hj, getElem!_pos s.data.toList j (by omega)]; simp
 rcases Lib.lastIndexByte_spec s 95 with ⟨h1, h2⟩ | ⟨i, hi, h1, h2, h3⟩
 · refine .inl ⟨h1, stem_none fun h => ?_⟩
   obtain ⟨j, hj, e⟩ := List.mem_iff_getElem.1 h
   refine h2 j (by omega) ?_
   rw [hat j (by omega), List.getElem!_eq_getElem?_getD, List.getElem?_eq_getElem hj, e]
   rfl
 · refine .inr ⟨i, hi, h1, ?_⟩
   have hil : i < s.data.toList.length := by omega
   have hx : s.data.toList[i] = 95 := by
    rw [hat i hi, List.getElem!_eq_getElem?_getD, List.getElem?_eq_getElem hil] at h2
    have h2 : ((s.data.toList[i].toNat : Nat) : Int) = 95 := h2
    apply UInt8.toNat_inj.1
    show _ = 95
    omega
   have hs : s.data.toList = s.data.toList.take i ++ 95 :: s.data.toList.drop (i + 1) := by
    rw [← hx, ← List.drop_eq_getElem_cons hil, List.take_append_drop]
   have hb : (95 : UInt8) ∉ s.data.toList.drop (i + 1) := fun h => by
    obtain ⟨j, hj, e⟩ := List.mem_iff_getElem.1 h
    rw [List.getElem_drop] at e
    rw [List.length_drop] at hj
    refine h3 (i + 1 + j) (by omega) (by omega) ?_
    rw [hat _ (by omega), List.getElem!_eq_getElem?_getD, List.getElem?_eq_getElem (by omega), e]
    rfl
   have hne : s.data.toList.drop (i + 1) ≠ [] ↔ i + 1 < s.size := by
    rw [ne_eq, List.drop_eq_nil_iff, hsz]; omega
   refine (congrArg stemL hs).trans ?_
   rw [stem_at hb, ← hs]
   simp only [hne, trim_nil]
end
end Go.Proofs.YteajcnilihgheaaGreatDoor
