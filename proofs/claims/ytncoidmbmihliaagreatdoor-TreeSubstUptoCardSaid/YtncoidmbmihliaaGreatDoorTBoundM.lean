/-
 The package tree, plainly: how great things are: what the statements' kit counts, what is put.
-/
import Derived.Test.YtncoidmbmihliaaGreatDoorTOfM
import Derived.Test.YtncoidmbmihliaaGreatDoorTr7M
namespace Go.Proofs.YtncoidmbmihliaaGreatDoor
set_option linter.unusedSimpArgs false
set_option linter.unusedVariables false
section
open Go.RowKit
theorem Ty.n_eq (fn : Bool) (st : ByteArray) (rf : Trm) (ps : List Prm) (rs : List Ty) : (Ty.mk fn st rf ps rs).n = rf.n + prmN ps + tyN rs := by cases rf; simp only [Ty.n, Trm.n]
theorem Ty.c_eq (fn : Bool) (st : ByteArray) (rf : Trm) (ps : List Prm) (rs : List Ty) : (Ty.mk fn st rf ps rs).c = rf.cnt + prmC ps + tyC rs := by cases rf; simp only [Ty.c, Trm.cnt]
theorem Prm.n_eq (nm : ByteArray) (ty : Ty) : (Prm.mk nm ty).n = ty.n := by obtain ⟨_, _, ⟨_, _, _, _, _⟩, _, _⟩ := ty; simp only [Prm.n, Ty.n]
theorem Prm.c_eq (nm : ByteArray) (ty : Ty) : (Prm.mk nm ty).c = ty.c := by obtain ⟨_, _, ⟨_, _, _, _, _⟩, _, _⟩ := ty; simp only [Prm.c, Ty.c]
theorem Exp.n_eq (k : Int) (nm : ByteArray) (ty : List Ty) (rh : List Rhs) (am : Atm) (ar : List Arm) (bd : List Exp) : (Exp.mk k nm ty rh am ar bd).n = am.n + tyN ty + rhsN rh + armN ar + expN bd := by cases am; simp only [Exp.n, Atm.n]; omega
mutual
theorem Trm.sm_of : ∀ t : Trm, t.w ≤ 140737488355328 → t.sm
 | .mk k nm ng dg ks, h => by
  simp only [Trm.w] at h
  have := trmW_len ks
  exact ⟨by omega, by omega, by omega, trmSm_of ks (by omega)⟩
theorem trmSm_of : ∀ l : List Trm, trmW l ≤ 140737488355328 → trmSm l
 | [], _ => trivial
 | x :: l, h => by simp only [trmW] at h; exact ⟨Trm.sm_of x (by omega), trmSm_of l (by omega)⟩
end
mutual
theorem Ty.sm_of : ∀ t : Ty, t.w ≤ 140737488355328 → t.sm
 | .mk fn st rf ps rs, h => by
  simp only [Ty.w] at h
  have := prmW_len ps
  have := tyW_len rs
  exact ⟨by omega, Trm.sm_of rf (by omega), by omega, prmSm_of ps (by omega), by omega, tySm_of rs (by omega)⟩
theorem tySm_of : ∀ l : List Ty, tyW l ≤ 140737488355328 → tySm l
 | [], _ => trivial
 | x :: l, h => by simp only [tyW] at h; exact ⟨Ty.sm_of x (by omega), tySm_of l (by omega)⟩
theorem Prm.sm_of : ∀ t : Prm, t.w ≤ 140737488355328 → t.sm
 | .mk nm ty, h => by simp only [Prm.w] at h; exact ⟨by omega, Ty.sm_of ty (by omega)⟩
theorem prmSm_of : ∀ l : List Prm, prmW l ≤ 140737488355328 → prmSm l
 | [], _ => trivial
 | x :: l, h => by simp only [prmW] at h; exact ⟨Prm.sm_of x (by omega), prmSm_of l (by omega)⟩
end
theorem Atm.sm_of : ∀ t : Atm, t.w ≤ 140737488355328 → t.sm
 | .mk k nm ng dg tr, h => by simp only [Atm.w] at h; exact ⟨by omega, by omega⟩
theorem atmSm_of : ∀ l : List Atm, atmW l ≤ 140737488355328 → atmSm l
 | [], _ => trivial
 | x :: l, h => by simp only [atmW] at h; exact ⟨Atm.sm_of x (by omega), atmSm_of l (by omega)⟩
mutual
theorem Exp.sm_of : ∀ t : Exp, t.w ≤ 140737488355328 → t.sm
 | .mk k nm ty rh am ar bd, h => by
  simp only [Exp.w] at h
  have := tyW_len ty
  have := rhsW_len rh
  have := armW_len ar
  have := expW_len bd
  exact ⟨by omega, by omega, tySm_of ty (by omega), by omega, rhsSm_of rh (by omega), Atm.sm_of am (by omega), by omega, armSm_of ar (by omega), by omega, expSm_of bd (by omega)⟩
theorem expSm_of : ∀ l : List Exp, expW l ≤ 140737488355328 → expSm l
 | [], _ => trivial
 | x :: l, h => by simp only [expW] at h; exact ⟨Exp.sm_of x (by omega), expSm_of l (by omega)⟩
theorem Rhs.sm_of : ∀ t : Rhs, t.w ≤ 140737488355328 → t.sm
 | .mk k nm ats ps rs bd ts, h => by
  simp only [Rhs.w] at h
  have := atmW_len ats
  have := prmW_len ps
  have := tyW_len rs
  have := expW_len bd
  have := trmW_len ts
  exact ⟨by omega, by omega, atmSm_of ats (by omega), by omega, prmSm_of ps (by omega), by omega, tySm_of rs (by omega), by omega, expSm_of bd (by omega), by omega, trmSm_of ts (by omega)⟩
theorem rhsSm_of : ∀ l : List Rhs, rhsW l ≤ 140737488355328 → rhsSm l
 | [], _ => trivial
 | x :: l, h => by simp only [rhsW] at h; exact ⟨Rhs.sm_of x (by omega), rhsSm_of l (by omega)⟩
theorem Arm.sm_of : ∀ t : Arm, t.w ≤ 140737488355328 → t.sm
 | .mk cn ns bd, h => by
  simp only [Arm.w] at h
  have := txtW_len ns
  have := expW_len bd
  exact ⟨by omega, by omega, by omega, expSm_of bd (by omega)⟩
theorem armSm_of : ∀ l : List Arm, armW l ≤ 140737488355328 → armSm l
 | [], _ => trivial
 | x :: l, h => by simp only [armW] at h; exact ⟨Arm.sm_of x (by omega), armSm_of l (by omega)⟩
end
theorem wr {x : Int} (h1 : -9000000000000000000 ≤ x) (h2 : x ≤ 9000000000000000000) : IntKind.i64.wrap x = x := IntWalk.i64_in _ ⟨by omega, by omega⟩
mutual
theorem trm_go : ∀ (t : Trm) (m : Int), t.w ≤ 4398046511104 → 0 ≤ m → m ≤ 4398046511104 → 0 ≤ trmOf t m ∧ trmOf t m ≤ t.w ∧ (trmOf t m ≤ m → t.n ≤ trmOf t m)
 | .mk k nm ng dg ks, m, h, h0, h1 => by
  simp only [Trm.w] at h
  have hd : 0 ≤ Int.tdiv (nm.size : Int) 8 ∧ Int.tdiv (nm.size : Int) 8 ≤ nm.size := by rw [Int.tdiv_eq_ediv_of_nonneg (by omega)]; omega
  have hg := trms_go ks (m - 1) 0 (by omega) (by omega) (by omega) (by omega)
  rw [trmOf]
  generalize Int.tdiv (nm.size : Int) 8 = d at hd
  simp (disch := omega) only [wr]
  simp only [Trm.w, Trm.n]; omega
theorem trms_go : ∀ (l : List Trm) (m n : Int), -1 ≤ m → m ≤ 4398046511104 → 0 ≤ n → n + trmW l ≤ 4398046511104 → n ≤ trmsGo l m n ∧ trmsGo l m n ≤ n + trmW l ∧ (trmsGo l m n ≤ m → n + trmN l ≤ trmsGo l m n)
 | [], m, n, h0, h1, h2, h3 => by simp only [trmsGo, trmW, trmN]; omega
 | x :: l, m, n, h0, h1, h2, h3 => by
  simp only [trmW] at h3
  rw [trmsGo]
  split
  · have g1 := trm_go x (m - n) (by omega) (by omega) (by omega)
    simp (disch := omega) only [wr]
    have g2 := trms_go l m (n + trmOf x (m - n)) (by omega) (by omega) (by omega) (by omega)
    simp only [trmW, trmN]; omega
  · simp only [trmW, trmN]; omega
end
theorem gst_go {n m : Int} (f : Int → Int) (W C : Nat) (hn : 0 ≤ n) (hm : m ≤ 4398046511104) (hW : n + W ≤ 4398046511104) (hf : n ≤ m → 0 ≤ f (m - n) ∧ f (m - n) ≤ W ∧ (f (m - n) ≤ m - n → C ≤ f (m - n))) : n ≤ gst n m f ∧ gst n m f ≤ n + W ∧ (gst n m f ≤ m → n + C ≤ gst n m f) := by
 rcases Int.lt_or_le m n with h | h
 · rw [gst_neg (by omega)]; omega
 · have := hf h
   rw [gst_pos h]
   simp (disch := omega) only [wr]
   omega
mutual
theorem ty_go : ∀ (t : Ty) (m n : Int), 0 ≤ n → n ≤ m → m ≤ 4398046511104 → n + t.w ≤ 4398046511104 → n ≤ t.step m n ∧ t.step m n ≤ n + t.w ∧ (t.step m n ≤ m → n + t.n ≤ t.step m n)
 | .mk fn st (.mk rfk rfnm rfng rfdg rfks) ps rs, m, n, h0, h1, h2, h3 => by
  rw [Ty.n_eq, Ty.step]
  rw [Ty.w] at h3 ⊢
  generalize Trm.mk rfk rfnm rfng rfdg rfks = rf at h3 ⊢
  have g1 := trm_go rf (m - n) (by omega) (by omega) (by omega)
  simp (disch := omega) only [wr]
  generalize trmOf rf (m - n) = d at g1 ⊢
  have g2 := gst_go (n := n + 1 + d) (m := m) (fun m => prmsGo ps m 0) (prmW ps) (prmN ps) (by omega) (by omega) (by omega) fun hv => by simpa using prms_go ps (m - (n + 1 + d)) 0 (by omega) (by omega) (by omega) (by omega)
  generalize gst (n + 1 + d) m (fun m => prmsGo ps m 0) = v at g2 ⊢
  have g3 := gst_go (n := v) (m := m) (fun m => tysGo rs m 0) (tyW rs) (tyN rs) (by omega) (by omega) (by omega) fun hv => by simpa using tys_go rs (m - v) 0 (by omega) (by omega) (by omega) (by omega)
  omega
theorem tys_go : ∀ (l : List Ty) (m n : Int), -1 ≤ m → m ≤ 4398046511104 → 0 ≤ n → n + tyW l ≤ 4398046511104 → n ≤ tysGo l m n ∧ tysGo l m n ≤ n + tyW l ∧ (tysGo l m n ≤ m → n + tyN l ≤ tysGo l m n)
 | [], m, n, h0, h1, h2, h3 => by simp only [tysGo, tyW, tyN]; omega
 | x :: l, m, n, h0, h1, h2, h3 => by
  simp only [tyW] at h3
  rw [tysGo]
  split
  · have g1 := ty_go x m n (by omega) (by omega) (by omega) (by omega)
    have g2 := tys_go l m (x.step m n) (by omega) (by omega) (by omega) (by omega)
    simp only [tyW, tyN]; omega
  · simp only [tyW, tyN]; omega
theorem prm_go : ∀ (t : Prm) (m n : Int), 0 ≤ n → n ≤ m → m ≤ 4398046511104 → n + t.w ≤ 4398046511104 → n ≤ t.step m n ∧ t.step m n ≤ n + t.w ∧ (t.step m n ≤ m → n + t.n ≤ t.step m n)
 | .mk nm ty, m, n, h0, h1, h2, h3 => by
  rw [Prm.n_eq, Prm.step]
  rw [Prm.w] at h3 ⊢
  have g1 := ty_go ty (m - n) 0 (by omega) (by omega) (by omega) (by omega)
  simp (disch := omega) only [wr]
  rw [if_pos (by omega)]
  omega
theorem prms_go : ∀ (l : List Prm) (m n : Int), -1 ≤ m → m ≤ 4398046511104 → 0 ≤ n → n + prmW l ≤ 4398046511104 → n ≤ prmsGo l m n ∧ prmsGo l m n ≤ n + prmW l ∧ (prmsGo l m n ≤ m → n + prmN l ≤ prmsGo l m n)
 | [], m, n, h0, h1, h2, h3 => by simp only [prmsGo, prmW, prmN]; omega
 | x :: l, m, n, h0, h1, h2, h3 => by
  simp only [prmW] at h3
  rw [prmsGo]
  split
  · have g1 := prm_go x m n (by omega) (by omega) (by omega) (by omega)
    have g2 := prms_go l m (x.step m n) (by omega) (by omega) (by omega) (by omega)
    simp only [prmW, prmN]; omega
  · simp only [prmW, prmN]; omega
end
theorem atm_go : ∀ (l : List Atm) (m n : Int), m ≤ 4398046511104 → 0 ≤ n → n + atmW l ≤ 8796093022208 → n ≤ atmGo l m n ∧ atmGo l m n + l.length ≤ n + atmW l ∧ (atmGo l m n ≤ m → n + atmN l ≤ atmGo l m n + l.length)
 | [], m, n, h1, h2, h3 => by simp only [atmGo, atmW, atmN, List.length_nil]; omega
 | .mk k nm ng dg tr :: l, m, n, h1, h2, h3 => by
  have hl := atmW_len l
  simp only [atmW, Atm.w] at h3
  rw [atmGo]
  split
  · simp only [Atm.step]
    simp (disch := omega) only [wr]
    have g2 := atm_go l m (n + dg.length) (by omega) (by omega) (by omega)
    simp only [atmW, atmN, Atm.w, Atm.n, List.length_cons]; omega
  · simp only [atmW, atmN, Atm.w, Atm.n, List.length_cons]; omega
mutual
theorem exp_go : ∀ (t : Exp) (m n : Int), 0 ≤ n → n ≤ m → m ≤ 4398046511104 → n + t.w ≤ 4398046511104 → n ≤ t.step m n ∧ t.step m n ≤ n + t.w ∧ (t.step m n ≤ m → n + t.n ≤ t.step m n)
 | .mk k nm ty rh (.mk amk amnm amng amdg amtr) ar bd, m, n, h0, h1, h2, h3 => by
  rw [Exp.n, Exp.step]
  rw [Exp.w, Atm.w] at h3 ⊢
  simp (disch := omega) only [wr]
  have g2 := gst_go (n := n + 1 + amdg.length) (m := m) (fun m => tysGo ty m 0) (tyW ty) (tyN ty) (by omega) (by omega) (by omega) fun hv => by simpa using tys_go ty (m - (n + 1 + amdg.length)) 0 (by omega) (by omega) (by omega) (by omega)
  generalize gst (n + 1 + amdg.length) m (fun m => tysGo ty m 0) = v at g2 ⊢
  have g3 := gst_go (n := v) (m := m) (fun m => rhssGo rh m 0) (rhsW rh) (rhsN rh) (by omega) (by omega) (by omega) fun hv => by simpa using rhss_go rh (m - v) 0 (by omega) (by omega) (by omega) (by omega)
  generalize gst v m (fun m => rhssGo rh m 0) = v2 at g3 ⊢
  have g4 := arms_go ar m v2 (by omega) (by omega) (by omega) (by omega)
  generalize armGo ar m v2 = v3 at g4 ⊢
  have g5 := gst_go (n := v3) (m := m) (fun m => expsGo bd m 0) (expW bd) (expN bd) (by omega) (by omega) (by omega) fun hv => by simpa using exps_go bd (m - v3) 0 (by omega) (by omega) (by omega) (by omega)
  omega
theorem exps_go : ∀ (l : List Exp) (m n : Int), -1 ≤ m → m ≤ 4398046511104 → 0 ≤ n → n + expW l ≤ 4398046511104 → n ≤ expsGo l m n ∧ expsGo l m n ≤ n + expW l ∧ (expsGo l m n ≤ m → n + expN l ≤ expsGo l m n)
 | [], m, n, h0, h1, h2, h3 => by simp only [expsGo, expW, expN]; omega
 | x :: l, m, n, h0, h1, h2, h3 => by
  simp only [expW] at h3
  rw [expsGo]
  split
  · have g1 := exp_go x m n (by omega) (by omega) (by omega) (by omega)
    have g2 := exps_go l m (x.step m n) (by omega) (by omega) (by omega) (by omega)
    simp only [expW, expN]; omega
  · simp only [expW, expN]; omega
theorem rhs_go : ∀ (t : Rhs) (m n : Int), 0 ≤ n → n ≤ m → m ≤ 4398046511104 → n + t.w ≤ 4398046511104 → n ≤ t.step m n ∧ t.step m n ≤ n + t.w ∧ (t.step m n ≤ m → n + t.n ≤ t.step m n)
 | .mk k nm ats ps rs bd ts, m, n, h0, h1, h2, h3 => by
  have hl := atmW_len ats
  rw [Rhs.n, Rhs.step]
  rw [Rhs.w] at h3 ⊢
  simp (disch := omega) only [wr]
  have g1 := atm_go ats m (n + 1 + ats.length) (by omega) (by omega) (by omega)
  generalize atmGo ats m (n + 1 + ats.length) = v0 at g1 ⊢
  have h11 := gst_go (n := v0) (m := m) (fun m => prmsGo ps m 0) (prmW ps) (prmN ps) (by omega) (by omega) (by omega) fun hv => by simpa using prms_go ps (m - v0) 0 (by omega) (by omega) (by omega) (by omega)
  generalize gst v0 m (fun m => prmsGo ps m 0) = v1 at h11 ⊢
  have h12 := gst_go (n := v1) (m := m) (fun m => tysGo rs m 0) (tyW rs) (tyN rs) (by omega) (by omega) (by omega) fun hv => by simpa using tys_go rs (m - v1) 0 (by omega) (by omega) (by omega) (by omega)
  generalize gst v1 m (fun m => tysGo rs m 0) = v2 at h12 ⊢
  have h13 := gst_go (n := v2) (m := m) (fun m => expsGo bd m 0) (expW bd) (expN bd) (by omega) (by omega) (by omega) fun hv => by simpa using exps_go bd (m - v2) 0 (by omega) (by omega) (by omega) (by omega)
  generalize gst v2 m (fun m => expsGo bd m 0) = v3 at h13 ⊢
  have h14 := gst_go (n := v3) (m := m) (fun m => trmsGo ts m 0) (trmW ts) (trmN ts) (by omega) (by omega) (by omega) fun hv => by simpa using trms_go ts (m - v3) 0 (by omega) (by omega) (by omega) (by omega)
  generalize gst v3 m (fun m => trmsGo ts m 0) = v4 at h14 ⊢
  omega
theorem rhss_go : ∀ (l : List Rhs) (m n : Int), -1 ≤ m → m ≤ 4398046511104 → 0 ≤ n → n + rhsW l ≤ 4398046511104 → n ≤ rhssGo l m n ∧ rhssGo l m n ≤ n + rhsW l ∧ (rhssGo l m n ≤ m → n + rhsN l ≤ rhssGo l m n)
 | [], m, n, h0, h1, h2, h3 => by simp only [rhssGo, rhsW, rhsN]; omega
 | x :: l, m, n, h0, h1, h2, h3 => by
  simp only [rhsW] at h3
  rw [rhssGo]
  split
  · have g1 := rhs_go x m n (by omega) (by omega) (by omega) (by omega)
    have g2 := rhss_go l m (x.step m n) (by omega) (by omega) (by omega) (by omega)
    simp only [rhsW, rhsN]; omega
  · simp only [rhsW, rhsN]; omega
theorem arm_go : ∀ (t : Arm) (m n : Int), 0 ≤ n → n ≤ m → m ≤ 4398046511104 → n + t.w ≤ 4398046511104 → n ≤ t.step m n ∧ t.step m n ≤ n + t.w ∧ (t.step m n ≤ m → n + t.n ≤ t.step m n)
 | .mk cn ns bd, m, n, h0, h1, h2, h3 => by
  have hl := txtW_len ns
  rw [Arm.n, Arm.step]
  rw [Arm.w] at h3 ⊢
  simp (disch := omega) only [wr]
  have g5 := gst_go (n := n + 1 + ns.length) (m := m) (fun m => expsGo bd m 0) (expW bd) (expN bd) (by omega) (by omega) (by omega) fun hv => by simpa using exps_go bd (m - (n + 1 + ns.length)) 0 (by omega) (by omega) (by omega) (by omega)
  omega
theorem arms_go : ∀ (l : List Arm) (m n : Int), -1 ≤ m → m ≤ 4398046511104 → 0 ≤ n → n + armW l ≤ 4398046511104 → n ≤ armGo l m n ∧ armGo l m n ≤ n + armW l ∧ (armGo l m n ≤ m → n + armN l ≤ armGo l m n)
 | [], m, n, h0, h1, h2, h3 => by simp only [armGo, armW, armN]; omega
 | x :: l, m, n, h0, h1, h2, h3 => by
  simp only [armW] at h3
  rw [armGo]
  split
  · have g1 := arm_go x m n (by omega) (by omega) (by omega) (by omega)
    have g2 := arms_go l m (x.step m n) (by omega) (by omega) (by omega) (by omega)
    simp only [armW, armN]; omega
  · simp only [armW, armN]; omega
end
theorem great_n {e : Exp} (hw : e.w ≤ 4000000000) (h : ¬ expsGo [e] 2000 0 > 2000) : e.n ≤ 2000 := by
 have hW : expW [e] = e.w := by simp [expW]
 have := exps_go [e] 2000 0 (by omega) (by omega) (by omega) (by omega)
 simp only [expN] at this
 omega
theorem Trm.cnt_le : ∀ t : Trm, t.cnt ≤ t.n := by
 have key : ∀ n : Nat, (∀ t : Trm, t.n ≤ n → t.cnt ≤ t.n) ∧ ∀ l : List Trm, trmN l ≤ n → trmCs l ≤ trmN l := by
  intro n
  induction n with
  | zero =>
   refine ⟨fun t ht => absurd t.n_pos (by omega), fun l hl => ?_⟩
   cases l with
   | nil => exact Nat.le_refl _
   | cons t l => have := t.n_pos; simp only [trmN] at hl; omega
  | succ n ih =>
   have h1 : ∀ t : Trm, t.n ≤ n + 1 → t.cnt ≤ t.n := by
    intro t ht
    obtain ⟨k, nm, ng, dg, ks⟩ := t
    simp only [Trm.n] at ht
    have := ih.2 ks (by omega)
    simp only [Trm.cnt, Trm.n]; omega
   refine ⟨h1, fun l => ?_⟩
   induction l with
   | nil => exact fun _ => Nat.le_refl _
   | cons t l ihl =>
    intro hl
    simp only [trmN] at hl
    have := h1 t (by omega)
    have := ihl (by omega)
    simp only [trmCs, trmN]; omega
 exact fun t => (key t.n).1 t (Nat.le_refl _)
theorem trmCs_n : ∀ l : List Trm, trmCs l ≤ trmN l
 | [] => Nat.le_refl _
 | t :: l => by have := t.cnt_le; have := trmCs_n l; simp only [trmCs, trmN]; omega
mutual
theorem Ty.c_le : ∀ t : Ty, t.c ≤ t.n
 | .mk fn st rf ps rs => by have := rf.cnt_le; have := prmC_le ps; have := tyC_le rs; rw [Ty.c_eq, Ty.n_eq]; omega
theorem tyC_le : ∀ l : List Ty, tyC l ≤ tyN l
 | [] => Nat.le_refl _
 | x :: l => by have := x.c_le; have := tyC_le l; simp only [tyC, tyN]; omega
theorem Prm.c_le : ∀ t : Prm, t.c ≤ t.n
 | .mk nm ty => by have := ty.c_le; rw [Prm.c_eq, Prm.n_eq]; omega
theorem prmC_le : ∀ l : List Prm, prmC l ≤ prmN l
 | [] => Nat.le_refl _
 | x :: l => by have := x.c_le; have := prmC_le l; simp only [prmC, prmN]; omega
end
mutual
theorem Exp.c_le : ∀ t : Exp, t.c ≤ t.n
 | .mk k nm ty rh am ar bd => by have := tyC_le ty; have := rhsC_le rh; have := armC_le ar; have := expC_le bd; rw [Exp.c, Exp.n_eq]; omega
theorem expC_le : ∀ l : List Exp, expC l ≤ expN l
 | [] => Nat.le_refl _
 | x :: l => by have := x.c_le; have := expC_le l; simp only [expC, expN]; omega
theorem Rhs.c_le : ∀ t : Rhs, t.c ≤ t.n
 | .mk k nm ats ps rs bd ts => by have := prmC_le ps; have := tyC_le rs; have := expC_le bd; have := trmCs_n ts; rw [Rhs.c, Rhs.n]; omega
theorem rhsC_le : ∀ l : List Rhs, rhsC l ≤ rhsN l
 | [] => Nat.le_refl _
 | x :: l => by have := x.c_le; have := rhsC_le l; simp only [rhsC, rhsN]; omega
theorem Arm.c_le : ∀ t : Arm, t.c ≤ t.n
 | .mk cn ns bd => by have := expC_le bd; rw [Arm.c, Arm.n]; omega
theorem armC_le : ∀ l : List Arm, armC l ≤ armN l
 | [] => Nat.le_refl _
 | x :: l => by have := x.c_le; have := armC_le l; simp only [armC, armN]; omega
end
def MkE.Low (m : MkE) : Prop := ∀ a ∈ m.atoms, a.n ≤ 102 ∧ a.w ≤ 4194304 ∧ a.toT.w ≤ 4194304
variable {m : MkE}
theorem MkE.Low.ts (h : m.Low) : ∀ x ∈ m.e.ts, x.n ≤ 102 ∧ x.w ≤ 4194304 ∧ x.cnt = 1 := by
 intro x hx
 obtain ⟨a, ha, rfl⟩ := List.mem_map.1 hx
 have := h a (List.mem_of_mem_take ha)
 exact ⟨Nat.le_trans a.toT_n this.1, this.2.2, a.toT_cnt⟩
mutual
theorem put_t (h : m.Low) : ∀ t : Trm, (m.e.put t).n ≤ 102 * t.n ∧ (m.e.put t).w ≤ t.w + 4194304 * t.n ∧ (m.e.put t).cnt ≤ t.cnt
 | .mk k nm ng dg ks => by
  rw [EnvT.put]
  split
  · rename_i x hx
    have := h.ts x (EnvT.find_mem hx)
    simp only [Trm.n, Trm.w, Trm.cnt]; omega
  · have := put_ts h ks
    simp only [Trm.n, Trm.w, Trm.cnt]; omega
theorem put_ts (h : m.Low) : ∀ l : List Trm, trmN (m.e.puts l) ≤ 102 * trmN l ∧ trmW (m.e.puts l) ≤ trmW l + 4194304 * trmN l ∧ trmCs (m.e.puts l) ≤ trmCs l
 | [] => by simp [EnvT.puts, trmN, trmW, trmCs]
 | t :: l => by have := put_t h t; have := put_ts h l; simp only [EnvT.puts, trmN, trmW, trmCs]; omega
end
mutual
theorem put_y (h : m.Low) : ∀ t : Ty, (m.putY t).n ≤ 102 * t.n ∧ (m.putY t).w ≤ t.w + 4194304 * t.n ∧ (m.putY t).c ≤ t.c
 | .mk fn st rf ps rs => by
  have := put_t h rf; have := put_ps h ps; have := put_ys h rs
  rw [MkE.putY, Ty.n_eq, Ty.n_eq, Ty.c_eq, Ty.c_eq, Ty.w, Ty.w]; omega
theorem put_ys (h : m.Low) : ∀ l : List Ty, tyN (m.putYs l) ≤ 102 * tyN l ∧ tyW (m.putYs l) ≤ tyW l + 4194304 * tyN l ∧ tyC (m.putYs l) ≤ tyC l
 | [] => by simp [MkE.putYs, tyN, tyW, tyC]
 | t :: l => by have := put_y h t; have := put_ys h l; simp only [MkE.putYs, tyN, tyW, tyC]; omega
theorem put_p (h : m.Low) : ∀ t : Prm, (m.putP t).n ≤ 102 * t.n ∧ (m.putP t).w ≤ t.w + 4194304 * t.n ∧ (m.putP t).c ≤ t.c
 | .mk nm ty => by
  have := put_y h ty
  rw [MkE.putP, Prm.n_eq, Prm.n_eq, Prm.c_eq, Prm.c_eq, Prm.w, Prm.w]; omega
theorem put_ps (h : m.Low) : ∀ l : List Prm, prmN (m.putPs l) ≤ 102 * prmN l ∧ prmW (m.putPs l) ≤ prmW l + 4194304 * prmN l ∧ prmC (m.putPs l) ≤ prmC l
 | [] => by simp [MkE.putPs, prmN, prmW, prmC]
 | t :: l => by have := put_p h t; have := put_ps h l; simp only [MkE.putPs, prmN, prmW, prmC]; omega
end
theorem put_a (h : m.Low) : ∀ t : Atm, (m.a2.put t).n ≤ 102 * t.n ∧ (m.a2.put t).w ≤ t.w + 4194304 * t.n
 | .mk k nm ng dg tr => by
  rw [A2.put_eq]
  split
  · cases hs : seek m.a2.names m.a2.atoms nm m.a2.k with
    | none => simp only [Option.getD_none, Atm.n, Atm.w]; omega
    | some x => have := h x (seek_mem hs); show x.n ≤ 102 * (1 + dg.length) ∧ x.w ≤ (1 + nm.size + dg.length) + 4194304 * (1 + dg.length); omega
  · simp only [Atm.n, Atm.w]; omega
theorem put_as (h : m.Low) : ∀ l : List Atm, atmN (m.putAs l) ≤ 102 * atmN l ∧ atmW (m.putAs l) ≤ atmW l + 4194304 * atmN l
 | [] => by simp [MkE.putAs, atmN, atmW]
 | t :: l => by have := put_a h t; have := put_as h l; simp only [MkE.putAs, List.map_cons, atmN, atmW] at *; omega
mutual
theorem put_x (h : m.Low) : ∀ t : Exp, (m.putE t).n ≤ 102 * t.n ∧ (m.putE t).w ≤ t.w + 4194304 * t.n ∧ (m.putE t).c ≤ t.c
 | .mk k nm ty rh am ar bd => by
  have := put_ys h ty; have := put_rs h rh; have := put_a h am; have := put_ms h ar; have := put_xs h bd
  rw [MkE.putE, Exp.n_eq, Exp.n_eq, Exp.c, Exp.c, Exp.w, Exp.w]; omega
theorem put_xs (h : m.Low) : ∀ l : List Exp, expN (m.putEs l) ≤ 102 * expN l ∧ expW (m.putEs l) ≤ expW l + 4194304 * expN l ∧ expC (m.putEs l) ≤ expC l
 | [] => by simp [MkE.putEs, expN, expW, expC]
 | t :: l => by have := put_x h t; have := put_xs h l; simp only [MkE.putEs, expN, expW, expC]; omega
theorem put_r (h : m.Low) : ∀ t : Rhs, (m.putR t).n ≤ 102 * t.n ∧ (m.putR t).w ≤ t.w + 4194304 * t.n ∧ (m.putR t).c ≤ t.c
 | .mk k nm ats ps rs bd ts => by
  have := put_as h ats; have := put_ps h ps; have := put_ys h rs; have := put_xs h bd; have := put_ts h ts
  rw [MkE.putR, Rhs.n, Rhs.n, Rhs.c, Rhs.c, Rhs.w, Rhs.w]; omega
theorem put_rs (h : m.Low) : ∀ l : List Rhs, rhsN (m.putRs l) ≤ 102 * rhsN l ∧ rhsW (m.putRs l) ≤ rhsW l + 4194304 * rhsN l ∧ rhsC (m.putRs l) ≤ rhsC l
 | [] => by simp [MkE.putRs, rhsN, rhsW, rhsC]
 | t :: l => by have := put_r h t; have := put_rs h l; simp only [MkE.putRs, rhsN, rhsW, rhsC]; omega
theorem put_m (h : m.Low) : ∀ t : Arm, (m.putM t).n ≤ 102 * t.n ∧ (m.putM t).w ≤ t.w + 4194304 * t.n ∧ (m.putM t).c ≤ t.c
 | .mk cn ns bd => by
  have := put_xs h bd
  rw [MkE.putM, Arm.n, Arm.n, Arm.c, Arm.c, Arm.w, Arm.w]; omega
theorem put_ms (h : m.Low) : ∀ l : List Arm, armN (m.putMs l) ≤ 102 * armN l ∧ armW (m.putMs l) ≤ armW l + 4194304 * armN l ∧ armC (m.putMs l) ≤ armC l
 | [] => by simp [MkE.putMs, armN, armW, armC]
 | t :: l => by have := put_m h t; have := put_ms h l; simp only [MkE.putMs, armN, armW, armC]; omega
end
end
section
open Go.RowKit
variable {S : Sp} {N : Nat}
mutual
def Trm.pl : Trm → Bool
 | .mk k nm ng dg ks => (!(decide (k = 1)) || (ks.isEmpty && dg.isEmpty && !ng)) && trmPl ks
def trmPl : List Trm → Bool
 | [] => true
 | x :: l => x.pl && trmPl l
end
def Atm.pl : Atm → Bool
 | .mk k nm ng dg tr => !(decide (k = 1)) || (!tr && dg.isEmpty && !ng)
def atmPl : List Atm → Bool
 | [] => true
 | x :: l => x.pl && atmPl l
mutual
def Ty.pl : Ty → Bool
 | .mk fn st rf ps rs => rf.pl && prmPl ps && tyPl rs
def tyPl : List Ty → Bool
 | [] => true
 | x :: l => x.pl && tyPl l
def Prm.pl : Prm → Bool
 | .mk nm ty => ty.pl
def prmPl : List Prm → Bool
 | [] => true
 | x :: l => x.pl && prmPl l
end
abbrev ltermsF : FS := pureF (fun l : List Trm => [.sl (trmR l) .no]) (fun l => .lit (.bool (trmPl l))) trmN 0
abbrev latomsF : FS := pureF (fun l : List Atm => [.sl (atmR l) .no]) (fun l => .lit (.bool (atmPl l))) atmN 0
abbrev ltypesF : FS := pureF (fun l : List Ty => [.sl (tyR l) .no]) (fun l => .lit (.bool (tyPl l))) tyN 1
abbrev lparamsF : FS := pureF (fun l : List Prm => [.sl (prmR l) .no]) (fun l => .lit (.bool (prmPl l))) prmN 2
theorem ltrm_inj (a b : List Trm) (e : [AV.sl (trmR a) .no] = [AV.sl (trmR b) .no]) : a = b := by simp only [List.cons.injEq, AV.sl.injEq, and_true] at e; exact trmR_inj e
theorem latm_inj (a b : List Atm) (e : [AV.sl (atmR a) .no] = [AV.sl (atmR b) .no]) : a = b := by simp only [List.cons.injEq, AV.sl.injEq, and_true] at e; exact atmR_inj e
theorem lty_inj (a b : List Ty) (e : [AV.sl (tyR a) .no] = [AV.sl (tyR b) .no]) : a = b := by simp only [List.cons.injEq, AV.sl.injEq, and_true] at e; exact tyR_inj e
theorem lprm_inj (a b : List Prm) (e : [AV.sl (prmR a) .no] = [AV.sl (prmR b) .no]) : a = b := by simp only [List.cons.injEq, AV.sl.injEq, and_true] at e; exact prmR_inj e
end
end Go.Proofs.YtncoidmbmihliaaGreatDoor
