/-
  The package tree, plainly: how great things are: what the statements' kit counts, what is put.
-/
import Derived.Test.YtncoidmbmihliaaGreatDoorTr7M
namespace Go.Proofs.YtncoidmbmihliaaGreatDoor
set_option linter.unusedSimpArgs false
set_option linter.unusedVariables false
section
open Go.RowKit

theorem Ty.n_eq (fn : Bool) (st : ByteArray) (rf : Trm) (ps : List Prm) (rs : List Ty) : (Ty.mk fn st rf ps rs).n = rf.n + prmN ps + tyN rs := by cases rf; simp only [Ty.n, Trm.n]
theorem Ty.c_eq (fn : Bool) (st : ByteArray) (rf : Trm) (ps : List Prm) (rs : List Ty) : (Ty.mk fn st rf ps rs).c = rf.cnt + prmC ps + tyC rs := by cases rf; simp only [Ty.c, Trm.cnt]
theorem Prm.n_eq (nm : ByteArray) (ty : Ty) : (Prm.mk nm ty).n = ty.n := by obtain ⟨_, _, ⟨_, _, _, _, _⟩, _, _⟩ := ty; simp only [Prm.n, Ty.n]
theorem Prm.c_eq (nm : ByteArray) (ty : Ty) : (Prm.mk nm ty).c = ty.c := by obtain ⟨_, _, ⟨_, _, _, _, _⟩, _, _⟩ := ty; simp only [Prm.c, Ty.c]
theorem Exp.n_eq (k : Int) (nm : ByteArray) (ty : List Ty) (rh : List Rhs) (am : Atm) (ar : List Arm) (bd : List Exp) : (Exp.mk k nm ty rh am ar bd).n = am.n + tyN ty + rhsN rh + armN ar + expN bd := by cases am; simp only [Exp.n, Atm.n]; omega
mutual
theorem Trm.sm_of : ∀ t : Trm, t.w ≤ 140737488355328 → t.sm
  | .mk k nm ng dg ks, h => by
    simp only [Trm.w] at h
    have := trmW_len ks
    exact ⟨by omega, by omega, by omega, trmSm_of ks (by omega)⟩
theorem trmSm_of : ∀ l : List Trm, trmW l ≤ 140737488355328 → trmSm l
  | [], _ => trivial
  | x :: l, h => by simp only [trmW] at h; exact ⟨Trm.sm_of x (by omega), trmSm_of l (by omega)⟩
end
mutual
theorem Ty.sm_of : ∀ t : Ty, t.w ≤ 140737488355328 → t.sm
  | .mk fn st rf ps rs, h => by
    simp only [Ty.w] at h
    have := prmW_len ps
    have := tyW_len rs
    exact ⟨by omega, Trm.sm_of rf (by omega), by omega, prmSm_of ps (by omega), by omega, tySm_of rs (by omega)⟩
theorem tySm_of : ∀ l : List Ty, tyW l ≤ 140737488355328 → tySm l
  | [], _ => trivial
  | x :: l, h => by simp only [tyW] at h; exact ⟨Ty.sm_of x (by omega), tySm_of l (by omega)⟩
theorem Prm.sm_of : ∀ t : Prm, t.w ≤ 140737488355328 → t.sm
  | .mk nm ty, h => by simp only [Prm.w] at h; exact ⟨by omega, Ty.sm_of ty (by omega)⟩
theorem prmSm_of : ∀ l : List Prm, prmW l ≤ 140737488355328 → prmSm l
  | [], _ => trivial
  | x :: l, h => by simp only [prmW] at h; exact ⟨Prm.sm_of x (by omega), prmSm_of l (by omega)⟩
end
theorem Atm.sm_of : ∀ t : Atm, t.w ≤ 140737488355328 → t.sm
  | .mk k nm ng dg tr, h => by simp only [Atm.w] at h; exact ⟨by omega, by omega⟩
theorem atmSm_of : ∀ l : List Atm, atmW l ≤ 140737488355328 → atmSm l
  | [], _ => trivial
  | x :: l, h => by simp only [atmW] at h; exact ⟨Atm.sm_of x (by omega), atmSm_of l (by omega)⟩
mutual
theorem Exp.sm_of : ∀ t : Exp, t.w ≤ 140737488355328 → t.sm
  | .mk k nm ty rh am ar bd, h => by
    simp only [Exp.w] at h
    have := tyW_len ty
    have := rhsW_len rh
    have := armW_len ar
    have := expW_len bd
    exact ⟨by omega, by omega, tySm_of ty (by omega), by omega, rhsSm_of rh (by omega), Atm.sm_of am (by omega), by omega, armSm_of ar (by omega), by omega, expSm_of bd (by omega)⟩
theorem expSm_of : ∀ l : List Exp, expW l ≤ 140737488355328 → expSm l
  | [], _ => trivial
  | x :: l, h => by simp only [expW] at h; exact ⟨Exp.sm_of x (by omega), expSm_of l (by omega)⟩
theorem Rhs.sm_of : ∀ t : Rhs, t.w ≤ 140737488355328 → t.sm
  | .mk k nm ats ps rs bd ts, h => by
    simp only [Rhs.w] at h
    have := atmW_len ats
    have := prmW_len ps
    have := tyW_len rs
    have := expW_len bd
    have := trmW_len ts
    exact ⟨by omega, by omega, atmSm_of ats (by omega), by omega, prmSm_of ps (by omega), by omega, tySm_of rs (by omega), by omega, expSm_of bd (by omega), by omega, trmSm_of ts (by omega)⟩
theorem rhsSm_of : ∀ l : List Rhs, rhsW l ≤ 140737488355328 → rhsSm l
  | [], _ => trivial
  | x :: l, h => by simp only [rhsW] at h; exact ⟨Rhs.sm_of x (by omega), rhsSm_of l (by omega)⟩
theorem Arm.sm_of : ∀ t : Arm, t.w ≤ 140737488355328 → t.sm
  | .mk cn ns bd, h => by
    simp only [Arm.w] at h
    have := txtW_len ns
    have := expW_len bd
    exact ⟨by omega, by omega, by omega, expSm_of bd (by omega)⟩
theorem armSm_of : ∀ l : List Arm, armW l ≤ 140737488355328 → armSm l
  | [], _ => trivial
  | x :: l, h => by simp only [armW] at h; exact ⟨Arm.sm_of x (by omega), armSm_of l (by omega)⟩
end
theorem wr {x : Int} (h1 : -9000000000000000000 ≤ x) (h2 : x ≤ 9000000000000000000) : IntKind.i64.wrap x = x := IntWalk.i64_in _ ⟨by omega, by omega⟩
mutual
theorem trm_go : ∀ (t : Trm) (m : Int), t.w ≤ 4398046511104 → 0 ≤ m → m ≤ 4398046511104 → 0 ≤ trmOf t m ∧ trmOf t m ≤ t.w ∧ (trmOf t m ≤ m → t.n ≤ trmOf t m)
  | .mk k nm ng dg ks, m, h, h0, h1 => by
    simp only [Trm.w] at h
    have hd : 0 ≤ Int.tdiv (nm.size : Int) 8 ∧ Int.tdiv (nm.size : Int) 8 ≤ nm.size := by rw [Int.tdiv_eq_ediv_of_nonneg (by omega)]; omega
    have hg := trms_go ks (m - 1) 0 (by omega) (by omega) (by omega) (by omega)
    rw [trmOf]
    generalize Int.tdiv (nm.size : Int) 8 = d at hd
    simp (disch := omega) only [wr]
    simp only [Trm.w, Trm.n]; omega
theorem trms_go : ∀ (l : List Trm) (m n : Int), -1 ≤ m → m ≤ 4398046511104 → 0 ≤ n → n + trmW l ≤ 4398046511104 → n ≤ trmsGo l m n ∧ trmsGo l m n ≤ n + trmW l ∧ (trmsGo l m n ≤ m → n + trmN l ≤ trmsGo l m n)
  | [], m, n, h0, h1, h2, h3 => by simp only [trmsGo, trmW, trmN]; omega
  | x :: l, m, n, h0, h1, h2, h3 => by
    simp only [trmW] at h3
    rw [trmsGo]
    split
    · have g1 := trm_go x (m - n) (by omega) (by omega) (by omega)
      simp (disch := omega) only [wr]
      have g2 := trms_go l m (n + trmOf x (m - n)) (by omega) (by omega) (by omega) (by omega)
      simp only [trmW, trmN]; omega
    · simp only [trmW, trmN]; omega
end
theorem gst_go {n m : Int} (f : Int → Int) (W C : Nat) (hn : 0 ≤ n) (hm : m ≤ 4398046511104) (hW : n + W ≤ 4398046511104) (hf : n ≤ m → 0 ≤ f (m - n) ∧ f (m - n) ≤ W ∧ (f (m - n) ≤ m - n → C ≤ f (m - n))) : n ≤ gst n m f ∧ gst n m f ≤ n + W ∧ (gst n m f ≤ m → n + C ≤ gst n m f) := by
  rcases Int.lt_or_le m n with h | h
  · rw [gst_neg (by omega)]; omega
  · have := hf h
    rw [gst_pos h]
    simp (disch := omega) only [wr]
    omega
mutual
theorem ty_go : ∀ (t : Ty) (m n : Int), 0 ≤ n → n ≤ m → m ≤ 4398046511104 → n + t.w ≤ 4398046511104 → n ≤ t.step m n ∧ t.step m n ≤ n + t.w ∧ (t.step m n ≤ m → n + t.n ≤ t.step m n)
  | .mk fn st (.mk rfk rfnm rfng rfdg rfks) ps rs, m, n, h0, h1, h2, h3 => by
    rw [Ty.n_eq, Ty.step]
    rw [Ty.w] at h3 ⊢
    generalize Trm.mk rfk rfnm rfng rfdg rfks = rf at h3 ⊢
    have g1 := trm_go rf (m - n) (by omega) (by omega) (by omega)
    simp (disch := omega) only [wr]
    generalize trmOf rf (m - n) = d at g1 ⊢
    have g2 := gst_go (n := n + 1 + d) (m := m) (fun m => prmsGo ps m 0) (prmW ps) (prmN ps) (by omega) (by omega) (by omega) fun hv => by simpa using prms_go ps (m - (n + 1 + d)) 0 (by omega) (by omega) (by omega) (by omega)
    generalize gst (n + 1 + d) m (fun m => prmsGo ps m 0) = v at g2 ⊢
    have g3 := gst_go (n := v) (m := m) (fun m => tysGo rs m 0) (tyW rs) (tyN rs) (by omega) (by omega) (by omega) fun hv => by simpa using tys_go rs (m - v) 0 (by omega) (by omega) (by omega) (by omega)
    omega
theorem tys_go : ∀ (l : List Ty) (m n : Int), -1 ≤ m → m ≤ 4398046511104 → 0 ≤ n → n + tyW l ≤ 4398046511104 → n ≤ tysGo l m n ∧ tysGo l m n ≤ n + tyW l ∧ (tysGo l m n ≤ m → n + tyN l ≤ tysGo l m n)
  | [], m, n, h0, h1, h2, h3 => by simp only [tysGo, tyW, tyN]; omega
  | x :: l, m, n, h0, h1, h2, h3 => by
    simp only [tyW] at h3
    rw [tysGo]
    split
    · have g1 := ty_go x m n (by omega) (by omega) (by omega) (by omega)
      have g2 := tys_go l m (x.step m n) (by omega) (by omega) (by omega) (by omega)
      simp only [tyW, tyN]; omega
    · simp only [tyW, tyN]; omega
theorem prm_go : ∀ (t : Prm) (m n : Int), 0 ≤ n → n ≤ m → m ≤ 4398046511104 → n + t.w ≤ 4398046511104 → n ≤ t.step m n ∧ t.step m n ≤ n + t.w ∧ (t.step m n ≤ m → n + t.n ≤ t.step m n)
  | .mk nm ty, m, n, h0, h1, h2, h3 => by
    rw [Prm.n_eq, Prm.step]
    rw [Prm.w] at h3 ⊢
    have g1 := ty_go ty (m - n) 0 (by omega) (by omega) (by omega) (by omega)
    simp (disch := omega) only [wr]
    rw [if_pos (by omega)]
    omega
theorem prms_go : ∀ (l : List Prm) (m n : Int), -1 ≤ m → m ≤ 4398046511104 → 0 ≤ n → n + prmW l ≤ 4398046511104 → n ≤ prmsGo l m n ∧ prmsGo l m n ≤ n + prmW l ∧ (prmsGo l m n ≤ m → n + prmN l ≤ prmsGo l m n)
  | [], m, n, h0, h1, h2, h3 => by simp only [prmsGo, prmW, prmN]; omega
  | x :: l, m, n, h0, h1, h2, h3 => by
    simp only [prmW] at h3
    rw [prmsGo]
    split
    · have g1 := prm_go x m n (by omega) (by omega) (by omega) (by omega)
      have g2 := prms_go l m (x.step m n) (by omega) (by omega) (by omega) (by omega)
      simp only [prmW, prmN]; omega
    · simp only [prmW, prmN]; omega
end
theorem atm_go : ∀ (l : List Atm) (m n : Int), m ≤ 4398046511104 → 0 ≤ n → n + atmW l ≤ 8796093022208 → n ≤ atmGo l m n ∧ atmGo l m n + l.length ≤ n + atmW l ∧ (atmGo l m n ≤ m → n + atmN l ≤ atmGo l m n + l.length)
  | [], m, n, h1, h2, h3 => by simp only [atmGo, atmW, atmN, List.length_nil]; omega
  | .mk k nm ng dg tr :: l, m, n, h1, h2, h3 => by
    have hl := atmW_len l
    simp only [atmW, Atm.w] at h3
    rw [atmGo]
    split
    · simp only [Atm.step]
      simp (disch := omega) only [wr]
      have g2 := atm_go l m (n + dg.length) (by omega) (by omega) (by omega)
      simp only [atmW, atmN, Atm.w, Atm.n, List.length_cons]; omega
    · simp only [atmW, atmN, Atm.w, Atm.n, List.length_cons]; omega
mutual
theorem exp_go : ∀ (t : Exp) (m n : Int), 0 ≤ n → n ≤ m → m ≤ 4398046511104 → n + t.w ≤ 4398046511104 → n ≤ t.step m n ∧ t.step m n ≤ n + t.w ∧ (t.step m n ≤ m → n + t.n ≤ t.step m n)
  | .mk k nm ty rh (.mk amk amnm amng amdg amtr) ar bd, m, n, h0, h1, h2, h3 => by
    rw [Exp.n, Exp.step]
    rw [Exp.w, Atm.w] at h3 ⊢
    simp (disch := omega) only [wr]
    have g2 := gst_go (n := n + 1 + amdg.length) (m := m) (fun m => tysGo ty m 0) (tyW ty) (tyN ty) (by omega) (by omega) (by omega) fun hv => by simpa using tys_go ty (m - (n + 1 + amdg.length)) 0 (by omega) (by omega) (by omega) (by omega)
    generalize gst (n + 1 + amdg.length) m (fun m => tysGo ty m 0) = v at g2 ⊢
    have g3 := gst_go (n := v) (m := m) (fun m => rhssGo rh m 0) (rhsW rh) (rhsN rh) (by omega) (by omega) (by omega) fun hv => by simpa using rhss_go rh (m - v) 0 (by omega) (by omega) (by omega) (by omega)
    generalize gst v m (fun m => rhssGo rh m 0) = v2 at g3 ⊢
    have g4 := arms_go ar m v2 (by omega) (by omega) (by omega) (by omega)
    generalize armGo ar m v2 = v3 at g4 ⊢
    have g5 := gst_go (n := v3) (m := m) (fun m => expsGo bd m 0) (expW bd) (expN bd) (by omega) (by omega) (by omega) fun hv => by simpa using exps_go bd (m - v3) 0 (by omega) (by omega) (by omega) (by omega)
    omega
theorem exps_go : ∀ (l : List Exp) (m n : Int), -1 ≤ m → m ≤ 4398046511104 → 0 ≤ n → n + expW l ≤ 4398046511104 → n ≤ expsGo l m n ∧ expsGo l m n ≤ n + expW l ∧ (expsGo l m n ≤ m → n + expN l ≤ expsGo l m n)
  | [], m, n, h0, h1, h2, h3 => by simp only [expsGo, expW, expN]; omega
  | x :: l, m, n, h0, h1, h2, h3 => by
    simp only [expW] at h3
    rw [expsGo]
    split
    · have g1 := exp_go x m n (by omega) (by omega) (by omega) (by omega)
      have g2 := exps_go l m (x.step m n) (by omega) (by omega) (by omega) (by omega)
      simp only [expW, expN]; omega
    · simp only [expW, expN]; omega
theorem rhs_go : ∀ (t : Rhs) (m n : Int), 0 ≤ n → n ≤ m → m ≤ 4398046511104 → n + t.w ≤ 4398046511104 → n ≤ t.step m n ∧ t.step m n ≤ n + t.w ∧ (t.step m n ≤ m → n + t.n ≤ t.step m n)
  | .mk k nm ats ps rs bd ts, m, n, h0, h1, h2, h3 => by
    have hl := atmW_len ats
    rw [Rhs.n, Rhs.step]
    rw [Rhs.w] at h3 ⊢
    simp (disch := omega) only [wr]
    have g1 := atm_go ats m (n + 1 + ats.length) (by omega) (by omega) (by omega)
    generalize atmGo ats m (n + 1 + ats.length) = v0 at g1 ⊢
    have h11 := gst_go (n := v0) (m := m) (fun m => prmsGo ps m 0) (prmW ps) (prmN ps) (by omega) (by omega) (by omega) fun hv => by simpa using prms_go ps (m - v0) 0 (by omega) (by omega) (by omega) (by omega)
    generalize gst v0 m (fun m => prmsGo ps m 0) = v1 at h11 ⊢
    have h12 := gst_go (n := v1) (m := m) (fun m => tysGo rs m 0) (tyW rs) (tyN rs) (by omega) (by omega) (by omega) fun hv => by simpa using tys_go rs (m - v1) 0 (by omega) (by omega) (by omega) (by omega)
    generalize gst v1 m (fun m => tysGo rs m 0) = v2 at h12 ⊢
    have h13 := gst_go (n := v2) (m := m) (fun m => expsGo bd m 0) (expW bd) (expN bd) (by omega) (by omega) (by omega) fun hv => by simpa using exps_go bd (m - v2) 0 (by omega) (by omega) (by omega) (by omega)
    generalize gst v2 m (fun m => expsGo bd m 0) = v3 at h13 ⊢
    have h14 := gst_go (n := v3) (m := m) (fun m => trmsGo ts m 0) (trmW ts) (trmN ts) (by omega) (by omega) (by omega) fun hv => by simpa using trms_go ts (m - v3) 0 (by omega) (by omega) (by omega) (by omega)
    generalize gst v3 m (fun m => trmsGo ts m 0) = v4 at h14 ⊢
    omega
theorem rhss_go : ∀ (l : List Rhs) (m n : Int), -1 ≤ m → m ≤ 4398046511104 → 0 ≤ n → n + rhsW l ≤ 4398046511104 → n ≤ rhssGo l m n ∧ rhssGo l m n ≤ n + rhsW l ∧ (rhssGo l m n ≤ m → n + rhsN l ≤ rhssGo l m n)
  | [], m, n, h0, h1, h2, h3 => by simp only [rhssGo, rhsW, rhsN]; omega
  | x :: l, m, n, h0, h1, h2, h3 => by
    simp only [rhsW] at h3
    rw [rhssGo]
    split
    · have g1 := rhs_go x m n (by omega) (by omega) (by omega) (by omega)
      have g2 := rhss_go l m (x.step m n) (by omega) (by omega) (by omega) (by omega)
      simp only [rhsW, rhsN]; omega
    · simp only [rhsW, rhsN]; omega
theorem arm_go : ∀ (t : Arm) (m n : Int), 0 ≤ n → n ≤ m → m ≤ 4398046511104 → n + t.w ≤ 4398046511104 → n ≤ t.step m n ∧ t.step m n ≤ n + t.w ∧ (t.step m n ≤ m → n + t.n ≤ t.step m n)
  | .mk cn ns bd, m, n, h0, h1, h2, h3 => by
    have hl := txtW_len ns
    rw [Arm.n, Arm.step]
    rw [Arm.w] at h3 ⊢
    simp (disch := omega) only [wr]
    have g5 := gst_go (n := n + 1 + ns.length) (m := m) (fun m => expsGo bd m 0) (expW bd) (expN bd) (by omega) (by omega) (by omega) fun hv => by simpa using exps_go bd (m - (n + 1 + ns.length)) 0 (by omega) (by omega) (by omega) (by omega)
    omega
theorem arms_go : ∀ (l : List Arm) (m n : Int), -1 ≤ m → m ≤ 4398046511104 → 0 ≤ n → n + armW l ≤ 4398046511104 → n ≤ armGo l m n ∧ armGo l m n ≤ n + armW l ∧ (armGo l m n ≤ m → n + armN l ≤ armGo l m n)
  | [], m, n, h0, h1, h2, h3 => by simp only [armGo, armW, armN]; omega
  | x :: l, m, n, h0, h1, h2, h3 => by
    simp only [armW] at h3
    rw [armGo]
    split
    · have g1 := arm_go x m n (by omega) (by omega) (by omega) (by omega)
      have g2 := arms_go l m (x.step m n) (by omega) (by omega) (by omega) (by omega)
      simp only [armW, armN]; omega
    · simp only [armW, armN]; omega
end
theorem great_n {e : Exp} (hw : e.w ≤ 4000000000) (h : ¬ expsGo [e] 2000 0 > 2000) : e.n ≤ 2000 := by
  have hW : expW [e] = e.w := by simp [expW]
  have := exps_go [e] 2000 0 (by omega) (by omega) (by omega) (by omega)
  simp only [expN] at this
  omega
theorem Trm.cnt_le : ∀ t : Trm, t.cnt ≤ t.n := by
  have key : ∀ n : Nat, (∀ t : Trm, t.n ≤ n → t.cnt ≤ t.n) ∧ ∀ l : List Trm, trmN l ≤ n → trmCs l ≤ trmN l := by
    intro n
    induction n with
    | zero =>
      refine ⟨fun t ht => absurd t.n_pos (by omega), fun l hl => ?_⟩
      cases l with
      | nil => exact Nat.le_refl _
      | cons t l => have := t.n_pos; simp only [trmN] at hl; omega
    | succ n ih =>
      have h1 : ∀ t : Trm, t.n ≤ n + 1 → t.cnt ≤ t.n := by
        intro t ht
        obtain ⟨k, nm, ng, dg, ks⟩ := t
        simp only [Trm.n] at ht
        have := ih.2 ks (by omega)
        simp only [Trm.cnt, Trm.n]; omega
      refine ⟨h1, fun l => ?_⟩
      induction l with
      | nil => exact fun _ => Nat.le_refl _
      | cons t l ihl =>
        intro hl
        simp only [trmN] at hl
        have := h1 t (by omega)
        have := ihl (by omega)
        simp only [trmCs, trmN]; omega
  exact fun t => (key t.n).1 t (Nat.le_refl _)
theorem trmCs_n : ∀ l : List Trm, trmCs l ≤ trmN l
  | [] => Nat.le_refl _
  | t :: l => by have := t.cnt_le; have := trmCs_n l; simp only [trmCs, trmN]; omega
mutual
theorem Ty.c_le : ∀ t : Ty, t.c ≤ t.n
  | .mk fn st rf ps rs => by have := rf.cnt_le; have := prmC_le ps; have := tyC_le rs; rw [Ty.c_eq, Ty.n_eq]; omega
theorem tyC_le : ∀ l : List Ty, tyC l ≤ tyN l
  | [] => Nat.le_refl _
  | x :: l => by have := x.c_le; have := tyC_le l; simp only [tyC, tyN]; omega
theorem Prm.c_le : ∀ t : Prm, t.c ≤ t.n
  | .mk nm ty => by have := ty.c_le; rw [Prm.c_eq, Prm.n_eq]; omega
theorem prmC_le : ∀ l : List Prm, prmC l ≤ prmN l
  | [] => Nat.le_refl _
  | x :: l => by have := x.c_le; have := prmC_le l; simp only [prmC, prmN]; omega
end
mutual
theorem Exp.c_le : ∀ t : Exp, t.c ≤ t.n
  | .mk k nm ty rh am ar bd => by have := tyC_le ty; have := rhsC_le rh; have := armC_le ar; have := expC_le bd; rw [Exp.c, Exp.n_eq]; omega
theorem expC_le : ∀ l : List Exp, expC l ≤ expN l
  | [] => Nat.le_refl _
  | x :: l => by have := x.c_le; have := expC_le l; simp only [expC, expN]; omega
theorem Rhs.c_le : ∀ t : Rhs, t.c ≤ t.n
  | .mk k nm ats ps rs bd ts => by have := prmC_le ps; have := tyC_le rs; have := expC_le bd; have := trmCs_n ts; rw [Rhs.c, Rhs.n]; omega
theorem rhsC_le : ∀ l : List Rhs, rhsC l ≤ rhsN l
  | [] => Nat.le_refl _
  | x :: l => by have := x.c_le; have := rhsC_le l; simp only [rhsC, rhsN]; omega
theorem Arm.c_le : ∀ t : Arm, t.c ≤ t.n
  | .mk cn ns bd => by have := expC_le bd; rw [Arm.c, Arm.n]; omega
theorem armC_le : ∀ l : List Arm, armC l ≤ armN l
  | [] => Nat.le_refl _
  | x :: l => by have := x.c_le; have := armC_le l; simp only [armC, armN]; omega
end
def MkE.Low (m : MkE) : Prop := ∀ a ∈ m.atoms, a.n ≤ 102 ∧ a.w ≤ 4194304 ∧ a.toT.w ≤ 4194304
variable {m : MkE}
theorem MkE.Low.ts (h : m.Low) : ∀ x ∈ m.e.ts, x.n ≤ 102 ∧ x.w ≤ 4194304 ∧ x.cnt = 1 := by
  intro x hx
  obtain ⟨a, ha, rfl⟩ := List.mem_map.1 hx
  have := h a (List.mem_of_mem_take ha)
  exact ⟨Nat.le_trans a.toT_n this.1, this.2.2, a.toT_cnt⟩
mutual
theorem put_t (h : m.Low) : ∀ t : Trm, (m.e.put t).n ≤ 102 * t.n ∧ (m.e.put t).w ≤ t.w + 4194304 * t.n ∧ (m.e.put t).cnt ≤ t.cnt
  | .mk k nm ng dg ks => by
    rw [EnvT.put]
    split
    · rename_i x hx
      have := h.ts x (EnvT.find_mem hx)
      simp only [Trm.n, Trm.w, Trm.cnt]; omega
    · have := put_ts h ks
      simp only [Trm.n, Trm.w, Trm.cnt]; omega
theorem put_ts (h : m.Low) : ∀ l : List Trm, trmN (m.e.puts l) ≤ 102 * trmN l ∧ trmW (m.e.puts l) ≤ trmW l + 4194304 * trmN l ∧ trmCs (m.e.puts l) ≤ trmCs l
  | [] => by simp [EnvT.puts, trmN, trmW, trmCs]
  | t :: l => by have := put_t h t; have := put_ts h l; simp only [EnvT.puts, trmN, trmW, trmCs]; omega
end
mutual
theorem put_y (h : m.Low) : ∀ t : Ty, (m.putY t).n ≤ 102 * t.n ∧ (m.putY t).w ≤ t.w + 4194304 * t.n ∧ (m.putY t).c ≤ t.c
  | .mk fn st rf ps rs => by
    have := put_t h rf; have := put_ps h ps; have := put_ys h rs
    rw [MkE.putY, Ty.n_eq, Ty.n_eq, Ty.c_eq, Ty.c_eq, Ty.w, Ty.w]; omega
theorem put_ys (h : m.Low) : ∀ l : List Ty, tyN (m.putYs l) ≤ 102 * tyN l ∧ tyW (m.putYs l) ≤ tyW l + 4194304 * tyN l ∧ tyC (m.putYs l) ≤ tyC l
  | [] => by simp [MkE.putYs, tyN, tyW, tyC]
  | t :: l => by have := put_y h t; have := put_ys h l; simp only [MkE.putYs, tyN, tyW, tyC]; omega
theorem put_p (h : m.Low) : ∀ t : Prm, (m.putP t).n ≤ 102 * t.n ∧ (m.putP t).w ≤ t.w + 4194304 * t.n ∧ (m.putP t).c ≤ t.c
  | .mk nm ty => by
    have := put_y h ty
    rw [MkE.putP, Prm.n_eq, Prm.n_eq, Prm.c_eq, Prm.c_eq, Prm.w, Prm.w]; omega
theorem put_ps (h : m.Low) : ∀ l : List Prm, prmN (m.putPs l) ≤ 102 * prmN l ∧ prmW (m.putPs l) ≤ prmW l + 4194304 * prmN l ∧ prmC (m.putPs l) ≤ prmC l
  | [] => by simp [MkE.putPs, prmN, prmW, prmC]
  | t :: l => by have := put_p h t; have := put_ps h l; simp only [MkE.putPs, prmN, prmW, prmC]; omega
end
theorem put_a (h : m.Low) : ∀ t : Atm, (m.a2.put t).n ≤ 102 * t.n ∧ (m.a2.put t).w ≤ t.w + 4194304 * t.n
  | .mk k nm ng dg tr => by
    rw [A2.put_eq]
    split
    · cases hs : seek m.a2.names m.a2.atoms nm m.a2.k with
      | none => simp only [Option.getD_none, Atm.n, Atm.w]; omega
      | some x => have := h x (seek_mem hs); show x.n ≤ 102 * (1 + dg.length) ∧ x.w ≤ (1 + nm.size + dg.length) + 4194304 * (1 + dg.length); omega
    · simp only [Atm.n, Atm.w]; omega
theorem put_as (h : m.Low) : ∀ l : List Atm, atmN (m.putAs l) ≤ 102 * atmN l ∧ atmW (m.putAs l) ≤ atmW l + 4194304 * atmN l
  | [] => by simp [MkE.putAs, atmN, atmW]
  | t :: l => by have := put_a h t; have := put_as h l; simp only [MkE.putAs, List.map_cons, atmN, atmW] at *; omega
mutual
theorem put_x (h : m.Low) : ∀ t : Exp, (m.putE t).n ≤ 102 * t.n ∧ (m.putE t).w ≤ t.w + 4194304 * t.n ∧ (m.putE t).c ≤ t.c
  | .mk k nm ty rh am ar bd => by
    have := put_ys h ty; have := put_rs h rh; have := put_a h am; have := put_ms h ar; have := put_xs h bd
    rw [MkE.putE, Exp.n_eq, Exp.n_eq, Exp.c, Exp.c, Exp.w, Exp.w]; omega
theorem put_xs (h : m.Low) : ∀ l : List Exp, expN (m.putEs l) ≤ 102 * expN l ∧ expW (m.putEs l) ≤ expW l + 4194304 * expN l ∧ expC (m.putEs l) ≤ expC l
  | [] => by simp [MkE.putEs, expN, expW, expC]
  | t :: l => by have := put_x h t; have := put_xs h l; simp only [MkE.putEs, expN, expW, expC]; omega
theorem put_r (h : m.Low) : ∀ t : Rhs, (m.putR t).n ≤ 102 * t.n ∧ (m.putR t).w ≤ t.w + 4194304 * t.n ∧ (m.putR t).c ≤ t.c
  | .mk k nm ats ps rs bd ts => by
    have := put_as h ats; have := put_ps h ps; have := put_ys h rs; have := put_xs h bd; have := put_ts h ts
    rw [MkE.putR, Rhs.n, Rhs.n, Rhs.c, Rhs.c, Rhs.w, Rhs.w]; omega
theorem put_rs (h : m.Low) : ∀ l : List Rhs, rhsN (m.putRs l) ≤ 102 * rhsN l ∧ rhsW (m.putRs l) ≤ rhsW l + 4194304 * rhsN l ∧ rhsC (m.putRs l) ≤ rhsC l
  | [] => by simp [MkE.putRs, rhsN, rhsW, rhsC]
  | t :: l => by have := put_r h t; have := put_rs h l; simp only [MkE.putRs, rhsN, rhsW, rhsC]; omega
theorem put_m (h : m.Low) : ∀ t : Arm, (m.putM t).n ≤ 102 * t.n ∧ (m.putM t).w ≤ t.w + 4194304 * t.n ∧ (m.putM t).c ≤ t.c
  | .mk cn ns bd => by
    have := put_xs h bd
    rw [MkE.putM, Arm.n, Arm.n, Arm.c, Arm.c, Arm.w, Arm.w]; omega
theorem put_ms (h : m.Low) : ∀ l : List Arm, armN (m.putMs l) ≤ 102 * armN l ∧ armW (m.putMs l) ≤ armW l + 4194304 * armN l ∧ armC (m.putMs l) ≤ armC l
  | [] => by simp [MkE.putMs, armN, armW, armC]
  | t :: l => by have := put_m h t; have := put_ms h l; simp only [MkE.putMs, armN, armW, armC]; omega
end
end
section
open Go.RowKit

variable {S : Sp} {N : Nat}
structure Tw where
  e : Exp
  x : ByteArray
  y : ByteArray
  a : Atm
  b : Atm
abbrev Tw.Pre (t : Tw) : Prop := t.e.w ≤ 4194304 ∧ (t.a.w ≤ 4194304 ∧ t.a.toT.w ≤ 4194304) ∧ (t.b.w ≤ 4194304 ∧ t.b.toT.w ≤ 4194304)
abbrev twiceF : FS := smF (fun t : Tw => [.agg t.e.cs, .lit (.string t.x), .lit (.string t.y), .agg t.a.cs, .agg t.b.cs]) (fun _ => .lit (.bool true)) Tw.Pre (fun _ => 10000000000000) 0
theorem tl (s t : ByteArray) : s.toList = t.toList ↔ s = t := ⟨fun h => eqb_iff.1 ((beqL s t).symm.trans (by simp [h])), fun h => h ▸ rfl⟩
theorem low_of {m : MkE} {L : List Atm} (h : m.atoms = L) (hl : ∀ a ∈ L, a.n ≤ 102 ∧ a.w ≤ 4194304 ∧ a.toT.w ≤ 4194304) : m.Low := by intro a ha; rw [h] at ha; exact hl a ha
theorem W_le (names : List ByteArray) (atoms : List Atm) : (mkOf names atoms).W ≤ 2 * atmN atoms := by
  have h1 := toTs_n (atoms.take (min names.length atoms.length))
  have h2 := atmN_take atoms (min names.length atoms.length)
  show atmN atoms + trmN ((atoms.take (min names.length atoms.length)).map Atm.toT) ≤ _
  omega
theorem call_substX {P : Program} {args : List AV} {σ : Sto} {Q : ARes → Sto → Prop} (e : Exp) (names : List ByteArray) (atoms : List Atm) (r : Exp) (hr : (mkOf names atoms).putE e = r) (h : S.sp 7 = some substEF) (ha : nrmR args = [.agg e.cs, .sl (txtR names) .no, .sl (atmR atoms) .no]) (h1 : e.n ≤ 100000000 ∧ e.c ≤ 20000) (h2 : 0 < names.length ∧ names.length ≤ 1000000000) (h3 : 0 < atoms.length ∧ atmN atoms ≤ 100000000) (hN : 16 * (2 * atmN atoms + e.n) + 15 < N)
    (hq : Q (.ret (.tup [.agg r.cs, .lit (.int .i64 0)])) σ) : CallW P (S.E N) 7 args σ Q :=
  call_substE (Q := Q) ⟨e, names, atoms⟩ h ha ⟨h1, h2.1, h2.2, h3.1, h3.2⟩ (by have := W_le names atoms; show 16 * ((mkOf names atoms).W + e.n) + 15 < N; omega) fun _ => by subst hr; exact hq
theorem tw_inj (a b : Tw) (e : [AV.agg a.e.cs, .lit (.string a.x), .lit (.string a.y), .agg a.a.cs, .agg a.b.cs] = [AV.agg b.e.cs, .lit (.string b.x), .lit (.string b.y), .agg b.a.cs, .agg b.b.cs]) : a = b := by
  obtain ⟨a1, a2, a3, a4, a5⟩ := a; obtain ⟨b1, b2, b3, b4, b5⟩ := b
  simp only [List.cons.injEq, AV.lit.injEq, Value.string.injEq, AV.agg.injEq, and_true] at e
  rw [Exp.inj e.1, e.2.1, e.2.2.1, Atm.inj e.2.2.2.1, Atm.inj e.2.2.2.2]
set_option maxRecDepth 100000 in
set_option maxHeartbeats 2000000 in
theorem twice_w (hc : S.code = codeP Tryz.prog) (hm : S.ms 4 = []) (hW : S.sp 5 = some awakeF) (hG : S.sp 6 = some lgreatF) (hS : S.sp 7 = some substEF) (hE : S.sp 11 = some (sameW (fun t : Exp => .agg t.cs) Exp.w 2)) :
    SmOk Tryz.prog S N 4 (fun t : Tw => [.agg t.e.cs, .lit (.string t.x), .lit (.string t.y), .agg t.a.cs, .agg t.b.cs]) (fun _ => .lit (.bool true)) Tw.Pre (fun _ => 10000000000000) 0 := by
  rintro ⟨e, x, y, a, b⟩ σ ⟨pe, pa, pb⟩ hN
  refine JC.startF (fn := Tryz.f4) (codeOf hc Tryz.func4 rfl (by kernel_rfl)) rfl hm rfl (Nat.le_of_ble_eq_true rfl) fun tm => ?_
  refine CW.hide fun R0 hR0 => ?_
  dsimp only at hN
  dsimp only at pe pa pb
  have hexp : expW [e] = e.w := by simp [expW]
  have hen : expN [e] ≤ e.w := by
    have := exps_go [e] 4398046511104 0 (by omega) (by omega) (by omega) (by omega)
    omega
  rcases ha : a with ⟨ak, anm, ang, adg, atr⟩
  rcases hb : b with ⟨bk, bnm, bng, bdg, btr⟩
  have hac : a.cs = [.lit (.int .u8 ak), .lit (.string anm), .lit (.bool ang), .sl (limR adg) .no, .lit (.bool atr)] := by rw [ha]; rfl
  have hbc : b.cs = [.lit (.int .u8 bk), .lit (.string bnm), .lit (.bool bng), .sl (limR bdg) .no, .lit (.bool btr)] := by rw [hb]; rfl
  rw [← ha, ← hb]
  simp only [hac, hbc]
  have hal : adg.length ≤ 4194304 := by have := pa.1; rw [ha] at this; simp only [Atm.w] at this; omega
  have hbl : bdg.length ≤ 4194304 := by have := pb.1; rw [hb] at this; simp only [Atm.w] at this; omega
  have hwl : IntKind.i64.wrap ((adg.length : Int) + bdg.length) = (adg.length : Int) + bdg.length := wr (by omega) (by omega)
  refine CW.seqK fun K hK => CW.region ?_
  simp (maxDischargeDepth := 16) [symX, List.length_set, Exp.len, Exp.tk, Exp.put, Atm.len, Atm.tk, Atm.put]
  refine hK _ _ ?_; clear hK K
  refine CW.seqK fun K hK => ?_
  refine CW.seqK fun K2 hK2 => CW.region ?_
  simp (maxDischargeDepth := 16) [symX, List.length_set]
  refine call_sm () hW lyes_inj (by simp only [nrmR]) trivial (by omega) fun _ => ?_
  simp (maxDischargeDepth := 16) [symX, List.length_set]
  refine hK2 _ _ ?_
  refine CW.cond (t := false) (by simp [evx_tmp, symF, lk]) ?_
  refine CW.skip (hK _ _ ?_); clear hK2 K2 hK K
  refine CW.seqK fun K hK => ?_
  have rest : ¬ expsGo [e] 2000 0 > 2000 → ¬ (adg.length : Int) + bdg.length > 100 → x ≠ y → ¬ (ak = 1 ∧ anm = y) → ∀ (fr : List (Nat × AV)) (tm : List AV), sub [(1, .lit (.string x)), (2, .lit (.string y)), (5, .ptr σ.length 0), (8, .ptr (σ.length + 1) 0), (9, .ptr (σ.length + 2) 0), (10, .lit (.bool false))] fr → K (fm 131 fr tm) (σ ++ [.cells e.cs 34, .cells a.cs 30, .cells b.cs 30]) := by
    intro hg2 hd' hxy hna fr tm hs
    refine hK _ _ ?_
    rw [fm_sub hs]
    have hen2 : e.n ≤ 2000 := great_n (by omega) hg2
    have hcn := e.c_le
    have han : a.n ≤ 102 := by rw [ha]; simp only [Atm.n]; omega
    have hbn : b.n ≤ 102 := by rw [hb]; simp only [Atm.n]; omega
    have low1 : (mkOf [x] [a]).Low := low_of rfl (fun c h => by rw [List.mem_singleton.1 h]; exact ⟨han, pa.1, pa.2⟩)
    have low2 : (mkOf [x, y] [a, b]).Low := low_of rfl (fun c h => (List.mem_cons.1 h).elim (fun h => by rw [h]; exact ⟨han, pa.1, pa.2⟩) fun h => by rw [List.mem_singleton.1 h]; exact ⟨hbn, pb.1, pb.2⟩)
    have hf := put_x low1 e
    have hj := put_x low2 e
    have htw := twice_law (b := b) hxy (a := a) (fun k nm ng dg tr h hk h2 => hna (by rw [ha] at h; injection h with h3 h4; exact ⟨h3.trans hk, h4.trans h2.symm⟩)) e
    generalize hfd : (mkOf [x] [a]).putE e = f at hf htw
    generalize hjd : (mkOf [x, y] [a, b]).putE e = j at hj htw
    clear low1 low2
    have hc1 : ∀ (t1 t2 : Tok) (σ2 : Sto) (Q : ARes → Sto → Prop), Q (.ret (.tup [.agg f.cs, .lit (.int .i64 0)])) σ2 → CallW Tryz.prog (S.E N) 7 [.agg e.cs, .sl [[.lit (.string x)]] t1, .sl [a.cs] t2] σ2 Q := fun t1 t2 σ2 Q hq => call_substX e [x] [a] f hfd hS (by simp [nrmR, AV.nrm, nrmRR, Exp.nrm, txtR, atmR, Atm.nrm]) ⟨by omega, by omega⟩ ⟨by simp, by simp⟩ ⟨by simp, by simp only [atmN]; omega⟩ (by simp only [atmN]; omega) hq
    have hc2 : ∀ (t1 t2 : Tok) (σ2 : Sto) (Q : ARes → Sto → Prop), Q (.ret (.tup [.agg j.cs, .lit (.int .i64 0)])) σ2 → CallW Tryz.prog (S.E N) 7 [.agg f.cs, .sl [[.lit (.string y)]] t1, .sl [b.cs] t2] σ2 Q := fun t1 t2 σ2 Q hq => call_substX f [y] [b] j htw.1 hS (by simp [nrmR, AV.nrm, nrmRR, Exp.nrm, txtR, atmR, Atm.nrm]) ⟨by omega, by omega⟩ ⟨by simp, by simp⟩ ⟨by simp, by simp only [atmN]; omega⟩ (by simp only [atmN]; omega) hq
    have hc3 : ∀ (t1 t2 : Tok) (σ2 : Sto) (Q : ARes → Sto → Prop), Q (.ret (.tup [.agg j.cs, .lit (.int .i64 0)])) σ2 → CallW Tryz.prog (S.E N) 7 [.agg e.cs, .sl [[.lit (.string x)], [.lit (.string y)]] t1, .sl [a.cs, b.cs] t2] σ2 Q := fun t1 t2 σ2 Q hq => call_substX e [x, y] [a, b] j hjd hS (by simp [nrmR, AV.nrm, nrmRR, Exp.nrm, txtR, atmR, Atm.nrm]) ⟨by omega, by omega⟩ ⟨by simp, by simp⟩ ⟨by simp, by simp only [atmN]; omega⟩ (by simp only [atmN]; omega) hq
    have hc4 : ∀ (t1 t2 : Tok) (σ2 : Sto) (Q : ARes → Sto → Prop), Q (.ret (.tup [.agg j.cs, .lit (.int .i64 0)])) σ2 → CallW Tryz.prog (S.E N) 7 [.agg e.cs, .sl [[.lit (.string y)], [.lit (.string x)]] t1, .sl [b.cs, a.cs] t2] σ2 Q := fun t1 t2 σ2 Q hq => call_substX e [y, x] [b, a] j htw.2 hS (by simp [nrmR, AV.nrm, nrmRR, Exp.nrm, txtR, atmR, Atm.nrm]) ⟨by omega, by omega⟩ ⟨by simp, by simp⟩ ⟨by simp, by simp only [atmN]; omega⟩ (by simp only [atmN]; omega) hq
    have hc5 : ∀ (σ2 : Sto) (Q : ARes → Sto → Prop), Q (.ret (.lit (.bool true))) σ2 → CallW Tryz.prog (S.E N) 11 [.agg j.cs, .agg j.cs] σ2 Q := fun σ2 Q hq => call_sameW j j hE (agg_inj Exp.inj) (by simp only [nrmR, AV.nrm, Exp.nrm]) (by omega) (by omega) (by omega) fun _ => by rw [eqb_self]; exact hq
    have el := e.len; have et := e.tk; have ep := fun z => e.put (z := z)
    have fl := f.len; have ft := f.tk; have fp := fun z => f.put (z := z)
    have jl := j.len; have jt := j.tk; have jp := fun z => j.put (z := z)
    clear hf hj htw hfd hjd hen2 hcn han hbn
    generalize e.cs = ec at *
    generalize f.cs = fc at *
    generalize j.cs = jc at *
    simp only [hac, hbc] at hc1 hc2 hc3 hc4 ⊢
    generalize limR adg = dga at hc1 hc2 hc3 hc4 ⊢
    generalize limR bdg = dgb at hc1 hc2 hc3 hc4 ⊢
    refine CW.seqK fun K5 hK5 => CW.region ?_
    simp (maxDischargeDepth := 16) [symX, List.length_set, el, et, ep, fl, ft, fp, jl, jt, jp]
    refine hc1 _ _ _ _ ?_
    simp (maxDischargeDepth := 16) [symX, List.length_set, el, et, ep, fl, ft, fp, jl, jt, jp]
    refine hK5 _ _ ?_; clear hK5 K5
    refine CW.seqK fun K5 hK5 => CW.region ?_
    simp (maxDischargeDepth := 16) [symX, List.length_set, el, et, ep, fl, ft, fp, jl, jt, jp]
    refine hc2 _ _ _ _ ?_
    simp (maxDischargeDepth := 16) [symX, List.length_set, el, et, ep, fl, ft, fp, jl, jt, jp]
    refine hK5 _ _ ?_; clear hK5 K5
    refine CW.seqK fun K5 hK5 => CW.region ?_
    simp (maxDischargeDepth := 16) [symX, List.length_set, el, et, ep, fl, ft, fp, jl, jt, jp]
    refine hc3 _ _ _ _ ?_
    simp (maxDischargeDepth := 16) [symX, List.length_set, el, et, ep, fl, ft, fp, jl, jt, jp]
    refine hK5 _ _ ?_; clear hK5 K5
    refine CW.seqK fun K5 hK5 => CW.region ?_
    simp (maxDischargeDepth := 16) [symX, List.length_set, el, et, ep, fl, ft, fp, jl, jt, jp]
    refine hc4 _ _ _ _ ?_
    simp (maxDischargeDepth := 16) [symX, List.length_set, el, et, ep, fl, ft, fp, jl, jt, jp]
    refine hK5 _ _ ?_; clear hK5 K5
    refine CW.seqK fun K5 hK5 => ?_
    refine CW.seqK fun K hK => CW.region ?_
    simp (maxDischargeDepth := 16) [symX, List.length_set]
    refine hK _ _ ?_; clear hK K
    refine CW.cond (t := false) (by simp [evx_tmp, symF, lk]) ?_
    refine CW.skip (hK5 _ _ ?_); clear hK5 K5
    refine CW.seqK fun K5 hK5 => CW.region ?_
    simp (maxDischargeDepth := 16) [symX, List.length_set, el, et, ep, fl, ft, fp, jl, jt, jp]
    refine hc5 _ _ ?_
    simp (maxDischargeDepth := 16) [symX, List.length_set, el, et, ep, fl, ft, fp, jl, jt, jp]
    refine hc5 _ _ ?_
    simp (maxDischargeDepth := 16) [symX, List.length_set, el, et, ep, fl, ft, fp, jl, jt, jp]
    refine hK5 _ _ ?_; clear hK5 K5
    exact CW.ret (hR0 _ _ _ ⟨.lit (.bool true), by simp [resultsA, omap, res_tmp, symF, lk], done rfl rfl⟩)
  simp only [hac, hbc] at rest
  have call : ∀ (Q : ARes → Sto → Prop) (σ2 : Sto) (tok : Tok), (∀ v, v = decide (expsGo [e] 2000 0 > 2000) → Q (.ret (.lit (.bool v))) σ2) → CallW Tryz.prog (S.E N) 6 [.sl [e.cs] tok] σ2 Q := fun Q σ2 tok h => call_sm [e] hG lgreat_inj (by simp [nrmR, AV.nrm, nrmRR, Exp.nrm, expR]) ⟨by simp, expSm_of _ (by omega)⟩ (by omega) fun _ => h _ rfl
  refine CW.seqK fun K2 hK2 => CW.region ?_
  simp (maxDischargeDepth := 16) [symX, List.length_set, Exp.len, Exp.tk, Exp.put]
  refine call _ _ _ fun g hg => ?_
  cases g with
  | true =>
    simp (maxDischargeDepth := 16) [symX, List.length_set, hwl]
    refine hK2 _ _ ?_
    refine CW.cond (t := true) (by simp [evx_tmp, symF, lk]) ?_
    refine CW.seqK fun K hK => CW.region ?_
    simp (maxDischargeDepth := 16) [symX, List.length_set]
    refine hK _ _ ?_; clear hK K
    exact CW.ret (hR0 _ _ _ ⟨.lit (.bool true), by simp [resultsA, omap, res_tmp, symF, lk], done rfl rfl⟩)
  | false =>
    have hg2 := of_decide_eq_false hg.symm
    rcases Int.lt_or_le 100 ((adg.length : Int) + bdg.length) with hd | hd
    · simp (maxDischargeDepth := 16) [symX, List.length_set, hwl, hd, limR_len]
      refine hK2 _ _ ?_
      refine CW.cond (t := true) (by simp [evx_tmp, symF, lk, hd]) ?_
      refine CW.seqK fun K hK => CW.region ?_
      simp (maxDischargeDepth := 16) [symX, List.length_set]
      refine hK _ _ ?_; clear hK K
      exact CW.ret (hR0 _ _ _ ⟨.lit (.bool true), by simp [resultsA, omap, res_tmp, symF, lk], done rfl rfl⟩)
    have hd' := Int.not_lt.2 hd
    rcases Classical.em (x = y) with hxy | hxy
    · simp (maxDischargeDepth := 16) [symX, List.length_set, hwl, hd', limR_len, tl, hxy]
      refine hK2 _ _ ?_
      refine CW.cond (t := true) (by simp [evx_tmp, symF, lk, tl, hxy]) ?_
      refine CW.seqK fun K hK => CW.region ?_
      simp (maxDischargeDepth := 16) [symX, List.length_set]
      refine hK _ _ ?_; clear hK K
      exact CW.ret (hR0 _ _ _ ⟨.lit (.bool true), by simp [resultsA, omap, res_tmp, symF, lk], done rfl rfl⟩)
    rcases Classical.em (ak = 1) with ha1 | ha1
    · rcases Classical.em (anm = y) with ha2 | ha2
      · simp (maxDischargeDepth := 16) [symX, List.length_set, hwl, hd', limR_len, tl, hxy, ha1, ha2]
        refine hK2 _ _ ?_
        refine CW.cond (t := true) (by simp [evx_tmp, symF, lk, tl, ha1, ha2]) ?_
        refine CW.seqK fun K hK => CW.region ?_
        simp (maxDischargeDepth := 16) [symX, List.length_set]
        refine hK _ _ ?_; clear hK K
        exact CW.ret (hR0 _ _ _ ⟨.lit (.bool true), by simp [resultsA, omap, res_tmp, symF, lk], done rfl rfl⟩)
      have hna : ¬ (ak = 1 ∧ anm = y) := fun h => ha2 h.2
      rcases Classical.em (bk = 1) with hb1 | hb1
      · rcases Classical.em (bnm = x) with hb2 | hb2
        · simp (maxDischargeDepth := 16) [symX, List.length_set, hwl, hd', limR_len, tl, hxy, ha1, ha2, hb1, hb2]
          refine hK2 _ _ ?_
          refine CW.cond (t := true) (by simp [evx_tmp, symF, lk, tl, ha1, ha2, hb1, hb2]) ?_
          refine CW.seqK fun K hK => CW.region ?_
          simp (maxDischargeDepth := 16) [symX, List.length_set]
          refine hK _ _ ?_; clear hK K
          exact CW.ret (hR0 _ _ _ ⟨.lit (.bool true), by simp [resultsA, omap, res_tmp, symF, lk], done rfl rfl⟩)
        · have ha1' := eq_true ha1
          have hb1' := eq_true hb1
          simp (maxDischargeDepth := 16) [symX, List.length_set, hwl, hd', limR_len, tl, hxy, ha1', ha2, hb1', hb2]
          refine hK2 _ _ ?_
          refine CW.cond (t := false) (by simp [evx_tmp, symF, lk, tl, ha1', ha2, hb1', hb2]) ?_
          refine CW.skip (rest hg2 hd' hxy hna _ _ ?_)
          simp [sub, lk, hac, hbc]
      · have ha1' := eq_true ha1
        simp (maxDischargeDepth := 16) [symX, List.length_set, hwl, hd', limR_len, tl, hxy, ha1', ha2, hb1]
        refine hK2 _ _ ?_
        refine CW.cond (t := false) (by simp [evx_tmp, symF, lk, tl, ha1', ha2, hb1]) ?_
        refine CW.skip (rest hg2 hd' hxy hna _ _ ?_)
        simp [sub, lk, hac, hbc]
    have hna : ¬ (ak = 1 ∧ anm = y) := fun h => ha1 h.1
    rcases Classical.em (bk = 1) with hb1 | hb1
    · rcases Classical.em (bnm = x) with hb2 | hb2
      · simp (maxDischargeDepth := 16) [symX, List.length_set, hwl, hd', limR_len, tl, hxy, ha1, hb1, hb2]
        refine hK2 _ _ ?_
        refine CW.cond (t := true) (by simp [evx_tmp, symF, lk, tl, ha1, hb1, hb2]) ?_
        refine CW.seqK fun K hK => CW.region ?_
        simp (maxDischargeDepth := 16) [symX, List.length_set]
        refine hK _ _ ?_; clear hK K
        exact CW.ret (hR0 _ _ _ ⟨.lit (.bool true), by simp [resultsA, omap, res_tmp, symF, lk], done rfl rfl⟩)
      · have hb1' := eq_true hb1
        simp (maxDischargeDepth := 16) [symX, List.length_set, hwl, hd', limR_len, tl, hxy, ha1, hb1', hb2]
        refine hK2 _ _ ?_
        refine CW.cond (t := false) (by simp [evx_tmp, symF, lk, tl, ha1, hb1', hb2]) ?_
        refine CW.skip (rest hg2 hd' hxy hna _ _ ?_)
        simp [sub, lk, hac, hbc]
    · simp (maxDischargeDepth := 16) [symX, List.length_set, hwl, hd', limR_len, tl, hxy, ha1, hb1]
      refine hK2 _ _ ?_
      refine CW.cond (t := false) (by simp [evx_tmp, symF, lk, tl, ha1, hb1]) ?_
      refine CW.skip (rest hg2 hd' hxy hna _ _ ?_)
      simp [sub, lk, hac, hbc]
end
end Go.Proofs.YtncoidmbmihliaaGreatDoor
