/-
 EV: AN ARGUMENT AS THE STATEMENT READS IT, as inductive data (printed by gen_opn.py): terms, types, params, atoms, expressions, right sides, arms.
-/
import Derived.Test.YteajcnilihgheaaGreatDoorTSpFM
import Derived.Test.YteajcnilihgheaaGreatDoorRnWM
import Derived.Test.YteajcnilihgheaaGreatDoorRows
namespace Go.Proofs.YteajcnilihgheaaGreatDoor
set_option linter.unusedSimpArgs false
set_option linter.unusedVariables false
open Go.RowKit
section
variable {H : Type}
theorem op_str {n : Nat} {d : DataW H} {acs : List AV} (h : avOf Tryz.prog n 9 d = some acs) : ∃ x : ByteArray, acs = [.lit (.string x)] ∧ x.size + 1 ≤ Rows.uptoBulk d := by
 cases n with
 | zero => simp [avOf] at h
 | succ n =>
  unfold avOf at h; simp only [Tryz.underlying9] at h
  cases d with
  | lit l =>
   cases l with
   | string b => simp at h; subst h; exact ⟨⟨b.toArray⟩, rfl, by simp [Rows.uptoBulk, ByteArray.size]⟩
   | _ => simp at h
  | _ => simp at h
theorem op_bool {n : Nat} {d : DataW H} {acs : List AV} (h : avOf Tryz.prog n 4 d = some acs) : ∃ x : Bool, acs = [.lit (.bool x)] ∧ 1 ≤ Rows.uptoBulk d := by
 cases n with
 | zero => simp [avOf] at h
 | succ n =>
  unfold avOf at h; simp only [Tryz.underlying4] at h
  cases d with
  | lit l =>
   cases l with
   | bool b => simp at h; subst h; exact ⟨b, rfl, by simp [Rows.uptoBulk]⟩
   | _ => simp at h
  | _ => simp at h
theorem op_int {n : Nat} {t : TypeId} {k : IntKind} {d : DataW H} {acs : List AV} (ht : Tryz.prog.underlying t = some (.int k)) (h : avOf Tryz.prog n t d = some acs) (hw : wfD Tryz.prog n t d) : ∃ x : Int, acs = [.lit (.int k x)] ∧ (k.min ≤ x ∧ x ≤ k.max) ∧ 1 ≤ Rows.uptoBulk d := by
 cases n with
 | zero => simp [avOf] at h
 | succ n =>
  unfold avOf at h; simp only [ht] at h
  unfold wfD at hw; simp only [ht] at hw
  cases d with
  | lit l =>
   cases l with
   | int k' b =>
    simp at h; subst h
    have hw2 := hw.2
    simp only [Lit.wf, Bool.and_eq_true, decide_eq_true_eq] at hw2
    exact ⟨b, rfl, hw2, by simp [Rows.uptoBulk]⟩
   | _ => simp at h
  | _ => simp at h
theorem op_list {t e : TypeId} (ht : Tryz.prog.underlying t = some (.slice e)) {β : Type} (row : β → List AV) (rows : List β → List (List AV)) (hn : rows [] = []) (hc : ∀ x l, rows (x :: l) = row x :: rows l) (wt : β → Nat) (wts : List β → Nat) (w0 : wts [] = 0) (w1 : ∀ x l, wts (x :: l) = wt x + wts l) (Q : β → Prop) (n : Nat)
    (each : ∀ k, k < n → ∀ (d : DataW H) (acs : List AV), avOf Tryz.prog k e d = some acs → wfD Tryz.prog k e d → ∃ x, acs = row x ∧ wt x ≤ Rows.uptoBulk d ∧ Q x) (d : DataW H) (acs : List AV) (h : avOf Tryz.prog n t d = some acs) (hw : wfD Tryz.prog n t d) :
    ∃ l : List β, acs = [.sl (rows l) .no] ∧ wts l + 1 ≤ Rows.uptoBulk d ∧ ∀ x ∈ l, Q x := by
 cases n with
 | zero => simp [avOf] at h
 | succ n =>
  unfold avOf at h; simp only [ht] at h
  unfold wfD at hw; simp only [ht] at hw
  cases d with
  | nil => simp at h; subst h; exact ⟨[], by rw [hn], by simp [w0, Rows.uptoBulk], by simp⟩
  | slice elems spare =>
   simp at h
   obtain ⟨rs, h1, rfl⟩ := h
   have many : ∀ (elems : List (DataW H)) (rs : List (List AV)), (∀ x ∈ elems, wfD Tryz.prog n e x) → omap (avOf Tryz.prog n e) elems = some rs → ∃ l, rs = rows l ∧ wts l ≤ Rows.uptoBulkAll elems ∧ ∀ x ∈ l, Q x := by
    intro elems
    induction elems with
    | nil => intro rs _ h; simp [omap] at h; subst h; exact ⟨[], hn.symm, by simp [w0], by simp⟩
    | cons a l ih =>
     intro rs hw h
     rw [omap] at h
     split at h
     · rename_i b bs h1 h2
       cases h
       obtain ⟨x, rfl, e1, e2⟩ := each n (Nat.lt_succ_self n) a b h1 (hw a (by simp))
       obtain ⟨xs, rfl, e3, e4⟩ := ih bs (fun x hx => hw x (by simp [hx])) h2
       refine ⟨x :: xs, (hc x xs).symm, ?_, fun y hy => ?_⟩
       · rw [w1, Rows.uptoBulkAll]; omega
       · rcases List.mem_cons.1 hy with rfl | hy
         · exact e2
         · exact e4 y hy
     · cases h
   obtain ⟨l, rfl, e1, e2⟩ := many elems rs hw h1
   exact ⟨l, rfl, by simp only [Rows.uptoBulk]; omega, e2⟩
  | _ => simp at h
theorem op_u8 {n : Nat} {t : TypeId} {d : DataW H} {acs : List AV} (ht : Tryz.prog.underlying t = some (.int .u8)) (h : avOf Tryz.prog n t d = some acs) (hw : wfD Tryz.prog n t d) : ∃ x : Int, acs = [.lit (.int .u8 x)] ∧ (0 ≤ x ∧ x < 256) ∧ 1 ≤ Rows.uptoBulk d := by
 obtain ⟨x, h1, h2, h3⟩ := op_int ht h hw
 have a1 : IntKind.u8.min = 0 := rfl
 have a2 : IntKind.u8.max = 255 := rfl
 exact ⟨x, h1, by omega, h3⟩
theorem op_lims {n : Nat} {d : DataW H} {acs : List AV} (h : avOf Tryz.prog n 25 d = some acs) (hw : wfD Tryz.prog n 25 d) : ∃ l : List Int, acs = [.sl (limR l) .no] ∧ l.length + 1 ≤ Rows.uptoBulk d ∧ ∀ x ∈ l, 0 ≤ x ∧ x < 4294967296 :=
 op_list Tryz.underlying25 (fun x : Int => [.lit (.int .u32 x)]) limR rfl (fun _ _ => rfl) (fun _ => 1) List.length rfl (fun x l => by rw [List.length_cons, Nat.add_comm]) _ n (fun k _ d acs h hw => by
  obtain ⟨x, h1, h2, h3⟩ := op_int Tryz.underlying110 h hw
  have a1 : IntKind.u32.min = 0 := rfl
  have a2 : IntKind.u32.max = 4294967295 := rfl
  exact ⟨x, h1, h3, by omega⟩) d acs h hw
theorem op_txts {n : Nat} {d : DataW H} {acs : List AV} (h : avOf Tryz.prog n 23 d = some acs) (hw : wfD Tryz.prog n 23 d) : ∃ l : List ByteArray, acs = [.sl (txtR l) .no] ∧ txtW l + 1 ≤ Rows.uptoBulk d := by
 obtain ⟨l, h1, h2, _⟩ := op_list Tryz.underlying23 (fun x : ByteArray => [.lit (.string x)]) txtR rfl (fun _ _ => rfl) (fun x => 1 + x.size) txtW rfl (fun x l => rfl) (fun _ => True) n (fun k _ d acs h hw => by
  obtain ⟨x, h1, h2⟩ := op_str h
  exact ⟨x, h1, by omega, trivial⟩) d acs h hw
 exact ⟨l, h1, h2⟩
theorem op_num {n : Nat} {d : DataW H} {acs : List AV} (h : avOf Tryz.prog n 27 d = some acs) (hw : wfD Tryz.prog n 27 d) : ∃ (ng : Bool) (dg : List Int), acs = [.lit (.bool ng), .sl (limR dg) .no] ∧ dg.length + 3 ≤ Rows.uptoBulk d ∧ ∀ x ∈ dg, 0 ≤ x ∧ x < 4294967296 := by
 cases n with
 | zero => simp [avOf] at h
 | succ n =>
  unfold avOf at h; simp only [Tryz.underlying27] at h
  unfold wfD at hw; simp only [Tryz.underlying27] at hw
  cases d with
  | agg parts =>
   dsimp only at h
   obtain ⟨d1, p1, a1, b1, rfl, g1, he1, rfl⟩ := avFields_cons h
   obtain ⟨d2, p2, a2, b2, rfl, g2, he2, rfl⟩ := avFields_cons he1
   obtain ⟨rfl, rfl⟩ := avFields_nil he2
   obtain ⟨w1, w2, _⟩ := hw
   obtain ⟨ng, rfl, l1⟩ := op_bool g1
   obtain ⟨dg, rfl, l2, hr⟩ := op_lims g2 w2
   exact ⟨ng, dg, rfl, by simp only [Rows.uptoBulk, Rows.uptoBulkAll]; omega, hr⟩
  | _ => simp at h
theorem rg_ok {k : Int} {dg : List Int} (hk : 0 ≤ k ∧ k < 256) (hd : ∀ x ∈ dg, 0 ≤ x ∧ x < 4294967296) : rgW k dg = 0 := if_pos ⟨hk, hd⟩
theorem op_trm : ∀ (n : Nat) (d : DataW H) (acs : List AV), avOf Tryz.prog n 30 d = some acs → wfD Tryz.prog n 30 d → ∃ x : Trm, acs = x.cs ∧ x.w ≤ Rows.uptoBulk d := by
 intro n
 induction n using Nat.strongRecOn with
 | ind n ih =>
 intro d acs h hw
 cases n with
 | zero => simp [avOf] at h
 | succ n =>
  unfold avOf at h; simp only [Tryz.underlying30] at h
  unfold wfD at hw; simp only [Tryz.underlying30] at hw
  cases d with
  | agg parts =>
   dsimp only at h
   obtain ⟨d1, p1, a1, b1, rfl, g1, he1, rfl⟩ := avFields_cons h
   obtain ⟨d2, p2, a2, b2, rfl, g2, he2, rfl⟩ := avFields_cons he1
   obtain ⟨d3, p3, a3, b3, rfl, g3, he3, rfl⟩ := avFields_cons he2
   obtain ⟨d4, p4, a4, b4, rfl, g4, he4, rfl⟩ := avFields_cons he3
   obtain ⟨rfl, rfl⟩ := avFields_nil he4
   obtain ⟨w1, w2, w3, w4, _⟩ := hw
   obtain ⟨k, rfl, hk, l1⟩ := op_u8 Tryz.underlying24 g1 w1
   obtain ⟨nm, rfl, l2⟩ := op_str g2
   obtain ⟨ng, dg, rfl, l3, hr⟩ := op_num g3 w3
   obtain ⟨ks, rfl, l4, _⟩ := op_list Tryz.underlying28 Trm.cs trmR rfl (fun _ _ => rfl) Trm.w trmW rfl (fun _ _ => rfl) (fun _ => True) n (fun k hk d acs h hw => by obtain ⟨x, h1, h2⟩ := ih k (by omega) d acs h hw; exact ⟨x, h1, h2, trivial⟩) _ _ g4 w4
   refine ⟨.mk k nm ng dg ks, rfl, ?_⟩
   simp only [Trm.w, rg_ok hk hr, Rows.uptoBulk, Rows.uptoBulkAll]; omega
  | _ => simp at h
theorem op_trms (n : Nat) (d : DataW H) (acs : List AV) (h : avOf Tryz.prog n 28 d = some acs) (hw : wfD Tryz.prog n 28 d) : ∃ x : List Trm, acs = [.sl (trmR x) .no] ∧ trmW x + 1 ≤ Rows.uptoBulk d := by
 obtain ⟨l, h1, h2, _⟩ := op_list Tryz.underlying28 Trm.cs trmR rfl (fun _ _ => rfl) Trm.w trmW rfl (fun _ _ => rfl) (fun _ => True) n (fun k hk d acs h hw => by obtain ⟨x, h1, h2⟩ := op_trm k d acs h hw; exact ⟨x, h1, h2, trivial⟩) _ _ h hw
 exact ⟨l, h1, h2⟩
theorem op_ty : ∀ (n : Nat), (∀ (d : DataW H) (acs : List AV), avOf Tryz.prog n 34 d = some acs → wfD Tryz.prog n 34 d → ∃ x : Ty, acs = x.cs ∧ x.w ≤ Rows.uptoBulk d) ∧ ∀ (d : DataW H) (acs : List AV), avOf Tryz.prog n 37 d = some acs → wfD Tryz.prog n 37 d → ∃ x : Prm, acs = x.cs ∧ x.w ≤ Rows.uptoBulk d := by
 intro n
 induction n using Nat.strongRecOn with
 | ind n ih =>
 refine ⟨fun d acs h hw => ?_, fun d acs h hw => ?_⟩
 · cases n with
   | zero => simp [avOf] at h
   | succ n =>
    unfold avOf at h; simp only [Tryz.underlying34] at h
    unfold wfD at hw; simp only [Tryz.underlying34] at hw
    cases d with
    | agg parts =>
     dsimp only at h
     obtain ⟨d1, p1, a1, b1, rfl, g1, he1, rfl⟩ := avFields_cons h
     obtain ⟨d2, p2, a2, b2, rfl, g2, he2, rfl⟩ := avFields_cons he1
     obtain ⟨d3, p3, a3, b3, rfl, g3, he3, rfl⟩ := avFields_cons he2
     obtain ⟨d4, p4, a4, b4, rfl, g4, he4, rfl⟩ := avFields_cons he3
     obtain ⟨d5, p5, a5, b5, rfl, g5, he5, rfl⟩ := avFields_cons he4
     obtain ⟨rfl, rfl⟩ := avFields_nil he5
     obtain ⟨w1, w2, w3, w4, w5, _⟩ := hw
     obtain ⟨fn, rfl, l1⟩ := op_bool g1
     obtain ⟨st, rfl, l2⟩ := op_str g2
     obtain ⟨rf, rfl, l3⟩ := op_trm _ _ _ g3 w3
     obtain ⟨ps, rfl, l4, _⟩ := op_list Tryz.underlying31 Prm.cs prmR rfl (fun _ _ => rfl) Prm.w prmW rfl (fun _ _ => rfl) (fun _ => True) n (fun k hk d acs h hw => by obtain ⟨x, h1, h2⟩ := (ih k (by omega)).2 d acs h hw; exact ⟨x, h1, h2, trivial⟩) _ _ g4 w4
     obtain ⟨rs, rfl, l5, _⟩ := op_list Tryz.underlying32 Ty.cs tyR rfl (fun _ _ => rfl) Ty.w tyW rfl (fun _ _ => rfl) (fun _ => True) n (fun k hk d acs h hw => by obtain ⟨x, h1, h2⟩ := (ih k (by omega)).1 d acs h hw; exact ⟨x, h1, h2, trivial⟩) _ _ g5 w5
     refine ⟨.mk fn st rf ps rs, by cases rf; rfl, ?_⟩
     simp only [Ty.w, Rows.uptoBulk, Rows.uptoBulkAll]; omega
    | _ => simp at h
 · cases n with
   | zero => simp [avOf] at h
   | succ n =>
    unfold avOf at h; simp only [Tryz.underlying37] at h
    unfold wfD at hw; simp only [Tryz.underlying37] at hw
    cases d with
    | agg parts =>
     dsimp only at h
     obtain ⟨d1, p1, a1, b1, rfl, g1, he1, rfl⟩ := avFields_cons h
     obtain ⟨d2, p2, a2, b2, rfl, g2, he2, rfl⟩ := avFields_cons he1
     obtain ⟨rfl, rfl⟩ := avFields_nil he2
     obtain ⟨w1, w2, _⟩ := hw
     obtain ⟨nm, rfl, l1⟩ := op_str g1
     obtain ⟨ty, rfl, l2⟩ := (ih n (by omega)).1 _ _ g2 w2
     refine ⟨.mk nm ty, by obtain ⟨_, _, ⟨_, _, _, _, _⟩, _, _⟩ := ty; rfl, ?_⟩
     simp only [Prm.w, Rows.uptoBulk, Rows.uptoBulkAll]; omega
    | _ => simp at h
theorem op_tys (n : Nat) (d : DataW H) (acs : List AV) (h : avOf Tryz.prog n 32 d = some acs) (hw : wfD Tryz.prog n 32 d) : ∃ x : List Ty, acs = [.sl (tyR x) .no] ∧ tyW x + 1 ≤ Rows.uptoBulk d := by
 obtain ⟨l, h1, h2, _⟩ := op_list Tryz.underlying32 Ty.cs tyR rfl (fun _ _ => rfl) Ty.w tyW rfl (fun _ _ => rfl) (fun _ => True) n (fun k hk d acs h hw => by obtain ⟨x, h1, h2⟩ := (op_ty k).1 d acs h hw; exact ⟨x, h1, h2, trivial⟩) _ _ h hw
 exact ⟨l, h1, h2⟩
theorem op_prms (n : Nat) (d : DataW H) (acs : List AV) (h : avOf Tryz.prog n 31 d = some acs) (hw : wfD Tryz.prog n 31 d) : ∃ x : List Prm, acs = [.sl (prmR x) .no] ∧ prmW x + 1 ≤ Rows.uptoBulk d := by
 obtain ⟨l, h1, h2, _⟩ := op_list Tryz.underlying31 Prm.cs prmR rfl (fun _ _ => rfl) Prm.w prmW rfl (fun _ _ => rfl) (fun _ => True) n (fun k hk d acs h hw => by obtain ⟨x, h1, h2⟩ := (op_ty k).2 d acs h hw; exact ⟨x, h1, h2, trivial⟩) _ _ h hw
 exact ⟨l, h1, h2⟩
theorem op_atm (n : Nat) (d : DataW H) (acs : List AV) (h : avOf Tryz.prog n 41 d = some acs) (hw : wfD Tryz.prog n 41 d) : ∃ x : Atm, acs = x.cs ∧ x.w ≤ Rows.uptoBulk d := by
 cases n with
 | zero => simp [avOf] at h
 | succ n =>
  unfold avOf at h; simp only [Tryz.underlying41] at h
  unfold wfD at hw; simp only [Tryz.underlying41] at hw
  cases d with
  | agg parts =>
   dsimp only at h
   obtain ⟨d1, p1, a1, b1, rfl, g1, he1, rfl⟩ := avFields_cons h
   obtain ⟨d2, p2, a2, b2, rfl, g2, he2, rfl⟩ := avFields_cons he1
   obtain ⟨d3, p3, a3, b3, rfl, g3, he3, rfl⟩ := avFields_cons he2
   obtain ⟨d4, p4, a4, b4, rfl, g4, he4, rfl⟩ := avFields_cons he3
   obtain ⟨rfl, rfl⟩ := avFields_nil he4
   obtain ⟨w1, w2, w3, w4, _⟩ := hw
   obtain ⟨k, rfl, hk, l1⟩ := op_u8 Tryz.underlying39 g1 w1
   obtain ⟨nm, rfl, l2⟩ := op_str g2
   obtain ⟨ng, dg, rfl, l3, hr⟩ := op_num g3 w3
   obtain ⟨tr, rfl, l4⟩ := op_bool g4
   refine ⟨.mk k nm ng dg tr, rfl, ?_⟩
   simp only [Atm.w, Rows.uptoBulk, Rows.uptoBulkAll]; omega
  | _ => simp at h
theorem op_atms2 (n : Nat) (d : DataW H) (acs : List AV) (h : avOf Tryz.prog n 43 d = some acs) (hw : wfD Tryz.prog n 43 d) : ∃ x : List Atm, acs = [.sl (atmR x) .no] ∧ atmW x + 1 ≤ Rows.uptoBulk d := by
 obtain ⟨l, h1, h2, _⟩ := op_list Tryz.underlying43 Atm.cs atmR rfl (fun _ _ => rfl) Atm.w atmW rfl (fun _ _ => rfl) (fun _ => True) n (fun k hk d acs h hw => by obtain ⟨x, h1, h2⟩ := op_atm k d acs h hw; exact ⟨x, h1, h2, trivial⟩) _ _ h hw
 exact ⟨l, h1, h2⟩
theorem op_exp : ∀ (n : Nat), (∀ (d : DataW H) (acs : List AV), avOf Tryz.prog n 49 d = some acs → wfD Tryz.prog n 49 d → ∃ x : Exp, acs = x.cs ∧ x.w ≤ Rows.uptoBulk d) ∧ (∀ (d : DataW H) (acs : List AV), avOf Tryz.prog n 52 d = some acs → wfD Tryz.prog n 52 d → ∃ x : Rhs, acs = x.cs ∧ x.w ≤ Rows.uptoBulk d) ∧ ∀ (d : DataW H) (acs : List AV), avOf Tryz.prog n 56 d = some acs → wfD Tryz.prog n 56 d → ∃ x : Arm, acs = x.cs ∧ x.w ≤ Rows.uptoBulk d := by
 intro n
 induction n using Nat.strongRecOn with
 | ind n ih =>
 refine ⟨fun d acs h hw => ?_, fun d acs h hw => ?_, fun d acs h hw => ?_⟩
 · cases n with
   | zero => simp [avOf] at h
   | succ n =>
    unfold avOf at h; simp only [Tryz.underlying49] at h
    unfold wfD at hw; simp only [Tryz.underlying49] at hw
    cases d with
    | agg parts =>
     dsimp only at h
     obtain ⟨d1, p1, a1, b1, rfl, g1, he1, rfl⟩ := avFields_cons h
     obtain ⟨d2, p2, a2, b2, rfl, g2, he2, rfl⟩ := avFields_cons he1
     obtain ⟨d3, p3, a3, b3, rfl, g3, he3, rfl⟩ := avFields_cons he2
     obtain ⟨d4, p4, a4, b4, rfl, g4, he4, rfl⟩ := avFields_cons he3
     obtain ⟨d5, p5, a5, b5, rfl, g5, he5, rfl⟩ := avFields_cons he4
     obtain ⟨d6, p6, a6, b6, rfl, g6, he6, rfl⟩ := avFields_cons he5
     obtain ⟨d7, p7, a7, b7, rfl, g7, he7, rfl⟩ := avFields_cons he6
     obtain ⟨rfl, rfl⟩ := avFields_nil he7
     obtain ⟨w1, w2, w3, w4, w5, w6, w7, _⟩ := hw
     obtain ⟨k, rfl, hk, l1⟩ := op_u8 Tryz.underlying44 g1 w1
     obtain ⟨nm, rfl, l2⟩ := op_str g2
     obtain ⟨ty, rfl, l3⟩ := op_tys _ _ _ g3 w3
     obtain ⟨rh, rfl, l4, _⟩ := op_list Tryz.underlying45 Rhs.cs rhsR rfl (fun _ _ => rfl) Rhs.w rhsW rfl (fun _ _ => rfl) (fun _ => True) n (fun k hk d acs h hw => by obtain ⟨x, h1, h2⟩ := (ih k (by omega)).2.1 d acs h hw; exact ⟨x, h1, h2, trivial⟩) _ _ g4 w4
     obtain ⟨am, rfl, l5⟩ := op_atm _ _ _ g5 w5
     obtain ⟨ar, rfl, l6, _⟩ := op_list Tryz.underlying46 Arm.cs armR rfl (fun _ _ => rfl) Arm.w armW rfl (fun _ _ => rfl) (fun _ => True) n (fun k hk d acs h hw => by obtain ⟨x, h1, h2⟩ := (ih k (by omega)).2.2 d acs h hw; exact ⟨x, h1, h2, trivial⟩) _ _ g6 w6
     obtain ⟨bd, rfl, l7, _⟩ := op_list Tryz.underlying47 Exp.cs expR rfl (fun _ _ => rfl) Exp.w expW rfl (fun _ _ => rfl) (fun _ => True) n (fun k hk d acs h hw => by obtain ⟨x, h1, h2⟩ := (ih k (by omega)).1 d acs h hw; exact ⟨x, h1, h2, trivial⟩) _ _ g7 w7
     refine ⟨.mk k nm ty rh am ar bd, by cases am; rfl, ?_⟩
     simp only [Exp.w, Rows.uptoBulk, Rows.uptoBulkAll]; omega
    | _ => simp at h
 · cases n with
   | zero => simp [avOf] at h
   | succ n =>
    unfold avOf at h; simp only [Tryz.underlying52] at h
    unfold wfD at hw; simp only [Tryz.underlying52] at hw
    cases d with
    | agg parts =>
     dsimp only at h
     obtain ⟨d1, p1, a1, b1, rfl, g1, he1, rfl⟩ := avFields_cons h
     obtain ⟨d2, p2, a2, b2, rfl, g2, he2, rfl⟩ := avFields_cons he1
     obtain ⟨d3, p3, a3, b3, rfl, g3, he3, rfl⟩ := avFields_cons he2
     obtain ⟨d4, p4, a4, b4, rfl, g4, he4, rfl⟩ := avFields_cons he3
     obtain ⟨d5, p5, a5, b5, rfl, g5, he5, rfl⟩ := avFields_cons he4
     obtain ⟨d6, p6, a6, b6, rfl, g6, he6, rfl⟩ := avFields_cons he5
     obtain ⟨d7, p7, a7, b7, rfl, g7, he7, rfl⟩ := avFields_cons he6
     obtain ⟨rfl, rfl⟩ := avFields_nil he7
     obtain ⟨w1, w2, w3, w4, w5, w6, w7, _⟩ := hw
     obtain ⟨k, rfl, hk, l1⟩ := op_u8 Tryz.underlying38 g1 w1
     obtain ⟨nm, rfl, l2⟩ := op_str g2
     obtain ⟨ats, rfl, l3⟩ := op_atms2 _ _ _ g3 w3
     obtain ⟨ps, rfl, l4⟩ := op_prms _ _ _ g4 w4
     obtain ⟨rs, rfl, l5⟩ := op_tys _ _ _ g5 w5
     obtain ⟨bd, rfl, l6, _⟩ := op_list Tryz.underlying47 Exp.cs expR rfl (fun _ _ => rfl) Exp.w expW rfl (fun _ _ => rfl) (fun _ => True) n (fun k hk d acs h hw => by obtain ⟨x, h1, h2⟩ := (ih k (by omega)).1 d acs h hw; exact ⟨x, h1, h2, trivial⟩) _ _ g6 w6
     obtain ⟨ts, rfl, l7⟩ := op_trms _ _ _ g7 w7
     refine ⟨.mk k nm ats ps rs bd ts, rfl, ?_⟩
     simp only [Rhs.w, Rows.uptoBulk, Rows.uptoBulkAll]; omega
    | _ => simp at h
 · cases n with
   | zero => simp [avOf] at h
   | succ n =>
    unfold avOf at h; simp only [Tryz.underlying56] at h
    unfold wfD at hw; simp only [Tryz.underlying56] at hw
    cases d with
    | agg parts =>
     dsimp only at h
     obtain ⟨d1, p1, a1, b1, rfl, g1, he1, rfl⟩ := avFields_cons h
     obtain ⟨d2, p2, a2, b2, rfl, g2, he2, rfl⟩ := avFields_cons he1
     obtain ⟨d3, p3, a3, b3, rfl, g3, he3, rfl⟩ := avFields_cons he2
     obtain ⟨rfl, rfl⟩ := avFields_nil he3
     obtain ⟨w1, w2, w3, _⟩ := hw
     obtain ⟨cn, rfl, l1⟩ := op_str g1
     obtain ⟨ns, rfl, l2⟩ := op_txts g2 w2
     obtain ⟨bd, rfl, l3, _⟩ := op_list Tryz.underlying47 Exp.cs expR rfl (fun _ _ => rfl) Exp.w expW rfl (fun _ _ => rfl) (fun _ => True) n (fun k hk d acs h hw => by obtain ⟨x, h1, h2⟩ := (ih k (by omega)).1 d acs h hw; exact ⟨x, h1, h2, trivial⟩) _ _ g3 w3
     refine ⟨.mk cn ns bd, rfl, ?_⟩
     simp only [Arm.w, Rows.uptoBulk, Rows.uptoBulkAll]; omega
    | _ => simp at h
theorem op_fun (n : Nat) (d : DataW H) (acs : List AV) (h : avOf Tryz.prog n 58 d = some acs) (hw : wfD Tryz.prog n 58 d) : ∃ x : Fun, acs = x.cs ∧ x.w ≤ Rows.uptoBulk d := by
 cases n with
 | zero => simp [avOf] at h
 | succ n =>
  unfold avOf at h; simp only [Tryz.underlying58] at h
  unfold wfD at hw; simp only [Tryz.underlying58] at hw
  cases d with
  | agg parts =>
   dsimp only at h
   obtain ⟨d1, p1, a1, b1, rfl, g1, he1, rfl⟩ := avFields_cons h
   obtain ⟨d2, p2, a2, b2, rfl, g2, he2, rfl⟩ := avFields_cons he1
   obtain ⟨d3, p3, a3, b3, rfl, g3, he3, rfl⟩ := avFields_cons he2
   obtain ⟨d4, p4, a4, b4, rfl, g4, he4, rfl⟩ := avFields_cons he3
   obtain ⟨rfl, rfl⟩ := avFields_nil he4
   obtain ⟨w1, w2, w3, w4, _⟩ := hw
   obtain ⟨nm, rfl, l1⟩ := op_str g1
   obtain ⟨ps, rfl, l2⟩ := op_prms _ _ _ g2 w2
   obtain ⟨rs, rfl, l3⟩ := (op_ty _).1 _ _ g3 w3
   obtain ⟨bd, rfl, l4⟩ := (op_exp _).1 _ _ g4 w4
   refine ⟨.mk nm ps rs bd, by obtain ⟨_, _, ⟨_, _, _, _, _⟩, _, _⟩ := rs; obtain ⟨_, _, _, _, ⟨_, _, _, _, _⟩, _, _⟩ := bd; rfl, ?_⟩
   simp only [Fun.w, Rows.uptoBulk, Rows.uptoBulkAll]; omega
  | _ => simp at h
end
end Go.Proofs.YteajcnilihgheaaGreatDoor
