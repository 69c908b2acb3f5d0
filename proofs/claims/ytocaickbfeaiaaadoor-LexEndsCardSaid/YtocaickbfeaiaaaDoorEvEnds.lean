/-
  EV: what LexEnds calls, taken on what was shown of it.
-/
import Derived.Test.YtocaickbfeaiaaaDoorEvReplace
import Derived.Test.YtocaickbfeaiaaaDoorEvParses
import Derived.Test.YtocaickbfeaiaaaDoorEvShows
namespace Go.Proofs.YtocaickbfeaiaaaDoor
set_option linter.unusedSimpArgs false
set_option linter.unusedVariables false
open Go.RowKit

section
variable {ι : List Nat} {Z : Nat → Nat → Prop} {w : World}

/-- trees hold no variable -/
theorem VR.forget {d : AV} {u : Value} (h : VR ι Z w d u) : (∀ v, d = .lit v → VR [] Z w (.lit v) u) ∧ ∀ xs tok, d = .sl (rowsOf xs) tok → VR [] Z w (.sl (rowsOf xs) .no) u := by
  induction h with
  | lit v hv => exact ⟨fun v' e => by (cases e; exact .lit _ hv), fun xs tok e => by cases e⟩
  | nils a c tok h1 h2 =>
    refine ⟨fun v' e => by (cases e), fun xs tok e => ?_⟩
    have e2 : rowsOf xs = [] := by injection e with e _; exact e.symm
    rw [e2]
    exact .nils a c .no h1 (.inl rfl)
  | sl b o n c k es tok U h1 h2 h3 h4 h5 h6 h7 h8 ih =>
    refine ⟨fun v' e => by (cases e), fun xs tok' e => ?_⟩
    injection e with e _
    subst e
    refine .sl b o n c k _ .no U h1 h2 h3 h4 h5 h6 ?_ ?_
    · trivial
    · intro i j e d he hd
      have hi := ih i j e d he hd
      obtain ⟨t, ht, rfl⟩ : ∃ t, xs[i]? = some t ∧ rowOf t = e := by
        rw [rowsOf_map, List.getElem?_map] at he
        obtain ⟨t, ht, hte⟩ := Option.map_eq_some_iff.1 he
        exact ⟨t, ht, hte⟩
      have hg := rowsOf_get ht
      rw [he] at hg
      injection hg with hg
      rw [hg] at hd
      rcases j with _ | _ | _ | _ | j
      · simp at hd; subst hd; exact hi.1 _ rfl
      · simp at hd; subst hd; exact hi.2 _ _ rfl
      · simp at hd; subst hd; exact hi.1 _ rfl
      · simp at hd; subst hd; exact hi.1 _ rfl
      · simp at hd
  | _ => exact ⟨fun v' e => by (cases e), fun xs tok e => by (cases e)⟩

/-- a call that answers by a number, a truth or a text, shown where no variable is known -/
theorem pure_calls {E : Env} (hE : EnvOk Tryd.prog E) {f : FuncId} {args : List AV} {v : Value} (hv : scal v = true) (h : JC Tryd.prog E f args [] fun r _ => r = .ret (.lit v)) {σ : Sto} {us : Array Value} (hM : Match σ ι Z w) (hl : args.length = us.size)
    (hargs : ∀ (i : Nat) (d : AV) (u : Value), args[i]? = some d → us[i]? = some u → VR [] Z w d u) :
    (callFunc f us).run Tryd.prog w = .ok (.enter f us) w ∧ Calls Tryd.prog f us w fun e w' => ∃ ι' Z', Evo ι Z w ι' Z' w' ∧ Match σ ι' Z' w' ∧ ERel ι' Z' w' (.ret (.lit v)) e := by
  have M0 : Match [] [] Z w := ⟨rfl, fun id o b h => by simp at h, fun i j b o p h => by simp at h, hM.zlt⟩
  obtain ⟨h1, h2⟩ := J.tells (by kernel_rfl) hE h [] Z w us M0 hl hargs
  refine ⟨h1, h2.mono fun e w' hx => ?_⟩
  obtain ⟨r, σ', ι', Z', rfl, hEv, hM', hR⟩ := hx
  obtain ⟨u, rfl, hu⟩ := hR
  cases hu
  have hb : Below w.heap.size w w' := ⟨hEv.os, hEv.tape, hEv.output, hEv.size, fun k hk => hEv.keep k hk fun id h => by simp at h⟩
  exact ⟨ι, Z, Evo.ofBelow hM hb, hM.below hb, _, rfl, .lit _ hv⟩
end

def primParses (args : List AV) (σ : Sto) : Option (ARes × Sto) :=
  match args with
  | [.lit (.string s)] => if s.size ≤ 262144 then some (.ret (.lit (.bool true)), σ) else none
  | _ => none
def primRepeat (args : List AV) (σ : Sto) : Option (ARes × Sto) :=
  match args with
  | [.lit (.string s), .lit (.int .i64 c)] =>
    (match s.data.toList with
    | b :: r => if (b ≠ 32 ∧ b ≠ 45 ∧ b ≠ 48 ∧ b ≠ 61 ∧ b ≠ 9) ∧ 2 ≤ c ∧ c.toNat * (r.length + 1) ≤ 1000000000 then some (.ret (.lit (.string ⟨(rep c.toNat (b :: r)).toArray⟩)), σ) else none
    | [] => none)
  | _ => none
def primReplace (args : List AV) (σ : Sto) : Option (ARes × Sto) :=
  match args with
  | [.lit (.string s), .lit (.string a), .lit (.string n), .lit (.int .i64 m)] =>
    (match n.data.toList with
    | [b] => if a.data.toList = [97] ∧ 97 ∈ s.data.toList ∧ s.data.toList.length ≤ 1000 ∧ m = 1 then some (.ret (.lit (.string ⟨(replA s.data.toList b).toArray⟩)), σ) else none
    | _ => none)
  | _ => none
open Classical in
noncomputable def primShows (args : List AV) (σ : Sto) : Option (ARes × Sto) :=
  match args with
  | [.sl es _] => if ∃ xs, stripRows es = rowsOf xs ∧ wtT xs ≤ 1048576 ∧ deepT xs ≤ 1000000 then some (.ret (.lit (.bool true)), σ) else none
  | _ => none
theorem primShows_eq (es : List (List AV)) (xs : List Tr) (hes : stripRows es = rowsOf xs) (tok : Tok) (σ : Sto) (h : wtT xs ≤ 1048576) (h2 : deepT xs ≤ 1000000) : primShows [.sl es tok] σ = some (.ret (.lit (.bool true)), σ) := by
  unfold primShows
  simp only
  rw [if_pos ⟨xs, hes, h, h2⟩]

theorem list_arr (s : ByteArray) : (⟨s.data.toList.toArray⟩ : ByteArray) = s := bytes_ext rfl

theorem primParses_sound : CallSound Tryd.prog fun f args σ => if f = 4 then primParses args σ else none := by
  intro f args σ r σ' hr ι Z w us hM hl hargs
  dsimp only at hr
  split at hr
  · rename_i e
    subst e
    unfold primParses at hr
    split at hr
    · rename_i s
      split at hr
      · rename_i hc
        cases hr
        have h := parses_ev s.data.toList (by rw [Array.length_toList]; exact hc) []
        rw [list_arr] at h
        exact pure_calls EL_ok rfl h hM hl fun i d u hd hu => by
          rcases i with _ | i
          · simp at hd; subst hd; exact (hargs 0 _ u rfl hu).forget.1 _ rfl
          · simp at hd
      · cases hr
    · cases hr
  · cases hr

theorem primRepeat_sound : CallSound Tryd.prog fun f args σ => if f = 6 then primRepeat args σ else none := by
  intro f args σ r σ' hr ι Z w us hM hl hargs
  dsimp only at hr
  split at hr
  · rename_i e
    subst e
    unfold primRepeat at hr
    split at hr
    · rename_i s c
      split at hr
      · rename_i b r0 hsl
        split at hr
        · rename_i hc
          cases hr
          obtain ⟨c, rfl⟩ : ∃ m : Nat, c = m := ⟨c.toNat, by omega⟩
          have h := (repeat_ev (b :: r0) c b r0 rfl hc.1 (by omega) (by simpa using hc.2.2) []).toJ
          rw [← hsl, list_arr, hsl] at h
          refine pure_calls ES_ok rfl (h.mono fun r _ hx => ?_) hM hl fun i d u hd hu => ?_
          · simpa using hx.1
          · rcases i with _ | _ | i
            · simp at hd; subst hd; exact (hargs 0 _ u rfl hu).forget.1 _ rfl
            · simp at hd; subst hd; exact (hargs 1 _ u rfl hu).forget.1 _ rfl
            · simp at hd
        · cases hr
      · cases hr
    · cases hr
  · cases hr

theorem primReplace_sound : CallSound Tryd.prog fun f args σ => if f = 5 then primReplace args σ else none := by
  intro f args σ r σ' hr ι Z w us hM hl hargs
  dsimp only at hr
  split at hr
  · rename_i e
    subst e
    unfold primReplace at hr
    split at hr
    · rename_i s a n m
      split at hr
      · rename_i b hnl
        split at hr
        · rename_i hc
          cases hr
          obtain ⟨ha, hm, hlen, rfl⟩ := hc
          have h := (replace_ev s.data.toList b hm hlen []).toJ
          rw [list_arr] at h
          rw [str_one ha, str_one hnl] at *
          refine pure_calls ES_ok rfl (h.mono fun r _ hx => hx.1) hM hl fun i d u hd hu => ?_
          rcases i with _ | _ | _ | _ | i
          · simp at hd; subst hd; exact (hargs 0 _ u rfl hu).forget.1 _ rfl
          · simp at hd; subst hd; exact (hargs 1 _ u rfl hu).forget.1 _ rfl
          · simp at hd; subst hd; exact (hargs 2 _ u rfl hu).forget.1 _ rfl
          · simp at hd; subst hd; exact (hargs 3 _ u rfl hu).forget.1 _ rfl
          · simp at hd
        · cases hr
      · cases hr
    · cases hr
  · cases hr

theorem primShows_sound : CallSound Tryd.prog fun f args σ => if f = 10 then primShows args σ else none := by
  intro f args σ r σ' hr ι Z w us hM hl hargs
  dsimp only at hr
  split at hr
  · rename_i e
    subst e
    unfold primShows at hr
    split at hr
    · rename_i es tok
      split at hr
      · rename_i hx
        cases hr
        obtain ⟨xs, hes, h1, h2⟩ := hx
        obtain ⟨u0, rfl⟩ : ∃ u, us = #[u] := ⟨us[0]'(by simp at hl; omega), by
          apply Array.ext
          · simp at hl; simp; omega
          · intro i h1 h2; simp at h2; subst h2; rfl⟩
        have hv := VR.stripRows (es := []) (fs := es) (hargs 0 _ u0 rfl rfl)
        rw [List.nil_append, hes] at hv
        have hv2 := hv.forget.2 _ _ rfl
        obtain ⟨g1, g2⟩ := pure_calls EL_ok rfl ((shows_ev xs .no [] h1 h2).toJ) hM rfl (us := #[u0]) fun i d u hd hu => by
          rcases i with _ | i
          · simp at hd hu; subst hd; subst hu; exact hv2
          · simp at hd
        exact ⟨g1, g2⟩
      · cases hr
    · cases hr
  · cases hr

noncomputable def codeF (f : FuncId) : Option Func :=
  match f with
  | 3 => some Tryd.f3
  | _ => none
noncomputable def primF (f : FuncId) : Option (List AV → Sto → Option (ARes × Sto)) :=
  match f with
  | 4 => some primParses
  | 6 => some primRepeat
  | 5 => some primReplace
  | 10 => some primShows
  | 9 => some primText
  | 8 => some primDeep
  | 11 => some primAwake
  | 7 => some primParse
  | _ => none
noncomputable def EF : Env := { code := codeF, prim := primF, ms := fun _ => [] }

theorem EF_ok : EnvOk Tryd.prog EF where
  code := fun f fn h => by
    have h : codeF f = some fn := h
    unfold codeF at h
    split at h
    · cases h; exact ⟨Tryd.func3, Tryd.call3⟩
    · cases h
  prim := fun f g h => by
    have h : primF f = some g := h
    unfold primF at h
    split at h
    · cases h; exact primParses_sound
    · cases h; exact primRepeat_sound
    · cases h; exact primReplace_sound
    · cases h; exact primShows_sound
    · cases h; exact prims_ok _ _ rfl
    · cases h; exact prims_ok _ _ rfl
    · cases h; exact prims_ok _ _ rfl
    · cases h; exact prims_ok _ _ rfl
    · cases h

end Go.Proofs.YtocaickbfeaiaaaDoor

namespace Go.Proofs.YtocaickbfeaiaaaDoor
set_option linter.unusedSimpArgs false
set_option linter.unusedVariables false
open Go.RowKit

theorem rep_single (n : Nat) (b : UInt8) : rep n [b] = List.replicate n b := by
  induction n with
  | zero => rfl
  | succ n ih => rw [show n + 1 = 1 + n by omega, rep_add, ih, rep_one, show 1 + n = n + 1 by omega, List.replicate_succ]; rfl

theorem parse_word (n : Nat) (h0 : 1 ≤ n) (h : n ≤ 262144) : parseT (List.replicate n 97) = ([.mk (List.replicate n 97) [] false 0], 0, 0) := by
  have hl : (List.replicate n (97 : UInt8)).length = n := List.length_replicate
  have g0 : (List.replicate n (97 : UInt8))[0]? = some 97 := by rw [List.getElem?_replicate, if_pos (by omega)]
  have hlt : 0 < (List.replicate n (97 : UInt8)).length := by omega
  have hb : skipTo blk (List.replicate n 97) 0 = 0 := skipTo_no _ _ _ hlt (by rw [List.getElem_replicate]; decide)
  have hw : (List.replicate n (97 : UInt8)).takeWhile sgn = List.replicate n 97 := by
    rw [List.takeWhile_replicate, if_pos (by decide)]
  have hs : skipTo sgn (List.replicate n 97) 0 = n := by
    unfold skipTo
    rw [List.drop_zero, hw, hl, Nat.zero_add]
  have he : skipTo blk (List.replicate n 97) n = n := skipTo_end _ _ _ (by omega)
  have ge : (List.replicate n (97 : UInt8))[n]? = none := by rw [List.getElem?_eq_none]; omega
  have hrow2 : rowN (2 * n + 1) (List.replicate n 97) n 0 = .ok ([], n) := by
    unfold rowN
    rw [he, ge]
  have htree : treeN (2 * n + 1) (List.replicate n 97) 0 0 = .ok (.mk (List.replicate n 97) [] false 0, n) := by
    unfold treeN
    rw [g0, if_neg (by decide), hs, if_neg (by omega), List.drop_zero, hw]
    rfl
  unfold parseT
  rw [hl, if_neg (by omega)]
  unfold rowN
  rw [hb, g0]
  simp only
  rw [if_neg (by decide), htree]
  simp only
  rw [hrow2]
  simp only
  rw [if_neg (by omega)]

theorem parse_over (n : Nat) (h : 262144 ≤ n) : parseT (List.replicate n 97 ++ [65]) = ([], 0, 3) := by
  unfold parseT
  rw [if_pos (by simp; omega)]

/-- the depth, by a count down -/
def deepO : Nat → List Tr → Option Nat
  | 0, _ => none
  | _ + 1, [] => some 0
  | n + 1, .mk _ k r _ :: l =>
    match deepO n k, deepO n l with
    | some a, some b => some (if r then max (1 + a) b else b)
    | _, _ => none
theorem deepO_eq : ∀ (n : Nat) (xs : List Tr) (d : Nat), deepO n xs = some d → deepT xs = d := by
  intro n
  induction n with
  | zero => intro xs d h; simp [deepO] at h
  | succ n ih =>
    intro xs d h
    cases xs with
    | nil => simp [deepO] at h; simp [deepT, h]
    | cons t l =>
      obtain ⟨x, k, r, a⟩ := t
      unfold deepO at h
      split at h
      · rename_i a b ha hb
        rw [deepT, ih _ _ ha, ih _ _ hb]
        injection h
      · cases h

set_option maxRecDepth 100000 in
theorem parse_deepO : deepO 2000 (parseT (List.replicate 400 40 ++ List.replicate 400 41)).1 = some 400 := by decide +kernel
theorem parse_deep : deepT (parseT (List.replicate 400 40 ++ List.replicate 400 41)).1 = 400 := deepO_eq _ _ _ parse_deepO

theorem shown_trees (n : Nat) (h : n ≤ 262144) : wtT [.mk [120] [] true 0, .mk [] [.mk (List.replicate n 97) [] false 0] false 0] ≤ 1048576 ∧ deepT [.mk [120] [] true 0, .mk [] [.mk (List.replicate n 97) [] false 0] false 0] ≤ 1000000 := by
  constructor
  · simp only [wtT, wtTr, List.length_replicate, List.length_cons, List.length_nil]; omega
  · simp [deepT]

end Go.Proofs.YtocaickbfeaiaaaDoor

namespace Go.Proofs.YtocaickbfeaiaaaDoor
set_option linter.unusedSimpArgs false
set_option linter.unusedVariables false
open Go.RowKit

def endsL : List (List UInt8) := [[97], [97, 97, 32, 97], [40, 97], [97, 41], [40, 97, 32, 97, 41], [40, 41, 32, 97], [97, 40, 41]]
def strRows (l : List (List UInt8)) : List (List AV) := l.map fun s => [.lit (.string ⟨s.toArray⟩)]

theorem parses_p (s : ByteArray) (hs : s.size ≤ 262144) (σ : Sto) : CallW Tryd.prog EF 4 [.lit (.string s)] σ fun r σ' => r = .ret (.lit (.bool true)) ∧ σ' = σ :=
  CallW.prim (g := primParses) rfl (by unfold primParses; dsimp only; rw [if_pos hs]) ⟨rfl, rfl⟩
theorem repeat_p (b : UInt8) (r0 : List UInt8) (c : Nat) (hb : b ≠ 32 ∧ b ≠ 45 ∧ b ≠ 48 ∧ b ≠ 61 ∧ b ≠ 9) (hc : 2 ≤ c) (hl : c * (r0.length + 1) ≤ 1000000000) (σ : Sto) : CallW Tryd.prog EF 6 [.lit (.string ⟨(b :: r0).toArray⟩), .lit (.int .i64 c)] σ fun r σ' => r = .ret (.lit (.string ⟨(rep c (b :: r0)).toArray⟩)) ∧ σ' = σ :=
  CallW.prim (g := primRepeat) rfl (by unfold primRepeat; dsimp only; rw [if_pos ⟨hb, by omega, by simpa using hl⟩]; rfl) ⟨rfl, rfl⟩

theorem replace_p (s : List UInt8) (b : UInt8) (hm : 97 ∈ s) (hl : s.length ≤ 1000) (σ : Sto) : CallW Tryd.prog EF 5 [.lit (.string ⟨s.toArray⟩), .lit (.string ⟨#[97]⟩), .lit (.string ⟨#[b]⟩), .lit (.int .i64 1)] σ fun r σ' => r = .ret (.lit (.string ⟨(replA s b).toArray⟩)) ∧ σ' = σ :=
  CallW.prim (g := primReplace) rfl (by unfold primReplace; dsimp only; rw [if_pos ⟨rfl, by simpa using hm, by simpa using hl, rfl⟩]) ⟨rfl, rfl⟩
theorem replA_len (s : List UInt8) (b : UInt8) : (replA s b).length = s.length := by
  induction s with
  | nil => rfl
  | cons x l ih => unfold replA; split <;> simp [ih]
theorem ends_get {i : Nat} (h : i < 7) : ∃ s : List UInt8, (strRows endsL)[i]? = some [.lit (.string ⟨s.toArray⟩)] ∧ 97 ∈ s ∧ s.length ≤ 5 := by
  have h2 : i < endsL.length := h
  refine ⟨endsL[i], by unfold strRows; rw [List.getElem?_map, List.getElem?_eq_getElem h2]; rfl, ?_⟩
  have : ∀ s ∈ endsL, 97 ∈ s ∧ s.length ≤ 5 := by decide
  exact this _ (List.getElem_mem h2)

def bRows (l : List ByteArray) : List (List AV) := l.map fun s => [.lit (.string s)]
theorem bRows_get {l : List ByteArray} {i : Nat} (h : i < l.length) : (bRows l)[i]? = some [.lit (.string l[i])] := by unfold bRows; rw [List.getElem?_map, List.getElem?_eq_getElem h]; rfl

theorem parse_p (l : List UInt8) (hl : l.length ≤ 1000000) (ts : List Tr) (a : Nat) (e : Int) (h : parseT l = (ts, a, e)) (σ : Sto) : CallW Tryd.prog EF 7 [.lit (.string ⟨l.toArray⟩)] σ fun r σ' => r = .ret (.tup [.sl (rowsOf ts) .no, .lit (.int .i64 a), .lit (.int .i64 e)]) ∧ σ' = σ :=
  CallW.prim (g := primParse) rfl (by unfold primParse; dsimp only; rw [if_pos (by rw [bszR]; unfold maxLen; omega), h]) ⟨rfl, rfl⟩

theorem deep_p (xs : List Tr) (tok : Tok) (h : deepT xs ≤ 1000000) (σ : Sto) : CallW Tryd.prog EF 8 [.sl (rowsOf xs) tok] σ fun r σ' => r = .ret (.lit (.int .i64 (deepT xs))) ∧ σ' = σ :=
  CallW.prim (g := primDeep) rfl (primDeep_eq xs tok σ h) ⟨rfl, rfl⟩
theorem text_p (tok : Tok) (σ : Sto) : CallW Tryd.prog EF 9 [.sl [] tok] σ fun r σ' => r = .ret (.lit (.string ⟨#[]⟩)) ∧ σ' = σ :=
  CallW.prim (g := primText) rfl (primText_eq [] tok σ (by simp [textR])) ⟨by simp [textR], rfl⟩
theorem shows_p (es : List (List AV)) (xs : List Tr) (hes : stripRows es = rowsOf xs) (tok : Tok) (h : wtT xs ≤ 1048576) (h2 : deepT xs ≤ 1000000) (σ : Sto) : CallW Tryd.prog EF 10 [.sl es tok] σ fun r σ' => r = .ret (.lit (.bool true)) ∧ σ' = σ :=
  CallW.prim (g := primShows) rfl (primShows_eq es xs hes tok σ h h2) ⟨rfl, rfl⟩
theorem awake_p (σ : Sto) : CallW Tryd.prog EF 11 [] σ fun r σ' => r = .ret (.lit (.bool true)) ∧ σ' = σ :=
  CallW.prim (g := primAwake) rfl rfl ⟨rfl, rfl⟩

theorem LW.reset {P : Program} {E : Env} {M : List TypeId} {ops : Array Oper} {rest : List Oper} {tm : List AV} {σ : Sto} {R : AExit → List AV → Sto → Prop} (Q : List AV → Prop) (h : Q tm) (k : ∀ tm, Q tm → LW P E M ops rest tm σ R) : LW P E M ops rest tm σ R := k _ h

theorem DW.reset {P : Program} {E : Env} {M : List TypeId} {ops : Array Oper} {rest : List Oper} {accs : List Acc} {tm : List AV} {σ : Sto} {R : AExit → List AV → Sto → Prop} (Q : List AV → Prop) (h : Q tm) (k : ∀ tm, Q tm → DW P E M ops rest accs tm σ R) : DW P E M ops rest accs tm σ R := k _ h

def sndC : Code → Code
  | .seq _ b => b
  | c => c
def tailC : Nat → Code → Code
  | 0, c => c
  | n + 1, c => tailC n (sndC c)

set_option maxRecDepth 100000 in
set_option maxHeartbeats 4000000 in
theorem ends24 (X T : List Tr) (tm : List AV) (σ : Sto) (R0 : AExit → List AV → Sto → Prop) (hX1 : X.length = 1) (hdp : deepT T = 400) (hsh : wtT [.mk [120] [] true 0, .mk [] X false 0] ≤ 1048576 ∧ deepT [.mk [120] [] true 0, .mk [] X false 0] ≤ 1000000)
    (hlen : tm.length = 164) (h9 : slot tm 9 = .sl (rowsOf X) .no) (h11 : slot tm 11 = .lit (.int .i64 0)) (h13 : slot tm 13 = .lit (.int .i64 0)) (h14 : slot tm 14 = .lit (.int .i64 3)) (h15 : slot tm 15 = .sl (rowsOf T) .no)
    (hR0 : ∀ tm1, tm1.length = 164 → slot tm1 0 = .lit (.bool true) → R0 .ret tm1 σ) : CW Tryd.prog EF [] (tailC 7 (Tryd.f3.body.getD .skip)) tm σ R0 := by
  refine CW.seqK fun K hK => CW.region ?_
  have hXl : (rowsOf X).length = 1 := by rw [rowsOf_length, hX1]
  simp (maxDischargeDepth := 16) [LW_nil, LW_guardS, DW_guardS, LW_guardN, DW_guardN, yielded_eq, yv, LW_val, LW_skip, LW_enter, DW_nil, DW_val, DW_skip, DW_enter, es_move, es_assign, es_pick, es_allocV, es_boxV, es_build, es_buildSlice, es_buildSliceM, es_appendM, evMut, evAppendM, rowsA, es_load, es_store, es_nilCheck, es_binOp, es_unOp, es_convert, es_makeInterface, es_makeFunc, es_slice, es_fieldAddr, es_field, es_indexAddr, es_index, es_extract, es_panic, es_callV, es_len, es_max, evStepU, evPure, evLit, evMem, evx_tmp, evx_const, evx_func, putA_some, putA_none, slot_ne, slot_eq, List.length_set, isVal, valOf, stOf, accOf, isSkip, isEnter, fnOf, argsOf, absV, abs2, abs1, scal, binL, litInt, conc, conc2, lit?, omap, parts?, partA, fillA, putCells, chunks, AV.cells, AV.notTup, Op.operands, Call.operands, stripRows, AV.strip, aggT, andThen, hlen, h9, h11, h13, h14, h15, hXl]
  refine (deep_p T .no (by omega) σ).mono ?_
  rintro r σ2 ⟨rfl, rfl⟩
  rw [hdp]
  simp only [retK]
  refine LW.reset (fun tm => tm.length = 164 ∧ slot tm 9 = .sl (rowsOf X) .no ∧ slot tm 141 = .lit (.bool true) ∧ slot tm 143 = .lit (.int .i64 400)) ?_ ?_
  · exact ⟨by simp [putA_some, hlen], by simp (maxDischargeDepth := 64) [putA_some, slot_eq, slot_ne, hlen, h9], by simp (maxDischargeDepth := 64) [putA_some, slot_eq, slot_ne, hlen], by simp (maxDischargeDepth := 64) [putA_some, slot_eq, slot_ne, hlen]⟩
  clear h9 h11 h13 h14 h15 hlen tm
  rintro tm ⟨hlen, h9, h141, h143⟩
  simp (maxDischargeDepth := 16) [LW_nil, LW_guardS, DW_guardS, LW_guardN, DW_guardN, yielded_eq, yv, LW_val, LW_skip, LW_enter, DW_nil, DW_val, DW_skip, DW_enter, es_move, es_assign, es_pick, es_allocV, es_boxV, es_build, es_buildSlice, es_buildSliceM, es_appendM, evMut, evAppendM, rowsA, es_load, es_store, es_nilCheck, es_binOp, es_unOp, es_convert, es_makeInterface, es_makeFunc, es_slice, es_fieldAddr, es_field, es_indexAddr, es_index, es_extract, es_panic, es_callV, es_len, es_max, evStepU, evPure, evLit, evMem, evx_tmp, evx_const, evx_func, putA_some, putA_none, slot_ne, slot_eq, List.length_set, isVal, valOf, stOf, accOf, isSkip, isEnter, fnOf, argsOf, absV, abs2, abs1, scal, binL, litInt, conc, conc2, lit?, omap, parts?, partA, fillA, putCells, chunks, AV.cells, AV.notTup, Op.operands, Call.operands, stripRows, AV.strip, aggT, retK, andThen, hlen, h141, h143]
  refine (text_p .full σ2).mono ?_
  rintro r σ3 ⟨rfl, rfl⟩
  simp only [retK]
  refine LW.reset (fun tm => tm.length = 164 ∧ slot tm 9 = .sl (rowsOf X) .no ∧ slot tm 146 = .lit (.bool true) ∧ slot tm 147 = .lit (.string ⟨#[]⟩)) ?_ ?_
  · exact ⟨by simp [putA_some, hlen], by simp (maxDischargeDepth := 64) [putA_some, slot_eq, slot_ne, hlen, h9], by simp (maxDischargeDepth := 64) [putA_some, slot_eq, slot_ne, hlen], by simp (maxDischargeDepth := 64) [putA_some, slot_eq, slot_ne, hlen]⟩
  clear h9 h141 h143 hlen tm
  rintro tm ⟨hlen, h9, h146, h147⟩
  simp (maxDischargeDepth := 16) [LW_nil, LW_guardS, DW_guardS, LW_guardN, DW_guardN, yielded_eq, yv, LW_val, LW_skip, LW_enter, DW_nil, DW_val, DW_skip, DW_enter, es_move, es_assign, es_pick, es_allocV, es_boxV, es_build, es_buildSlice, es_buildSliceM, es_appendM, evMut, evAppendM, rowsA, es_load, es_store, es_nilCheck, es_binOp, es_unOp, es_convert, es_makeInterface, es_makeFunc, es_slice, es_fieldAddr, es_field, es_indexAddr, es_index, es_extract, es_panic, es_callV, es_len, es_max, evStepU, evPure, evLit, evMem, evx_tmp, evx_const, evx_func, putA_some, putA_none, slot_ne, slot_eq, List.length_set, isVal, valOf, stOf, accOf, isSkip, isEnter, fnOf, argsOf, absV, abs2, abs1, scal, binL, litInt, conc, conc2, lit?, omap, parts?, partA, fillA, putCells, chunks, AV.cells, AV.notTup, Op.operands, Call.operands, stripRows, AV.strip, aggT, retK, andThen, hlen, h146, h147]
  refine (deep_p [] .full (by simp [deepT]) σ3).mono ?_
  rintro r σ4 ⟨rfl, rfl⟩
  rw [show deepT [] = 0 by simp [deepT]]
  simp only [retK]
  refine LW.reset (fun tm => tm.length = 164 ∧ slot tm 9 = .sl (rowsOf X) .no ∧ slot tm 150 = .lit (.bool true) ∧ slot tm 151 = .lit (.int .i64 0)) ?_ ?_
  · exact ⟨by simp [putA_some, hlen], by simp (maxDischargeDepth := 64) [putA_some, slot_eq, slot_ne, hlen, h9], by simp (maxDischargeDepth := 64) [putA_some, slot_eq, slot_ne, hlen], by simp (maxDischargeDepth := 64) [putA_some, slot_eq, slot_ne, hlen]⟩
  clear h9 h146 h147 hlen tm
  rintro tm ⟨hlen, h9, h150, h151⟩
  simp (maxDischargeDepth := 16) [LW_nil, LW_guardS, DW_guardS, LW_guardN, DW_guardN, yielded_eq, yv, LW_val, LW_skip, LW_enter, DW_nil, DW_val, DW_skip, DW_enter, es_move, es_assign, es_pick, es_allocV, es_boxV, es_build, es_buildSlice, es_buildSliceM, es_appendM, evMut, evAppendM, rowsA, es_load, es_store, es_nilCheck, es_binOp, es_unOp, es_convert, es_makeInterface, es_makeFunc, es_slice, es_fieldAddr, es_field, es_indexAddr, es_index, es_extract, es_panic, es_callV, es_len, es_max, evStepU, evPure, evLit, evMem, evx_tmp, evx_const, evx_func, putA_some, putA_none, slot_ne, slot_eq, List.length_set, isVal, valOf, stOf, accOf, isSkip, isEnter, fnOf, argsOf, absV, abs2, abs1, scal, binL, litInt, conc, conc2, lit?, omap, parts?, partA, fillA, putCells, chunks, AV.cells, AV.notTup, Op.operands, Call.operands, stripRows, AV.strip, aggT, retK, andThen, hlen, h9, h150, h151]
  refine (shows_p _ [.mk [120] [] true 0, .mk [] X false 0] (by simp [stripRows, AV.strip, rowsOf, rowOf]) .full hsh.1 hsh.2 σ4).mono ?_
  rintro r σ5 ⟨rfl, rfl⟩
  simp only [retK]
  refine LW.reset (fun tm => tm.length = 164 ∧ slot tm 161 = .lit (.bool true)) ?_ ?_
  · exact ⟨by simp [putA_some, hlen], by simp (maxDischargeDepth := 64) [putA_some, slot_eq, slot_ne, hlen]⟩
  clear h9 h150 h151 hlen tm
  rintro tm ⟨hlen, h161⟩
  simp (maxDischargeDepth := 16) [LW_nil, LW_guardS, DW_guardS, LW_guardN, DW_guardN, yielded_eq, yv, LW_val, LW_skip, LW_enter, DW_nil, DW_val, DW_skip, DW_enter, es_move, es_assign, es_pick, es_allocV, es_boxV, es_build, es_buildSlice, es_buildSliceM, es_appendM, evMut, evAppendM, rowsA, es_load, es_store, es_nilCheck, es_binOp, es_unOp, es_convert, es_makeInterface, es_makeFunc, es_slice, es_fieldAddr, es_field, es_indexAddr, es_index, es_extract, es_panic, es_callV, es_len, es_max, evStepU, evPure, evLit, evMem, evx_tmp, evx_const, evx_func, putA_some, putA_none, slot_ne, slot_eq, List.length_set, isVal, valOf, stOf, accOf, isSkip, isEnter, fnOf, argsOf, absV, abs2, abs1, scal, binL, litInt, conc, conc2, lit?, omap, parts?, partA, fillA, putCells, chunks, AV.cells, AV.notTup, Op.operands, Call.operands, stripRows, AV.strip, aggT, retK, andThen, hlen, h161]
  refine (awake_p σ5).mono ?_
  rintro r σ6 ⟨rfl, rfl⟩
  simp (maxDischargeDepth := 16) [LW_nil, LW_guardS, DW_guardS, LW_guardN, DW_guardN, yielded_eq, yv, LW_val, LW_skip, LW_enter, DW_nil, DW_val, DW_skip, DW_enter, es_move, es_assign, es_pick, es_allocV, es_boxV, es_build, es_buildSlice, es_buildSliceM, es_appendM, evMut, evAppendM, rowsA, es_load, es_store, es_nilCheck, es_binOp, es_unOp, es_convert, es_makeInterface, es_makeFunc, es_slice, es_fieldAddr, es_field, es_indexAddr, es_index, es_extract, es_panic, es_callV, es_len, es_max, evStepU, evPure, evLit, evMem, evx_tmp, evx_const, evx_func, putA_some, putA_none, slot_ne, slot_eq, List.length_set, isVal, valOf, stOf, accOf, isSkip, isEnter, fnOf, argsOf, absV, abs2, abs1, scal, binL, litInt, conc, conc2, lit?, omap, parts?, partA, fillA, putCells, chunks, AV.cells, AV.notTup, Op.operands, Call.operands, stripRows, AV.strip, aggT, retK, andThen, hlen]
  refine hK _ _ ?_
  refine CW.ret (hR0 _ (by simp [hlen]) (by simp (maxDischargeDepth := 16) [slot_eq, slot_ne, hlen]))

end Go.Proofs.YtocaickbfeaiaaaDoor

namespace Go.Proofs.YtocaickbfeaiaaaDoor
set_option linter.unusedSimpArgs false
set_option linter.unusedVariables false
open Go.RowKit

set_option maxRecDepth 100000 in
set_option maxHeartbeats 8000000 in
theorem lexEnds_ev (σ : Sto) : CallW Tryd.prog EF 3 [] σ fun r σ' => r = .ret (.lit (.bool true)) := by
  refine CallW.start (fn := Tryd.f3) (M := []) rfl rfl rfl rfl (by simp) fun tm hlen2 hs0 => ?_
  clear hs0
  have hlen : tm.length = 164 := by simpa using hlen2
  clear hlen2
  refine CW.hide fun R0 hR0 => ?_
  refine CW.seqK fun K hK => CW.region ?_
  simp (maxDischargeDepth := 8) [LW_nil, LW_guardS, DW_guardS, LW_guardN, DW_guardN, yielded_eq, yv, LW_val, LW_skip, LW_enter, DW_nil, DW_val, DW_skip, DW_enter, es_move, es_assign, es_pick, es_allocV, es_boxV, es_build, es_buildSlice, es_buildSliceM, es_appendM, evMut, evAppendM, rowsA, es_load, es_store, es_nilCheck, es_binOp, es_unOp, es_convert, es_makeInterface, es_makeFunc, es_slice, es_fieldAddr, es_field, es_indexAddr, es_index, es_extract, es_panic, es_callV, es_len, es_max, evStepU, evPure, evLit, evMem, evx_tmp, evx_const, evx_func, putA_some, putA_none, slot_ne, slot_eq, List.length_set, isVal, valOf, stOf, accOf, isSkip, isEnter, fnOf, argsOf, absV, abs2, abs1, scal, binL, litInt, conc, conc2, lit?, omap, parts?, partA, fillA, putCells, chunks, AV.cells, AV.notTup, Op.operands, Call.operands, stripRows, AV.strip, aggT, andThen, hlen]
  refine hK _ _ ?_; clear hK K
  refine CW.seqK fun K hK => CW.seqK fun K2 hK2 => CW.region ?_
  simp (maxDischargeDepth := 8) [LW_nil, LW_guardS, DW_guardS, LW_guardN, DW_guardN, yielded_eq, yv, LW_val, LW_skip, LW_enter, DW_nil, DW_val, DW_skip, DW_enter, es_move, es_assign, es_pick, es_allocV, es_boxV, es_build, es_buildSlice, es_buildSliceM, es_appendM, evMut, evAppendM, rowsA, es_load, es_store, es_nilCheck, es_binOp, es_unOp, es_convert, es_makeInterface, es_makeFunc, es_slice, es_fieldAddr, es_field, es_indexAddr, es_index, es_extract, es_panic, es_callV, es_len, es_max, evStepU, evPure, evLit, evMem, evx_tmp, evx_const, evx_func, putA_some, putA_none, slot_ne, slot_eq, List.length_set, isVal, valOf, stOf, accOf, isSkip, isEnter, fnOf, argsOf, absV, abs2, abs1, scal, binL, litInt, conc, conc2, lit?, omap, parts?, partA, fillA, putCells, chunks, AV.cells, AV.notTup, Op.operands, Call.operands, stripRows, AV.strip, aggT, andThen, hlen]
  refine hK2 _ _ ?_; clear hK2 K2
  refine CW.block ?_
  refine CW.hide fun R1 hR1 => ?_
  let IA : Nat → List AV → Sto → Prop := fun r tm σ => ∃ c, c ≤ 256 ∧ r = 256 - c ∧ tm.length = 164 ∧ slot tm 1 = .lit (.int .i64 (c : Nat))
  refine CW.loopI IA ?_ 256 _ σ ⟨0, by omega, by omega, by simp [hlen], by simp [slot_eq, hlen]⟩
  clear hlen tm
  rintro r tm σ1 ⟨c, hc, rfl, hlen, h1⟩
  refine CW.seqK fun K2 hK2 => CW.seqK fun K3 hK3 => CW.region ?_
  simp (maxDischargeDepth := 8) [LW_nil, LW_guardS, DW_guardS, LW_guardN, DW_guardN, yielded_eq, yv, LW_val, LW_skip, LW_enter, DW_nil, DW_val, DW_skip, DW_enter, es_move, es_assign, es_pick, es_allocV, es_boxV, es_build, es_buildSlice, es_buildSliceM, es_appendM, evMut, evAppendM, rowsA, es_load, es_store, es_nilCheck, es_binOp, es_unOp, es_convert, es_makeInterface, es_makeFunc, es_slice, es_fieldAddr, es_field, es_indexAddr, es_index, es_extract, es_panic, es_callV, es_len, es_max, evStepU, evPure, evLit, evMem, evx_tmp, evx_const, evx_func, putA_some, putA_none, slot_ne, slot_eq, List.length_set, isVal, valOf, stOf, accOf, isSkip, isEnter, fnOf, argsOf, absV, abs2, abs1, scal, binL, litInt, conc, conc2, lit?, omap, parts?, partA, fillA, putCells, chunks, AV.cells, AV.notTup, Op.operands, Call.operands, stripRows, AV.strip, aggT, andThen, hlen, h1]
  refine hK3 _ _ ?_; clear hK3 K3
  rcases Nat.lt_or_ge c 256 with hlt | hge
  · have hlti : (c : Int) < 256 := by omega
    refine CW.cond (t := true) (by simp [evx_tmp, slot_eq, hlen, hlti]) (CW.skip ?_)
    simp only [andThen]
    refine hK2 _ _ ?_; clear hK2 K2
    refine CW.seqK fun K2 hK2 => CW.block ?_
    refine CW.hide fun R2 hR2 => ?_
    refine CW.seqK fun K3 hK3 => CW.region ?_
    simp (maxDischargeDepth := 8) [LW_nil, LW_guardS, DW_guardS, LW_guardN, DW_guardN, yielded_eq, yv, LW_val, LW_skip, LW_enter, DW_nil, DW_val, DW_skip, DW_enter, es_move, es_assign, es_pick, es_allocV, es_boxV, es_build, es_buildSlice, es_buildSliceM, es_appendM, evMut, evAppendM, rowsA, es_load, es_store, es_nilCheck, es_binOp, es_unOp, es_convert, es_makeInterface, es_makeFunc, es_slice, es_fieldAddr, es_field, es_indexAddr, es_index, es_extract, es_panic, es_callV, es_len, es_max, evStepU, evPure, evLit, evMem, evx_tmp, evx_const, evx_func, putA_some, putA_none, slot_ne, slot_eq, List.length_set, isVal, valOf, stOf, accOf, isSkip, isEnter, fnOf, argsOf, absV, abs2, abs1, scal, binL, litInt, conc, conc2, lit?, omap, parts?, partA, fillA, putCells, chunks, AV.cells, AV.notTup, Op.operands, Call.operands, stripRows, AV.strip, aggT, andThen, hlen, h1]
    refine hK3 _ _ ?_; clear hK3 K3
    refine CW.seqK fun K3 hK3 => CW.region ?_
    simp (maxDischargeDepth := 8) [LW_nil, LW_guardS, DW_guardS, LW_guardN, DW_guardN, yielded_eq, yv, LW_val, LW_skip, LW_enter, DW_nil, DW_val, DW_skip, DW_enter, es_move, es_assign, es_pick, es_allocV, es_boxV, es_build, es_buildSlice, es_buildSliceM, es_appendM, evMut, evAppendM, rowsA, es_load, es_store, es_nilCheck, es_binOp, es_unOp, es_convert, es_makeInterface, es_makeFunc, es_slice, es_fieldAddr, es_field, es_indexAddr, es_index, es_extract, es_panic, es_callV, es_len, es_max, evStepU, evPure, evLit, evMem, evx_tmp, evx_const, evx_func, putA_some, putA_none, slot_ne, slot_eq, List.length_set, isVal, valOf, stOf, accOf, isSkip, isEnter, fnOf, argsOf, absV, abs2, abs1, scal, binL, litInt, conc, conc2, lit?, omap, parts?, partA, fillA, putCells, chunks, AV.cells, AV.notTup, Op.operands, Call.operands, stripRows, AV.strip, aggT, andThen, hlen, h1]
    refine hK3 _ _ ?_; clear hK3 K3
    refine CW.block ?_
    refine CW.hide fun R3 hR3 => ?_
    let IB : Nat → List AV → Sto → Prop := fun r tm σ => ∃ i, i ≤ 7 ∧ r = 7 - i ∧ tm.length = 164 ∧ slot tm 1 = .lit (.int .i64 (c : Nat)) ∧ slot tm 2 = .sl (strRows endsL) .full ∧ slot tm 3 = .lit (.int .i64 (i : Nat))
    refine CW.loopI IB ?_ 7 _ σ1 ⟨0, by omega, by omega, by simp [hlen], by simp (maxDischargeDepth := 16) [slot_eq, slot_ne, hlen, h1], by simp (maxDischargeDepth := 16) [slot_eq, slot_ne, hlen, strRows, endsL], by simp [slot_eq, hlen]⟩
    clear h1 hlen tm
    rintro r tm σ2 ⟨i, hi, rfl, hlen, h1, h2, h3⟩
    have hrl : (strRows endsL).length = 7 := rfl
    refine CW.seqK fun K3 hK3 => CW.seqK fun K4 hK4 => CW.region ?_
    simp (maxDischargeDepth := 8) [LW_nil, LW_guardS, DW_guardS, LW_guardN, DW_guardN, yielded_eq, yv, LW_val, LW_skip, LW_enter, DW_nil, DW_val, DW_skip, DW_enter, es_move, es_assign, es_pick, es_allocV, es_boxV, es_build, es_buildSlice, es_buildSliceM, es_appendM, evMut, evAppendM, rowsA, es_load, es_store, es_nilCheck, es_binOp, es_unOp, es_convert, es_makeInterface, es_makeFunc, es_slice, es_fieldAddr, es_field, es_indexAddr, es_index, es_extract, es_panic, es_callV, es_len, es_max, evStepU, evPure, evLit, evMem, evx_tmp, evx_const, evx_func, putA_some, putA_none, slot_ne, slot_eq, List.length_set, isVal, valOf, stOf, accOf, isSkip, isEnter, fnOf, argsOf, absV, abs2, abs1, scal, binL, litInt, conc, conc2, lit?, omap, parts?, partA, fillA, putCells, chunks, AV.cells, AV.notTup, Op.operands, Call.operands, stripRows, AV.strip, aggT, andThen, hlen, h2, h3, hrl]
    refine hK4 _ _ ?_; clear hK4 K4
    rcases Nat.lt_or_ge i 7 with hi7 | hi7
    · have hii : (i : Int) < 7 := by omega
      refine CW.cond (t := true) (by simp [evx_tmp, slot_eq, hlen, hii]) (CW.skip ?_)
      simp only [andThen]
      refine hK3 _ _ ?_; clear hK3 K3
      refine CW.seqK fun K3 hK3 => CW.block ?_
      refine CW.hide fun R4 hR4 => ?_
      obtain ⟨s, hs, hm, hsl⟩ := ends_get hi7
      obtain ⟨b, hb⟩ : ∃ b : UInt8, b.toNat = c := ⟨UInt8.ofNat c, by simp; omega⟩
      have wc : IntKind.u8.wrap (c : Int) = (b.toNat : Int) := by rw [IntKind.wrap_u8]; omega
      have hby : bytesAV [AV.lit (.int .u8 b.toNat)] = some [b] := bytesAV_lb [b]
      refine CW.seqK fun K4 hK4 => CW.draw (by kernel_rfl) ?_
      simp (maxDischargeDepth := 16) [LW_nil, LW_guardS, DW_guardS, LW_guardN, DW_guardN, yielded_eq, yv, LW_val, LW_skip, LW_enter, DW_nil, DW_val, DW_skip, DW_enter, es_move, es_assign, es_pick, es_allocV, es_boxV, es_build, es_buildSlice, es_buildSliceM, es_appendM, evMut, evAppendM, rowsA, es_load, es_store, es_nilCheck, es_binOp, es_unOp, es_convert, es_makeInterface, es_makeFunc, es_slice, es_fieldAddr, es_field, es_indexAddr, es_index, es_extract, es_panic, es_callV, es_len, es_max, evStepU, evPure, evLit, evMem, evx_tmp, evx_const, evx_func, putA_some, putA_none, slot_ne, slot_eq, List.length_set, isVal, valOf, stOf, accOf, isSkip, isEnter, fnOf, argsOf, absV, abs2, abs1, scal, binL, litInt, conc, conc2, lit?, omap, parts?, partA, fillA, putCells, chunks, AV.cells, AV.notTup, Op.operands, Call.operands, stripRows, AV.strip, aggT, andThen, hlen, h1, h2, h3, hs, wc, hby]
      refine (replace_p s b hm (by omega) σ2).mono ?_
      rintro r σ3 ⟨rfl, rfl⟩
      simp only [retK]
      refine (parses_p _ (by rw [bszR, replA_len]; omega) σ3).mono ?_
      rintro r σ4 ⟨rfl, rfl⟩
      simp only [retK]
      refine DW.reset (fun tm => tm.length = 164 ∧ slot tm 1 = .lit (.int .i64 (c : Nat)) ∧ slot tm 2 = .sl (strRows endsL) .full ∧ slot tm 3 = .lit (.int .i64 (i : Nat)) ∧ slot tm 38 = .lit (.bool true)) ?_ ?_
      · exact ⟨by simp [putA_some, hlen], by simp (maxDischargeDepth := 64) [putA_some, slot_eq, slot_ne, hlen, h1], by simp (maxDischargeDepth := 64) [putA_some, slot_eq, slot_ne, hlen, h2], by simp (maxDischargeDepth := 64) [putA_some, slot_eq, slot_ne, hlen, h3], by simp (maxDischargeDepth := 64) [putA_some, slot_eq, slot_ne, hlen]⟩
      clear h1 h2 h3 hlen tm
      rintro tm ⟨hlen, h1, h2, h3, h38⟩
      have z1 : (⟨s.toArray⟩ : ByteArray).size = s.length := bszR s
      have z2 : (⟨#[b]⟩ : ByteArray).size = 1 := rfl
      have z3 : s.length + 1 ≤ 140737488355328 := by omega
      have z4 : 1 + s.length ≤ 140737488355328 := by omega
      simp (maxDischargeDepth := 16) [LW_nil, LW_guardS, DW_guardS, LW_guardN, DW_guardN, yielded_eq, yv, LW_val, LW_skip, LW_enter, DW_nil, DW_val, DW_skip, DW_enter, es_move, es_assign, es_pick, es_allocV, es_boxV, es_build, es_buildSlice, es_buildSliceM, es_appendM, evMut, evAppendM, rowsA, es_load, es_store, es_nilCheck, es_binOp, es_unOp, es_convert, es_makeInterface, es_makeFunc, es_slice, es_fieldAddr, es_field, es_indexAddr, es_index, es_extract, es_panic, es_callV, es_len, es_max, evStepU, evPure, evLit, evMem, evx_tmp, evx_const, evx_func, putA_some, putA_none, slot_ne, slot_eq, List.length_set, isVal, valOf, stOf, accOf, isSkip, isEnter, fnOf, argsOf, absV, abs2, abs1, scal, binL, litInt, conc, conc2, lit?, omap, parts?, partA, fillA, putCells, chunks, AV.cells, AV.notTup, Op.operands, Call.operands, stripRows, AV.strip, aggT, retK, andThen, hlen, h1, h2, h3, h38, hs, wc, hby, z1, z2, z3]
      refine (parses_p _ (by rw [ByteArray.size_append, z1, z2]; omega) σ4).mono ?_
      rintro r σ5 ⟨rfl, rfl⟩
      simp only [retK]
      refine DW.reset (fun tm => tm.length = 164 ∧ slot tm 1 = .lit (.int .i64 (c : Nat)) ∧ slot tm 2 = .sl (strRows endsL) .full ∧ slot tm 3 = .lit (.int .i64 (i : Nat)) ∧ slot tm 40 = .lit (.bool false) ∧ slot tm 50 = .lit (.bool true)) ?_ ?_
      · exact ⟨by simp [putA_some, hlen], by simp (maxDischargeDepth := 64) [putA_some, slot_eq, slot_ne, hlen, h1], by simp (maxDischargeDepth := 64) [putA_some, slot_eq, slot_ne, hlen, h2], by simp (maxDischargeDepth := 64) [putA_some, slot_eq, slot_ne, hlen, h3], by simp (maxDischargeDepth := 64) [putA_some, slot_eq, slot_ne, hlen], by simp (maxDischargeDepth := 64) [putA_some, slot_eq, slot_ne, hlen]⟩
      clear h1 h2 h3 h38 hlen tm
      rintro tm ⟨hlen, h1, h2, h3, h40, h50⟩
      simp (maxDischargeDepth := 16) [LW_nil, LW_guardS, DW_guardS, LW_guardN, DW_guardN, yielded_eq, yv, LW_val, LW_skip, LW_enter, DW_nil, DW_val, DW_skip, DW_enter, es_move, es_assign, es_pick, es_allocV, es_boxV, es_build, es_buildSlice, es_buildSliceM, es_appendM, evMut, evAppendM, rowsA, es_load, es_store, es_nilCheck, es_binOp, es_unOp, es_convert, es_makeInterface, es_makeFunc, es_slice, es_fieldAddr, es_field, es_indexAddr, es_index, es_extract, es_panic, es_callV, es_len, es_max, evStepU, evPure, evLit, evMem, evx_tmp, evx_const, evx_func, putA_some, putA_none, slot_ne, slot_eq, List.length_set, isVal, valOf, stOf, accOf, isSkip, isEnter, fnOf, argsOf, absV, abs2, abs1, scal, binL, litInt, conc, conc2, lit?, omap, parts?, partA, fillA, putCells, chunks, AV.cells, AV.notTup, Op.operands, Call.operands, stripRows, AV.strip, aggT, retK, andThen, hlen, h1, h2, h3, h40, h50, hs, wc, hby, z1, z2, z4]
      refine (parses_p _ (by rw [ByteArray.size_append, z1, z2]; omega) σ5).mono ?_
      rintro r σ6 ⟨rfl, rfl⟩
      simp only [retK]
      refine DW.reset (fun tm => tm.length = 164 ∧ slot tm 1 = .lit (.int .i64 (c : Nat)) ∧ slot tm 2 = .sl (strRows endsL) .full ∧ slot tm 3 = .lit (.int .i64 (i : Nat)) ∧ slot tm 53 = .lit (.bool false) ∧ slot tm 63 = .lit (.bool true)) ?_ ?_
      · exact ⟨by simp [putA_some, hlen], by simp (maxDischargeDepth := 64) [putA_some, slot_eq, slot_ne, hlen, h1], by simp (maxDischargeDepth := 64) [putA_some, slot_eq, slot_ne, hlen, h2], by simp (maxDischargeDepth := 64) [putA_some, slot_eq, slot_ne, hlen, h3], by simp (maxDischargeDepth := 64) [putA_some, slot_eq, slot_ne, hlen], by simp (maxDischargeDepth := 64) [putA_some, slot_eq, slot_ne, hlen]⟩
      clear h1 h2 h3 h40 h50 hlen tm
      rintro tm ⟨hlen, h1, h2, h3, h53, h63⟩
      simp (maxDischargeDepth := 16) [LW_nil, LW_guardS, DW_guardS, LW_guardN, DW_guardN, yielded_eq, yv, LW_val, LW_skip, LW_enter, DW_nil, DW_val, DW_skip, DW_enter, es_move, es_assign, es_pick, es_allocV, es_boxV, es_build, es_buildSlice, es_buildSliceM, es_appendM, evMut, evAppendM, rowsA, es_load, es_store, es_nilCheck, es_binOp, es_unOp, es_convert, es_makeInterface, es_makeFunc, es_slice, es_fieldAddr, es_field, es_indexAddr, es_index, es_extract, es_panic, es_callV, es_len, es_max, evStepU, evPure, evLit, evMem, evx_tmp, evx_const, evx_func, putA_some, putA_none, slot_ne, slot_eq, List.length_set, isVal, valOf, stOf, accOf, isSkip, isEnter, fnOf, argsOf, absV, abs2, abs1, scal, binL, litInt, conc, conc2, lit?, omap, parts?, partA, fillA, putCells, chunks, AV.cells, AV.notTup, Op.operands, Call.operands, stripRows, AV.strip, aggT, retK, andThen, hlen, h53, h63]
      refine ⟨by kernel_rfl, ?_⟩
      refine hK4 _ _ ?_; clear hK4 K4
      refine CW.cond (t := false) (by simp [evx_tmp, slot_eq, hlen]) (CW.skip ?_)
      refine hR4 _ _ _ ?_
      simp only [outOf, andThen]
      refine hK3 _ _ ?_; clear hR4 R4 hK3 K3
      have wi : IntKind.i64.wrap ((i : Int) + 1) = ((i + 1 : Nat) : Int) := wrap_succ (by omega)
      refine CW.region ?_
      simp (maxDischargeDepth := 16) [LW_nil, LW_guardS, DW_guardS, LW_guardN, DW_guardN, yielded_eq, yv, LW_val, LW_skip, LW_enter, DW_nil, DW_val, DW_skip, DW_enter, es_move, es_assign, es_pick, es_allocV, es_boxV, es_build, es_buildSlice, es_buildSliceM, es_appendM, evMut, evAppendM, rowsA, es_load, es_store, es_nilCheck, es_binOp, es_unOp, es_convert, es_makeInterface, es_makeFunc, es_slice, es_fieldAddr, es_field, es_indexAddr, es_index, es_extract, es_panic, es_callV, es_len, es_max, evStepU, evPure, evLit, evMem, evx_tmp, evx_const, evx_func, putA_some, putA_none, slot_ne, slot_eq, List.length_set, isVal, valOf, stOf, accOf, isSkip, isEnter, fnOf, argsOf, absV, abs2, abs1, scal, binL, litInt, conc, conc2, lit?, omap, parts?, partA, fillA, putCells, chunks, AV.cells, AV.notTup, Op.operands, Call.operands, stripRows, AV.strip, aggT, andThen, hlen, h3, wi]
      exact ⟨7 - (i + 1), by omega, i + 1, by omega, rfl, by simp [hlen], by simp (maxDischargeDepth := 16) [slot_eq, slot_ne, hlen, h1], by simp (maxDischargeDepth := 16) [slot_eq, slot_ne, hlen, h2], by simp (maxDischargeDepth := 16) [slot_eq, slot_ne, hlen]⟩
    · have hii : ¬ (i : Int) < 7 := by omega
      refine CW.cond (t := false) (by simp [evx_tmp, slot_eq, hlen, hii]) (CW.exit ?_)
      simp only [andThen]
      refine hR3 _ _ _ ?_
      simp only [outOf, andThen]
      refine hR2 _ _ _ ?_
      simp only [outOf, andThen]
      refine hK2 _ _ ?_
      have wi : IntKind.i64.wrap ((c : Int) + 1) = ((c + 1 : Nat) : Int) := wrap_succ (by omega)
      refine CW.region ?_
      simp (maxDischargeDepth := 16) [LW_nil, LW_guardS, DW_guardS, LW_guardN, DW_guardN, yielded_eq, yv, LW_val, LW_skip, LW_enter, DW_nil, DW_val, DW_skip, DW_enter, es_move, es_assign, es_pick, es_allocV, es_boxV, es_build, es_buildSlice, es_buildSliceM, es_appendM, evMut, evAppendM, rowsA, es_load, es_store, es_nilCheck, es_binOp, es_unOp, es_convert, es_makeInterface, es_makeFunc, es_slice, es_fieldAddr, es_field, es_indexAddr, es_index, es_extract, es_panic, es_callV, es_len, es_max, evStepU, evPure, evLit, evMem, evx_tmp, evx_const, evx_func, putA_some, putA_none, slot_ne, slot_eq, List.length_set, isVal, valOf, stOf, accOf, isSkip, isEnter, fnOf, argsOf, absV, abs2, abs1, scal, binL, litInt, conc, conc2, lit?, omap, parts?, partA, fillA, putCells, chunks, AV.cells, AV.notTup, Op.operands, Call.operands, stripRows, AV.strip, aggT, andThen, hlen, h1, wi]
      exact ⟨256 - (c + 1), by omega, c + 1, by omega, rfl, by simp [hlen], by simp (maxDischargeDepth := 16) [slot_eq, slot_ne, hlen]⟩
  · have hlti : ¬ (c : Int) < 256 := by omega
    refine CW.cond (t := false) (by simp [evx_tmp, slot_eq, hlen, hlti]) (CW.exit ?_)
    simp only [andThen]
    refine hR1 _ _ _ ?_
    simp only [outOf, andThen]
    refine hK _ _ ?_
    clear hK hR1 K R1 hK2 K2
    refine CW.reset (fun tm => tm.length = 164) (by simp [hlen]) ?_
    clear h1 hlen tm hlti hge hc
    intro tm hlen
    refine CW.seqK fun K hK => CW.seqK fun K2 hK2 => CW.region ?_
    simp (maxDischargeDepth := 8) [LW_nil, LW_guardS, DW_guardS, LW_guardN, DW_guardN, yielded_eq, yv, LW_val, LW_skip, LW_enter, DW_nil, DW_val, DW_skip, DW_enter, es_move, es_assign, es_pick, es_allocV, es_boxV, es_build, es_buildSlice, es_buildSliceM, es_appendM, evMut, evAppendM, rowsA, es_load, es_store, es_nilCheck, es_binOp, es_unOp, es_convert, es_makeInterface, es_makeFunc, es_slice, es_fieldAddr, es_field, es_indexAddr, es_index, es_extract, es_panic, es_callV, es_len, es_max, evStepU, evPure, evLit, evMem, evx_tmp, evx_const, evx_func, putA_some, putA_none, slot_ne, slot_eq, List.length_set, isVal, valOf, stOf, accOf, isSkip, isEnter, fnOf, argsOf, absV, abs2, abs1, scal, binL, litInt, conc, conc2, lit?, omap, parts?, partA, fillA, putCells, chunks, AV.cells, AV.notTup, Op.operands, Call.operands, stripRows, AV.strip, aggT, andThen, hlen]
    refine hK2 _ _ ?_; clear hK2 K2
    refine CW.block ?_
    refine CW.hide fun R1 hR1 => ?_
    let IC : Nat → List AV → Sto → Prop := fun r tm σ => ∃ n, 398 ≤ n ∧ n ≤ 403 ∧ r = 403 - n ∧ tm.length = 164 ∧ slot tm 4 = .lit (.int .i64 (n : Nat))
    refine CW.loopI IC ?_ 5 _ σ1 ⟨398, by omega, by omega, by omega, by simp [hlen], by simp [slot_eq, hlen]⟩
    clear hlen tm
    rintro r tm σ2 ⟨n, hn1, hn2, rfl, hlen, h4⟩
    refine CW.seqK fun K2 hK2 => CW.seqK fun K3 hK3 => CW.region ?_
    simp (maxDischargeDepth := 8) [LW_nil, LW_guardS, DW_guardS, LW_guardN, DW_guardN, yielded_eq, yv, LW_val, LW_skip, LW_enter, DW_nil, DW_val, DW_skip, DW_enter, es_move, es_assign, es_pick, es_allocV, es_boxV, es_build, es_buildSlice, es_buildSliceM, es_appendM, evMut, evAppendM, rowsA, es_load, es_store, es_nilCheck, es_binOp, es_unOp, es_convert, es_makeInterface, es_makeFunc, es_slice, es_fieldAddr, es_field, es_indexAddr, es_index, es_extract, es_panic, es_callV, es_len, es_max, evStepU, evPure, evLit, evMem, evx_tmp, evx_const, evx_func, putA_some, putA_none, slot_ne, slot_eq, List.length_set, isVal, valOf, stOf, accOf, isSkip, isEnter, fnOf, argsOf, absV, abs2, abs1, scal, binL, litInt, conc, conc2, lit?, omap, parts?, partA, fillA, putCells, chunks, AV.cells, AV.notTup, Op.operands, Call.operands, stripRows, AV.strip, aggT, andThen, hlen, h4]
    refine hK3 _ _ ?_; clear hK3 K3
    rcases Nat.lt_or_ge n 403 with hlt | hge
    · have hlti : (n : Int) < 403 := by omega
      refine CW.cond (t := true) (by simp [evx_tmp, slot_eq, hlen, hlti]) (CW.skip ?_)
      simp only [andThen]
      refine hK2 _ _ ?_; clear hK2 K2
      refine CW.seqK fun K2 hK2 => CW.block ?_
      refine CW.hide fun R2 hR2 => ?_
      refine CW.seqK fun K3 hK3 => CW.region ?_
      simp (maxDischargeDepth := 8) [LW_nil, LW_guardS, DW_guardS, LW_guardN, DW_guardN, yielded_eq, yv, LW_val, LW_skip, LW_enter, DW_nil, DW_val, DW_skip, DW_enter, es_move, es_assign, es_pick, es_allocV, es_boxV, es_build, es_buildSlice, es_buildSliceM, es_appendM, evMut, evAppendM, rowsA, es_load, es_store, es_nilCheck, es_binOp, es_unOp, es_convert, es_makeInterface, es_makeFunc, es_slice, es_fieldAddr, es_field, es_indexAddr, es_index, es_extract, es_panic, es_callV, es_len, es_max, evStepU, evPure, evLit, evMem, evx_tmp, evx_const, evx_func, putA_some, putA_none, slot_ne, slot_eq, List.length_set, isVal, valOf, stOf, accOf, isSkip, isEnter, fnOf, argsOf, absV, abs2, abs1, scal, binL, litInt, conc, conc2, lit?, omap, parts?, partA, fillA, putCells, chunks, AV.cells, AV.notTup, Op.operands, Call.operands, stripRows, AV.strip, aggT, andThen, hlen, h4]
      refine (repeat_p 40 [] n (by decide) (by omega) (by simp; omega) σ2).mono ?_
      rintro r σ3 ⟨rfl, rfl⟩
      simp (maxDischargeDepth := 8) [LW_nil, LW_guardS, DW_guardS, LW_guardN, DW_guardN, yielded_eq, yv, LW_val, LW_skip, LW_enter, DW_nil, DW_val, DW_skip, DW_enter, es_move, es_assign, es_pick, es_allocV, es_boxV, es_build, es_buildSlice, es_buildSliceM, es_appendM, evMut, evAppendM, rowsA, es_load, es_store, es_nilCheck, es_binOp, es_unOp, es_convert, es_makeInterface, es_makeFunc, es_slice, es_fieldAddr, es_field, es_indexAddr, es_index, es_extract, es_panic, es_callV, es_len, es_max, evStepU, evPure, evLit, evMem, evx_tmp, evx_const, evx_func, putA_some, putA_none, slot_ne, slot_eq, List.length_set, isVal, valOf, stOf, accOf, isSkip, isEnter, fnOf, argsOf, absV, abs2, abs1, scal, binL, litInt, conc, conc2, lit?, omap, parts?, partA, fillA, putCells, chunks, AV.cells, AV.notTup, Op.operands, Call.operands, stripRows, AV.strip, aggT, retK, andThen, hlen]
      refine hK3 _ _ ?_; clear hK3 K3
      obtain ⟨p, hp⟩ : ∃ p, p = n - 1 := ⟨_, rfl⟩
      obtain ⟨q, hq⟩ : ∃ q, q = n + 1 := ⟨_, rfl⟩
      have hw1 : IntKind.i64.wrap ((n : Int) - 1) = (p : Int) := by rw [show (n : Int) - 1 = (p : Int) by omega]; exact IntWalk.i64_in _ ⟨by omega, by omega⟩
      have hw2 : IntKind.i64.wrap ((n : Int) + 1) = (q : Int) := by rw [show (n : Int) + 1 = (q : Int) by omega]; exact IntWalk.i64_in _ ⟨by omega, by omega⟩
      have zA : (⟨(rep n [40]).toArray⟩ : ByteArray).size = n := by rw [bszR, rep_len]; simp
      have zB : (⟨(rep n [41]).toArray⟩ : ByteArray).size = n := by rw [bszR, rep_len]; simp
      have zC : (⟨(rep p [41, 32]).toArray⟩ : ByteArray).size = p * 2 := by rw [bszR, rep_len]; simp
      have zD : (⟨(rep q [41]).toArray⟩ : ByteArray).size = q := by rw [bszR, rep_len]; simp
      have za : (⟨#[97]⟩ : ByteArray).size = 1 := rfl
      have zz : (⟨#[65]⟩ : ByteArray).size = 1 := rfl
      generalize (⟨(rep n [40]).toArray⟩ : ByteArray) = A at *
      have n1 : n + n ≤ 140737488355328 := by omega
      have n2 : n + 1 ≤ 140737488355328 := by omega
      have n3 : n + 1 + p * 2 ≤ 140737488355328 := by omega
      have n4 : n + q ≤ 140737488355328 := by omega
      have n5 : 1 + n ≤ 140737488355328 := by omega
      have n6 : 1 + n + 1 ≤ 140737488355328 := by omega
      refine CW.reset (fun tm => tm.length = 164 ∧ slot tm 4 = .lit (.int .i64 (n : Nat)) ∧ slot tm 5 = .lit (.string A)) ⟨by simp [hlen], by simp (maxDischargeDepth := 16) [slot_eq, slot_ne, hlen, h4], by simp [slot_eq, hlen]⟩ ?_
      clear h4 hlen tm
      rintro tm ⟨hlen, h4, h5⟩
      refine CW.seqK fun K3 hK3 => CW.region ?_
      simp (maxDischargeDepth := 16) [LW_nil, LW_guardS, DW_guardS, LW_guardN, DW_guardN, yielded_eq, yv, LW_val, LW_skip, LW_enter, DW_nil, DW_val, DW_skip, DW_enter, es_move, es_assign, es_pick, es_allocV, es_boxV, es_build, es_buildSlice, es_buildSliceM, es_appendM, evMut, evAppendM, rowsA, es_load, es_store, es_nilCheck, es_binOp, es_unOp, es_convert, es_makeInterface, es_makeFunc, es_slice, es_fieldAddr, es_field, es_indexAddr, es_index, es_extract, es_panic, es_callV, es_len, es_max, evStepU, evPure, evLit, evMem, evx_tmp, evx_const, evx_func, putA_some, putA_none, slot_ne, slot_eq, List.length_set, isVal, valOf, stOf, accOf, isSkip, isEnter, fnOf, argsOf, absV, abs2, abs1, scal, binL, litInt, conc, conc2, lit?, omap, parts?, partA, fillA, putCells, chunks, AV.cells, AV.notTup, Op.operands, Call.operands, stripRows, AV.strip, aggT, andThen, hlen, h4, h5]
      refine (repeat_p 41 [] n (by decide) (by omega) (by simp; omega) σ3).mono ?_
      rintro r σ4 ⟨rfl, rfl⟩
      simp (maxDischargeDepth := 16) [LW_nil, LW_guardS, DW_guardS, LW_guardN, DW_guardN, yielded_eq, yv, LW_val, LW_skip, LW_enter, DW_nil, DW_val, DW_skip, DW_enter, es_move, es_assign, es_pick, es_allocV, es_boxV, es_build, es_buildSlice, es_buildSliceM, es_appendM, evMut, evAppendM, rowsA, es_load, es_store, es_nilCheck, es_binOp, es_unOp, es_convert, es_makeInterface, es_makeFunc, es_slice, es_fieldAddr, es_field, es_indexAddr, es_index, es_extract, es_panic, es_callV, es_len, es_max, evStepU, evPure, evLit, evMem, evx_tmp, evx_const, evx_func, putA_some, putA_none, slot_ne, slot_eq, List.length_set, isVal, valOf, stOf, accOf, isSkip, isEnter, fnOf, argsOf, absV, abs2, abs1, scal, binL, litInt, conc, conc2, lit?, omap, parts?, partA, fillA, putCells, chunks, AV.cells, AV.notTup, Op.operands, Call.operands, stripRows, AV.strip, aggT, retK, andThen, hlen, h4, h5, zA, zB, za, n1, n2, hw1]
      refine (repeat_p 41 [32] p (by decide) (by omega) (by simp; omega) σ4).mono ?_
      rintro r σ5 ⟨rfl, rfl⟩
      simp (maxDischargeDepth := 16) [LW_nil, LW_guardS, DW_guardS, LW_guardN, DW_guardN, yielded_eq, yv, LW_val, LW_skip, LW_enter, DW_nil, DW_val, DW_skip, DW_enter, es_move, es_assign, es_pick, es_allocV, es_boxV, es_build, es_buildSlice, es_buildSliceM, es_appendM, evMut, evAppendM, rowsA, es_load, es_store, es_nilCheck, es_binOp, es_unOp, es_convert, es_makeInterface, es_makeFunc, es_slice, es_fieldAddr, es_field, es_indexAddr, es_index, es_extract, es_panic, es_callV, es_len, es_max, evStepU, evPure, evLit, evMem, evx_tmp, evx_const, evx_func, putA_some, putA_none, slot_ne, slot_eq, List.length_set, isVal, valOf, stOf, accOf, isSkip, isEnter, fnOf, argsOf, absV, abs2, abs1, scal, binL, litInt, conc, conc2, lit?, omap, parts?, partA, fillA, putCells, chunks, AV.cells, AV.notTup, Op.operands, Call.operands, stripRows, AV.strip, aggT, retK, andThen, hlen, h4, h5, zA, zB, zC, za, n1, n2, n3, hw1, hw2, ByteArray.size_append]
      refine (repeat_p 41 [] q (by decide) (by omega) (by simp; omega) σ5).mono ?_
      rintro r σ6 ⟨rfl, rfl⟩
      simp (maxDischargeDepth := 16) [LW_nil, LW_guardS, DW_guardS, LW_guardN, DW_guardN, yielded_eq, yv, LW_val, LW_skip, LW_enter, DW_nil, DW_val, DW_skip, DW_enter, es_move, es_assign, es_pick, es_allocV, es_boxV, es_build, es_buildSlice, es_buildSliceM, es_appendM, evMut, evAppendM, rowsA, es_load, es_store, es_nilCheck, es_binOp, es_unOp, es_convert, es_makeInterface, es_makeFunc, es_slice, es_fieldAddr, es_field, es_indexAddr, es_index, es_extract, es_panic, es_callV, es_len, es_max, evStepU, evPure, evLit, evMem, evx_tmp, evx_const, evx_func, putA_some, putA_none, slot_ne, slot_eq, List.length_set, isVal, valOf, stOf, accOf, isSkip, isEnter, fnOf, argsOf, absV, abs2, abs1, scal, binL, litInt, conc, conc2, lit?, omap, parts?, partA, fillA, putCells, chunks, AV.cells, AV.notTup, Op.operands, Call.operands, stripRows, AV.strip, aggT, retK, andThen, hlen, h4, h5, zA, zB, zC, zD, za, zz, n1, n2, n3, n4, n5, n6, hw1, hw2, ByteArray.size_append]
      refine hK3 _ _ ?_; clear hK3 K3
      refine CW.reset (fun tm => tm.length = 164 ∧ slot tm 4 = .lit (.int .i64 (n : Nat)) ∧ slot tm 6 = .sl (bRows [A, A ++ ⟨(rep n [41]).toArray⟩, A ++ ⟨#[97]⟩ ++ ⟨(rep p [41, 32]).toArray⟩, A ++ ⟨(rep q [41]).toArray⟩, ⟨#[97]⟩ ++ A ++ ⟨#[65]⟩]) .full) ⟨by simp [hlen], by simp (maxDischargeDepth := 64) [slot_eq, slot_ne, hlen, h4], by simp [slot_eq, hlen, bRows]⟩ ?_
      clear h4 h5 hlen tm
      rintro tm ⟨hlen, h4, h6⟩
      have hL : ∀ x ∈ [A, A ++ ⟨(rep n [41]).toArray⟩, A ++ ⟨#[97]⟩ ++ ⟨(rep p [41, 32]).toArray⟩, A ++ ⟨(rep q [41]).toArray⟩, ⟨#[97]⟩ ++ A ++ ⟨#[65]⟩], ByteArray.size x ≤ 3000 := by
        intro x hx
        simp only [List.mem_cons, List.not_mem_nil, or_false] at hx
        rcases hx with rfl | rfl | rfl | rfl | rfl <;> simp only [ByteArray.size_append, zA, zB, zC, zD, za, zz] <;> omega
      have hL5 : [A, A ++ ⟨(rep n [41]).toArray⟩, A ++ ⟨#[97]⟩ ++ ⟨(rep p [41, 32]).toArray⟩, A ++ ⟨(rep q [41]).toArray⟩, ⟨#[97]⟩ ++ A ++ ⟨#[65]⟩].length = 5 := rfl
      generalize [A, A ++ ⟨(rep n [41]).toArray⟩, A ++ ⟨#[97]⟩ ++ ⟨(rep p [41, 32]).toArray⟩, A ++ ⟨(rep q [41]).toArray⟩, ⟨#[97]⟩ ++ A ++ ⟨#[65]⟩] = L at *
      refine CW.seqK fun K3 hK3 => CW.region ?_
      simp (maxDischargeDepth := 8) [LW_nil, LW_guardS, DW_guardS, LW_guardN, DW_guardN, yielded_eq, yv, LW_val, LW_skip, LW_enter, DW_nil, DW_val, DW_skip, DW_enter, es_move, es_assign, es_pick, es_allocV, es_boxV, es_build, es_buildSlice, es_buildSliceM, es_appendM, evMut, evAppendM, rowsA, es_load, es_store, es_nilCheck, es_binOp, es_unOp, es_convert, es_makeInterface, es_makeFunc, es_slice, es_fieldAddr, es_field, es_indexAddr, es_index, es_extract, es_panic, es_callV, es_len, es_max, evStepU, evPure, evLit, evMem, evx_tmp, evx_const, evx_func, putA_some, putA_none, slot_ne, slot_eq, List.length_set, isVal, valOf, stOf, accOf, isSkip, isEnter, fnOf, argsOf, absV, abs2, abs1, scal, binL, litInt, conc, conc2, lit?, omap, parts?, partA, fillA, putCells, chunks, AV.cells, AV.notTup, Op.operands, Call.operands, stripRows, AV.strip, aggT, andThen, hlen]
      refine hK3 _ _ ?_; clear hK3 K3
      refine CW.block ?_
      refine CW.hide fun R3 hR3 => ?_
      let ID : Nat → List AV → Sto → Prop := fun r tm σ => ∃ i, i ≤ 5 ∧ r = 5 - i ∧ tm.length = 164 ∧ slot tm 4 = .lit (.int .i64 (n : Nat)) ∧ slot tm 6 = .sl (bRows L) .full ∧ slot tm 7 = .lit (.int .i64 (i : Nat))
      refine CW.loopI ID ?_ 5 _ σ6 ⟨0, by omega, by omega, by simp [hlen], by simp (maxDischargeDepth := 16) [slot_eq, slot_ne, hlen, h4], by simp (maxDischargeDepth := 16) [slot_eq, slot_ne, hlen, h6], by simp [slot_eq, hlen]⟩
      clear h4 h6 hlen tm
      rintro r tm σ7 ⟨i, hi, rfl, hlen, h4, h6, h7⟩
      have hrl : (bRows L).length = 5 := by unfold bRows; rw [List.length_map, hL5]
      refine CW.seqK fun K3 hK3 => CW.seqK fun K4 hK4 => CW.region ?_
      simp (maxDischargeDepth := 8) [LW_nil, LW_guardS, DW_guardS, LW_guardN, DW_guardN, yielded_eq, yv, LW_val, LW_skip, LW_enter, DW_nil, DW_val, DW_skip, DW_enter, es_move, es_assign, es_pick, es_allocV, es_boxV, es_build, es_buildSlice, es_buildSliceM, es_appendM, evMut, evAppendM, rowsA, es_load, es_store, es_nilCheck, es_binOp, es_unOp, es_convert, es_makeInterface, es_makeFunc, es_slice, es_fieldAddr, es_field, es_indexAddr, es_index, es_extract, es_panic, es_callV, es_len, es_max, evStepU, evPure, evLit, evMem, evx_tmp, evx_const, evx_func, putA_some, putA_none, slot_ne, slot_eq, List.length_set, isVal, valOf, stOf, accOf, isSkip, isEnter, fnOf, argsOf, absV, abs2, abs1, scal, binL, litInt, conc, conc2, lit?, omap, parts?, partA, fillA, putCells, chunks, AV.cells, AV.notTup, Op.operands, Call.operands, stripRows, AV.strip, aggT, andThen, hlen, h6, h7, hrl]
      refine hK4 _ _ ?_; clear hK4 K4
      rcases Nat.lt_or_ge i 5 with hi5 | hi5
      · have hii : (i : Int) < 5 := by omega
        have hil : i < L.length := by omega
        have hg := bRows_get hil
        refine CW.cond (t := true) (by simp [evx_tmp, slot_eq, hlen, hii]) (CW.skip ?_)
        simp only [andThen]
        refine hK3 _ _ ?_; clear hK3 K3
        refine CW.seqK fun K3 hK3 => CW.block ?_
        refine CW.hide fun R4 hR4 => ?_
        refine CW.seqK fun K4 hK4 => CW.region ?_
        simp (maxDischargeDepth := 16) [LW_nil, LW_guardS, DW_guardS, LW_guardN, DW_guardN, yielded_eq, yv, LW_val, LW_skip, LW_enter, DW_nil, DW_val, DW_skip, DW_enter, es_move, es_assign, es_pick, es_allocV, es_boxV, es_build, es_buildSlice, es_buildSliceM, es_appendM, evMut, evAppendM, rowsA, es_load, es_store, es_nilCheck, es_binOp, es_unOp, es_convert, es_makeInterface, es_makeFunc, es_slice, es_fieldAddr, es_field, es_indexAddr, es_index, es_extract, es_panic, es_callV, es_len, es_max, evStepU, evPure, evLit, evMem, evx_tmp, evx_const, evx_func, putA_some, putA_none, slot_ne, slot_eq, List.length_set, isVal, valOf, stOf, accOf, isSkip, isEnter, fnOf, argsOf, absV, abs2, abs1, scal, binL, litInt, conc, conc2, lit?, omap, parts?, partA, fillA, putCells, chunks, AV.cells, AV.notTup, Op.operands, Call.operands, stripRows, AV.strip, aggT, andThen, hlen, h6, h7, hg]
        refine (parses_p _ (Nat.le_trans (hL _ (List.getElem_mem hil)) (by omega)) σ7).mono ?_
        rintro r σ8 ⟨rfl, rfl⟩
        simp (maxDischargeDepth := 16) [LW_nil, LW_guardS, DW_guardS, LW_guardN, DW_guardN, yielded_eq, yv, LW_val, LW_skip, LW_enter, DW_nil, DW_val, DW_skip, DW_enter, es_move, es_assign, es_pick, es_allocV, es_boxV, es_build, es_buildSlice, es_buildSliceM, es_appendM, evMut, evAppendM, rowsA, es_load, es_store, es_nilCheck, es_binOp, es_unOp, es_convert, es_makeInterface, es_makeFunc, es_slice, es_fieldAddr, es_field, es_indexAddr, es_index, es_extract, es_panic, es_callV, es_len, es_max, evStepU, evPure, evLit, evMem, evx_tmp, evx_const, evx_func, putA_some, putA_none, slot_ne, slot_eq, List.length_set, isVal, valOf, stOf, accOf, isSkip, isEnter, fnOf, argsOf, absV, abs2, abs1, scal, binL, litInt, conc, conc2, lit?, omap, parts?, partA, fillA, putCells, chunks, AV.cells, AV.notTup, Op.operands, Call.operands, stripRows, AV.strip, aggT, retK, andThen, hlen]
        refine hK4 _ _ ?_; clear hK4 K4
        refine CW.cond (t := false) (by simp [evx_tmp, slot_eq, hlen]) (CW.skip ?_)
        refine hR4 _ _ _ ?_
        simp only [outOf, andThen]
        refine hK3 _ _ ?_; clear hR4 R4 hK3 K3
        have wi : IntKind.i64.wrap ((i : Int) + 1) = ((i + 1 : Nat) : Int) := wrap_succ (by omega)
        refine CW.region ?_
        simp (maxDischargeDepth := 16) [LW_nil, LW_guardS, DW_guardS, LW_guardN, DW_guardN, yielded_eq, yv, LW_val, LW_skip, LW_enter, DW_nil, DW_val, DW_skip, DW_enter, es_move, es_assign, es_pick, es_allocV, es_boxV, es_build, es_buildSlice, es_buildSliceM, es_appendM, evMut, evAppendM, rowsA, es_load, es_store, es_nilCheck, es_binOp, es_unOp, es_convert, es_makeInterface, es_makeFunc, es_slice, es_fieldAddr, es_field, es_indexAddr, es_index, es_extract, es_panic, es_callV, es_len, es_max, evStepU, evPure, evLit, evMem, evx_tmp, evx_const, evx_func, putA_some, putA_none, slot_ne, slot_eq, List.length_set, isVal, valOf, stOf, accOf, isSkip, isEnter, fnOf, argsOf, absV, abs2, abs1, scal, binL, litInt, conc, conc2, lit?, omap, parts?, partA, fillA, putCells, chunks, AV.cells, AV.notTup, Op.operands, Call.operands, stripRows, AV.strip, aggT, andThen, hlen, h7, wi]
        exact ⟨5 - (i + 1), by omega, i + 1, by omega, rfl, by simp [hlen], by simp (maxDischargeDepth := 16) [slot_eq, slot_ne, hlen, h4], by simp (maxDischargeDepth := 16) [slot_eq, slot_ne, hlen, h6], by simp (maxDischargeDepth := 16) [slot_eq, slot_ne, hlen]⟩
      · have hii : ¬ (i : Int) < 5 := by omega
        refine CW.cond (t := false) (by simp [evx_tmp, slot_eq, hlen, hii]) (CW.exit ?_)
        simp only [andThen]
        refine hR3 _ _ _ ?_
        simp only [outOf, andThen]
        refine hR2 _ _ _ ?_
        simp only [outOf, andThen]
        refine hK2 _ _ ?_
        have wi : IntKind.i64.wrap ((n : Int) + 1) = ((n + 1 : Nat) : Int) := wrap_succ (by omega)
        refine CW.region ?_
        simp (maxDischargeDepth := 16) [LW_nil, LW_guardS, DW_guardS, LW_guardN, DW_guardN, yielded_eq, yv, LW_val, LW_skip, LW_enter, DW_nil, DW_val, DW_skip, DW_enter, es_move, es_assign, es_pick, es_allocV, es_boxV, es_build, es_buildSlice, es_buildSliceM, es_appendM, evMut, evAppendM, rowsA, es_load, es_store, es_nilCheck, es_binOp, es_unOp, es_convert, es_makeInterface, es_makeFunc, es_slice, es_fieldAddr, es_field, es_indexAddr, es_index, es_extract, es_panic, es_callV, es_len, es_max, evStepU, evPure, evLit, evMem, evx_tmp, evx_const, evx_func, putA_some, putA_none, slot_ne, slot_eq, List.length_set, isVal, valOf, stOf, accOf, isSkip, isEnter, fnOf, argsOf, absV, abs2, abs1, scal, binL, litInt, conc, conc2, lit?, omap, parts?, partA, fillA, putCells, chunks, AV.cells, AV.notTup, Op.operands, Call.operands, stripRows, AV.strip, aggT, andThen, hlen, h4, wi]
        exact ⟨403 - (n + 1), by omega, n + 1, by omega, by omega, rfl, by simp [hlen], by simp (maxDischargeDepth := 16) [slot_eq, slot_ne, hlen]⟩
    · have hlti : ¬ (n : Int) < 403 := by omega
      refine CW.cond (t := false) (by simp [evx_tmp, slot_eq, hlen, hlti]) (CW.exit ?_)
      simp only [andThen]
      refine hR1 _ _ _ ?_
      simp only [outOf, andThen]
      refine hK _ _ ?_
      clear hK hR1 K R1 hK2 K2
      refine CW.reset (fun tm => tm.length = 164) (by simp [hlen]) ?_
      clear h4 hlen tm hlti hge hn1 hn2
      intro tm hlen
      have hrp : ∀ n, (⟨(rep n [97]).toArray⟩ : ByteArray) = ⟨(List.replicate n 97).toArray⟩ := fun n => by rw [rep_single]
      refine CW.seqK fun K hK => CW.region ?_
      simp (maxDischargeDepth := 8) [LW_nil, LW_guardS, DW_guardS, LW_guardN, DW_guardN, yielded_eq, yv, LW_val, LW_skip, LW_enter, DW_nil, DW_val, DW_skip, DW_enter, es_move, es_assign, es_pick, es_allocV, es_boxV, es_build, es_buildSlice, es_buildSliceM, es_appendM, evMut, evAppendM, rowsA, es_load, es_store, es_nilCheck, es_binOp, es_unOp, es_convert, es_makeInterface, es_makeFunc, es_slice, es_fieldAddr, es_field, es_indexAddr, es_index, es_extract, es_panic, es_callV, es_len, es_max, evStepU, evPure, evLit, evMem, evx_tmp, evx_const, evx_func, putA_some, putA_none, slot_ne, slot_eq, List.length_set, isVal, valOf, stOf, accOf, isSkip, isEnter, fnOf, argsOf, absV, abs2, abs1, scal, binL, litInt, conc, conc2, lit?, omap, parts?, partA, fillA, putCells, chunks, AV.cells, AV.notTup, Op.operands, Call.operands, stripRows, AV.strip, aggT, andThen, hlen]
      have hN := repeat_p 97 [] 262144 (by decide) (by omega) (by simp) σ2
      rw [rep_single] at hN
      have hp1 := parse_word 262144 (by omega) (by omega)
      have hp2 := parse_over 262144 (by omega)
      have hsh := shown_trees 262144 (by omega)
      have hln : (List.replicate 262144 (97 : UInt8)).length = 262144 := List.length_replicate
      generalize List.replicate 262144 (97 : UInt8) = W at hN hp1 hp2 hsh hln
      refine hN.mono ?_
      rintro r σ3 ⟨rfl, rfl⟩
      simp (maxDischargeDepth := 8) [LW_nil, LW_guardS, DW_guardS, LW_guardN, DW_guardN, yielded_eq, yv, LW_val, LW_skip, LW_enter, DW_nil, DW_val, DW_skip, DW_enter, es_move, es_assign, es_pick, es_allocV, es_boxV, es_build, es_buildSlice, es_buildSliceM, es_appendM, evMut, evAppendM, rowsA, es_load, es_store, es_nilCheck, es_binOp, es_unOp, es_convert, es_makeInterface, es_makeFunc, es_slice, es_fieldAddr, es_field, es_indexAddr, es_index, es_extract, es_panic, es_callV, es_len, es_max, evStepU, evPure, evLit, evMem, evx_tmp, evx_const, evx_func, putA_some, putA_none, slot_ne, slot_eq, List.length_set, isVal, valOf, stOf, accOf, isSkip, isEnter, fnOf, argsOf, absV, abs2, abs1, scal, binL, litInt, conc, conc2, lit?, omap, parts?, partA, fillA, putCells, chunks, AV.cells, AV.notTup, Op.operands, Call.operands, stripRows, AV.strip, aggT, retK, andThen, hlen]
      refine hK _ _ ?_; clear hK K
      refine CW.reset (fun tm => tm.length = 164 ∧ slot tm 8 = .lit (.string ⟨W.toArray⟩)) ⟨by simp [hlen], by simp [slot_eq, hlen]⟩ ?_
      clear hlen tm
      rintro tm ⟨hlen, h8⟩
      have zW : (⟨W.toArray⟩ : ByteArray).size = 262144 := by rw [bszR, hln]
      have zz : (⟨#[65]⟩ : ByteArray).size = 1 := rfl
      have hWA : (⟨W.toArray⟩ : ByteArray) ++ ⟨#[65]⟩ = ⟨(W ++ [65]).toArray⟩ := by apply ByteArray.ext; simp
      refine CW.seqK fun K hK => CW.region ?_
      simp (maxDischargeDepth := 16) [LW_nil, LW_guardS, DW_guardS, LW_guardN, DW_guardN, yielded_eq, yv, LW_val, LW_skip, LW_enter, DW_nil, DW_val, DW_skip, DW_enter, es_move, es_assign, es_pick, es_allocV, es_boxV, es_build, es_buildSlice, es_buildSliceM, es_appendM, evMut, evAppendM, rowsA, es_load, es_store, es_nilCheck, es_binOp, es_unOp, es_convert, es_makeInterface, es_makeFunc, es_slice, es_fieldAddr, es_field, es_indexAddr, es_index, es_extract, es_panic, es_callV, es_len, es_max, evStepU, evPure, evLit, evMem, evx_tmp, evx_const, evx_func, putA_some, putA_none, slot_ne, slot_eq, List.length_set, isVal, valOf, stOf, accOf, isSkip, isEnter, fnOf, argsOf, absV, abs2, abs1, scal, binL, litInt, conc, conc2, lit?, omap, parts?, partA, fillA, putCells, chunks, AV.cells, AV.notTup, Op.operands, Call.operands, stripRows, AV.strip, aggT, andThen, hlen, h8]
      refine (parse_p W (by omega) _ _ _ hp1 σ3).mono ?_
      rintro r σ4 ⟨rfl, rfl⟩
      simp (maxDischargeDepth := 16) [LW_nil, LW_guardS, DW_guardS, LW_guardN, DW_guardN, yielded_eq, yv, LW_val, LW_skip, LW_enter, DW_nil, DW_val, DW_skip, DW_enter, es_move, es_assign, es_pick, es_allocV, es_boxV, es_build, es_buildSlice, es_buildSliceM, es_appendM, evMut, evAppendM, rowsA, es_load, es_store, es_nilCheck, es_binOp, es_unOp, es_convert, es_makeInterface, es_makeFunc, es_slice, es_fieldAddr, es_field, es_indexAddr, es_index, es_extract, es_panic, es_callV, es_len, es_max, evStepU, evPure, evLit, evMem, evx_tmp, evx_const, evx_func, putA_some, putA_none, slot_ne, slot_eq, List.length_set, isVal, valOf, stOf, accOf, isSkip, isEnter, fnOf, argsOf, absV, abs2, abs1, scal, binL, litInt, conc, conc2, lit?, omap, parts?, partA, fillA, putCells, chunks, AV.cells, AV.notTup, Op.operands, Call.operands, stripRows, AV.strip, aggT, retK, andThen, hlen]
      refine hK _ _ ?_; clear hK K
      generalize hX : ([Tr.mk W [] false 0] : List Tr) = X at *
      refine CW.reset (fun tm => tm.length = 164 ∧ slot tm 8 = .lit (.string ⟨W.toArray⟩) ∧ slot tm 9 = .sl (rowsOf X) .no ∧ slot tm 11 = .lit (.int .i64 0)) ⟨by simp [hlen], by simp (maxDischargeDepth := 16) [slot_eq, slot_ne, hlen, h8], by simp (maxDischargeDepth := 16) [slot_eq, slot_ne, hlen], by simp (maxDischargeDepth := 16) [slot_eq, slot_ne, hlen]⟩ ?_
      clear h8 hlen tm
      rintro tm ⟨hlen, h8, h9, h11⟩
      refine CW.seqK fun K hK => CW.region ?_
      have sz3 : 262144 + 1 ≤ 140737488355328 := by omega
      simp (maxDischargeDepth := 16) [LW_nil, LW_guardS, DW_guardS, LW_guardN, DW_guardN, yielded_eq, yv, LW_val, LW_skip, LW_enter, DW_nil, DW_val, DW_skip, DW_enter, es_move, es_assign, es_pick, es_allocV, es_boxV, es_build, es_buildSlice, es_buildSliceM, es_appendM, evMut, evAppendM, rowsA, es_load, es_store, es_nilCheck, es_binOp, es_unOp, es_convert, es_makeInterface, es_makeFunc, es_slice, es_fieldAddr, es_field, es_indexAddr, es_index, es_extract, es_panic, es_callV, es_len, es_max, evStepU, evPure, evLit, evMem, evx_tmp, evx_const, evx_func, putA_some, putA_none, slot_ne, slot_eq, List.length_set, isVal, valOf, stOf, accOf, isSkip, isEnter, fnOf, argsOf, absV, abs2, abs1, scal, binL, litInt, conc, conc2, lit?, omap, parts?, partA, fillA, putCells, chunks, AV.cells, AV.notTup, Op.operands, Call.operands, stripRows, AV.strip, aggT, andThen, hlen, h8, zW, zz, hWA]
      refine (parse_p (W ++ [65]) (by simp [hln]) _ _ _ hp2 σ4).mono ?_
      rintro r σ5 ⟨rfl, rfl⟩
      simp (maxDischargeDepth := 16) [LW_nil, LW_guardS, DW_guardS, LW_guardN, DW_guardN, yielded_eq, yv, LW_val, LW_skip, LW_enter, DW_nil, DW_val, DW_skip, DW_enter, es_move, es_assign, es_pick, es_allocV, es_boxV, es_build, es_buildSlice, es_buildSliceM, es_appendM, evMut, evAppendM, rowsA, es_load, es_store, es_nilCheck, es_binOp, es_unOp, es_convert, es_makeInterface, es_makeFunc, es_slice, es_fieldAddr, es_field, es_indexAddr, es_index, es_extract, es_panic, es_callV, es_len, es_max, evStepU, evPure, evLit, evMem, evx_tmp, evx_const, evx_func, putA_some, putA_none, slot_ne, slot_eq, List.length_set, isVal, valOf, stOf, accOf, isSkip, isEnter, fnOf, argsOf, absV, abs2, abs1, scal, binL, litInt, conc, conc2, lit?, omap, parts?, partA, fillA, putCells, chunks, AV.cells, AV.notTup, Op.operands, Call.operands, stripRows, AV.strip, aggT, retK, andThen, hlen]
      refine hK _ _ ?_; clear hK K
      refine CW.reset (fun tm => tm.length = 164 ∧ slot tm 9 = .sl (rowsOf X) .no ∧ slot tm 11 = .lit (.int .i64 0) ∧ slot tm 13 = .lit (.int .i64 0) ∧ slot tm 14 = .lit (.int .i64 3)) ⟨by simp [hlen], by simp (maxDischargeDepth := 16) [slot_eq, slot_ne, hlen, h9], by simp (maxDischargeDepth := 16) [slot_eq, slot_ne, hlen, h11], by simp (maxDischargeDepth := 16) [slot_eq, slot_ne, hlen], by simp (maxDischargeDepth := 16) [slot_eq, slot_ne, hlen]⟩ ?_
      clear h8 h9 h11 hlen tm
      rintro tm ⟨hlen, h9, h11, h13, h14⟩
      have r1 := fun σ => repeat_p 40 [] 400 (by decide) (by omega) (by simp) σ
      have r2 := fun σ => repeat_p 41 [] 400 (by decide) (by omega) (by simp) σ
      rw [rep_single] at r1 r2
      have hdp := parse_deep
      have l1 : (List.replicate 400 (40 : UInt8)).length = 400 := List.length_replicate
      have l2 : (List.replicate 400 (41 : UInt8)).length = 400 := List.length_replicate
      generalize List.replicate 400 (40 : UInt8) = A at r1 hdp l1
      generalize List.replicate 400 (41 : UInt8) = B at r2 hdp l2
      have zA : (⟨A.toArray⟩ : ByteArray).size = 400 := by rw [bszR, l1]
      have zB : (⟨B.toArray⟩ : ByteArray).size = 400 := by rw [bszR, l2]
      have hAB : (⟨A.toArray⟩ : ByteArray) ++ ⟨B.toArray⟩ = ⟨(A ++ B).toArray⟩ := by apply ByteArray.ext; simp
      refine CW.seqK fun K hK => CW.region ?_
      simp (maxDischargeDepth := 16) [LW_nil, LW_guardS, DW_guardS, LW_guardN, DW_guardN, yielded_eq, yv, LW_val, LW_skip, LW_enter, DW_nil, DW_val, DW_skip, DW_enter, es_move, es_assign, es_pick, es_allocV, es_boxV, es_build, es_buildSlice, es_buildSliceM, es_appendM, evMut, evAppendM, rowsA, es_load, es_store, es_nilCheck, es_binOp, es_unOp, es_convert, es_makeInterface, es_makeFunc, es_slice, es_fieldAddr, es_field, es_indexAddr, es_index, es_extract, es_panic, es_callV, es_len, es_max, evStepU, evPure, evLit, evMem, evx_tmp, evx_const, evx_func, putA_some, putA_none, slot_ne, slot_eq, List.length_set, isVal, valOf, stOf, accOf, isSkip, isEnter, fnOf, argsOf, absV, abs2, abs1, scal, binL, litInt, conc, conc2, lit?, omap, parts?, partA, fillA, putCells, chunks, AV.cells, AV.notTup, Op.operands, Call.operands, stripRows, AV.strip, aggT, andThen, hlen]
      refine (r1 σ5).mono ?_
      rintro r σ6 ⟨rfl, rfl⟩
      simp (maxDischargeDepth := 16) [LW_nil, LW_guardS, DW_guardS, LW_guardN, DW_guardN, yielded_eq, yv, LW_val, LW_skip, LW_enter, DW_nil, DW_val, DW_skip, DW_enter, es_move, es_assign, es_pick, es_allocV, es_boxV, es_build, es_buildSlice, es_buildSliceM, es_appendM, evMut, evAppendM, rowsA, es_load, es_store, es_nilCheck, es_binOp, es_unOp, es_convert, es_makeInterface, es_makeFunc, es_slice, es_fieldAddr, es_field, es_indexAddr, es_index, es_extract, es_panic, es_callV, es_len, es_max, evStepU, evPure, evLit, evMem, evx_tmp, evx_const, evx_func, putA_some, putA_none, slot_ne, slot_eq, List.length_set, isVal, valOf, stOf, accOf, isSkip, isEnter, fnOf, argsOf, absV, abs2, abs1, scal, binL, litInt, conc, conc2, lit?, omap, parts?, partA, fillA, putCells, chunks, AV.cells, AV.notTup, Op.operands, Call.operands, stripRows, AV.strip, aggT, retK, andThen, hlen]
      refine (r2 σ6).mono ?_
      rintro r σ7 ⟨rfl, rfl⟩
      simp (maxDischargeDepth := 16) [LW_nil, LW_guardS, DW_guardS, LW_guardN, DW_guardN, yielded_eq, yv, LW_val, LW_skip, LW_enter, DW_nil, DW_val, DW_skip, DW_enter, es_move, es_assign, es_pick, es_allocV, es_boxV, es_build, es_buildSlice, es_buildSliceM, es_appendM, evMut, evAppendM, rowsA, es_load, es_store, es_nilCheck, es_binOp, es_unOp, es_convert, es_makeInterface, es_makeFunc, es_slice, es_fieldAddr, es_field, es_indexAddr, es_index, es_extract, es_panic, es_callV, es_len, es_max, evStepU, evPure, evLit, evMem, evx_tmp, evx_const, evx_func, putA_some, putA_none, slot_ne, slot_eq, List.length_set, isVal, valOf, stOf, accOf, isSkip, isEnter, fnOf, argsOf, absV, abs2, abs1, scal, binL, litInt, conc, conc2, lit?, omap, parts?, partA, fillA, putCells, chunks, AV.cells, AV.notTup, Op.operands, Call.operands, stripRows, AV.strip, aggT, retK, andThen, hlen, zA, zB, hAB]
      obtain ⟨T, a, e, hT⟩ : ∃ T a e, parseT (A ++ B) = (T, a, e) := ⟨_, _, _, rfl⟩
      rw [hT] at hdp
      dsimp only at hdp
      refine (parse_p (A ++ B) (by simp [l1, l2]) _ _ _ hT σ7).mono ?_
      rintro r σ8 ⟨rfl, rfl⟩
      simp (maxDischargeDepth := 16) [LW_nil, LW_guardS, DW_guardS, LW_guardN, DW_guardN, yielded_eq, yv, LW_val, LW_skip, LW_enter, DW_nil, DW_val, DW_skip, DW_enter, es_move, es_assign, es_pick, es_allocV, es_boxV, es_build, es_buildSlice, es_buildSliceM, es_appendM, evMut, evAppendM, rowsA, es_load, es_store, es_nilCheck, es_binOp, es_unOp, es_convert, es_makeInterface, es_makeFunc, es_slice, es_fieldAddr, es_field, es_indexAddr, es_index, es_extract, es_panic, es_callV, es_len, es_max, evStepU, evPure, evLit, evMem, evx_tmp, evx_const, evx_func, putA_some, putA_none, slot_ne, slot_eq, List.length_set, isVal, valOf, stOf, accOf, isSkip, isEnter, fnOf, argsOf, absV, abs2, abs1, scal, binL, litInt, conc, conc2, lit?, omap, parts?, partA, fillA, putCells, chunks, AV.cells, AV.notTup, Op.operands, Call.operands, stripRows, AV.strip, aggT, retK, andThen, hlen]
      refine hK _ _ ?_; clear hK K
      refine CW.reset (fun tm => tm.length = 164 ∧ slot tm 9 = .sl (rowsOf X) .no ∧ slot tm 11 = .lit (.int .i64 0) ∧ slot tm 13 = .lit (.int .i64 0) ∧ slot tm 14 = .lit (.int .i64 3) ∧ slot tm 15 = .sl (rowsOf T) .no) ⟨by simp [hlen], by simp (maxDischargeDepth := 32) [slot_eq, slot_ne, hlen, h9], by simp (maxDischargeDepth := 32) [slot_eq, slot_ne, hlen, h11], by simp (maxDischargeDepth := 32) [slot_eq, slot_ne, hlen, h13], by simp (maxDischargeDepth := 32) [slot_eq, slot_ne, hlen, h14], by simp (maxDischargeDepth := 32) [slot_eq, slot_ne, hlen]⟩ ?_
      clear h9 h11 h13 h14 hlen tm
      rintro tm ⟨hlen, h9, h11, h13, h14, h15⟩
      refine ends24 X T tm σ8 _ (by rw [← hX]; rfl) hdp hsh hlen h9 h11 h13 h14 h15 ?_
      intro tm1 hl1 h0
      exact hR0 _ _ _ ⟨.lit (.bool true), by simp [resultsA, omap, res_tmp, h0, hl1], rfl⟩

end Go.Proofs.YtocaickbfeaiaaaDoor
