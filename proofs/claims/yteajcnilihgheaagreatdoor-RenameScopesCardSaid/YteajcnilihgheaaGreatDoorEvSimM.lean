/-
 EV: A REGION THAT DRAWS, WHERE OBJECTS BEAR LETTERS AND CALLS ARE MADE: its touches stand for a list of touches of numbered objects.
-/
import Derived.Test.YteajcnilihgheaaGreatDoorEvSymM
import Derived.Test.YteajcnilihgheaaGreatDoorEvForgetM
namespace Go.Proofs.YteajcnilihgheaaGreatDoor
set_option linter.unusedSimpArgs false
set_option linter.unusedVariables false
section
open Go.RowKit
def Lets (ids : List Nat) : Prop := ∀ (i j a b : Nat), ids[i]? = some a → ids[j]? = some b → i ≠ j → a ≠ b
theorem Lets.nil : Lets [] := fun i j a b h => by simp at h
theorem Lets.cons {a : Nat} {l : List Nat} (h : a ∉ l) (hl : Lets l) : Lets (a :: l) := by
 intro i j x y hx hy hij e
 subst e
 cases i with
 | zero =>
  cases j with
  | zero => exact hij rfl
  | succ j => simp at hx hy; subst hx; exact h (List.mem_of_getElem? hy)
 | succ i =>
  cases j with
  | zero => simp at hx hy; subst hy; exact h (List.mem_of_getElem? hx)
  | succ j => exact hl i j x x (by simpa using hx) (by simpa using hy) (by omega) rfl
inductive Sim (ids : List Nat) : Acc → Acc → Prop
 | pure : Sim ids .pure .pure
 | reads (i a : Nat) : ids[i]? = some a → Sim ids (.reads a) (.reads i)
 | writes (i a : Nat) : ids[i]? = some a → Sim ids (.writes a) (.writes i)
 | news (i a : Nat) : ids[i]? = some a → Sim ids (.news a) (.news i)
 | calls (n m : Nat) (K K' : Nat → Bool) : (∀ i a, ids[i]? = some a → K' i = true → i < m → K a = true ∧ a < n) → (∀ i a, ids[i]? = some a → K' i = true → K a = true) → Sim ids (.calls n K) (.calls m K')
 | lcalls (K K' : Nat → Bool) : (∀ i a, ids[i]? = some a → K' i = true → K a = true) → Sim ids (.lcalls K) (.lcalls K')
 | any (x : Acc) : Sim ids x .any
theorem Sim.clash {ids : List Nat} (hl : Lets ids) {x y x' y' : Acc} (hx : Sim ids x x') (hy : Sim ids y y') (h : Go.Proofs.YteajcnilihgheaaGreatDoor.clash x' y' = false) : Go.Proofs.YteajcnilihgheaaGreatDoor.clash x y = false := by
 have hq : ∀ {i j a b : Nat}, ids[i]? = some a → ids[j]? = some b → (i == j) = false → (a == b) = false := fun ha hb e => beq_eq_false_iff_ne.2 (hl _ _ _ _ ha hb (beq_eq_false_iff_ne.1 e))
 cases hx with
 | pure => cases y <;> rfl
 | any => cases y' <;> simp [Go.Proofs.YteajcnilihgheaaGreatDoor.clash] at h; cases hy; cases x <;> rfl
 | reads i a ha =>
  cases hy with
  | pure => rfl
  | any => simp [Go.Proofs.YteajcnilihgheaaGreatDoor.clash] at h
  | reads j b hb => rfl
  | writes j b hb => exact hq ha hb h
  | news j b hb => exact hq ha hb h
  | calls n m K K' h1 h2 =>
   simp only [Go.Proofs.YteajcnilihgheaaGreatDoor.clash, Bool.not_eq_false'] at h ⊢
   exact h2 _ _ ha h
  | lcalls K K' h2 =>
   simp only [Go.Proofs.YteajcnilihgheaaGreatDoor.clash, Bool.not_eq_false'] at h ⊢
   exact h2 _ _ ha h
 | writes i a ha =>
  cases hy with
  | pure => rfl
  | any => simp [Go.Proofs.YteajcnilihgheaaGreatDoor.clash] at h
  | reads j b hb => exact hq ha hb h
  | writes j b hb => exact hq ha hb h
  | news j b hb => exact hq ha hb h
  | calls n m K K' h1 h2 => simp [Go.Proofs.YteajcnilihgheaaGreatDoor.clash] at h
  | lcalls K K' h2 => simp [Go.Proofs.YteajcnilihgheaaGreatDoor.clash] at h
 | news i a ha =>
  cases hy with
  | pure => rfl
  | any => simp [Go.Proofs.YteajcnilihgheaaGreatDoor.clash] at h
  | reads j b hb => exact hq ha hb h
  | writes j b hb => exact hq ha hb h
  | news j b hb => simp [Go.Proofs.YteajcnilihgheaaGreatDoor.clash] at h
  | calls n m K K' h1 h2 => simp [Go.Proofs.YteajcnilihgheaaGreatDoor.clash] at h
  | lcalls K K' h2 => simp [Go.Proofs.YteajcnilihgheaaGreatDoor.clash] at h
 | calls n m K K' h1 h2 =>
  cases hy with
  | pure => rfl
  | any => simp [Go.Proofs.YteajcnilihgheaaGreatDoor.clash] at h
  | reads j b hb =>
   simp only [Go.Proofs.YteajcnilihgheaaGreatDoor.clash, Bool.not_eq_false', Bool.and_eq_true, decide_eq_true_eq] at h ⊢
   exact h1 _ _ hb h.1 h.2
  | writes j b hb => simp [Go.Proofs.YteajcnilihgheaaGreatDoor.clash] at h
  | news j b hb => simp [Go.Proofs.YteajcnilihgheaaGreatDoor.clash] at h
  | calls => simp [Go.Proofs.YteajcnilihgheaaGreatDoor.clash] at h
  | lcalls K K' h2 => simp [Go.Proofs.YteajcnilihgheaaGreatDoor.clash] at h
 | lcalls K K' h2 =>
  cases hy with
  | pure => rfl
  | any => simp [Go.Proofs.YteajcnilihgheaaGreatDoor.clash] at h
  | reads j b hb =>
   simp only [Go.Proofs.YteajcnilihgheaaGreatDoor.clash, Bool.not_eq_false'] at h ⊢
   exact h2 _ _ hb h
  | writes j b hb => simp [Go.Proofs.YteajcnilihgheaaGreatDoor.clash] at h
  | news j b hb => rfl
  | calls => simp [Go.Proofs.YteajcnilihgheaaGreatDoor.clash] at h
  | lcalls => simp [Go.Proofs.YteajcnilihgheaaGreatDoor.clash] at h
inductive Sims (ids : List Nat) : List Acc → List Acc → Prop
 | nil : Sims ids [] []
 | cons {x y : Acc} {l m : List Acc} : Sim ids x y → Sims ids l m → Sims ids (x :: l) (y :: m)
theorem Sims.at {ids : List Nat} {l m : List Acc} (h : Sims ids l m) (n : Nat) : Sim ids (l.getD n .any) (m.getD n .any) := by
 induction h generalizing n with
 | nil => exact .any _
 | cons h _ ih =>
  cases n with
  | zero => simpa using h
  | succ n => simpa using ih n
theorem Sims.len {ids : List Nat} {l m : List Acc} (h : Sims ids l m) : l.length = m.length := by
 induction h with
 | nil => rfl
 | cons _ _ ih => simp [ih]
theorem drawOk_sim {ops : Array Oper} (ids : List Nat) (m : List Acc) {l : List Acc} (hl : Lets ids) (h : Sims ids l m) (hd : drawOk ops m = true) : drawOk ops l = true := by
 unfold drawOk at hd ⊢
 simp only [List.all_eq_true, List.mem_range] at hd ⊢
 intro i hi k hk
 have := hd i (by rw [← h.len]; exact hi) k hk
 unfold freeAt at this ⊢
 rw [Bool.or_eq_true] at this ⊢
 rcases this with this | this
 · exact .inl this
 · right
   split at this
   · rename_i x y h1 h2
     simp only [Bool.and_eq_true, Bool.not_eq_true'] at this ⊢
     exact ⟨this.1, (h.at k).clash hl (h.at i) this.2⟩
   · cases this
theorem Sim.keeps {ids : List Nat} {n m : Nat} {K : Nat → Bool} (h : ∀ a ∈ ids, K a = true ∧ a < n) : Sim ids (.calls n K) (.calls m fun _ => true) :=
 .calls n m K _ (fun i a ha _ _ => h a (List.mem_of_getElem? ha)) fun i a ha _ => (h a (List.mem_of_getElem? ha)).1
end
section
open Go.RowKit
structure FS where
 α : Type
 args : α → List AV
 pre : α → Sto → Prop
 post : α → Sto → ARes × Sto
 sz : α → Nat
def FS.S (s : FS) (N : Nat) (args : List AV) (σ : Sto) (r : ARes) (σ' : Sto) : Prop := ∃ a, nrmR args = s.args a ∧ s.pre a σ ∧ s.sz a < N ∧ s.post a σ = (r, σ')
def FS.uniq (s : FS) : Prop := ∀ a b σ, s.args a = s.args b → s.pre a σ → s.pre b σ → s.post a σ = s.post b σ
def FS.Ok (P : Program) (s : FS) (f : FuncId) (a : s.α) (σ : Sto) : Prop := Tells P (.call f (s.args a) σ fun r1 σ1 => Fgt σ r1 σ1 (s.post a σ).1 (s.post a σ).2)
structure Sp where
 code : FuncId → Option Func
 ms : FuncId → List TypeId
 base : FuncId → Option (List AV → Sto → Option (ARes × Sto))
 sp : FuncId → Option FS
noncomputable def Sp.E (S : Sp) (N : Nat) : Env := { code := S.code, ms := S.ms, prim := fun f => match S.sp f with | some s => some (relPrim (s.S N)) | none => S.base f }
theorem fs_sound {P : Program} {s : FS} {N : Nat} {f : FuncId} (h : ∀ a σ, s.pre a σ → s.sz a < N → s.Ok P f a σ) : CallSound P fun f' args σ => if f' = f then relPrim (s.S N) args σ else none := by
 intro f' args σ r σ' hr ι Z w us hM hl hargs
 dsimp only at hr
 split at hr
 · rename_i e
   subst e
   obtain ⟨a, e1, e2, e3, e4⟩ := relPrim_spec hr
   have hk := h a σ e2 e3 ι Z w us hM (by rw [← e1, nrmR_map, List.length_map]; exact hl) fun i d u hd hu => by
    rw [← e1, nrmR_map, List.getElem?_map, Option.map_eq_some_iff] at hd
    obtain ⟨d', h1, rfl⟩ := hd
    exact (hargs i d' u h1 hu).nrm
   obtain ⟨h1, h2⟩ := hk
   refine ⟨h1, h2.mono fun e w' hx => ?_⟩
   obtain ⟨r1, σ1, ι', Z', hF, hEv, hM', hR⟩ := hx
   rw [e4] at hF
   exact forget hM hEv hM' hR hF
 · cases hr
theorem Sp.ok {P : Program} {S : Sp} (hc : ∀ (f : FuncId) (fn : Func), S.code f = some fn → P.funcs[f]? = some fn ∧ ∀ args w, (callFunc f args).run P w = .ok (.enter f args) w)
    (hb : ∀ (f : FuncId) (g : List AV → Sto → Option (ARes × Sto)), S.base f = some g → CallSound P fun f' args σ => if f' = f then g args σ else none)
    (hw : ∀ N, EnvOk P (S.E N) → ∀ f s, S.sp f = some s → ∀ a σ, s.pre a σ → s.sz a ≤ N → s.Ok P f a σ) : ∀ N, EnvOk P (S.E N) := by
 have step : ∀ N, (∀ f s, S.sp f = some s → ∀ a σ, s.pre a σ → s.sz a < N → s.Ok P f a σ) → EnvOk P (S.E N) := fun N h => {
  code := hc
  prim := fun f g hg => by
   have hg : (match S.sp f with | some s => some (relPrim (s.S N)) | none => S.base f) = some g := hg
   split at hg
   · rename_i s hs
     cases hg
     exact fs_sound (h f s hs)
   · exact hb f g hg }
 intro N
 induction N with
 | zero => exact step 0 fun f s hs a σ hp hl => absurd hl (Nat.not_lt_zero _)
 | succ N ih => exact step (N + 1) fun f s hs a σ hp hl => hw N ih f s hs a σ hp (Nat.le_of_lt_succ hl)
theorem call_sp {P : Program} {S : Sp} {N : Nat} {f : FuncId} {s : FS} {args : List AV} {σ : Sto} {Q : ARes → Sto → Prop} (a : s.α) (hs : S.sp f = some s) (hu : s.uniq) (ha : nrmR args = s.args a) (hp : s.pre a σ) (hN : s.sz a < N) (hq : Q (s.post a σ).1 (s.post a σ).2) : CallW P (S.E N) f args σ Q := by
 have hp' : (S.E N).prim f = some (relPrim (s.S N)) := by show (match S.sp f with | some s => some (relPrim (s.S N)) | none => S.base f) = _; rw [hs]
 refine CallW.prim hp' (relPrim_eq ?_ ⟨a, ha, hp, hN, rfl⟩) hq
 rintro args σ r σ' r2 σ2 ⟨a, h1, h2, h3, h4⟩ ⟨b, g1, g2, g3, g4⟩
 have := hu a b σ (h1.symm.trans g1) h2 g2
 rw [h4, g4] at this
 exact ⟨congrArg Prod.fst this, congrArg Prod.snd this⟩
theorem acc_sp {S : Sp} {N : Nat} {f : FuncId} {s : FS} {args : List AV} {σ : Sto} (a : s.α) (hs : S.sp f = some s) (hu : s.uniq) (ha : nrmR args = s.args a) (hN : s.sz a < N) (hl : (s.post a σ).2.length = σ.length) (hq : ∀ l, s.pre a (σ ++ l) ∧ s.post a (σ ++ l) = ((s.post a σ).1, (s.post a σ).2 ++ l)) :
    accW (S.E N) f args σ (s.post a σ).1 (s.post a σ).2 = .lcalls (keptB σ (s.post a σ).2) := by
 have hp' : (S.E N).prim f = some (relPrim (s.S N)) := by show (match S.sp f with | some s => some (relPrim (s.S N)) | none => S.base f) = _; rw [hs]
 refine accW_loc hp' hl fun l => relPrim_eq ?_ ⟨a, ha, (hq l).1, hN, (hq l).2⟩
 rintro args σ r σ' r2 σ2 ⟨a, h1, h2, h3, h4⟩ ⟨b, g1, g2, g3, g4⟩
 have := hu a b σ (h1.symm.trans g1) h2 g2
 rw [h4, g4] at this
 exact ⟨congrArg Prod.fst this, congrArg Prod.snd this⟩
def loose : Acc → Acc
 | .lcalls _ => .lcalls fun _ => true
 | x => x
theorem clash_loose {x y : Acc} (hx : ∀ K, x = .lcalls K → ∀ a, y = .reads a → K a = true) (hy : ∀ K, y = .lcalls K → ∀ a, x = .reads a → K a = true) (h : clash (loose x) (loose y) = false) : clash x y = false := by
 cases x <;> cases y <;> simp_all [clash, loose]
theorem drawOk_keep {ops : Array Oper} {accs : List Acc} (h : ∀ K, .lcalls K ∈ accs → ∀ a, .reads a ∈ accs → K a = true) (hd : drawOk ops (accs.map loose) = true) : drawOk ops accs = true := by
 unfold drawOk at hd ⊢
 simp only [List.all_eq_true, List.mem_range, List.length_map] at hd ⊢
 intro i hi k hk
 have := hd i hi k hk
 unfold freeAt at this ⊢
 rw [Bool.or_eq_true] at this ⊢
 rcases this with this | this
 · exact .inl this
 · right
   have g : ∀ n, n < accs.length → (accs.map loose).getD n .any = loose (accs.getD n .any) ∧ accs.getD n .any ∈ accs := fun n hn => by
    rw [List.getD_eq_getElem?_getD, List.getD_eq_getElem?_getD, List.getElem?_map, List.getElem?_eq_getElem hn]
    exact ⟨rfl, List.getElem_mem hn⟩
   obtain ⟨e1, m1⟩ := g k (by omega)
   obtain ⟨e2, m2⟩ := g i hi
   rw [e1, e2] at this
   split at this
   · rename_i x y h1 h2
     simp only [Bool.and_eq_true, Bool.not_eq_true'] at this ⊢
     exact ⟨this.1, clash_loose (fun K hK a ha => h K (hK ▸ m1) a (ha ▸ m2)) (fun K hK a ha => h K (hK ▸ m2) a (ha ▸ m1)) this.2⟩
   · cases this
theorem kept_self (σ : Sto) : keptB σ σ = fun _ => true := by funext a; exact keptB_of rfl
theorem done {σ g : Sto} {v v2 : AV} (hp : v.pln = true) (hv : v.nrm = v2) : Fgt σ (.ret v) (σ ++ g) (.ret v2) σ := Fgt.pure ⟨g, rfl⟩ (hv ▸ Frz.nrm hp)
theorem done0 {σ : Sto} {v v2 : AV} (hp : v.pln = true) (hv : v.nrm = v2) : Fgt σ (.ret v) σ (.ret v2) σ := Fgt.pure (Ext.refl _) (hv ▸ Frz.nrm hp)
def codeP (P : Program) (f : FuncId) : Option Func := (P.funcs[f]?).bind fun fn => if fn.body.isSome && !(fn.name == "runtime.NumGoroutine") then some fn else none
theorem codeP_ok {P : Program} (f : FuncId) (fn : Func) (h : codeP P f = some fn) : P.funcs[f]? = some fn ∧ ∀ args w, (callFunc f args).run P w = .ok (.enter f args) w := by
 unfold codeP at h
 obtain ⟨g, h1, h2⟩ := Option.bind_eq_some_iff.1 h
 split at h2
 · rename_i hb
   cases h2
   refine ⟨h1, fun args w => ?_⟩
   rw [Bool.and_eq_true, Bool.not_eq_true'] at hb
   have hn : fn.body ≠ none := by intro hx; rw [hx] at hb; cases hb.1
   have h2 : fn.name ≠ "runtime.NumGoroutine" := by simpa using hb.2
   unfold callFunc
   simp [Sem.run, program, h1, h2, hn, bind, pure, Sem.bind]
 · cases h2
theorem codeOf {P : Program} {S : Sp} (hc : S.code = codeP P) {f : FuncId} {fn : Func} (h : P.funcs[f]? = some fn) (hb : fn.body.isSome = true) (hn : (fn.name == "runtime.NumGoroutine") = false) {N : Nat} : (S.E N).code f = some fn := by
 show S.code f = _
 rw [hc]; unfold codeP; rw [h]
 show (if (fn.body.isSome && !(fn.name == "runtime.NumGoroutine")) = true then some fn else none) = _
 rw [hb, hn]; rfl
abbrev pureF {α : Type} (A : α → List AV) (R : α → AV) (n : α → Nat) (r : Nat) : FS := ⟨α, A, fun p _ => n p ≤ 1000000000, fun p σ => (.ret (R p), σ), fun p => 16 * n p + r⟩
theorem call_pure {P : Program} {S : Sp} {N r : Nat} {f : FuncId} {α : Type} {A : α → List AV} {R : α → AV} {n : α → Nat} {args : List AV} {σ : Sto} {Q : ARes → Sto → Prop} (x : α) (h : S.sp f = some (pureF A R n r)) (hi : ∀ a b : α, A a = A b → a = b) (ha : nrmR args = A x) (hb : n x ≤ 1000000000) (hN : 16 * n x + r < N)
    (hq : accW (S.E N) f args σ (.ret (R x)) σ = .lcalls (fun _ => true) → Q (.ret (R x)) σ) : CallW P (S.E N) f args σ Q :=
 have hu : FS.uniq (pureF A R n r) := fun a b σ e _ _ => by cases hi _ _ e; rfl
 call_sp x h hu ha hb hN (hq (by have := acc_sp (σ := σ) x h hu ha hN rfl (fun l => ⟨hb, rfl⟩); rw [kept_self] at this; exact this))
abbrev PureOk (P : Program) (S : Sp) (N : Nat) (f : FuncId) {α : Type} (A : α → List AV) (R : α → AV) (n : α → Nat) (r : Nat) : Prop := ∀ (a : α) (σ : Sto), n a ≤ 1000000000 → 16 * n a + r ≤ N → JC P (S.E N) f (A a) σ fun r σ' => Fgt σ r σ' (.ret (R a)) σ
end
end Go.Proofs.YteajcnilihgheaaGreatDoor
