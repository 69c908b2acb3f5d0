/-
  EV: THE STEP: each operation, as the evaluator tells it, is what the model does.
-/
import Derived.Test.YtcjjmejmpdhikaaGreatDoorEvOp
import Derived.Laws.Tables
import Derived.Great.BuildSlice
import Derived.Laws.Slices
namespace Go.Proofs.YtcjjmejmpdhikaaGreatDoor
set_option linter.unusedSimpArgs false
set_option linter.unusedVariables false
open Go.RowKit

/-- What a step of the evaluator says of the model's operation. -/
def StepR (P : Program) (ι : List Nat) (Z : Nat → Nat → Prop) (w : World) (r : Operand → Value) (o : Oper) : AStep → Prop
  | .val d σ' _ => ∃ u w' ι' Z', (execOp r o).run P w = .ok (.value u) w' ∧ Evo ι Z w ι' Z' w' ∧ Match σ' ι' Z' w' ∧ VR ι' Z' w' d u
  | .skip σ' _ => ∃ w' ι' Z', (execOp r o).run P w = .ok .skip w' ∧ Evo ι Z w ι' Z' w' ∧ Match σ' ι' Z' w'
  | .pan d => ∃ u, (execOp r o).run P w = .halt (.panic u) w ∧ VR ι Z w d u
  | .enter f args => ∃ us, (execOp r o).run P w = (callFunc f us).run P w ∧ args.length = us.size ∧ ∀ (i : Nat) (d : AV) (u : Value), args[i]? = some d → us[i]? = some u → VR ι Z w d u

section
variable {P : Program} {ι : List Nat} {Z : Nat → Nat → Prop} {w : World} {r : Operand → Value} {ρ : Operand → Option AV} {σ : Sto}

theorem evLit_sound (hρ : ∀ x d, ρ x = some d → VR ι Z w d (r x)) (hM : Match σ ι Z w) {o : Oper} {s : AStep} (h : evLit P ρ σ o = some s) : StepR P ι Z w r o s := by
  unfold evLit at h
  split at h
  · cases h
  · rename_i hsel
    split at h
    · rename_i hall
      have hcongr : execOp (fun x => ((ρ x).bind conc).getD undef) o = execOp r o := by
        refine execOp_congr o (fun cs b e => hsel cs b e) fun x hx => ?_
        have := (Array.all_eq_true'.1 hall) x hx
        rw [Option.isSome_iff_exists] at this
        obtain ⟨v, hv⟩ := this
        simp only [hv, Option.getD_some]
        rw [Option.bind_eq_some_iff] at hv
        obtain ⟨d, h1, h2⟩ := hv
        exact (conc_eq (hρ x d h1) h2).symm
      rw [hcongr] at h
      split at h
      · rename_i u hu
        rw [Option.map_eq_some_iff] at h
        obtain ⟨d, h1, rfl⟩ := h
        exact ⟨u, w, ι, Z, pureRun_ok hu w, .refl _ _ _, hM, absV_rel h1⟩
      · rename_i v hv
        rw [Option.map_eq_some_iff] at h
        obtain ⟨d, h1, rfl⟩ := h
        exact ⟨v, pureRun_panic hv w, absV_rel h1⟩
      · cases h
    · cases h

/-- a pure operation, by its value -/
def PureR (P : Program) (ι : List Nat) (Z : Nat → Nat → Prop) (w : World) (r : Operand → Value) (o : Oper) (d : AV) : Prop := ∃ u, (execOp r o).run P w = .ok (.value u) w ∧ VR ι Z w d u

theorem parts_rel (hρ : ∀ x d, ρ x = some d → VR ι Z w d (r x)) {ps : Array (Nat × Operand)} {l : List (Nat × AV)} (h : parts? ρ ps = some l) :
    l.length = ((ps.map fun (i, x) => (i, r x)).toList).length ∧ ∀ (j i : Nat) (d : AV), l[j]? = some (i, d) → ∃ u, ((ps.map fun (i, x) => (i, r x)).toList)[j]? = some (i, u) ∧ VR ι Z w d u := by
  unfold parts? at h
  refine ⟨by rw [omap_len h]; simp, fun j i d hd => ?_⟩
  obtain ⟨⟨i', x⟩, h1, h2⟩ := omap_get h j _ hd
  simp only [Option.map_eq_some_iff, Prod.mk.injEq] at h2
  obtain ⟨d', h3, rfl, rfl⟩ := h2
  refine ⟨r x, ?_, hρ x _ h3⟩
  rw [Array.toList_map, List.getElem?_map, h1]; rfl

theorem putCells_rel : ∀ {vs : List AV} {us : List Value} {cs : List AV} {c : List Value} {off : Nat}, CR ι Z w vs us → CR ι Z w cs c → CR ι Z w (putCells cs off vs) (us.zipIdx.foldl (fun cs (x : Value × Nat) => cs.set (off + x.2) x.1) c)
  | [], [], cs, c, off, h, g => g
  | v :: vs, [], cs, c, off, h, g => by have := h.1; simp at this
  | [], u :: us, cs, c, off, h, g => by have := h.1; simp at this
  | v :: vs, u :: us, cs, c, off, h, g => by
    have h0 := h.2 0 v u rfl rfl
    have h' : CR ι Z w vs us := ⟨by have := h.1; simpa using this, fun j d x hd hx => h.2 (j + 1) d x (by simpa using hd) (by simpa using hx)⟩
    have := putCells_rel (off := off + 1) h' (g.set off h0.1 h0.2)
    rw [putCells, List.zipIdx_cons, List.foldl_cons]
    rw [Nat.add_zero]
    have e : ∀ (us : List Value) (c : List Value) (n : Nat), List.foldl (fun cs (x : Value × Nat) => cs.set (off + x.2) x.1) c (us.zipIdx (n + 1)) = List.foldl (fun cs (x : Value × Nat) => cs.set (off + 1 + x.2) x.1) c (us.zipIdx n) := by
      intro us
      induction us with
      | nil => intro c n; rfl
      | cons u us ih =>
        intro c n
        rw [List.zipIdx_cons, List.zipIdx_cons, List.foldl_cons, List.foldl_cons, ih]
        simp only [Nat.add_assoc, Nat.add_comm 1 n]
    rw [Nat.zero_add, e us _ 0]
    exact this

theorem putCells_length : ∀ (vs cs : List AV) (off : Nat), (putCells cs off vs).length = cs.length
  | [], cs, off => rfl
  | v :: vs, cs, off => by rw [putCells, putCells_length vs]; simp

theorem foldl_arr (off : Nat) : ∀ (l : List (Value × Nat)) (c : Array Value), (l.foldl (fun cs (x : Value × Nat) => cs.setIfInBounds (off + x.2) x.1) c).toList = l.foldl (fun cs (x : Value × Nat) => cs.set (off + x.2) x.1) c.toList
  | [], c => rfl
  | x :: l, c => by rw [List.foldl_cons, List.foldl_cons, foldl_arr off l]; simp

theorem fill_rel {place : Nat → Option (Nat × Nat)} : ∀ {l : List (Nat × AV)} {ps : List (Nat × Value)} {cs out : List AV} {c : Array Value}, l.length = ps.length →
    (∀ (j i : Nat) (d : AV), l[j]? = some (i, d) → ∃ u, ps[j]? = some (i, u) ∧ VR ι Z w d u) → CR ι Z w cs c.toList → fillA place cs l = some out → ∃ out', Instr.fill place c ps = some out' ∧ CR ι Z w out out'.toList
  | [], [], cs, out, c, _, _, hc, h => by simp [fillA] at h; subst h; exact ⟨c, rfl, hc⟩
  | [], _ :: _, _, _, _, hl, _, _, _ => by simp at hl
  | _ :: _, [], _, _, _, hl, _, _, _ => by simp at hl
  | (i, d) :: l, (i', u) :: ps, cs, out, c, hl, hp, hc, h => by
    obtain ⟨u', hu, hv⟩ := hp 0 i d rfl
    simp at hu
    obtain ⟨rfl, rfl⟩ := hu
    rw [fillA] at h
    rw [Instr.fill]
    cases hpl : place i' with
    | none => rw [hpl] at h; cases h
    | some q =>
      obtain ⟨off, size⟩ := q
      rw [hpl] at h
      dsimp only at h ⊢
      split at h
      · cases h
      · rename_i hn
        simp only [not_or] at hn
        obtain ⟨hn1, hn2, hn3⟩ := hn
        have hcr := hv.cells (by simpa using hn3)
        have hsz : u.cells.size = d.cells.length := by simpa using hcr.1.symm
        have hcs : c.size = cs.length := by simpa using hc.1.symm
        rw [if_neg (by rw [hsz, hcs]; simp only [Bool.or_eq_true, decide_eq_true_eq, not_or]; exact ⟨hn1, by omega⟩)]
        refine fill_rel (by simpa using hl) (fun j i d hd => by simpa using hp (j + 1) i d (by simpa using hd)) ?_ h
        rw [← Array.foldl_toList, foldl_arr, Array.toList_zipIdx]
        exact putCells_rel hcr hc

theorem run_v {s : Sem Value} {u : Value} {w' : World} (h : s.run P w = .ok u w') : (do pure (Next.value (← s)) : Sem Next).run P w = .ok (.value u) w' := by
  rw [Sem.run_bind, h]; rfl

theorem omap_mapM {α β : Type} (f : α → Option β) : ∀ l : List α, omap f l = l.mapM f
  | [] => rfl
  | a :: l => by
    rw [omap, List.mapM_cons, omap_mapM f l]
    cases f a <;> cases l.mapM f <;> rfl

theorem arr_rel (hρ : ∀ x d, ρ x = some d → VR ι Z w d (r x)) {xs : Array Operand} {l : List AV} (h : omap ρ xs.toList = some l) : l.length = (xs.map r).size ∧ ∀ (i : Nat) (d : AV) (u : Value), l[i]? = some d → (xs.map r)[i]? = some u → VR ι Z w d u := by
  refine ⟨by rw [omap_len h]; simp, fun i d u hd hu => ?_⟩
  obtain ⟨x, h1, h2⟩ := omap_get h i d hd
  have : (xs.map r)[i]? = some (r x) := by rw [Array.getElem?_map]; rw [Array.getElem?_toList] at h1; rw [h1]; rfl
  rw [this] at hu
  cases hu
  exact hρ x d h2

theorem litInt_rel {d : AV} {u : Value} {n : Int} (h : VR ι Z w d u) (hl : litInt d = some n) : ∃ k, u = .int k n := by
  unfold litInt at hl
  split at hl
  · cases hl; cases h; exact ⟨_, rfl⟩
  · cases hl

theorem pure_move (hρ : ∀ x d, ρ x = some d → VR ι Z w d (r x)) {o : Oper} {x : Operand} {d : AV} (ho : o.op = .move x ∨ o.op = .assign x) (h : ρ x = some d) : PureR P ι Z w r o d :=
  ⟨r x, by unfold execOp; rcases ho with ho | ho <;> rw [ho] <;> rfl, hρ x d h⟩

theorem pure_pick (hρ : ∀ x d, ρ x = some d → VR ι Z w d (r x)) {o : Oper} {c a b : Operand} {t : Bool} {d : AV} (ho : o.op = .pick c a b) (hc : ρ c = some (.lit (.bool t))) (h : (if t then ρ a else ρ b) = some d) : PureR P ι Z w r o d := by
  have h1 := hρ c _ hc
  have h2 : r c = .bool t := by generalize r c = u at *; cases h1; rfl
  refine ⟨if t then r a else r b, ?_, ?_⟩
  · unfold execOp; rw [ho]; simp [asBool, h2]
  · cases t
    · exact hρ b d h
    · exact hρ a d h

theorem pure_build (hρ : ∀ x d, ρ x = some d → VR ι Z w d (r x)) {o : Oper} {t : TypeId} {ps : Array (Nat × Operand)} {z : Value} {fields : Array Field} {l : List (Nat × AV)} {d : AV} {places : List (Nat × Nat)} {cs : List AV}
    (ho : o.op = .build t ps) (hz : (P.info? t).bind (·.zero) = some z) (hu : P.underlying t = some (.struct fields)) (hl : parts? ρ ps = some l) (hd : abs2 z = some d) (hp : omap (fun (f : Field) => (szOf P f.type).map (f.offset, ·)) fields.toList = some places)
    (ht : d.notTup = true) (hf : fillA (places[·]?) d.cells l = some cs) : PureR P ι Z w r o (.agg cs) := by
  have h1 := parts_rel hρ hl
  have h2 := (abs2_rel (ι := ι) (Z := Z) (w := w) hd).2.cells ht
  obtain ⟨out, h3, h4⟩ := fill_rel h1.1 h1.2 h2 hf
  rw [Option.bind_eq_some_iff] at hz
  obtain ⟨it, hi, hz⟩ := hz
  rw [omap_mapM] at hp
  have hp' : fields.toList.mapM (fun f => (P.info? f.type).map fun i => (f.offset, i.size)) = some places := by
    rw [← hp]; congr 1; funext f; simp [szOf, Function.comp_def]
  refine ⟨.agg out, ?_, h4.agg⟩
  unfold execOp
  rw [ho]
  refine run_v (run_build w t _ out ?_)
  unfold Program.built
  simp only [hi, hu, hz, hp']
  simpa using h3

theorem pure_nilCheck (hρ : ∀ x d, ρ x = some d → VR ι Z w d (r x)) {o : Oper} {x : Operand} {d : AV} (ho : o.op = .nilCheck x) (h : ρ x = some d) (hd : (∃ i q, d = .ptr i q) ∨ (∃ i q, d = .eptr i q) ∨ ∃ f a b, d = .fn (.func f) a b) : PureR P ι Z w r o d := by
  have h1 := hρ x d h
  refine ⟨r x, ?_, h1⟩
  unfold execOp
  rw [ho]
  dsimp only
  generalize r x = u at h1 ⊢
  rcases hd with ⟨i, q, rfl⟩ | ⟨i, q, rfl⟩ | ⟨f, a, b, rfl⟩
  · cases h1; rfl
  · cases h1; rfl
  · cases h1; rfl

theorem pure_makeInterface (hρ : ∀ x d, ρ x = some d → VR ι Z w d (r x)) {o : Oper} {x : Operand} {t : TypeId} {d : AV} {td : TypeDesc} (ho : o.op = .makeInterface t x) (ht : P.underlying t = some td) (hn : ∀ m, td ≠ .interface m) (h : ρ x = some d) : PureR P ι Z w r o (.ifc t d) := by
  refine ⟨.iface t (r x), ?_, .ifc t d _ (hρ x d h)⟩
  unfold execOp
  rw [ho]
  refine run_v ?_
  unfold Instr.makeInterface
  rw [Sem.run_bind, run_underlying ht]
  cases td <;> first | rfl | exact absurd rfl (hn _)

theorem pure_makeFunc (hρ : ∀ x d, ρ x = some d → VR ι Z w d (r x)) {o : Oper} {f : Fn} {first cap : Array Operand} {a b : List AV} (ho : o.op = .makeFunc f first cap) (ha : omap ρ first.toList = some a) (hb : omap ρ cap.toList = some b) : PureR P ι Z w r o (.fn f a b) := by
  have h1 := arr_rel hρ ha
  have h2 := arr_rel hρ hb
  exact ⟨.func f (first.map r) (cap.map r), by unfold execOp; rw [ho]; rfl, .fn f a b _ _ h1.1 h2.1 h1.2 h2.2⟩

theorem pure_fieldAddr (hρ : ∀ x d, ρ x = some d → VR ι Z w d (r x)) {o : Oper} {x : Operand} {s f n : Nat} {fields : Array Field} {fd : Field} {d d' : AV} (ho : o.op = .fieldAddr s x f) (hs : P.underlying s = some (.struct fields)) (hf : fields[f]? = some fd) (hn : szOf P fd.type = some (n + 1))
    (h : ρ x = some d) (hd : (∃ i q, d = .ptr i q ∧ d' = .ptr i (q + fd.offset)) ∨ ∃ i q, d = .eptr i q ∧ d' = .eptr i (q + fd.offset)) : PureR P ι Z w r o d' := by
  have h1 := hρ x d h
  have key : ∀ (b q : Nat), r x = .pointer (some ⟨b, q, none⟩) → (execOp r o).run P w = .ok (.value (.pointer (some ⟨b, q + fd.offset, none⟩))) w := by
    intro b q e
    unfold execOp
    rw [ho]
    refine run_v ?_
    simp [Instr.fieldAt, run_underlying hs, hf, Instr.sureAddr, e, fieldPlace, run_szOf hn, Addr.add_lit]
  rcases hd with ⟨i, q, rfl, rfl⟩ | ⟨i, q, rfl, rfl⟩
  · generalize hx : r x = u at *
    cases h1 with
    | ptr id off b hb => exact ⟨_, key _ _ rfl, .ptr i _ b hb⟩
  · generalize hx : r x = u at *
    cases h1 with
    | eptr row off b q0 U h2 h3 => exact ⟨_, key _ _ rfl, by rw [Nat.add_assoc]; exact .eptr i _ b q0 U h2 h3⟩

theorem pure_field (hρ : ∀ x d, ρ x = some d → VR ι Z w d (r x)) {o : Oper} {x : Operand} {t f : Nat} {fields : Array Field} {fd : Field} {cs : List AV} {d : AV} (ho : o.op = .field t x f) (ht : P.underlying t = some (.struct fields)) (hf : fields[f]? = some fd) (hx : ρ x = some (.agg cs)) (hp : partA P fd.type cs fd.offset = some d) : PureR P ι Z w r o d := by
  have h1 := hρ x _ hx
  generalize hrx : r x = u at *
  cases h1 with
  | agg ds c h2 h3 h4 =>
    have hcr : CR ι Z w cs c.toList := ⟨by simpa using h2, fun j d u hd hu => ⟨h3 j d hd, h4 j d u hd (by simpa using hu)⟩⟩
    obtain ⟨u, hu, hv, _⟩ := part_rel (P := P) hcr hp
    refine ⟨u, ?_, hv⟩
    unfold execOp
    rw [ho]
    refine run_v ?_
    simp [Instr.field, run_underlying ht, hf, hrx, asAgg, hu]

theorem binL_run {op : BinOp} {a b c : Value} (h : binL op a b = some c) (t : TypeId) (w : World) : (binOp op t a b).run P w = .ok c w ∧ c.oneCell' = true ∧ scal c = true ∧ ∀ x y, (eqGuard op t x y a b).run P w = .ok () w := by
  unfold binL at h
  split at h
  · rename_i k m k' n
    split at h
    · rename_i hk
      subst hk
      have hg : ∀ x y, (eqGuard op t x y (.int k m) (.int k n)).run P w = .ok () w := by intro x y; cases op <;> simp [eqGuard]
      cases op
      case quo =>
        dsimp only at h
        split at h
        · cases h
        · rename_i hn; cases h; exact ⟨by simp [binOp, Op.intDiv, hn], rfl, rfl, hg⟩
      case rem =>
        dsimp only at h
        split at h
        · cases h
        · rename_i hn; cases h; exact ⟨by simp [binOp, Op.intDiv, hn], rfl, rfl, hg⟩
      case add => cases h; exact ⟨by simp [binOp, Op.intArith], rfl, rfl, hg⟩
      case sub => cases h; exact ⟨by simp [binOp, Op.intArith], rfl, rfl, hg⟩
      case mul => cases h; exact ⟨by simp [binOp, Op.intArith], rfl, rfl, hg⟩
      case eql => cases h; exact ⟨by simp [binOp, Op.intCmp], rfl, rfl, hg⟩
      case neq => cases h; exact ⟨by simp [binOp, Op.intCmp], rfl, rfl, hg⟩
      case lss => cases h; exact ⟨by simp [binOp, Op.intCmp], rfl, rfl, hg⟩
      case leq => cases h; exact ⟨by simp [binOp, Op.intCmp], rfl, rfl, hg⟩
      case gtr => cases h; exact ⟨by simp [binOp, Op.intCmp], rfl, rfl, hg⟩
      case geq => cases h; exact ⟨by simp [binOp, Op.intCmp], rfl, rfl, hg⟩
      all_goals cases h
    · cases h
  · rename_i s u
    have hg : ∀ x y, (eqGuard op t x y (.string s) (.string u)).run P w = .ok () w := by intro x y; cases op <;> simp [eqGuard]
    cases op
    case add =>
      dsimp only at h
      split at h
      · rename_i hs
        cases h
        have hs' : ¬ (IntKind.i64.max < ((s.size : Int) + (u.size : Int))) := by
          have : IntKind.i64.max = 9223372036854775807 := by decide
          omega
        exact ⟨by simp [binOp, Op.stringOp]; omega, rfl, rfl, hg⟩
      · cases h
    case eql => cases h; exact ⟨by simp [binOp, Op.stringOp], rfl, rfl, hg⟩
    case neq => cases h; exact ⟨by simp [binOp, Op.stringOp], rfl, rfl, hg⟩
    all_goals cases h
  · cases h

theorem pure_binOp (hρ : ∀ x d, ρ x = some d → VR ι Z w d (r x)) {o : Oper} {op : BinOp} {t u : TypeId} {x y : Operand} {a b c : Value} (ho : o.op = .binOp op t x y u) (hx : ρ x = some (.lit a)) (hy : ρ y = some (.lit b)) (h : binL op a b = some c) : PureR P ι Z w r o (.lit c) := by
  have e1 := conc_eq (v := a) (hρ x _ hx) rfl
  have e2 := conc_eq (v := b) (hρ y _ hy) rfl
  obtain ⟨h1, _, h3, h4⟩ := binL_run (P := P) h t w
  refine ⟨c, ?_, .lit _ h3⟩
  unfold execOp
  rw [ho]
  dsimp only
  rw [e1, e2]
  refine run_v ?_
  rw [Sem.run_bind, h4]
  exact h1

theorem pure_binBool (hρ : ∀ x d, ρ x = some d → VR ι Z w d (r x)) {o : Oper} {op : BinOp} {t u : TypeId} {x y : Operand} {a b c : Bool} (ho : o.op = .binOp op t x y u) (ht : P.underlying t = some .bool) (hx : ρ x = some (.lit (.bool a))) (hy : ρ y = some (.lit (.bool b))) (h : (op = .eql ∧ c = (a == b)) ∨ (op = .neq ∧ c = (a != b))) : PureR P ι Z w r o (.lit (.bool c)) := by
  have e1 := conc_eq (v := .bool a) (hρ x _ hx) rfl
  have e2 := conc_eq (v := .bool b) (hρ y _ hy) rfl
  have heq : ∀ d, (Op.equalIn (d + 1) t (.bool a) (.bool b)).run P w = .ok (a == b) w := fun d => by simp [Op.equalIn, run_underlying ht]
  refine ⟨.bool c, ?_, .lit _ rfl⟩
  unfold execOp
  rw [ho]
  dsimp only
  rw [e1, e2]
  refine run_v ?_
  rcases h with ⟨rfl, rfl⟩ | ⟨rfl, rfl⟩
  · have hg : (eqGuard .eql t x y (.bool a) (.bool b)).run P w = .ok () w := by simp [eqGuard]
    rw [Sem.run_bind, hg]
    simp [binOp, Op.equal, Op.maxDepth, heq 9999]
  · have hg : (eqGuard .neq t x y (.bool a) (.bool b)).run P w = .ok () w := by simp [eqGuard]
    rw [Sem.run_bind, hg]
    simp [binOp, Op.equal, Op.maxDepth, heq 9999]
    cases a <;> cases b <;> rfl

theorem pure_not (hρ : ∀ x d, ρ x = some d → VR ι Z w d (r x)) {o : Oper} {t : TypeId} {x : Operand} {b : Bool} (ho : o.op = .unOp .not t x) (hx : ρ x = some (.lit (.bool b))) : PureR P ι Z w r o (.lit (.bool !b)) := by
  have e1 := conc_eq (v := .bool b) (hρ x _ hx) rfl
  exact ⟨.bool !b, by unfold execOp; rw [ho]; simp [e1, Op.unary], .lit _ rfl⟩

theorem pure_index (hρ : ∀ x d, ρ x = some d → VR ι Z w d (r x)) {o : Oper} {t : TypeId} {x i : Operand} {s : ByteArray} {di : AV} {n : Int} {c : UInt8} (ho : o.op = .index t x i) (ht : P.underlying t = some .string) (hx : ρ x = some (.lit (.string s))) (hi : ρ i = some di) (hn : litInt di = some n) (h0 : 0 ≤ n) (hc : s[n.toNat]? = some c) : PureR P ι Z w r o (.lit (.int .u8 c.toNat)) := by
  have e1 := conc_eq (v := .string s) (hρ x _ hx) rfl
  obtain ⟨ki, hri⟩ := litInt_rel (hρ i _ hi) hn
  refine ⟨.int .u8 c.toNat, ?_, .lit _ rfl⟩
  unfold execOp
  rw [ho]
  refine run_v ?_
  simp [Instr.index, run_underlying ht, e1, hri, asIntOf, h0, hc]

theorem pure_lenS (hρ : ∀ x d, ρ x = some d → VR ι Z w d (r x)) {o : Oper} {x : Operand} {t : TypeId} {s : ByteArray} (ho : o.op = .call { callee := .builtin .len, args := #[x], argTypes := #[t] }) (ht : P.underlying t = some .string) (hx : ρ x = some (.lit (.string s))) :
    PureR P ι Z w r o (.lit (.int .i64 s.size)) := by
  have e1 := conc_eq (v := .string s) (hρ x _ hx) rfl
  refine ⟨.int .i64 s.size, ?_, .lit _ rfl⟩
  unfold execOp
  rw [ho]
  simp [resolve, invoke, builtin, Builtin.len_, run_underlying ht, e1, goInt]

theorem pure_extract (hρ : ∀ x d, ρ x = some d → VR ι Z w d (r x)) {o : Oper} {x : Operand} {i : Nat} {vs : List AV} {d : AV} (ho : o.op = .extract x i) (hx : ρ x = some (.tup vs)) (hd : vs[i]? = some d) : PureR P ι Z w r o d := by
  have h1 := hρ x _ hx
  generalize hrx : r x = u at *
  cases h1 with
  | tup ds c h2 h3 =>
    have hl : i < c.size := by rw [← h2]; exact (List.getElem?_eq_some_iff.1 hd).1
    refine ⟨c[i], ?_, h3 i d _ hd (Array.getElem?_eq_getElem hl)⟩
    unfold execOp
    rw [ho]
    refine run_v ?_
    simp [Instr.extract, hrx, hl]

/-- a slice: its elements' rows -/
theorem sl_row {es : List (List AV)} {tok : Tok} {u : Value} (h : VR ι Z w (.sl es tok) u) : ∃ a c, u = .slice a es.length c ∧ es.length ≤ c ∧ (a = none → es.length = 0 ∧ c = 0) := by
  cases h with
  | nils a c tok h1 h2 => exact ⟨a, c, rfl, Nat.zero_le _, fun e => ⟨rfl, h1 e⟩⟩
  | frs t k c b h1 h2 h3 => exact ⟨_, c, rfl, Nat.zero_le _, fun e => by cases e⟩
  | sl b o n c k es tok U h1 h2 h3 => subst h1; exact ⟨_, c, rfl, h3, fun e => by cases e⟩

theorem pure_len (hρ : ∀ x d, ρ x = some d → VR ι Z w d (r x)) {o : Oper} {x : Operand} {t e : TypeId} {es : List (List AV)} {tok : Tok} (ho : o.op = .call { callee := .builtin .len, args := #[x], argTypes := #[t] }) (ht : P.underlying t = some (.slice e)) (hx : ρ x = some (.sl es tok)) :
    PureR P ι Z w r o (.lit (.int .i64 es.length)) := by
  obtain ⟨a, c, hu, _, _⟩ := sl_row (hρ x _ hx)
  refine ⟨.int .i64 es.length, ?_, .lit _ rfl⟩
  unfold execOp
  rw [ho]
  simp [resolve, invoke, builtin, Builtin.len_, run_underlying ht, hu, goInt]

theorem pure_load (hρ : ∀ x d, ρ x = some d → VR ι Z w d (r x)) {o : Oper} {x : Operand} {t q : Nat} {row : List AV} {d : AV} (ho : o.op = .load t x) (hx : ρ x = some (.eptr row q)) (hp : partA P t row q = some d) : PureR P ι Z w r o d := by
  have h1 := hρ x _ hx
  generalize hrx : r x = u at *
  cases h1 with
  | eptr row off b o' U h2 h3 =>
    have hcr : CR ι Z w row ((List.range row.length).map U) := ⟨by simp, fun j d u hd hu => by
      have hl := (List.getElem?_eq_some_iff.1 hd).1
      rw [List.getElem?_map, List.getElem?_range hl] at hu
      cases hu
      exact ⟨(h2 j d hd).1, h3 j d hd⟩⟩
    obtain ⟨u, hu, hv, _⟩ := load_rel (P := P) (b := b) (o := o') hcr (fun j u hu => by
      have hl : j < row.length := by have := (List.getElem?_eq_some_iff.1 hu).1; simpa using this
      rw [List.getElem?_map, List.getElem?_range hl] at hu
      cases hu
      exact (h2 j _ (List.getElem?_eq_getElem hl)).2.2) hp
    refine ⟨u, ?_, hv⟩
    unfold execOp
    rw [ho]
    refine run_v ?_
    simp [Instr.loadAt, Instr.sureAddr, hrx, hu]

theorem pure_indexAddr (hρ : ∀ x d, ρ x = some d → VR ι Z w d (r x)) {o : Oper} {x i : Operand} {t e k : Nat} {es : List (List AV)} {tok : Tok} {di : AV} {n : Int} {row : List AV} (ho : o.op = .indexAddr t x i) (ht : P.underlying t = some (.slice e)) (hx : ρ x = some (.sl es tok))
    (hi : ρ i = some di) (hn : litInt di = some n) (hk : szOf P e = some (k + 1)) (h0 : 0 ≤ n) (hr : es[n.toNat]? = some row) (hl : row.length = k + 1) : PureR P ι Z w r o (.eptr row 0) := by
  obtain ⟨ki, hri⟩ := litInt_rel (hρ i _ hi) hn
  have h1 := hρ x _ hx
  generalize hrx : r x = u at *
  cases h1 with
  | nils a c tok h1 h2 => simp at hr
  | frs t k c b h1 h2 h3 => simp at hr
  | sl b q n' c k' es tok U h1 h2 h3 h4 h5 h6 h7 h8 =>
    have hk' : k' = k + 1 := by rw [← h5 _ _ hr, hl]
    subst hk'
    have hlt := (List.getElem?_eq_some_iff.1 hr).1
    refine ⟨.pointer (some ⟨b, q + n.toNat * (k + 1), none⟩), ?_, ?_⟩
    · unfold execOp
      rw [ho]
      refine run_v ?_
      have hlt' : n < n' := by omega
      simp [Instr.indexAt, run_underlying ht, hrx, hri, asIntOf, h0, hlt', run_szOf hk, Addr.add_lit]
    · exact .eptr row 0 b (q + n.toNat * (k + 1)) (fun j => U n.toNat j) (fun j d hd => h6 _ j row d hr hd) (fun j d hd => h8 _ j row d hr hd)

end
end Go.Proofs.YtcjjmejmpdhikaaGreatDoor
