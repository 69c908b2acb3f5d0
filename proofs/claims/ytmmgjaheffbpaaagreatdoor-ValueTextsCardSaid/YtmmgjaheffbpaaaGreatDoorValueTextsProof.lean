/- ValueTexts answers true: the statement as it is given, a card tied to the program's text; no condition besides. -/
import Derived.Test.YtmmgjaheffbpaaaGreatDoorVTelQ
import Derived.Test.YtmmgjaheffbpaaaGreatDoorCards
import Derived.Test.YtmmgjaheffbpaaaGreatDoorTie
import Derived.WalkKit
import Derived.ProofKit
import Derived.OpenShut
import Derived.Carry
import Derived.Deep.DeepHandedRow
import Derived.Stop.LaidErr
namespace Go.Proofs.YtmmgjaheffbpaaaGreatDoor.valueTexts
set_option linter.unusedSimpArgs false
set_option linter.unusedVariables false
open Go.ChangeShapes Go.WideShapes Go.ChangeAt Go.RowKit
open Go.ChangeMaps (open_string shut_string)

theorem own : ownKnob Tryz.prog.godebug = none := by kernel_rfl
/-- the types that the arguments are made of -/
def kinds : List TypeId := []
theorem kinds_ok : kinds.all (okKind Tryz.prog kinds) = true := by kernel_rfl
section
variable {H : Type} {enc : TypeId × Value → H}
theorem open_agg {W : World} {t : TypeId} {cs : Array Value} {d : DataW H} {p : List MemPlace} (ht : t ∈ kinds) (h : DataW.Trod enc Tryz.prog W 0 (fun _ => true) true t (.agg cs) d p) : ∃ n acs, avOf Tryz.prog n t d = some acs ∧ wfD Tryz.prog n t d ∧ VR [] (Zall W) W (.agg acs) (.agg cs) := by
  obtain ⟨fuel, hf⟩ := h
  obtain ⟨acs, hav, hcr, _⟩ := open_any (ι := []) kinds kinds_ok fuel t _ d p ht hf
  refine ⟨fuel, acs, hav, trod_wf fuel _ _ d p hf, ?_⟩
  have hcr : CR [] (Zall W) W acs cs.toList := hcr
  refine .agg _ _ (by simpa using hcr.1) (fun i x hx => ?_) (fun i x u hx hu => (hcr.2 i x u hx (by simpa using hu)).2)
  have hi : i < cs.size := by have := (List.getElem?_eq_some_iff.1 hx).1; have h2 := hcr.1; simp at h2; omega
  exact (hcr.2 i x cs[i] hx (by simp [hi])).1
theorem open_sl {W : World} {t : TypeId} {a : Option Addr} {n c : Nat} {d : DataW H} {p : List MemPlace} (ht : t ∈ kinds) (h : DataW.Trod enc Tryz.prog W 0 (fun _ => true) true t (.slice a n c) d p) : ∃ n' acs, avOf Tryz.prog n' t d = some acs ∧ wfD Tryz.prog n' t d ∧ ∀ v, acs = [v] → VR [] (Zall W) W v (.slice a n c) := by
  obtain ⟨fuel, hf⟩ := h
  obtain ⟨acs, hav, hcr, _⟩ := open_any (ι := []) kinds kinds_ok fuel t _ d p ht hf
  refine ⟨fuel, acs, hav, trod_wf fuel _ _ d p hf, fun v hv => ?_⟩
  subst hv
  exact (hcr.2 0 _ (.slice a n c) rfl rfl).2
end
theorem by_bulk {H : Type} (s : ByteArray) : s.size + 1 ≤ Rows.uptoBulk (H := H) (.lit (.string s.data.toList)) := by simp only [Rows.uptoBulk, Array.length_toList]; exact Nat.le_refl _
/-! A world for the witness. -/
def withCells (cs : Array Value) (o : Obj) : Obj :=
  match o with
  | .cells _ t frozen => .cells cs t frozen
  | o => o
abbrev synS : ByteArray := { data := #[105, 110, 118, 97, 108, 105, 100, 32, 115, 121, 110, 116, 97, 120] }
abbrev rngS : ByteArray := { data := #[118, 97, 108, 117, 101, 32, 111, 117, 116, 32, 111, 102, 32, 114, 97, 110, 103, 101] }
noncomputable def low : Nat := (World.holding Tryz.prog default ⟨#[], #[], []⟩).heap.size
noncomputable def laidWorld (os : Os) : World :=
  let w0 := World.holding Tryz.prog os ⟨#[.cells #[.string synS] 206, .cells #[.string rngS] 206], #[], []⟩
  { w0 with heap := (((((w0.heap.modify 1 (withCells #[.int .u64 1, .int .u64 10, .int .u64 100, .int .u64 1000, .int .u64 10000, .int .u64 100000, .int .u64 1000000, .int .u64 10000000, .int .u64 100000000, .int .u64 1000000000, .int .u64 10000000000, .int .u64 100000000000, .int .u64 1000000000000, .int .u64 10000000000000, .int .u64 100000000000000, .int .u64 1000000000000000, .int .u64 10000000000000000, .int .u64 100000000000000000, .int .u64 1000000000000000000, .int .u64 10000000000000000000])).modify 2 (withCells #[.int .u8 0, .int .u8 1, .int .u8 28, .int .u8 2, .int .u8 29, .int .u8 14, .int .u8 24, .int .u8 3, .int .u8 30, .int .u8 22, .int .u8 20, .int .u8 15, .int .u8 25, .int .u8 17, .int .u8 4, .int .u8 8, .int .u8 31, .int .u8 27, .int .u8 13, .int .u8 23, .int .u8 21, .int .u8 19, .int .u8 16, .int .u8 7, .int .u8 26, .int .u8 12, .int .u8 18, .int .u8 6, .int .u8 11, .int .u8 5, .int .u8 10, .int .u8 9])).modify 3 (withCells #[.int .u8 0, .int .u8 1, .int .u8 56, .int .u8 2, .int .u8 57, .int .u8 49, .int .u8 28, .int .u8 3, .int .u8 61, .int .u8 58, .int .u8 42, .int .u8 50, .int .u8 38, .int .u8 29, .int .u8 17, .int .u8 4, .int .u8 62, .int .u8 47, .int .u8 59, .int .u8 36, .int .u8 45, .int .u8 43, .int .u8 51, .int .u8 22, .int .u8 53, .int .u8 39, .int .u8 33, .int .u8 30, .int .u8 24, .int .u8 18, .int .u8 12, .int .u8 5, .int .u8 63, .int .u8 55, .int .u8 48, .int .u8 27, .int .u8 60, .int .u8 41, .int .u8 37, .int .u8 16, .int .u8 46, .int .u8 35, .int .u8 44, .int .u8 21, .int .u8 52, .int .u8 32, .int .u8 23, .int .u8 11, .int .u8 54, .int .u8 26, .int .u8 40, .int .u8 15, .int .u8 34, .int .u8 20, .int .u8 31, .int .u8 10, .int .u8 25, .int .u8 14, .int .u8 19, .int .u8 9, .int .u8 13, .int .u8 8, .int .u8 7, .int .u8 6])).modify 4 (withCells #[.iface 204 (.pointer (some ⟨low + 0, 0, none⟩))])).modify 5 (withCells #[.iface 204 (.pointer (some ⟨low + 1, 0, none⟩))])) }
def theArgs : Array Value := #[]
theorem laid_met (os : Os) : laidMet Tryz.prog Rows.valueTextsRow.laid ((laidWorld os).forCall (fun _ _ => 0) ⟨#[], theArgs, []⟩).memory :=
  laidMet_of_run' 70 (by kernel_rfl) (by kernel_rfl)
theorem reads (os : Os) {H : Type} (enc : TypeId × Value → H) : ∃ places, DataW.whole enc Tryz.prog ((laidWorld os).forCall (fun _ _ => 0) ⟨#[], theArgs, []⟩).memory Tryz.f3.params.toList (OpenSpec.ofChange Rows.valueTextsSpec).vars false theArgs.toList 8 = some ([], [], places) :=
  ⟨[], by kernel_rfl⟩

theorem start_of {W : World} {l : List Value} (hv : W.var? Tryz.prog "internal/strconv.uint64pow10" = some l.toArray) (ho : ∀ v ∈ l, (AV.lit v).one = true ∧ scal v = true) :
    VR [] (Zall W) W (.eptr (l.map .lit) 0) (.pointer (some ⟨1, 0, none⟩)) ∧ 1 < W.heap.size ∧ cellsz W 1 = l.length := by
  have hgn : Tryz.prog.globalNamed "internal/strconv.uint64pow10" = some 1 := by kernel_rfl
  have hc : ∀ i, W.cell? ⟨1, i, none⟩ = l[i]? := fun i => by rw [World.var?_cell hgn hv i]; simp
  refine ⟨.eptr _ 0 1 0 (fun j => (l[j]?).getD (.bool false)) (fun j d hd => ?_) (fun j d hd => ?_), ?_, ?_⟩
  · rw [List.getElem?_map, Option.map_eq_some_iff] at hd
    obtain ⟨v, hv, rfl⟩ := hd
    refine ⟨(ho v (List.mem_of_getElem? hv)).1, ?_, ?_⟩
    · unfold Zall; rw [Nat.zero_add, hc, hv]; rfl
    · rw [Nat.zero_add, hc, hv]; rfl
  · rw [List.getElem?_map, Option.map_eq_some_iff] at hd
    obtain ⟨v, hv, rfl⟩ := hd
    rw [hv]
    exact .lit v (ho v (List.mem_of_getElem? hv)).2
  · unfold World.var? at hv
    rw [hgn, Option.bind_some] at hv
    split at hv
    · rename_i c t fz hh
      exact (Array.getElem?_eq_some_iff.1 hh).1
    · cases hv
  · unfold World.var? at hv
    rw [hgn, Option.bind_some] at hv
    unfold cellsz
    split at hv
    · rename_i c t fz hh
      rw [hh]
      have := Option.some.inj hv
      rw [this]
      simp
    · cases hv
/-- the table of powers of ten, out of the row's condition -/
theorem start (W : World) (hL : laidMet Tryz.prog Rows.valueTextsRow.laid W) : Match [] [] (Zall W) W := by
  refine Match.start W fun g l hg => ?_
  have ht : Lib.TabIs Tryz.prog W "internal/strconv.uint64pow10" .u64 Lib.pow10Tab :=
    Lib.tabIs_of_head (g := 1) (t := 187) (e := 53) (n := 20) (by kernel_rfl) (by kernel_rfl) (by kernel_rfl) (by kernel_rfl) (by kernel_rfl) (by kernel_rfl) hL.tail.tail
  unfold Lib.TabIs at ht
  match g, hg with
  | 1, hg =>
    have hl : Lib.pow10Tab.map (fun z => Value.int .u64 z) = l := (show some (Lib.pow10Tab.map fun z => Value.int .u64 z) = globRow 1 by kernel_rfl).trans hg |> Option.some.inj
    rw [hl] at ht
    refine start_of ht ?_
    rw [← hl]
    intro v hv
    obtain ⟨z, _, rfl⟩ := List.mem_map.1 hv
    exact ⟨rfl, rfl⟩

set_option maxRecDepth 100000 in
theorem contract (H : Type) (enc : TypeId × Value → H) (W : World) (base : Nat) (args : Array Value) (ds gs : List (DataW H)) (before : List MemPlace)
    (hval : ∀ (j : Nat) t v, Tryz.f3.params[j]? = some t → args[j]? = some v → Value.okWide Tryz.prog W .any base t v)
    (hW : DataW.Whole enc Tryz.prog Tryz.f3.params.toList Rows.valueTextsSpec.vars false W args.toList ds gs before)
    (hk : ∀ k, (OpenSpec.ofChange Rows.valueTextsSpec).cond = some k → k H (ds ++ gs) = true)
    (hL : laidMet Tryz.prog Rows.valueTextsRow.laid W) :
    Calls Tryz.prog 3 args W fun e W' => ∃ v, e = .returned v ∧ Rows.valueTextsSpec.post enc Tryz.prog Tryz.f3 false true false false W args v W' := by
  have hW' := hW
  obtain ⟨p, q, hA0, hV, rfl, hfz, hnd⟩ := hW
  have hA : DataW.TrodAll enc Tryz.prog W 0 (fun _ => true) true Tryz.f3.params.toList args.toList ds p := hA0
  rw [Tryz.params3] at hA hval
  obtain ⟨hargs, rfl, rfl⟩ := trodAll_nil hA
  obtain rfl : args = #[] := by cases args; simp_all
  obtain ⟨rfl, rfl⟩ := trodVars_none hV
  clear hA0
  simp only [List.append_nil] at hW'
  have call := call_smU (α := Unit) (R := fun _ => .lit (.bool true)) (p := fun _ => True) (n := fun _ => 0) (r := 5) (S := SP) (N := 6) (f := 3) (args := []) (σ := []) (P := Tryz.prog) (Q := fun r σ' => r = .ret (.lit (.bool true)) ∧ σ' = []) () (show SP.sp 3 = some textsF by kernel_rfl) (fun _ _ _ => rfl) (by simp only [nrmR]) trivial (zL rfl) fun _ => ⟨rfl, rfl⟩
  refine (CallW.calls (by kernel_rfl) (SP_ok _) call (us := #[]) (start W hL) rfl (fun i d u hd hu => ?_)).mono ?_
  · simp at hd
  rintro e W' ⟨r, σ', ι', Z', ⟨rfl, rfl⟩, hE, hM, hR⟩
  obtain ⟨u, rfl, hu⟩ := hR
  cases hu
  have hb : Below W.heap.size W W' := ⟨hE.os, hE.tape, hE.output, hE.size, fun k hk => hE.keep k hk fun id h => by simp at h⟩
  refine ⟨_, rfl, _, _, _, [], [], [], hW', ?_, ?_, rfl, hb.frame _, fun h => by cases h⟩
  · exact trodAll_cons_mk (shut_bool Tryz.underlying4 _) trodAll_mk0
  · exact trodAll_mk0

set_option maxRecDepth 100000 in
theorem lifted (os : Os) (started : os.Started) (H : Type) (enc : TypeId × Value → H) (F : Stop.Interp) :
    ReturnsInHanded {} Tryz.checked os 3 .any ((OpenSpec.ofChange Rows.valueTextsSpec).preRow enc Tryz.prog Tryz.f3 Rows.valueTextsRow.domain false Rows.valueTextsRow.laid) (((OpenSpec.ofChange Rows.valueTextsSpec).at F).post enc Tryz.prog Tryz.f3 false true false false) := by
  obtain ⟨places, hx⟩ := reads os enc
  refine returnsInHanded_of_row (C := Tryz.checked) (s := OpenSpec.ofChange Rows.valueTextsSpec) own started (by kernel_rfl) Tryz.func3
    (witness_row_at (enc := enc) (C := Tryz.checked) false (laidWorld os) theArgs rfl (by kernel_rfl) (by kernel_rfl) (by kernel_rfl)
      (OpenSpec.preRow_of_cond 8 hx (by kernel_rfl) (fun k hk => by cases hk) (by kernel_rfl) (laid_met os))) ?_
  intro W base args ds gs before hval hW _ hk _ hL _ _
  exact contract H enc W base args ds gs before hval hW hk hL

theorem said : Rows.ValueTextsSaid :=
  OpenClaim.holds_of_cond 3 Tryz.f3 rfl rfl rfl rfl rfl rfl rfl ⟨rfl, rfl, rfl, rfl, rfl⟩ rfl rfl rfl rfl rfl (by kernel_rfl) Tryz.func3 (by kernel_rfl)
    (of_decide_eq_true (by kernel_rfl)) (by unfold Func.isWrapper; first | (rw [if_pos (by decide +kernel)]; kernel_rfl) | (rw [if_neg (by decide +kernel)]; exact ⟨rfl, rfl⟩))
    (fun os started H enc _ F => by rw [OpenClaim.pre_eq_preRow]; exact lifted os started H enc F)

/-- No parameter wants a stand-in; the program's looks are what the card says. -/
theorem plain (f : FuncId) (fn : Func) (hf : Tryz.pinned.checked.prog.funcNamed "whetstone/whetstonelaw20.ValueTexts" = some f) (hfn : Tryz.pinned.checked.prog.funcs[f]? = some fn) :
    true = Tryz.pinned.checked.prog.looks [] ∧ ∀ (j : Nat) t, fn.params[j]? = some t → Tryz.pinned.checked.prog.wantsStandIn t = false := by
  obtain rfl : f = 3 := Option.some.inj ((show Tryz.prog.funcNamed "whetstone/whetstonelaw20.ValueTexts" = some 3 by kernel_rfl).symm.trans hf) |>.symm
  obtain rfl : fn = Tryz.f3 := (Option.some.inj (Tryz.func3.symm.trans hfn)).symm
  refine ⟨by kernel_rfl, fun j t ht => ?_⟩
  rw [Tryz.params3] at ht
  simp at ht

theorem valueTexts_holds : Rows.ValueTextsCardSaid :=
  Claim7.holds_tied_plain_at .later [] _ _ _ _ said (fun _ h => by cases h) (by kernel_rfl) (fun _ h => by cases h) valueTexts_row_tie rfl ⟨rfl, rfl⟩ (by kernel_rfl) rfl plain (by kernel_rfl)

end Go.Proofs.YtmmgjaheffbpaaaGreatDoor.valueTexts
