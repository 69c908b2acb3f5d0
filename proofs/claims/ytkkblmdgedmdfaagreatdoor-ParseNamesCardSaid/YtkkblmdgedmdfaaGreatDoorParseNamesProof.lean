/- ParseNames answers true, and its argument read afterwards as before: the statement as it is given, a card tied to the program's text. -/
import Derived.Test.YtkkblmdgedmdfaaGreatDoorEvName2M
import Derived.Test.YtkkblmdgedmdfaaGreatDoorParseNamesFacts
import Derived.Test.YtkkblmdgedmdfaaGreatDoorCards
import Derived.Test.YtkkblmdgedmdfaaGreatDoorTie
import Derived.WalkKit
import Derived.ProofKit
import Derived.OpenShut
import Derived.Carry
import Derived.Deep.DeepHandedRow
import Derived.Stop.LaidErr
namespace Go.Proofs.YtkkblmdgedmdfaaGreatDoor.parseNames
set_option linter.unusedSimpArgs false
set_option linter.unusedVariables false
open Go.ChangeShapes Go.WideShapes Go.ChangeAt Go.RowKit
open Go.ChangeMaps (open_string shut_string)

theorem own : ownKnob Tryz.prog.godebug = none := by kernel_rfl

/-! A world for the witness. -/
def withCells (cs : Array Value) (o : Obj) : Obj :=
  match o with
  | .cells _ t frozen => .cells cs t frozen
  | o => o
abbrev synS : ByteArray := { data := #[105, 110, 118, 97, 108, 105, 100, 32, 115, 121, 110, 116, 97, 120] }
abbrev rngS : ByteArray := { data := #[118, 97, 108, 117, 101, 32, 111, 117, 116, 32, 111, 102, 32, 114, 97, 110, 103, 101] }
noncomputable def low : Nat := (World.holding Tryz.prog default ⟨#[], #[], []⟩).heap.size
noncomputable def laidWorld (os : Os) : World :=
  let w0 := World.holding Tryz.prog os ⟨#[.cells #[.string synS] 396, .cells #[.string rngS] 396], #[], []⟩
  { w0 with heap := ((((w0.heap.modify 5 (withCells #[.int .u64 1, .int .u64 10, .int .u64 100, .int .u64 1000, .int .u64 10000, .int .u64 100000, .int .u64 1000000, .int .u64 10000000, .int .u64 100000000, .int .u64 1000000000, .int .u64 10000000000, .int .u64 100000000000, .int .u64 1000000000000, .int .u64 10000000000000, .int .u64 100000000000000, .int .u64 1000000000000000, .int .u64 10000000000000000, .int .u64 100000000000000000, .int .u64 1000000000000000000, .int .u64 10000000000000000000])).modify 6 (withCells #[.int .u8 0, .int .u8 1, .int .u8 28, .int .u8 2, .int .u8 29, .int .u8 14, .int .u8 24, .int .u8 3, .int .u8 30, .int .u8 22, .int .u8 20, .int .u8 15, .int .u8 25, .int .u8 17, .int .u8 4, .int .u8 8, .int .u8 31, .int .u8 27, .int .u8 13, .int .u8 23, .int .u8 21, .int .u8 19, .int .u8 16, .int .u8 7, .int .u8 26, .int .u8 12, .int .u8 18, .int .u8 6, .int .u8 11, .int .u8 5, .int .u8 10, .int .u8 9])).modify 7 (withCells #[.int .u8 0, .int .u8 1, .int .u8 56, .int .u8 2, .int .u8 57, .int .u8 49, .int .u8 28, .int .u8 3, .int .u8 61, .int .u8 58, .int .u8 42, .int .u8 50, .int .u8 38, .int .u8 29, .int .u8 17, .int .u8 4, .int .u8 62, .int .u8 47, .int .u8 59, .int .u8 36, .int .u8 45, .int .u8 43, .int .u8 51, .int .u8 22, .int .u8 53, .int .u8 39, .int .u8 33, .int .u8 30, .int .u8 24, .int .u8 18, .int .u8 12, .int .u8 5, .int .u8 63, .int .u8 55, .int .u8 48, .int .u8 27, .int .u8 60, .int .u8 41, .int .u8 37, .int .u8 16, .int .u8 46, .int .u8 35, .int .u8 44, .int .u8 21, .int .u8 52, .int .u8 32, .int .u8 23, .int .u8 11, .int .u8 54, .int .u8 26, .int .u8 40, .int .u8 15, .int .u8 34, .int .u8 20, .int .u8 31, .int .u8 10, .int .u8 25, .int .u8 14, .int .u8 19, .int .u8 9, .int .u8 13, .int .u8 8, .int .u8 7, .int .u8 6])).modify 3 (withCells #[.iface 394 (.pointer (some ⟨low, 0, none⟩))])).modify 4 (withCells #[.iface 394 (.pointer (some ⟨low + 1, 0, none⟩))]) }
def theArgs : Array Value := #[.string ⟨#[]⟩]
theorem laid_met (os : Os) : laidMet Tryz.prog Rows.parseNamesRow.laid ((laidWorld os).forCall (fun _ _ => 0) ⟨#[], theArgs, []⟩).memory :=
  laidMet_of_run' 70 (by kernel_rfl) (by kernel_rfl)
theorem reads (os : Os) {H : Type} (enc : TypeId × Value → H) : ∃ places, DataW.whole enc Tryz.prog ((laidWorld os).forCall (fun _ _ => 0) ⟨#[], theArgs, []⟩).memory Tryz.f3.params.toList Rows.parseNamesSpec.vars false theArgs.toList 8 = some ([.lit (.string [])], [], places) :=
  ⟨[], by kernel_rfl⟩

theorem start_of {W : World} {l : List Value} (hv : W.var? Tryz.prog "internal/strconv.uint64pow10" = some l.toArray) (ho : ∀ v ∈ l, (AV.lit v).one = true ∧ scal v = true) :
    VR [] (Zall W) W (.eptr (l.map .lit) 0) (.pointer (some ⟨5, 0, none⟩)) ∧ 5 < W.heap.size ∧ cellsz W 5 = l.length := by
  have hgn : Tryz.prog.globalNamed "internal/strconv.uint64pow10" = some 5 := by kernel_rfl
  have hc : ∀ i, W.cell? ⟨5, i, none⟩ = l[i]? := fun i => by rw [World.var?_cell hgn hv i]; simp
  refine ⟨.eptr _ 0 5 0 (fun j => (l[j]?).getD (.bool false)) (fun j d hd => ?_) (fun j d hd => ?_), ?_, ?_⟩
  · rw [List.getElem?_map, Option.map_eq_some_iff] at hd
    obtain ⟨v, hv, rfl⟩ := hd
    refine ⟨(ho v (List.mem_of_getElem? hv)).1, ?_, ?_⟩
    · unfold Zall; rw [Nat.zero_add, hc, hv]; rfl
    · rw [Nat.zero_add, hc, hv]; rfl
  · rw [List.getElem?_map, Option.map_eq_some_iff] at hd
    obtain ⟨v, hv, rfl⟩ := hd
    rw [hv]
    exact .lit v (ho v (List.mem_of_getElem? hv)).2
  · unfold World.var? at hv
    rw [hgn, Option.bind_some] at hv
    split at hv
    · rename_i c t fz hh
      exact (Array.getElem?_eq_some_iff.1 hh).1
    · cases hv
  · unfold World.var? at hv
    rw [hgn, Option.bind_some] at hv
    unfold cellsz
    split at hv
    · rename_i c t fz hh
      rw [hh]
      have := Option.some.inj hv
      rw [this]
      simp
    · cases hv

/-- the table of powers of ten, out of the row's condition -/
theorem start (W : World) (hL : laidMet Tryz.prog Rows.parseNamesRow.laid W) : Match [] [] (Zall W) W := by
  refine Match.start W fun g l hg => ?_
  have ht : Lib.TabIs Tryz.prog W "internal/strconv.uint64pow10" .u64 Lib.pow10Tab :=
    Lib.tabIs_of_head (g := 5) (t := 421) (e := 327) (n := 20) (by kernel_rfl) (by kernel_rfl) (by kernel_rfl) (by kernel_rfl) (by kernel_rfl) (by kernel_rfl) hL.tail.tail
  unfold Lib.TabIs at ht
  match g, hg with
  | 5, hg =>
    have hl : Lib.pow10Tab.map (fun z => Value.int .u64 z) = l := (show some (Lib.pow10Tab.map fun z => Value.int .u64 z) = globRow 5 by kernel_rfl).trans hg |> Option.some.inj
    rw [hl] at ht
    refine start_of ht ?_
    rw [← hl]
    intro v hv
    obtain ⟨z, _, rfl⟩ := List.mem_map.1 hv
    exact ⟨rfl, rfl⟩

set_option maxRecDepth 100000 in
theorem contract (H : Type) (enc : TypeId × Value → H) (W : World) (base : Nat) (args : Array Value) (ds gs : List (DataW H)) (before : List MemPlace)
    (hval : ∀ (j : Nat) t v, Tryz.f3.params[j]? = some t → args[j]? = some v → Value.okWide Tryz.prog W .any base t v)
    (hW : DataW.Whole enc Tryz.prog Tryz.f3.params.toList Rows.parseNamesSpec.vars false W args.toList ds gs before)
    (hsz : (DataW.weightsEach Tryz.prog (Tryz.f3.params.toList ++ (OpenSpec.ofChange Rows.parseNamesSpec).bare.plain.varTypes Tryz.prog) (ds ++ gs)).all (· ≤ reachBytes) = true)
    (hL : laidMet Tryz.prog Rows.parseNamesRow.laid W) :
    Calls Tryz.prog 3 args W fun e W' => ∃ v, e = .returned v ∧ Rows.parseNamesSpec.post enc Tryz.prog Tryz.f3 false true false false W args v W' := by
  have hW' := hW
  obtain ⟨p, q, hA0, hV, rfl, hfz, hnd⟩ := hW
  have hA : DataW.TrodAll enc Tryz.prog W 0 (fun _ => true) true Tryz.f3.params.toList args.toList ds p := hA0
  rw [Tryz.params3] at hA hval hsz
  obtain ⟨v0, d0, rfl, rfl, h0⟩ := trodAll_one hA
  obtain ⟨rfl, rfl⟩ := trodVars_none hV
  obtain ⟨s1, rfl, rfl, rfl, hmax1⟩ := open_string Tryz.underlying9 (hval 0 9 v0 rfl rfl) h0
  clear hA0
  simp only [List.append_nil] at hW' hsz
  have hm : s1.data.toList.length ≤ 140737488355328 := by
    have hz : s1.data.toList.length = s1.size := by rw [Array.length_toList]; rfl
    have := List.all_eq_true.1 hsz s1.data.toList.length (by simp [DataW.weightsEach, DataW.weights])
    have h2 : s1.data.toList.length ≤ reachBytes := by simpa using this
    have h3 : reachBytes ≤ 140737488355328 := by decide
    omega
  have hev := parseNames_ev s1.data.toList [] hm
  rw [bs_data] at hev
  refine (CallW.calls (by kernel_rfl) EQ_ok hev (us := #[.string s1]) (start W hL) rfl (fun i d u hd hu => ?_)).mono ?_
  · match i with
    | 0 => simp at hd hu; subst hd; subst hu; exact .lit _ rfl
    | i + 1 => simp at hd
  rintro e W' ⟨r, σ', ι', Z', ⟨rfl, hext⟩, hE, hM, hR⟩
  obtain ⟨u, rfl, hu⟩ := hR
  cases hu
  have hb : Below W.heap.size W W' := ⟨hE.os, hE.tape, hE.output, hE.size, fun k hk => hE.keep k hk fun id h => by simp at h⟩
  refine ⟨_, rfl, _, _, _, [], [] ++ [], [], hW', ?_, ?_, rfl, hb.frame _, fun h => by cases h⟩
  · exact trodAll_cons_mk (shut_bool Tryz.underlying4 _) trodAll_mk0
  · exact trodAll_cons_mk (shut_string Tryz.underlying9 hmax1) trodAll_mk0

set_option maxRecDepth 100000 in
theorem lifted (os : Os) (started : os.Started) (H : Type) (enc : TypeId × Value → H) (F : Stop.Interp) :
    ReturnsInHanded {} Tryz.checked os 3 .any ((OpenSpec.ofChange Rows.parseNamesSpec).preRow enc Tryz.prog Tryz.f3 Rows.parseNamesRow.domain false Rows.parseNamesRow.laid) (((OpenSpec.ofChange Rows.parseNamesSpec).at F).post enc Tryz.prog Tryz.f3 false true false false) := by
  obtain ⟨places, hx⟩ := reads os enc
  refine returnsInHanded_of_row (C := Tryz.checked) (s := OpenSpec.ofChange Rows.parseNamesSpec) own started (by kernel_rfl) Tryz.func3
    (witness_row_at (enc := enc) (C := Tryz.checked) false (laidWorld os) theArgs rfl (by kernel_rfl) (by kernel_rfl) (by kernel_rfl)
      (OpenSpec.preRow_of_cond 8 hx (by kernel_rfl) (fun k hk => by cases hk) (by kernel_rfl) (laid_met os))) ?_
  intro W base args ds gs before hval hW _ _ hsz hL _ _
  exact contract H enc W base args ds gs before hval hW hsz hL

theorem said : Rows.ParseNamesSaid :=
  OpenClaim.holds_of_cond 3 Tryz.f3 rfl rfl rfl rfl rfl rfl rfl ⟨rfl, rfl, rfl, rfl, rfl⟩ rfl rfl rfl rfl rfl (by kernel_rfl) Tryz.func3 closed'
    (of_decide_eq_true (by kernel_rfl)) (by unfold Func.isWrapper; first | (rw [if_pos (by decide +kernel)]; kernel_rfl) | (rw [if_neg (by decide +kernel)]; exact ⟨rfl, rfl⟩))
    (fun os started H enc _ F => by rw [OpenClaim.pre_eq_preRow]; exact lifted os started H enc F)

/-- No parameter wants a stand-in; the program's looks are what the card says. -/
theorem plain (f : FuncId) (fn : Func) (hf : Tryz.pinned.checked.prog.funcNamed "whetstone/whetstonelaw16.ParseNames" = some f) (hfn : Tryz.pinned.checked.prog.funcs[f]? = some fn) :
    true = Tryz.pinned.checked.prog.looks [] ∧ ∀ (j : Nat) t, fn.params[j]? = some t → Tryz.pinned.checked.prog.wantsStandIn t = false := by
  obtain rfl : f = 3 := Option.some.inj ((show Tryz.prog.funcNamed "whetstone/whetstonelaw16.ParseNames" = some 3 by kernel_rfl).symm.trans hf) |>.symm
  obtain rfl : fn = Tryz.f3 := (Option.some.inj (Tryz.func3.symm.trans hfn)).symm
  refine ⟨by kernel_rfl, fun j t ht => ?_⟩
  rw [Tryz.params3] at ht
  have hs : Tryz.pinned.checked.prog.wantsStandIn 9 = false := by kernel_rfl
  match j, ht with
  | 0, ht => rw [← (show 9 = t by simpa using ht)]; exact hs
  | j + 1, ht => simp at ht

theorem parseNames_holds : Rows.ParseNamesCardSaid :=
  Claim7.holds_tied_plain_at .later [] _ _ _ _ said (fun _ h => by cases h) (by kernel_rfl) (fun _ h => by cases h) parseNames_row_tie rfl ⟨rfl, rfl⟩ (by kernel_rfl) rfl plain (by kernel_rfl)

end Go.Proofs.YtkkblmdgedmdfaaGreatDoor.parseNames
