/- TreeSubst answers true, and its arguments read afterwards as before, where what it reads is of bulk at most 1048576: the statement's second form, a card tied to the program's text. -/
import Derived.Test.YtncoidmbmihliaaGreatDoorTSubM
import Derived.Test.YtncoidmbmihliaaGreatDoorTKey2M
import Derived.Test.YtncoidmbmihliaaGreatDoorOpnM
import Derived.Test.YtncoidmbmihliaaGreatDoorCards
import Derived.Test.YtncoidmbmihliaaGreatDoorTie
import Derived.WalkKit
import Derived.ProofKit
import Derived.OpenShut
import Derived.Carry
import Derived.Deep.DeepHandedRow
import Derived.Stop.LaidErr
namespace Go.Proofs.YtncoidmbmihliaaGreatDoor.treeSubst
set_option linter.unusedSimpArgs false
set_option linter.unusedVariables false
open Go.ChangeShapes Go.WideShapes Go.ChangeAt Go.RowKit
open Go.ChangeMaps (open_string shut_string)

theorem own : ownKnob Tryz.prog.godebug = none := by kernel_rfl
/-- the types that the arguments are made of -/
def kinds : List TypeId := [34, 22, 9, 23, 57, 4, 54, 51, 28, 26, 111, 52, 55, 124, 24, 62, 60, 36, 30, 25, 32, 31, 88, 35]
theorem kinds_ok : kinds.all (okKind Tryz.prog kinds) = true := by kernel_rfl
section
variable {H : Type} {enc : TypeId × Value → H}
theorem open_agg {W : World} {t : TypeId} {cs : Array Value} {d : DataW H} {p : List MemPlace} (ht : t ∈ kinds) (h : DataW.Trod enc Tryz.prog W 0 (fun _ => true) true t (.agg cs) d p) : ∃ n acs, avOf Tryz.prog n t d = some acs ∧ wfD Tryz.prog n t d ∧ VR [] (Zall W) W (.agg acs) (.agg cs) := by
  obtain ⟨fuel, hf⟩ := h
  obtain ⟨acs, hav, hcr, _⟩ := open_any (ι := []) kinds kinds_ok fuel t _ d p ht hf
  refine ⟨fuel, acs, hav, trod_wf fuel _ _ d p hf, ?_⟩
  have hcr : CR [] (Zall W) W acs cs.toList := hcr
  refine .agg _ _ (by simpa using hcr.1) (fun i x hx => ?_) (fun i x u hx hu => (hcr.2 i x u hx (by simpa using hu)).2)
  have hi : i < cs.size := by have := (List.getElem?_eq_some_iff.1 hx).1; have h2 := hcr.1; simp at h2; omega
  exact (hcr.2 i x cs[i] hx (by simp [hi])).1
theorem open_sl {W : World} {t : TypeId} {a : Option Addr} {n c : Nat} {d : DataW H} {p : List MemPlace} (ht : t ∈ kinds) (h : DataW.Trod enc Tryz.prog W 0 (fun _ => true) true t (.slice a n c) d p) : ∃ n' acs, avOf Tryz.prog n' t d = some acs ∧ wfD Tryz.prog n' t d ∧ ∀ v, acs = [v] → VR [] (Zall W) W v (.slice a n c) := by
  obtain ⟨fuel, hf⟩ := h
  obtain ⟨acs, hav, hcr, _⟩ := open_any (ι := []) kinds kinds_ok fuel t _ d p ht hf
  refine ⟨fuel, acs, hav, trod_wf fuel _ _ d p hf, fun v hv => ?_⟩
  subst hv
  exact (hcr.2 0 _ (.slice a n c) rfl rfl).2
end
theorem by_bulk {H : Type} (s : ByteArray) : s.size + 1 ≤ Rows.uptoBulk (H := H) (.lit (.string s.data.toList)) := by simp only [Rows.uptoBulk, Array.length_toList]; exact Nat.le_refl _
/-! A world for the witness. -/
def withCells (cs : Array Value) (o : Obj) : Obj :=
  match o with
  | .cells _ t frozen => .cells cs t frozen
  | o => o
noncomputable def laidWorld (os : Os) : World :=
  let w0 := World.holding Tryz.prog os ⟨#[], #[], []⟩
  { w0 with heap := (((w0.heap.modify 0 (withCells #[.int .u64 1, .int .u64 10, .int .u64 100, .int .u64 1000, .int .u64 10000, .int .u64 100000, .int .u64 1000000, .int .u64 10000000, .int .u64 100000000, .int .u64 1000000000, .int .u64 10000000000, .int .u64 100000000000, .int .u64 1000000000000, .int .u64 10000000000000, .int .u64 100000000000000, .int .u64 1000000000000000, .int .u64 10000000000000000, .int .u64 100000000000000000, .int .u64 1000000000000000000, .int .u64 10000000000000000000])).modify 1 (withCells #[.int .u8 0, .int .u8 1, .int .u8 28, .int .u8 2, .int .u8 29, .int .u8 14, .int .u8 24, .int .u8 3, .int .u8 30, .int .u8 22, .int .u8 20, .int .u8 15, .int .u8 25, .int .u8 17, .int .u8 4, .int .u8 8, .int .u8 31, .int .u8 27, .int .u8 13, .int .u8 23, .int .u8 21, .int .u8 19, .int .u8 16, .int .u8 7, .int .u8 26, .int .u8 12, .int .u8 18, .int .u8 6, .int .u8 11, .int .u8 5, .int .u8 10, .int .u8 9])).modify 2 (withCells #[.int .u8 0, .int .u8 1, .int .u8 56, .int .u8 2, .int .u8 57, .int .u8 49, .int .u8 28, .int .u8 3, .int .u8 61, .int .u8 58, .int .u8 42, .int .u8 50, .int .u8 38, .int .u8 29, .int .u8 17, .int .u8 4, .int .u8 62, .int .u8 47, .int .u8 59, .int .u8 36, .int .u8 45, .int .u8 43, .int .u8 51, .int .u8 22, .int .u8 53, .int .u8 39, .int .u8 33, .int .u8 30, .int .u8 24, .int .u8 18, .int .u8 12, .int .u8 5, .int .u8 63, .int .u8 55, .int .u8 48, .int .u8 27, .int .u8 60, .int .u8 41, .int .u8 37, .int .u8 16, .int .u8 46, .int .u8 35, .int .u8 44, .int .u8 21, .int .u8 52, .int .u8 32, .int .u8 23, .int .u8 11, .int .u8 54, .int .u8 26, .int .u8 40, .int .u8 15, .int .u8 34, .int .u8 20, .int .u8 31, .int .u8 10, .int .u8 25, .int .u8 14, .int .u8 19, .int .u8 9, .int .u8 13, .int .u8 8, .int .u8 7, .int .u8 6])) }
def theArgs : Array Value := #[.agg #[.int .u8 0, .string ⟨#[]⟩, .slice none 0 0, .slice none 0 0, .int .u8 0, .string ⟨#[]⟩, .bool false, .slice none 0 0, .bool false, .slice none 0 0, .slice none 0 0], .slice none 0 0, .slice none 0 0]
theorem laid_met (os : Os) : laidMet Tryz.prog Rows.treeSubstUptoRow.laid ((laidWorld os).forCall (fun _ _ => 0) ⟨#[], theArgs, []⟩).memory :=
  laidMet_of_run' 70 (by kernel_rfl) (by kernel_rfl)
theorem reads (os : Os) {H : Type} (enc : TypeId × Value → H) : ∃ places, DataW.whole enc Tryz.prog ((laidWorld os).forCall (fun _ _ => 0) ⟨#[], theArgs, []⟩).memory Tryz.f3.params.toList (Rows.OpenSpec.upto Rows.treeSubstSpec).vars false theArgs.toList 8 = some ([.agg [.lit (.int .u8 0), .lit (.string []), .nil, .nil, .agg [.lit (.int .u8 0), .lit (.string []), .agg [.lit (.bool false), .nil], .lit (.bool false)], .nil, .nil], .nil, .nil], [], places) :=
  ⟨[], by kernel_rfl⟩

theorem start_of {W : World} {l : List Value} (hv : W.var? Tryz.prog "internal/strconv.uint64pow10" = some l.toArray) (ho : ∀ v ∈ l, (AV.lit v).one = true ∧ scal v = true) :
    VR [] (Zall W) W (.eptr (l.map .lit) 0) (.pointer (some ⟨0, 0, none⟩)) ∧ 0 < W.heap.size ∧ cellsz W 0 = l.length := by
  have hgn : Tryz.prog.globalNamed "internal/strconv.uint64pow10" = some 0 := by kernel_rfl
  have hc : ∀ i, W.cell? ⟨0, i, none⟩ = l[i]? := fun i => by rw [World.var?_cell hgn hv i]; simp
  refine ⟨.eptr _ 0 0 0 (fun j => (l[j]?).getD (.bool false)) (fun j d hd => ?_) (fun j d hd => ?_), ?_, ?_⟩
  · rw [List.getElem?_map, Option.map_eq_some_iff] at hd
    obtain ⟨v, hv, rfl⟩ := hd
    refine ⟨(ho v (List.mem_of_getElem? hv)).1, ?_, ?_⟩
    · unfold Zall; rw [Nat.zero_add, hc, hv]; rfl
    · rw [Nat.zero_add, hc, hv]; rfl
  · rw [List.getElem?_map, Option.map_eq_some_iff] at hd
    obtain ⟨v, hv, rfl⟩ := hd
    rw [hv]
    exact .lit v (ho v (List.mem_of_getElem? hv)).2
  · unfold World.var? at hv
    rw [hgn, Option.bind_some] at hv
    split at hv
    · rename_i c t fz hh
      exact (Array.getElem?_eq_some_iff.1 hh).1
    · cases hv
  · unfold World.var? at hv
    rw [hgn, Option.bind_some] at hv
    unfold cellsz
    split at hv
    · rename_i c t fz hh
      rw [hh]
      have := Option.some.inj hv
      rw [this]
      simp
    · cases hv
/-- the table of powers of ten, out of the row's condition -/
theorem start (W : World) (hL : laidMet Tryz.prog Rows.treeSubstUptoRow.laid W) : Match [] [] (Zall W) W := by
  refine Match.start W fun g l hg => ?_
  have ht : Lib.TabIs Tryz.prog W "internal/strconv.uint64pow10" .u64 Lib.pow10Tab :=
    Lib.tabIs_of_head (g := 0) (t := 217) (e := 138) (n := 20) (by kernel_rfl) (by kernel_rfl) (by kernel_rfl) (by kernel_rfl) (by kernel_rfl) (by kernel_rfl) hL.tail.tail
  unfold Lib.TabIs at ht
  match g, hg with
  | 0, hg =>
    have hl : Lib.pow10Tab.map (fun z => Value.int .u64 z) = l := (show some (Lib.pow10Tab.map fun z => Value.int .u64 z) = globRow 0 by kernel_rfl).trans hg |> Option.some.inj
    rw [hl] at ht
    refine start_of ht ?_
    rw [← hl]
    intro v hv
    obtain ⟨z, _, rfl⟩ := List.mem_map.1 hv
    exact ⟨rfl, rfl⟩

theorem trodAll_n {H : Type} {enc : TypeId × Value → H} {w : World} {t0 t1 t2 : TypeId} {args : Array Value} {ds : List (DataW H)} {ps : List MemPlace} (h : DataW.TrodAll enc Tryz.prog w 0 (fun _ => true) true [t0, t1, t2] args.toList ds ps) :
    ∃ v0 v1 v2 d0 d1 d2 p0 p1 p2, args = #[v0, v1, v2] ∧ ds = [d0, d1, d2] ∧ ps = p0 ++ (p1 ++ (p2 ++ [])) ∧ DataW.Trod enc Tryz.prog w 0 (fun _ => true) true t0 v0 d0 p0 ∧ DataW.Trod enc Tryz.prog w 0 (fun _ => true) true t1 v1 d1 p1 ∧ DataW.Trod enc Tryz.prog w 0 (fun _ => true) true t2 v2 d2 p2 := by
  obtain ⟨args⟩ := args
  simp only [] at h
  obtain ⟨v0, s0, d0, e0, p0, q0, hx0, hy0, hz0, h0, k0⟩ := trodAll_cons h
  obtain ⟨v1, s1, d1, e1, p1, q1, hx1, hy1, hz1, h1, k1⟩ := trodAll_cons k0
  obtain ⟨v2, s2, d2, e2, p2, q2, hx2, hy2, hz2, h2, k2⟩ := trodAll_cons k1
  obtain ⟨rfl, rfl, rfl⟩ := trodAll_nil k2
  subst hx2 hy2 hz2
  subst hx1 hy1 hz1
  subst hx0 hy0 hz0
  exact ⟨_, _, _, _, _, _, _, _, _, rfl, rfl, rfl, h0, h1, h2⟩
set_option maxRecDepth 100000 in
theorem contract (H : Type) (enc : TypeId × Value → H) (W : World) (base : Nat) (args : Array Value) (ds gs : List (DataW H)) (before : List MemPlace)
    (hval : ∀ (j : Nat) t v, Tryz.f3.params[j]? = some t → args[j]? = some v → Value.okWide Tryz.prog W .any base t v)
    (hW : DataW.Whole enc Tryz.prog Tryz.f3.params.toList Rows.treeSubstSpec.vars false W args.toList ds gs before)
    (hk : ∀ k, (Rows.OpenSpec.upto Rows.treeSubstSpec).cond = some k → k H (ds ++ gs) = true)
    (hL : laidMet Tryz.prog Rows.treeSubstUptoRow.laid W) :
    Calls Tryz.prog 3 args W fun e W' => ∃ v, e = .returned v ∧ Rows.treeSubstSpec.post enc Tryz.prog Tryz.f3 false true false false W args v W' := by
  have hW' := hW
  obtain ⟨p, q, hA0, hV, rfl, hfz, hnd⟩ := hW
  have hA : DataW.TrodAll enc Tryz.prog W 0 (fun _ => true) true Tryz.f3.params.toList args.toList ds p := hA0
  rw [Tryz.params3] at hA hval
  obtain ⟨v0, v1, v2, d0, d1, d2, p0, p1, p2, rfl, rfl, rfl, h0, h1, h2⟩ := trodAll_n hA
  obtain ⟨rfl, rfl⟩ := trodVars_none hV
  obtain ⟨c0, rfl, _⟩ := okWide_struct Tryz.underlying34 (hval 0 34 v0 rfl rfl)
  obtain ⟨a1, n1, c1, rfl⟩ := okWide_slice Tryz.underlying35 (hval 1 35 v1 rfl rfl)
  obtain ⟨a2, n2, c2, rfl⟩ := okWide_slice Tryz.underlying36 (hval 2 36 v2 rfl rfl)
  clear hA0
  simp only [List.append_nil] at hW' hk
  have hbk := of_decide_eq_true (hk _ rfl)
  simp only [Rows.uptoBulkAll] at hbk
  obtain ⟨m0, acs0, hav0, hwf0, hv0⟩ := open_agg (by simp [kinds]) h0
  obtain ⟨x0, rfl, l0⟩ := (op_exp _).1 _ _ hav0 hwf0
  obtain ⟨m1, acs1, hav1, hwf1, hv1⟩ := open_sl (by simp [kinds]) h1
  obtain ⟨x1, rfl, l1⟩ := op_txts hav1 hwf1
  replace hv1 := hv1 _ rfl
  obtain ⟨m2, acs2, hav2, hwf2, hv2⟩ := open_sl (by simp [kinds]) h2
  obtain ⟨x2, rfl, l2, k2⟩ := op_atms _ _ _ hav2 hwf2
  replace hv2 := hv2 _ rfl
  have call := call_sm (α := Sx) (R := fun _ => .lit (.bool true)) (p := Sx.Pre) (n := fun _ => 10000000000000) (r := 0) (S := SP) (N := 160000000000001) (f := 3) (args := [.agg x0.cs, .sl (txtR x1) .no, .sl (atmR x2) .no]) (σ := []) (P := Tryz.prog) (Q := fun r σ' => r = .ret (.lit (.bool true)) ∧ σ' = []) (⟨x0, x1, x2⟩ : Sx) (show SP.sp 3 = some lsubstF by kernel_rfl) sx_inj (by simp only [nrmR, AV.nrm, Exp.nrm, txtR_nrm, atmR_nrm]) ⟨by dsimp only; omega, by dsimp only; omega, by dsimp only; omega, fun a ha => by have := k2 a ha; omega⟩ (zL rfl) fun _ => ⟨rfl, rfl⟩
  refine (CallW.calls (by kernel_rfl) (SP_ok _) call (us := #[.agg c0, .slice a1 n1 c1, .slice a2 n2 c2]) (start W hL) rfl (fun i d u hd hu => ?_)).mono ?_
  · match i with
    | 0 => simp at hd hu; subst hd; subst hu; exact hv0
    | 1 => simp at hd hu; subst hd; subst hu; exact hv1
    | 2 => simp at hd hu; subst hd; subst hu; exact hv2
    | i + 3 => simp at hd
  rintro e W' ⟨r, σ', ι', Z', ⟨rfl, rfl⟩, hE, hM, hR⟩
  obtain ⟨u, rfl, hu⟩ := hR
  cases hu
  have hb : Below W.heap.size W W' := ⟨hE.os, hE.tape, hE.output, hE.size, fun k hk => hE.keep k hk fun id h => by simp at h⟩
  refine ⟨_, rfl, _, _, _, [], p0 ++ (p1 ++ (p2 ++ [])), [], hW', ?_, ?_, rfl, hb.frame _, fun h => by cases h⟩
  · exact trodAll_cons_mk (shut_bool Tryz.underlying4 _) trodAll_mk0
  · exact trodAll_cons_mk (Below.trod (by kernel_rfl) (by kernel_rfl) (of_decide_eq_true (by kernel_rfl)) h0 hb fun x hx => hW'.lt x (by simp [hx])) (trodAll_cons_mk (Below.trod (by kernel_rfl) (by kernel_rfl) (of_decide_eq_true (by kernel_rfl)) h1 hb fun x hx => hW'.lt x (by simp [hx])) (trodAll_cons_mk (Below.trod (by kernel_rfl) (by kernel_rfl) (of_decide_eq_true (by kernel_rfl)) h2 hb fun x hx => hW'.lt x (by simp [hx])) (trodAll_mk0)))

set_option maxRecDepth 100000 in
theorem lifted (os : Os) (started : os.Started) (H : Type) (enc : TypeId × Value → H) (F : Stop.Interp) :
    ReturnsInHanded {} Tryz.checked os 3 .any ((Rows.OpenSpec.upto Rows.treeSubstSpec).preRow enc Tryz.prog Tryz.f3 Rows.treeSubstUptoRow.domain false Rows.treeSubstUptoRow.laid) (((Rows.OpenSpec.upto Rows.treeSubstSpec).at F).post enc Tryz.prog Tryz.f3 false true false false) := by
  obtain ⟨places, hx⟩ := reads os enc
  refine returnsInHanded_of_row (C := Tryz.checked) (s := Rows.OpenSpec.upto Rows.treeSubstSpec) own started (by kernel_rfl) Tryz.func3
    (witness_row_at (enc := enc) (C := Tryz.checked) false (laidWorld os) theArgs rfl (by kernel_rfl) (by kernel_rfl) (by kernel_rfl)
      (OpenSpec.preRow_of_cond 8 hx (by kernel_rfl) (fun k hk => by cases hk; kernel_rfl) (by kernel_rfl) (laid_met os))) ?_
  intro W base args ds gs before hval hW _ hk _ hL _ _
  exact contract H enc W base args ds gs before hval hW hk hL

theorem said : Rows.TreeSubstUptoSaid :=
  OpenClaim.holds_of_cond 3 Tryz.f3 rfl rfl rfl rfl rfl rfl rfl ⟨rfl, rfl, rfl, rfl, rfl⟩ rfl rfl rfl rfl rfl (by kernel_rfl) Tryz.func3 (by kernel_rfl)
    (of_decide_eq_true (by kernel_rfl)) (by unfold Func.isWrapper; first | (rw [if_pos (by decide +kernel)]; kernel_rfl) | (rw [if_neg (by decide +kernel)]; exact ⟨rfl, rfl⟩))
    (fun os started H enc _ F => by rw [OpenClaim.pre_eq_preRow]; exact lifted os started H enc F)

/-- No parameter wants a stand-in; the program's looks are what the card says. -/
theorem plain (f : FuncId) (fn : Func) (hf : Tryz.pinned.checked.prog.funcNamed "whetstone/whetstonelaw15.TreeSubst" = some f) (hfn : Tryz.pinned.checked.prog.funcs[f]? = some fn) :
    true = Tryz.pinned.checked.prog.looks [] ∧ ∀ (j : Nat) t, fn.params[j]? = some t → Tryz.pinned.checked.prog.wantsStandIn t = false := by
  obtain rfl : f = 3 := Option.some.inj ((show Tryz.prog.funcNamed "whetstone/whetstonelaw15.TreeSubst" = some 3 by kernel_rfl).symm.trans hf) |>.symm
  obtain rfl : fn = Tryz.f3 := (Option.some.inj (Tryz.func3.symm.trans hfn)).symm
  refine ⟨by kernel_rfl, fun j t ht => ?_⟩
  rw [Tryz.params3] at ht
  have hs0 : Tryz.pinned.checked.prog.wantsStandIn 34 = false := by kernel_rfl
  have hs1 : Tryz.pinned.checked.prog.wantsStandIn 35 = false := by kernel_rfl
  have hs2 : Tryz.pinned.checked.prog.wantsStandIn 36 = false := by kernel_rfl
  match j, ht with
  | 0, ht => rw [← (show 34 = t by simpa using ht)]; exact hs0
  | 1, ht => rw [← (show 35 = t by simpa using ht)]; exact hs1
  | 2, ht => rw [← (show 36 = t by simpa using ht)]; exact hs2
  | j + 3, ht => simp at ht

theorem treeSubst_holds : Rows.TreeSubstUptoCardSaid :=
  Claim7.holds_tied_plain_at .later [] _ _ _ _ said (fun _ h => by cases h) (by kernel_rfl) (fun _ h => by cases h) treeSubstUpto_row_tie rfl ⟨rfl, rfl⟩ (by kernel_rfl) rfl plain (by kernel_rfl)

end Go.Proofs.YtncoidmbmihliaaGreatDoor.treeSubst
