/- ValueParsed answers true, and its arguments read afterwards as before: the statement as it is given, a card tied to the program's text. -/
import Derived.Test.YtcjjmejmpdhikaaGreatDoorEvParsed
import Derived.Test.YtcjjmejmpdhikaaGreatDoorCards
import Derived.Test.YtcjjmejmpdhikaaGreatDoorTie
import Derived.WalkKit
import Derived.ProofKit
import Derived.OpenShut
import Derived.Carry
import Derived.Deep.DeepHandedRow
import Derived.Stop.LaidErr
namespace Go.Proofs.YtcjjmejmpdhikaaGreatDoor.valueParsed
set_option linter.unusedSimpArgs false
set_option linter.unusedVariables false
open Go.ChangeShapes Go.WideShapes Go.ChangeAt Go.RowKit
open Go.ChangeMaps (open_string shut_string)

theorem own : ownKnob Tryz.prog.godebug = none := by kernel_rfl

/-- the types that the first argument is made of -/
def kinds : List TypeId := [29, 28, 26, 25, 23, 9]
theorem kinds_ok : kinds.all (okKind Tryz.prog kinds) = true := by kernel_rfl

section
variable {H : Type}
theorem omap_len {α β : Type} {f : α → Option β} : ∀ {l : List α} {m : List β}, omap f l = some m → m.length = l.length
  | [], m, h => by simp [omap] at h; subst h; rfl
  | a :: l, m, h => by
    rw [omap] at h
    split at h
    · rename_i b bs h1 h2
      cases h
      simp [omap_len h2]
    · cases h
theorem rb : reachBytes ≤ 140737488355328 := by decide
theorem av_string {n : Nat} {d : DataW H} {acs : List AV} (h : avOf Tryz.prog n 9 d = some acs) (hw : ∀ w ∈ DataW.weights Tryz.prog 9 d, w ≤ reachBytes) : ∃ x : List UInt8, acs = [.lit (.string (bs x))] ∧ x.length ≤ 140737488355328 := by
  cases n with
  | zero => simp [avOf] at h
  | succ n =>
    unfold avOf at h; simp only [Tryz.underlying9] at h
    cases d with
    | lit l =>
      cases l with
      | string b =>
        simp at h; subst h
        exact ⟨b, rfl, Nat.le_trans (hw b.length (by simp [DataW.weights])) rb⟩
      | _ => simp at h
    | _ => simp at h
theorem weights_all {e : TypeId} {d : DataW H} : ∀ {l : List (DataW H)}, d ∈ l → ∀ w ∈ DataW.weights Tryz.prog e d, w ∈ DataW.weightsAll Tryz.prog e l
  | a :: l, h, w, hw => by
    rw [DataW.weightsAll, List.mem_append]
    rcases List.mem_cons.1 h with rfl | h
    · exact .inl hw
    · exact .inr (weights_all h w hw)
/-- a slice, opened: the rows, and how many -/
theorem av_slice {t e : TypeId} {n : Nat} {d : DataW H} {acs : List AV} (ht : Tryz.prog.underlying t = some (.slice e)) (hb : 1 ≤ Tryz.prog.bytesOf e) {β : Type} (row : β → List AV) (Q : β → Prop)
    (each : ∀ (m : Nat) (d : DataW H) (acs : List AV), avOf Tryz.prog m e d = some acs → (∀ w ∈ DataW.weights Tryz.prog e d, w ≤ reachBytes) → ∃ x : β, acs = row x ∧ Q x)
    (h : avOf Tryz.prog n t d = some acs) (hw : ∀ w ∈ DataW.weights Tryz.prog t d, w ≤ reachBytes) : ∃ l : List β, acs = [.sl (l.map row) .no] ∧ l.length ≤ 140737488355328 ∧ ∀ x ∈ l, Q x := by
  cases n with
  | zero => simp [avOf] at h
  | succ n =>
    unfold avOf at h; simp only [ht] at h
    cases d with
    | nil => simp at h; subst h; exact ⟨[], rfl, by simp, by simp⟩
    | slice elems spare =>
      simp at h
      obtain ⟨rows, h1, rfl⟩ := h
      have hlen := omap_len h1
      have hw1 : (elems.length + spare.length) * Tryz.prog.bytesOf e ≤ reachBytes := hw _ (by simp [DataW.weights, ht])
      have hw2 : ∀ d ∈ elems, ∀ w ∈ DataW.weights Tryz.prog e d, w ≤ reachBytes := fun d hd w hx => hw _ (by simp only [DataW.weights, ht, List.mem_cons, List.mem_append]; exact .inr (.inl (weights_all hd w hx)))
      have hl : elems.length ≤ (elems.length + spare.length) * Tryz.prog.bytesOf e := Nat.le_trans (Nat.le_add_right _ _) (Nat.le_mul_of_pos_right _ hb)
      have hm : ∀ (elems : List (DataW H)) (rows : List (List AV)), (∀ d ∈ elems, ∀ w ∈ DataW.weights Tryz.prog e d, w ≤ reachBytes) → omap (avOf Tryz.prog n e) elems = some rows → ∃ l : List β, rows = l.map row ∧ ∀ x ∈ l, Q x := by
        intro elems
        induction elems with
        | nil => intro rows _ h; simp [omap] at h; subst h; exact ⟨[], rfl, by simp⟩
        | cons a l ih =>
          intro rows hw h
          rw [omap] at h
          split at h
          · rename_i b bs h1 h2
            cases h
            obtain ⟨x, rfl, hq⟩ := each n a b h1 (hw a (by simp))
            obtain ⟨xs, rfl, hqs⟩ := ih bs (fun d hd => hw d (by simp [hd])) h2
            exact ⟨x :: xs, rfl, fun y hy => by rcases List.mem_cons.1 hy with rfl | hy; (· exact hq); exact hqs y hy⟩
          · cases h
      obtain ⟨l, rfl, hq⟩ := hm elems rows hw2 h1
      refine ⟨l, rfl, ?_, hq⟩
      rw [List.length_map] at hlen
      have := rb
      omega
    | _ => simp at h
theorem av_strs {n : Nat} {d : DataW H} {acs : List AV} (h : avOf Tryz.prog n 23 d = some acs) (hw : ∀ w ∈ DataW.weights Tryz.prog 23 d, w ≤ reachBytes) : ∃ l : List (List UInt8), acs = [.sl (strR l) .no] ∧ l.length ≤ 140737488355328 := by
  obtain ⟨l, h1, h2, _⟩ := av_slice (β := List UInt8) Tryz.underlying23 (of_decide_eq_true (by kernel_rfl)) (fun s => [.lit (.string (bs s))]) (fun _ => True) (fun m d acs h hw => by obtain ⟨x, h1, _⟩ := av_string h hw; exact ⟨x, h1, trivial⟩) h hw
  exact ⟨l, h1, h2⟩
theorem av_con {n : Nat} {d : DataW H} {acs : List AV} (h : avOf Tryz.prog n 25 d = some acs) (hw : ∀ w ∈ DataW.weights Tryz.prog 25 d, w ≤ reachBytes) : ∃ c : Con, acs = rowC c ∧ c.1.length ≤ 140737488355328 ∧ c.2.length ≤ 140737488355328 := by
  cases n with
  | zero => simp [avOf] at h
  | succ n =>
    unfold avOf at h; simp only [Tryz.underlying25] at h
    cases d with
    | agg parts =>
      dsimp only at h
      obtain ⟨d1, p1, a1, b1, rfl, g1, he1, rfl⟩ := avFields_cons h
      obtain ⟨d2, p2, a2, b2, rfl, g2, he2, rfl⟩ := avFields_cons he1
      obtain ⟨rfl, rfl⟩ := avFields_nil he2
      simp only [DataW.weights, Tryz.underlying25, DataW.weightsEach, List.map_cons, List.map_nil] at hw
      obtain ⟨x, rfl, l1⟩ := av_string g1 (fun w h => hw w (by simp [h]))
      obtain ⟨y, rfl, l2⟩ := av_strs g2 (fun w h => hw w (by simp [h]))
      exact ⟨(x, y), rfl, l1, l2⟩
    | _ => simp at h
theorem av_data {n : Nat} {d : DataW H} {acs : List AV} (h : avOf Tryz.prog n 28 d = some acs) (hw : ∀ w ∈ DataW.weights Tryz.prog 28 d, w ≤ reachBytes) : ∃ c : Data, acs = rowD c ∧ c.1.length ≤ 140737488355328 ∧ c.2.length ≤ 140737488355328 ∧ ∀ x ∈ c.2, x.1.length ≤ 140737488355328 ∧ x.2.length ≤ 140737488355328 := by
  cases n with
  | zero => simp [avOf] at h
  | succ n =>
    unfold avOf at h; simp only [Tryz.underlying28] at h
    cases d with
    | agg parts =>
      dsimp only at h
      obtain ⟨d1, p1, a1, b1, rfl, g1, he1, rfl⟩ := avFields_cons h
      obtain ⟨d2, p2, a2, b2, rfl, g2, he2, rfl⟩ := avFields_cons he1
      obtain ⟨rfl, rfl⟩ := avFields_nil he2
      simp only [DataW.weights, Tryz.underlying28, DataW.weightsEach, List.map_cons, List.map_nil] at hw
      obtain ⟨x, rfl, l1⟩ := av_string g1 (fun w h => hw w (by simp [h]))
      obtain ⟨y, rfl, l2, l3⟩ := av_slice (β := Con) Tryz.underlying26 (of_decide_eq_true (by kernel_rfl)) rowC _ (fun m d acs h hw => av_con h hw) g2 (fun w h => hw w (by simp [h]))
      exact ⟨(x, y), rfl, l1, l2, l3⟩
    | _ => simp at h
theorem av_datas {n : Nat} {d : DataW H} {acs : List AV} (h : avOf Tryz.prog n 29 d = some acs) (hw : ∀ w ∈ DataW.weights Tryz.prog 29 d, w ≤ reachBytes) : ∃ ds : List Data, acs = [.sl (rowsD ds) .no] ∧ bndD ds := by
  obtain ⟨l, h1, h2, h3⟩ := av_slice (β := Data) Tryz.underlying29 (of_decide_eq_true (by kernel_rfl)) rowD _ (fun m d acs h hw => av_data h hw) h hw
  exact ⟨l, h1, h2, h3⟩
end

/-! A world for the witness. -/
def withCells (cs : Array Value) (o : Obj) : Obj :=
  match o with
  | .cells _ t frozen => .cells cs t frozen
  | o => o
abbrev synS : ByteArray := { data := #[105, 110, 118, 97, 108, 105, 100, 32, 115, 121, 110, 116, 97, 120] }
abbrev rngS : ByteArray := { data := #[118, 97, 108, 117, 101, 32, 111, 117, 116, 32, 111, 102, 32, 114, 97, 110, 103, 101] }
noncomputable def low : Nat := (World.holding Tryz.prog default ⟨#[], #[], []⟩).heap.size
noncomputable def laidWorld (os : Os) : World :=
  let w0 := World.holding Tryz.prog os ⟨#[.cells #[.string synS] 209, .cells #[.string rngS] 209], #[], []⟩
  { w0 with heap := ((((w0.heap.modify 1 (withCells #[.int .u64 1, .int .u64 10, .int .u64 100, .int .u64 1000, .int .u64 10000, .int .u64 100000, .int .u64 1000000, .int .u64 10000000, .int .u64 100000000, .int .u64 1000000000, .int .u64 10000000000, .int .u64 100000000000, .int .u64 1000000000000, .int .u64 10000000000000, .int .u64 100000000000000, .int .u64 1000000000000000, .int .u64 10000000000000000, .int .u64 100000000000000000, .int .u64 1000000000000000000, .int .u64 10000000000000000000])).modify 2 (withCells #[.int .u8 0, .int .u8 1, .int .u8 28, .int .u8 2, .int .u8 29, .int .u8 14, .int .u8 24, .int .u8 3, .int .u8 30, .int .u8 22, .int .u8 20, .int .u8 15, .int .u8 25, .int .u8 17, .int .u8 4, .int .u8 8, .int .u8 31, .int .u8 27, .int .u8 13, .int .u8 23, .int .u8 21, .int .u8 19, .int .u8 16, .int .u8 7, .int .u8 26, .int .u8 12, .int .u8 18, .int .u8 6, .int .u8 11, .int .u8 5, .int .u8 10, .int .u8 9])).modify 3 (withCells #[.int .u8 0, .int .u8 1, .int .u8 56, .int .u8 2, .int .u8 57, .int .u8 49, .int .u8 28, .int .u8 3, .int .u8 61, .int .u8 58, .int .u8 42, .int .u8 50, .int .u8 38, .int .u8 29, .int .u8 17, .int .u8 4, .int .u8 62, .int .u8 47, .int .u8 59, .int .u8 36, .int .u8 45, .int .u8 43, .int .u8 51, .int .u8 22, .int .u8 53, .int .u8 39, .int .u8 33, .int .u8 30, .int .u8 24, .int .u8 18, .int .u8 12, .int .u8 5, .int .u8 63, .int .u8 55, .int .u8 48, .int .u8 27, .int .u8 60, .int .u8 41, .int .u8 37, .int .u8 16, .int .u8 46, .int .u8 35, .int .u8 44, .int .u8 21, .int .u8 52, .int .u8 32, .int .u8 23, .int .u8 11, .int .u8 54, .int .u8 26, .int .u8 40, .int .u8 15, .int .u8 34, .int .u8 20, .int .u8 31, .int .u8 10, .int .u8 25, .int .u8 14, .int .u8 19, .int .u8 9, .int .u8 13, .int .u8 8, .int .u8 7, .int .u8 6])).modify 4 (withCells #[.iface 207 (.pointer (some ⟨low, 0, none⟩))])).modify 5 (withCells #[.iface 207 (.pointer (some ⟨low + 1, 0, none⟩))]) }
def theArgs : Array Value := #[.slice none 0 0, .string ⟨#[]⟩, .string ⟨#[]⟩]
theorem laid_met (os : Os) : laidMet Tryz.prog Rows.valueParsedRow.laid ((laidWorld os).forCall (fun _ _ => 0) ⟨#[], theArgs, []⟩).memory :=
  laidMet_of_run' 70 (by kernel_rfl) (by kernel_rfl)
theorem reads (os : Os) {H : Type} (enc : TypeId × Value → H) : ∃ places, DataW.whole enc Tryz.prog ((laidWorld os).forCall (fun _ _ => 0) ⟨#[], theArgs, []⟩).memory Tryz.f5.params.toList Rows.valueParsedSpec.vars false theArgs.toList 8 = some ([.nil, .lit (.string []), .lit (.string [])], [], places) :=
  ⟨[], by kernel_rfl⟩

theorem start_of {W : World} {l : List Value} (hv : W.var? Tryz.prog "internal/strconv.uint64pow10" = some l.toArray) (ho : ∀ v ∈ l, (AV.lit v).one = true ∧ scal v = true) :
    VR [] (Zall W) W (.eptr (l.map .lit) 0) (.pointer (some ⟨1, 0, none⟩)) ∧ 1 < W.heap.size ∧ cellsz W 1 = l.length := by
  have hgn : Tryz.prog.globalNamed "internal/strconv.uint64pow10" = some 1 := by kernel_rfl
  have hc : ∀ i, W.cell? ⟨1, i, none⟩ = l[i]? := fun i => by rw [World.var?_cell hgn hv i]; simp
  refine ⟨.eptr _ 0 1 0 (fun j => (l[j]?).getD (.bool false)) (fun j d hd => ?_) (fun j d hd => ?_), ?_, ?_⟩
  · rw [List.getElem?_map, Option.map_eq_some_iff] at hd
    obtain ⟨v, hv, rfl⟩ := hd
    refine ⟨(ho v (List.mem_of_getElem? hv)).1, ?_, ?_⟩
    · unfold Zall; rw [Nat.zero_add, hc, hv]; rfl
    · rw [Nat.zero_add, hc, hv]; rfl
  · rw [List.getElem?_map, Option.map_eq_some_iff] at hd
    obtain ⟨v, hv, rfl⟩ := hd
    rw [hv]
    exact .lit v (ho v (List.mem_of_getElem? hv)).2
  · unfold World.var? at hv
    rw [hgn, Option.bind_some] at hv
    split at hv
    · rename_i c t fz hh
      exact (Array.getElem?_eq_some_iff.1 hh).1
    · cases hv
  · unfold World.var? at hv
    rw [hgn, Option.bind_some] at hv
    unfold cellsz
    split at hv
    · rename_i c t fz hh
      rw [hh]
      have := Option.some.inj hv
      rw [this]
      simp
    · cases hv

/-- the table of powers of ten, out of the row's condition -/
theorem start (W : World) (hL : laidMet Tryz.prog Rows.valueParsedRow.laid W) : Match [] [] (Zall W) W := by
  refine Match.start W fun g l hg => ?_
  have ht : Lib.TabIs Tryz.prog W "internal/strconv.uint64pow10" .u64 Lib.pow10Tab :=
    Lib.tabIs_of_head (g := 1) (t := 190) (e := 75) (n := 20) (by kernel_rfl) (by kernel_rfl) (by kernel_rfl) (by kernel_rfl) (by kernel_rfl) (by kernel_rfl) hL.tail.tail
  unfold Lib.TabIs at ht
  match g, hg with
  | 1, hg =>
    have hl : Lib.pow10Tab.map (fun z => Value.int .u64 z) = l := (show some (Lib.pow10Tab.map fun z => Value.int .u64 z) = globRow 1 by kernel_rfl).trans hg |> Option.some.inj
    rw [hl] at ht
    refine start_of ht ?_
    rw [← hl]
    intro v hv
    obtain ⟨z, _, rfl⟩ := List.mem_map.1 hv
    exact ⟨rfl, rfl⟩

set_option maxRecDepth 100000 in
theorem contract (H : Type) (enc : TypeId × Value → H) (W : World) (base : Nat) (args : Array Value) (ds gs : List (DataW H)) (before : List MemPlace)
    (hval : ∀ (j : Nat) t v, Tryz.f5.params[j]? = some t → args[j]? = some v → Value.okWide Tryz.prog W .any base t v)
    (hW : DataW.Whole enc Tryz.prog Tryz.f5.params.toList Rows.valueParsedSpec.vars false W args.toList ds gs before)
    (hsz : (DataW.weightsEach Tryz.prog (Tryz.f5.params.toList ++ (OpenSpec.ofChange Rows.valueParsedSpec).bare.plain.varTypes Tryz.prog) (ds ++ gs)).all (· ≤ reachBytes) = true)
    (hL : laidMet Tryz.prog Rows.valueParsedRow.laid W) :
    Calls Tryz.prog 5 args W fun e W' => ∃ v, e = .returned v ∧ Rows.valueParsedSpec.post enc Tryz.prog Tryz.f5 false true false false W args v W' := by
  have hW' := hW
  obtain ⟨p, q, hA0, hV, rfl, hfz, hnd⟩ := hW
  have hA : DataW.TrodAll enc Tryz.prog W 0 (fun _ => true) true Tryz.f5.params.toList args.toList ds p := hA0
  rw [Tryz.params5] at hA hval hsz
  obtain ⟨v0, v1, v2, d0, d1, d2, p0, p1, p2, rfl, rfl, rfl, h0, h1, h2⟩ := trodAll_three hA
  obtain ⟨rfl, rfl⟩ := trodVars_none hV
  obtain ⟨a0, n0, c0, rfl⟩ := okWide_slice Tryz.underlying29 (hval 0 29 v0 rfl rfl)
  obtain ⟨s1, rfl, rfl, rfl, hmax1⟩ := open_string Tryz.underlying9 (hval 1 9 v1 rfl rfl) h1
  obtain ⟨s2, rfl, rfl, rfl, hmax2⟩ := open_string Tryz.underlying9 (hval 2 9 v2 rfl rfl) h2
  clear hA0
  simp only [List.append_nil] at hW' hsz
  obtain ⟨fuel, hf⟩ := h0
  obtain ⟨acs, hav, hcr, _⟩ := open_any (ι := []) kinds kinds_ok fuel 29 _ d0 p0 (by simp [kinds]) hf
  have hw : ∀ w ∈ DataW.weights Tryz.prog 29 d0, w ≤ reachBytes := fun w hw => by
    have := List.all_eq_true.1 hsz w (by simp [DataW.weightsEach, hw])
    simpa using this
  obtain ⟨xs, rfl, hbd⟩ := av_datas hav hw
  have hv := (hcr.2 0 _ (.slice a0 n0 c0) rfl rfl).2
  refine (CallW.calls (by kernel_rfl) EV_ok (valueParsed_ev xs .no hbd s1.data.toList s2.data.toList []) (us := #[.slice a0 n0 c0, .string s1, .string s2]) (start W hL) rfl (fun i d u hd hu => ?_)).mono ?_
  · match i with
    | 0 => simp at hd hu; subst hd; subst hu; exact hv
    | 1 => simp at hd hu; subst hd; subst hu; exact .lit _ rfl
    | 2 => simp at hd hu; subst hd; subst hu; exact .lit _ rfl
    | i + 3 => simp at hd
  rintro e W' ⟨r, σ', ι', Z', ⟨rfl, hext⟩, hE, hM, hR⟩
  obtain ⟨u, rfl, hu⟩ := hR
  cases hu
  have hb : Below W.heap.size W W' := ⟨hE.os, hE.tape, hE.output, hE.size, fun k hk => hE.keep k hk fun id h => by simp at h⟩
  refine ⟨_, rfl, _, _, _, [], p0 ++ ([] ++ []), [], hW', ?_, ?_, rfl, hb.frame _, fun h => by cases h⟩
  · exact trodAll_cons_mk (shut_bool Tryz.underlying4 _) trodAll_mk0
  · exact trodAll_mk3 (Below.trod (by kernel_rfl) (by kernel_rfl) (of_decide_eq_true (by kernel_rfl)) ⟨fuel, hf⟩ hb fun x hx => hW'.lt x (by simp [hx])) (shut_string Tryz.underlying9 hmax1) (shut_string Tryz.underlying9 hmax2)

set_option maxRecDepth 100000 in
theorem lifted (os : Os) (started : os.Started) (H : Type) (enc : TypeId × Value → H) (F : Stop.Interp) :
    ReturnsInHanded {} Tryz.checked os 5 .any ((OpenSpec.ofChange Rows.valueParsedSpec).preRow enc Tryz.prog Tryz.f5 Rows.valueParsedRow.domain false Rows.valueParsedRow.laid) (((OpenSpec.ofChange Rows.valueParsedSpec).at F).post enc Tryz.prog Tryz.f5 false true false false) := by
  obtain ⟨places, hx⟩ := reads os enc
  refine returnsInHanded_of_row (C := Tryz.checked) (s := OpenSpec.ofChange Rows.valueParsedSpec) own started (by kernel_rfl) Tryz.func5
    (witness_row_at (enc := enc) (C := Tryz.checked) false (laidWorld os) theArgs rfl (by kernel_rfl) (by kernel_rfl) (by kernel_rfl)
      (OpenSpec.preRow_of_cond 8 hx (by kernel_rfl) (fun k hk => by cases hk) (by kernel_rfl) (laid_met os))) ?_
  intro W base args ds gs before hval hW _ _ hsz hL _ _
  exact contract H enc W base args ds gs before hval hW hsz hL

theorem said : Rows.ValueParsedSaid :=
  OpenClaim.holds_of_cond 5 Tryz.f5 rfl rfl rfl rfl rfl rfl rfl ⟨rfl, rfl, rfl, rfl, rfl⟩ rfl rfl rfl rfl rfl (by kernel_rfl) Tryz.func5 (by kernel_rfl)
    (of_decide_eq_true (by kernel_rfl)) (by unfold Func.isWrapper; first | (rw [if_pos (by decide +kernel)]; kernel_rfl) | (rw [if_neg (by decide +kernel)]; exact ⟨rfl, rfl⟩))
    (fun os started H enc _ F => by rw [OpenClaim.pre_eq_preRow]; exact lifted os started H enc F)

/-- No parameter wants a stand-in; the program's looks are what the card says. -/
theorem plain (f : FuncId) (fn : Func) (hf : Tryz.pinned.checked.prog.funcNamed "whetstone/whetstonelaw20.ValueParsed" = some f) (hfn : Tryz.pinned.checked.prog.funcs[f]? = some fn) :
    true = Tryz.pinned.checked.prog.looks [] ∧ ∀ (j : Nat) t, fn.params[j]? = some t → Tryz.pinned.checked.prog.wantsStandIn t = false := by
  obtain rfl : f = 5 := Option.some.inj ((show Tryz.prog.funcNamed "whetstone/whetstonelaw20.ValueParsed" = some 5 by kernel_rfl).symm.trans hf) |>.symm
  obtain rfl : fn = Tryz.f5 := (Option.some.inj (Tryz.func5.symm.trans hfn)).symm
  refine ⟨by kernel_rfl, fun j t ht => ?_⟩
  rw [Tryz.params5] at ht
  have hd : Tryz.pinned.checked.prog.wantsStandIn 29 = false := by kernel_rfl
  have hs : Tryz.pinned.checked.prog.wantsStandIn 9 = false := by kernel_rfl
  match j, ht with
  | 0, ht => rw [← (show 29 = t by simpa using ht)]; exact hd
  | 1, ht => rw [← (show 9 = t by simpa using ht)]; exact hs
  | 2, ht => rw [← (show 9 = t by simpa using ht)]; exact hs
  | j + 3, ht => simp at ht

theorem valueParsed_holds : Rows.ValueParsedCardSaid :=
  Claim7.holds_tied_plain_at .later [] _ _ _ _ said (fun _ h => by cases h) (by kernel_rfl) (fun _ h => by cases h) valueParsed_row_tie rfl ⟨rfl, rfl⟩ (by kernel_rfl) rfl plain (by kernel_rfl)

end Go.Proofs.YtcjjmejmpdhikaaGreatDoor.valueParsed
