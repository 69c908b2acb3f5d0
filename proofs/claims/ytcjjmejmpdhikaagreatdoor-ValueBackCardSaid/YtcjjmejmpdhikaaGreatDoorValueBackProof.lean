/- ValueBack answers true, and its arguments read afterwards as before: the statement as it is given, a card tied to the program's text. -/
import Derived.Test.YtcjjmejmpdhikaaGreatDoorEvBack2
import Derived.Test.YtcjjmejmpdhikaaGreatDoorEvOpen2
import Derived.Test.YtcjjmejmpdhikaaGreatDoorCards
import Derived.Test.YtcjjmejmpdhikaaGreatDoorTie
import Derived.WalkKit
import Derived.ProofKit
import Derived.OpenShut
import Derived.Carry
import Derived.Deep.DeepHandedRow
import Derived.Stop.LaidErr
namespace Go.Proofs.YtcjjmejmpdhikaaGreatDoor.valueBack
set_option linter.unusedSimpArgs false
set_option linter.unusedVariables false
open Go.ChangeShapes Go.WideShapes Go.ChangeAt Go.RowKit
open Go.ChangeMaps (open_string shut_string)

theorem own : ownKnob Tryz.prog.godebug = none := by kernel_rfl

/-- the types that the first argument is made of -/
def kinds : List TypeId := [29, 28, 26, 25, 23, 9]
theorem kinds_ok : kinds.all (okKind Tryz.prog kinds) = true := by kernel_rfl

section
variable {H : Type}
theorem omap_len {α β : Type} {f : α → Option β} : ∀ {l : List α} {m : List β}, omap f l = some m → m.length = l.length
  | [], m, h => by simp [omap] at h; subst h; rfl
  | a :: l, m, h => by
    rw [omap] at h
    split at h
    · rename_i b bs h1 h2
      cases h
      simp [omap_len h2]
    · cases h
theorem rb : reachBytes ≤ 140737488355328 := by decide
theorem av_string {n : Nat} {d : DataW H} {acs : List AV} (h : avOf Tryz.prog n 9 d = some acs) (hw : ∀ w ∈ DataW.weights Tryz.prog 9 d, w ≤ reachBytes) : ∃ x : List UInt8, acs = [.lit (.string (bs x))] ∧ x.length ≤ 140737488355328 := by
  cases n with
  | zero => simp [avOf] at h
  | succ n =>
    unfold avOf at h; simp only [Tryz.underlying9] at h
    cases d with
    | lit l =>
      cases l with
      | string b =>
        simp at h; subst h
        exact ⟨b, rfl, Nat.le_trans (hw b.length (by simp [DataW.weights])) rb⟩
      | _ => simp at h
    | _ => simp at h
theorem weights_all {e : TypeId} {d : DataW H} : ∀ {l : List (DataW H)}, d ∈ l → ∀ w ∈ DataW.weights Tryz.prog e d, w ∈ DataW.weightsAll Tryz.prog e l
  | a :: l, h, w, hw => by
    rw [DataW.weightsAll, List.mem_append]
    rcases List.mem_cons.1 h with rfl | h
    · exact .inl hw
    · exact .inr (weights_all h w hw)
/-- a slice, opened: the rows, and how many -/
theorem av_slice {t e : TypeId} {n : Nat} {d : DataW H} {acs : List AV} (ht : Tryz.prog.underlying t = some (.slice e)) (hb : 1 ≤ Tryz.prog.bytesOf e) {β : Type} (row : β → List AV) (Q : β → Prop)
    (each : ∀ (m : Nat) (d : DataW H) (acs : List AV), avOf Tryz.prog m e d = some acs → (∀ w ∈ DataW.weights Tryz.prog e d, w ≤ reachBytes) → ∃ x : β, acs = row x ∧ Q x)
    (h : avOf Tryz.prog n t d = some acs) (hw : ∀ w ∈ DataW.weights Tryz.prog t d, w ≤ reachBytes) : ∃ l : List β, acs = [.sl (l.map row) .no] ∧ l.length ≤ 140737488355328 ∧ ∀ x ∈ l, Q x := by
  cases n with
  | zero => simp [avOf] at h
  | succ n =>
    unfold avOf at h; simp only [ht] at h
    cases d with
    | nil => simp at h; subst h; exact ⟨[], rfl, by simp, by simp⟩
    | slice elems spare =>
      simp at h
      obtain ⟨rows, h1, rfl⟩ := h
      have hlen := omap_len h1
      have hw1 : (elems.length + spare.length) * Tryz.prog.bytesOf e ≤ reachBytes := hw _ (by simp [DataW.weights, ht])
      have hw2 : ∀ d ∈ elems, ∀ w ∈ DataW.weights Tryz.prog e d, w ≤ reachBytes := fun d hd w hx => hw _ (by simp only [DataW.weights, ht, List.mem_cons, List.mem_append]; exact .inr (.inl (weights_all hd w hx)))
      have hl : elems.length ≤ (elems.length + spare.length) * Tryz.prog.bytesOf e := Nat.le_trans (Nat.le_add_right _ _) (Nat.le_mul_of_pos_right _ hb)
      have hm : ∀ (elems : List (DataW H)) (rows : List (List AV)), (∀ d ∈ elems, ∀ w ∈ DataW.weights Tryz.prog e d, w ≤ reachBytes) → omap (avOf Tryz.prog n e) elems = some rows → ∃ l : List β, rows = l.map row ∧ ∀ x ∈ l, Q x := by
        intro elems
        induction elems with
        | nil => intro rows _ h; simp [omap] at h; subst h; exact ⟨[], rfl, by simp⟩
        | cons a l ih =>
          intro rows hw h
          rw [omap] at h
          split at h
          · rename_i b bs h1 h2
            cases h
            obtain ⟨x, rfl, hq⟩ := each n a b h1 (hw a (by simp))
            obtain ⟨xs, rfl, hqs⟩ := ih bs (fun d hd => hw d (by simp [hd])) h2
            exact ⟨x :: xs, rfl, fun y hy => by rcases List.mem_cons.1 hy with rfl | hy; (· exact hq); exact hqs y hy⟩
          · cases h
      obtain ⟨l, rfl, hq⟩ := hm elems rows hw2 h1
      refine ⟨l, rfl, ?_, hq⟩
      rw [List.length_map] at hlen
      have := rb
      omega
    | _ => simp at h
theorem av_strs {n : Nat} {d : DataW H} {acs : List AV} (h : avOf Tryz.prog n 23 d = some acs) (hw : ∀ w ∈ DataW.weights Tryz.prog 23 d, w ≤ reachBytes) : ∃ l : List (List UInt8), acs = [.sl (strR l) .no] ∧ l.length ≤ 140737488355328 := by
  obtain ⟨l, h1, h2, _⟩ := av_slice (β := List UInt8) Tryz.underlying23 (of_decide_eq_true (by kernel_rfl)) (fun s => [.lit (.string (bs s))]) (fun _ => True) (fun m d acs h hw => by obtain ⟨x, h1, _⟩ := av_string h hw; exact ⟨x, h1, trivial⟩) h hw
  exact ⟨l, h1, h2⟩
theorem av_con {n : Nat} {d : DataW H} {acs : List AV} (h : avOf Tryz.prog n 25 d = some acs) (hw : ∀ w ∈ DataW.weights Tryz.prog 25 d, w ≤ reachBytes) : ∃ c : Con, acs = rowC c ∧ c.1.length ≤ 140737488355328 ∧ c.2.length ≤ 140737488355328 := by
  cases n with
  | zero => simp [avOf] at h
  | succ n =>
    unfold avOf at h; simp only [Tryz.underlying25] at h
    cases d with
    | agg parts =>
      dsimp only at h
      obtain ⟨d1, p1, a1, b1, rfl, g1, he1, rfl⟩ := avFields_cons h
      obtain ⟨d2, p2, a2, b2, rfl, g2, he2, rfl⟩ := avFields_cons he1
      obtain ⟨rfl, rfl⟩ := avFields_nil he2
      simp only [DataW.weights, Tryz.underlying25, DataW.weightsEach, List.map_cons, List.map_nil] at hw
      obtain ⟨x, rfl, l1⟩ := av_string g1 (fun w h => hw w (by simp [h]))
      obtain ⟨y, rfl, l2⟩ := av_strs g2 (fun w h => hw w (by simp [h]))
      exact ⟨(x, y), rfl, l1, l2⟩
    | _ => simp at h
theorem av_data {n : Nat} {d : DataW H} {acs : List AV} (h : avOf Tryz.prog n 28 d = some acs) (hw : ∀ w ∈ DataW.weights Tryz.prog 28 d, w ≤ reachBytes) : ∃ c : Data, acs = rowD c ∧ c.1.length ≤ 140737488355328 ∧ c.2.length ≤ 140737488355328 ∧ ∀ x ∈ c.2, x.1.length ≤ 140737488355328 ∧ x.2.length ≤ 140737488355328 := by
  cases n with
  | zero => simp [avOf] at h
  | succ n =>
    unfold avOf at h; simp only [Tryz.underlying28] at h
    cases d with
    | agg parts =>
      dsimp only at h
      obtain ⟨d1, p1, a1, b1, rfl, g1, he1, rfl⟩ := avFields_cons h
      obtain ⟨d2, p2, a2, b2, rfl, g2, he2, rfl⟩ := avFields_cons he1
      obtain ⟨rfl, rfl⟩ := avFields_nil he2
      simp only [DataW.weights, Tryz.underlying28, DataW.weightsEach, List.map_cons, List.map_nil] at hw
      obtain ⟨x, rfl, l1⟩ := av_string g1 (fun w h => hw w (by simp [h]))
      obtain ⟨y, rfl, l2, l3⟩ := av_slice (β := Con) Tryz.underlying26 (of_decide_eq_true (by kernel_rfl)) rowC _ (fun m d acs h hw => av_con h hw) g2 (fun w h => hw w (by simp [h]))
      exact ⟨(x, y), rfl, l1, l2, l3⟩
    | _ => simp at h
theorem av_datas {n : Nat} {d : DataW H} {acs : List AV} (h : avOf Tryz.prog n 29 d = some acs) (hw : ∀ w ∈ DataW.weights Tryz.prog 29 d, w ≤ reachBytes) : ∃ ds : List Data, acs = [.sl (rowsD ds) .no] ∧ bndD ds := by
  obtain ⟨l, h1, h2, h3⟩ := av_slice (β := Data) Tryz.underlying29 (of_decide_eq_true (by kernel_rfl)) rowD _ (fun m d acs h hw => av_data h hw) h hw
  exact ⟨l, h1, h2, h3⟩
end

/-! A value, opened. -/
/-- the types that a value is made of -/
def kindsV : List TypeId := [37, 31, 4, 34, 32, 115, 9, 35]
theorem kindsV_ok : kindsV.all (okKind Tryz.prog kindsV) = true := by kernel_rfl
section
variable {H : Type}
theorem nat_of_wf {k : IntKind} {m : Int} (hk : k.min = 0) (h : (Lit.int k m).wf = true) : ∃ x : Nat, m = (x : Int) := by
  unfold Lit.wf at h
  rw [Bool.and_eq_true, decide_eq_true_eq, hk] at h
  exact ⟨m.toNat, by omega⟩
theorem av_int {n : Nat} {t : TypeId} {k : IntKind} (ht : Tryz.prog.underlying t = some (.int k)) (hk : k.min = 0) {d : DataW H} {acs : List AV} (h : avOf Tryz.prog n t d = some acs) (hf : wfD Tryz.prog n t d) : ∃ x : Nat, acs = [.lit (.int k (x : Int))] := by
  cases n with
  | zero => simp [avOf] at h
  | succ n =>
    unfold avOf at h; simp only [ht] at h
    unfold wfD at hf; simp only [ht] at hf
    cases d with
    | lit l =>
      cases l with
      | int k' m =>
        simp at h hf; subst h
        obtain ⟨x, rfl⟩ := nat_of_wf hk hf.2
        exact ⟨x, rfl⟩
      | _ => simp at h
    | _ => simp at h
theorem av_bool {n : Nat} {d : DataW H} {acs : List AV} (h : avOf Tryz.prog n 4 d = some acs) : ∃ x : Bool, acs = [.lit (.bool x)] := by
  cases n with
  | zero => simp [avOf] at h
  | succ n =>
    unfold avOf at h; simp only [Tryz.underlying4] at h
    cases d with
    | lit l =>
      cases l with
      | bool b => simp at h; subst h; exact ⟨b, rfl⟩
      | _ => simp at h
    | _ => simp at h
/-- a slice, opened: the rows, and how many; its elements are read with one less -/
theorem av_slice2 {t e : TypeId} {n : Nat} {d : DataW H} {acs : List AV} (ht : Tryz.prog.underlying t = some (.slice e)) (hb : 1 ≤ Tryz.prog.bytesOf e) {β : Type} (row : β → List AV) (Q : β → Prop)
    (each : ∀ (m : Nat) (d : DataW H) (acs : List AV), m < n → avOf Tryz.prog m e d = some acs → wfD Tryz.prog m e d → (∀ w ∈ DataW.weights Tryz.prog e d, w ≤ reachBytes) → ∃ x : β, acs = row x ∧ Q x)
    (h : avOf Tryz.prog n t d = some acs) (hf : wfD Tryz.prog n t d) (hw : ∀ w ∈ DataW.weights Tryz.prog t d, w ≤ reachBytes) : ∃ l : List β, acs = [.sl (l.map row) .no] ∧ l.length ≤ 140737488355328 ∧ ∀ x ∈ l, Q x := by
  cases n with
  | zero => simp [avOf] at h
  | succ n =>
    unfold avOf at h; simp only [ht] at h
    unfold wfD at hf; simp only [ht] at hf
    cases d with
    | nil => simp at h; subst h; exact ⟨[], rfl, by simp, by simp⟩
    | slice elems spare =>
      simp at h
      obtain ⟨rows, h1, rfl⟩ := h
      have hlen := omap_len h1
      have hw1 : (elems.length + spare.length) * Tryz.prog.bytesOf e ≤ reachBytes := hw _ (by simp [DataW.weights, ht])
      have hw2 : ∀ d ∈ elems, ∀ w ∈ DataW.weights Tryz.prog e d, w ≤ reachBytes := fun d hd w hx => hw _ (by simp only [DataW.weights, ht, List.mem_cons, List.mem_append]; exact .inr (.inl (weights_all hd w hx)))
      have hl : elems.length ≤ (elems.length + spare.length) * Tryz.prog.bytesOf e := Nat.le_trans (Nat.le_add_right _ _) (Nat.le_mul_of_pos_right _ hb)
      have hm : ∀ (elems : List (DataW H)) (rows : List (List AV)), (∀ d ∈ elems, wfD Tryz.prog n e d) → (∀ d ∈ elems, ∀ w ∈ DataW.weights Tryz.prog e d, w ≤ reachBytes) → omap (avOf Tryz.prog n e) elems = some rows → ∃ l : List β, rows = l.map row ∧ ∀ x ∈ l, Q x := by
        intro elems
        induction elems with
        | nil => intro rows _ _ h; simp [omap] at h; subst h; exact ⟨[], rfl, by simp⟩
        | cons a l ih =>
          intro rows hf hw h
          rw [omap] at h
          split at h
          · rename_i b bs h1 h2
            cases h
            obtain ⟨x, rfl, hq⟩ := each n a b (by omega) h1 (hf a (by simp)) (hw a (by simp))
            obtain ⟨xs, rfl, hqs⟩ := ih bs (fun d hd => hf d (by simp [hd])) (fun d hd => hw d (by simp [hd])) h2
            exact ⟨x :: xs, rfl, fun y hy => by rcases List.mem_cons.1 hy with rfl | hy; (· exact hq); exact hqs y hy⟩
          · cases h
      obtain ⟨l, rfl, hq⟩ := hm elems rows hf hw2 h1
      refine ⟨l, rfl, ?_, hq⟩
      rw [List.length_map] at hlen
      have := rb
      omega
    | _ => simp at h
theorem bndVs_of : ∀ {l : List Vl}, (∀ v ∈ l, bndV v) → bndVs l
  | [], _ => by rw [bndVs]; trivial
  | a :: l, h => by rw [bndVs]; exact ⟨h a (by simp), bndVs_of fun v hv => h v (by simp [hv])⟩
set_option maxHeartbeats 1000000 in
theorem av_value (N : Nat) : ∀ (n : Nat) (d : DataW H) (acs : List AV), n < N → avOf Tryz.prog n 37 d = some acs → wfD Tryz.prog n 37 d → (∀ w ∈ DataW.weights Tryz.prog 37 d, w ≤ reachBytes) → ∃ v : Vl, acs = rowV v ∧ bndV v := by
  induction N with
  | zero => intro n d acs h; omega
  | succ N ih =>
    intro n d acs hN h hf hw
    cases n with
    | zero => simp [avOf] at h
    | succ n =>
      unfold avOf at h; simp only [Tryz.underlying37] at h
      unfold wfD at hf; simp only [Tryz.underlying37] at hf
      cases d with
      | agg parts =>
        dsimp only at h hf
        obtain ⟨d1, p1, a1, b1, rfl, g1, he1, rfl⟩ := avFields_cons h
        obtain ⟨d2, p2, a2, b2, rfl, g2, he2, rfl⟩ := avFields_cons he1
        obtain ⟨d3, p3, a3, b3, rfl, g3, he3, rfl⟩ := avFields_cons he2
        obtain ⟨d4, p4, a4, b4, rfl, g4, he4, rfl⟩ := avFields_cons he3
        obtain ⟨d5, p5, a5, b5, rfl, g5, he5, rfl⟩ := avFields_cons he4
        obtain ⟨rfl, rfl⟩ := avFields_nil he5
        simp only [wfFields] at hf
        obtain ⟨f1, f2, f3, f4, f5, _⟩ := hf
        simp only [DataW.weights, Tryz.underlying37, DataW.weightsEach, List.map_cons, List.map_nil] at hw
        obtain ⟨k, rfl⟩ := av_int Tryz.underlying31 rfl g1 f1
        obtain ⟨b, dg, rfl, hdl⟩ : ∃ (b : Bool) (dg : List Nat), a2 = [.lit (.bool b), .sl (d32 dg) .no] ∧ dg.length ≤ 140737488355328 := by
          clear g1 g3 g4 g5 f1 f3 f4 f5 he1 he2 he3 he4 he5 h
          cases n with
          | zero => simp [avOf] at g2
          | succ n =>
            unfold avOf at g2; simp only [Tryz.underlying34] at g2
            unfold wfD at f2; simp only [Tryz.underlying34] at f2
            cases d2 with
            | agg parts =>
              dsimp only at g2 f2
              obtain ⟨e1, q1, x1, y1, rfl, k1, ke1, rfl⟩ := avFields_cons g2
              obtain ⟨e2, q2, x2, y2, rfl, k2, ke2, rfl⟩ := avFields_cons ke1
              obtain ⟨rfl, rfl⟩ := avFields_nil ke2
              simp only [wfFields] at f2
              obtain ⟨_, w2, _⟩ := f2
              obtain ⟨b, rfl⟩ := av_bool k1
              simp only [DataW.weights, Tryz.underlying34, DataW.weightsEach, List.map_cons, List.map_nil] at hw
              obtain ⟨l, rfl, l1, _⟩ := av_slice2 (β := Nat) Tryz.underlying32 (of_decide_eq_true (by kernel_rfl)) (fun x => [.lit (.int .u32 (x : Int))]) (fun _ => True) (fun m d acs _ h hf hw => by obtain ⟨x, rfl⟩ := av_int Tryz.underlying115 rfl h hf; exact ⟨x, rfl, trivial⟩) k2 w2 (fun w h => hw w (by simp [h]))
              exact ⟨b, l, rfl, l1⟩
            | _ => simp at g2
        obtain ⟨t, rfl⟩ := av_bool g3
        obtain ⟨nm, rfl, hnl⟩ := av_string g4 (fun w h => hw w (by simp [h]))
        obtain ⟨l, rfl, l1, l2⟩ := av_slice2 (β := Vl) Tryz.underlying35 (of_decide_eq_true (by kernel_rfl)) rowV bndV (fun m d acs hm h hf hw => ih m d acs (by omega) h hf hw) g5 f5 (fun w h => hw w (by simp [h]))
        refine ⟨.mk k b dg t nm l, ?_, ?_⟩
        · rw [rowV, rowsV_map]; rfl
        · rw [bndV]; exact ⟨hdl, hnl, l1, bndVs_of l2⟩
      | _ => simp at h
/-- a value that is handed over, opened -/
theorem open_value {enc : TypeId × Value → H} {W : World} {cs : Array Value} {d : DataW H} {p : List MemPlace} (h : DataW.Trod enc Tryz.prog W 0 (fun _ => true) true 37 (.agg cs) d p) (hw : ∀ w ∈ DataW.weights Tryz.prog 37 d, w ≤ reachBytes) : ∃ v : Vl, bndV v ∧ VR [] (Zall W) W (aggV v .no .no) (.agg cs) := by
  obtain ⟨fuel, hf⟩ := h
  obtain ⟨acs, hav, hcr, _⟩ := open_any (ι := []) kindsV kindsV_ok fuel 37 _ d p (by simp [kindsV]) hf
  obtain ⟨v, rfl, hb⟩ := av_value (fuel + 1) fuel d acs (Nat.lt_succ_self _) hav (trod_wf fuel _ _ d p hf) hw
  refine ⟨v, hb, ?_⟩
  have ha : aggV v .no .no = .agg (rowV v) := by cases v; rw [rowV]; rfl
  rw [ha]
  have hcr : CR [] (Zall W) W (rowV v) cs.toList := hcr
  refine .agg _ _ (by simpa using hcr.1) (fun i x hx => ?_) (fun i x u hx hu => (hcr.2 i x u hx (by simpa using hu)).2)
  have hi : i < cs.size := by have := (List.getElem?_eq_some_iff.1 hx).1; have h2 := hcr.1; simp at h2; omega
  exact (hcr.2 i x cs[i] hx (by simp [hi])).1
end

/-! A world for the witness. -/
def withCells (cs : Array Value) (o : Obj) : Obj :=
  match o with
  | .cells _ t frozen => .cells cs t frozen
  | o => o
abbrev synS : ByteArray := { data := #[105, 110, 118, 97, 108, 105, 100, 32, 115, 121, 110, 116, 97, 120] }
abbrev rngS : ByteArray := { data := #[118, 97, 108, 117, 101, 32, 111, 117, 116, 32, 111, 102, 32, 114, 97, 110, 103, 101] }
noncomputable def low : Nat := (World.holding Tryz.prog default ⟨#[], #[], []⟩).heap.size
noncomputable def laidWorld (os : Os) : World :=
  let w0 := World.holding Tryz.prog os ⟨#[.cells #[.string synS] 209, .cells #[.string rngS] 209], #[], []⟩
  { w0 with heap := ((((w0.heap.modify 1 (withCells #[.int .u64 1, .int .u64 10, .int .u64 100, .int .u64 1000, .int .u64 10000, .int .u64 100000, .int .u64 1000000, .int .u64 10000000, .int .u64 100000000, .int .u64 1000000000, .int .u64 10000000000, .int .u64 100000000000, .int .u64 1000000000000, .int .u64 10000000000000, .int .u64 100000000000000, .int .u64 1000000000000000, .int .u64 10000000000000000, .int .u64 100000000000000000, .int .u64 1000000000000000000, .int .u64 10000000000000000000])).modify 2 (withCells #[.int .u8 0, .int .u8 1, .int .u8 28, .int .u8 2, .int .u8 29, .int .u8 14, .int .u8 24, .int .u8 3, .int .u8 30, .int .u8 22, .int .u8 20, .int .u8 15, .int .u8 25, .int .u8 17, .int .u8 4, .int .u8 8, .int .u8 31, .int .u8 27, .int .u8 13, .int .u8 23, .int .u8 21, .int .u8 19, .int .u8 16, .int .u8 7, .int .u8 26, .int .u8 12, .int .u8 18, .int .u8 6, .int .u8 11, .int .u8 5, .int .u8 10, .int .u8 9])).modify 3 (withCells #[.int .u8 0, .int .u8 1, .int .u8 56, .int .u8 2, .int .u8 57, .int .u8 49, .int .u8 28, .int .u8 3, .int .u8 61, .int .u8 58, .int .u8 42, .int .u8 50, .int .u8 38, .int .u8 29, .int .u8 17, .int .u8 4, .int .u8 62, .int .u8 47, .int .u8 59, .int .u8 36, .int .u8 45, .int .u8 43, .int .u8 51, .int .u8 22, .int .u8 53, .int .u8 39, .int .u8 33, .int .u8 30, .int .u8 24, .int .u8 18, .int .u8 12, .int .u8 5, .int .u8 63, .int .u8 55, .int .u8 48, .int .u8 27, .int .u8 60, .int .u8 41, .int .u8 37, .int .u8 16, .int .u8 46, .int .u8 35, .int .u8 44, .int .u8 21, .int .u8 52, .int .u8 32, .int .u8 23, .int .u8 11, .int .u8 54, .int .u8 26, .int .u8 40, .int .u8 15, .int .u8 34, .int .u8 20, .int .u8 31, .int .u8 10, .int .u8 25, .int .u8 14, .int .u8 19, .int .u8 9, .int .u8 13, .int .u8 8, .int .u8 7, .int .u8 6])).modify 4 (withCells #[.iface 207 (.pointer (some ⟨low, 0, none⟩))])).modify 5 (withCells #[.iface 207 (.pointer (some ⟨low + 1, 0, none⟩))]) }
def theArgs : Array Value := #[.slice none 0 0, .string ⟨#[]⟩, .agg #[.int .u8 0, .bool false, .slice none 0 0, .bool false, .string ⟨#[]⟩, .slice none 0 0], .agg #[.int .u8 0, .bool false, .slice none 0 0, .bool false, .string ⟨#[]⟩, .slice none 0 0]]
theorem laid_met (os : Os) : laidMet Tryz.prog Rows.valueBackRow.laid ((laidWorld os).forCall (fun _ _ => 0) ⟨#[], theArgs, []⟩).memory :=
  laidMet_of_run' 70 (by kernel_rfl) (by kernel_rfl)
theorem reads (os : Os) {H : Type} (enc : TypeId × Value → H) : ∃ places, DataW.whole enc Tryz.prog ((laidWorld os).forCall (fun _ _ => 0) ⟨#[], theArgs, []⟩).memory Tryz.f4.params.toList Rows.valueBackSpec.vars false theArgs.toList 8 = some ([.nil, .lit (.string []), .agg [.lit (.int .u8 0), .agg [.lit (.bool false), .nil], .lit (.bool false), .lit (.string []), .nil], .agg [.lit (.int .u8 0), .agg [.lit (.bool false), .nil], .lit (.bool false), .lit (.string []), .nil]], [], places) :=
  ⟨[], by kernel_rfl⟩

theorem start_of {W : World} {l : List Value} (hv : W.var? Tryz.prog "internal/strconv.uint64pow10" = some l.toArray) (ho : ∀ v ∈ l, (AV.lit v).one = true ∧ scal v = true) :
    VR [] (Zall W) W (.eptr (l.map .lit) 0) (.pointer (some ⟨1, 0, none⟩)) ∧ 1 < W.heap.size ∧ cellsz W 1 = l.length := by
  have hgn : Tryz.prog.globalNamed "internal/strconv.uint64pow10" = some 1 := by kernel_rfl
  have hc : ∀ i, W.cell? ⟨1, i, none⟩ = l[i]? := fun i => by rw [World.var?_cell hgn hv i]; simp
  refine ⟨.eptr _ 0 1 0 (fun j => (l[j]?).getD (.bool false)) (fun j d hd => ?_) (fun j d hd => ?_), ?_, ?_⟩
  · rw [List.getElem?_map, Option.map_eq_some_iff] at hd
    obtain ⟨v, hv, rfl⟩ := hd
    refine ⟨(ho v (List.mem_of_getElem? hv)).1, ?_, ?_⟩
    · unfold Zall; rw [Nat.zero_add, hc, hv]; rfl
    · rw [Nat.zero_add, hc, hv]; rfl
  · rw [List.getElem?_map, Option.map_eq_some_iff] at hd
    obtain ⟨v, hv, rfl⟩ := hd
    rw [hv]
    exact .lit v (ho v (List.mem_of_getElem? hv)).2
  · unfold World.var? at hv
    rw [hgn, Option.bind_some] at hv
    split at hv
    · rename_i c t fz hh
      exact (Array.getElem?_eq_some_iff.1 hh).1
    · cases hv
  · unfold World.var? at hv
    rw [hgn, Option.bind_some] at hv
    unfold cellsz
    split at hv
    · rename_i c t fz hh
      rw [hh]
      have := Option.some.inj hv
      rw [this]
      simp
    · cases hv

/-- the table of powers of ten, out of the row's condition -/
theorem start (W : World) (hL : laidMet Tryz.prog Rows.valueBackRow.laid W) : Match [] [] (Zall W) W := by
  refine Match.start W fun g l hg => ?_
  have ht : Lib.TabIs Tryz.prog W "internal/strconv.uint64pow10" .u64 Lib.pow10Tab :=
    Lib.tabIs_of_head (g := 1) (t := 190) (e := 75) (n := 20) (by kernel_rfl) (by kernel_rfl) (by kernel_rfl) (by kernel_rfl) (by kernel_rfl) (by kernel_rfl) hL.tail.tail
  unfold Lib.TabIs at ht
  match g, hg with
  | 1, hg =>
    have hl : Lib.pow10Tab.map (fun z => Value.int .u64 z) = l := (show some (Lib.pow10Tab.map fun z => Value.int .u64 z) = globRow 1 by kernel_rfl).trans hg |> Option.some.inj
    rw [hl] at ht
    refine start_of ht ?_
    rw [← hl]
    intro v hv
    obtain ⟨z, _, rfl⟩ := List.mem_map.1 hv
    exact ⟨rfl, rfl⟩

set_option maxRecDepth 100000 in
theorem contract (H : Type) (enc : TypeId × Value → H) (W : World) (base : Nat) (args : Array Value) (ds gs : List (DataW H)) (before : List MemPlace)
    (hval : ∀ (j : Nat) t v, Tryz.f4.params[j]? = some t → args[j]? = some v → Value.okWide Tryz.prog W .any base t v)
    (hW : DataW.Whole enc Tryz.prog Tryz.f4.params.toList Rows.valueBackSpec.vars false W args.toList ds gs before)
    (hsz : (DataW.weightsEach Tryz.prog (Tryz.f4.params.toList ++ (OpenSpec.ofChange Rows.valueBackSpec).bare.plain.varTypes Tryz.prog) (ds ++ gs)).all (· ≤ reachBytes) = true)
    (hL : laidMet Tryz.prog Rows.valueBackRow.laid W) :
    Calls Tryz.prog 4 args W fun e W' => ∃ v, e = .returned v ∧ Rows.valueBackSpec.post enc Tryz.prog Tryz.f4 false true false false W args v W' := by
  have hW' := hW
  obtain ⟨p, q, hA0, hV, rfl, hfz, hnd⟩ := hW
  have hA : DataW.TrodAll enc Tryz.prog W 0 (fun _ => true) true Tryz.f4.params.toList args.toList ds p := hA0
  rw [Tryz.params4] at hA hval hsz
  obtain ⟨v0, v1, v2, v3, d0, d1, d2, d3, p0, p1, p2, p3, rfl, rfl, rfl, h0, h1, h2, h3⟩ := trodAll_four hA
  obtain ⟨rfl, rfl⟩ := trodVars_none hV
  obtain ⟨a0, n0, c0, rfl⟩ := okWide_slice Tryz.underlying29 (hval 0 29 v0 rfl rfl)
  obtain ⟨s1, rfl, rfl, rfl, hmax1⟩ := open_string Tryz.underlying9 (hval 1 9 v1 rfl rfl) h1
  obtain ⟨cs2, rfl, _⟩ := okWide_struct Tryz.underlying37 (hval 2 37 v2 rfl rfl)
  obtain ⟨cs3, rfl, _⟩ := okWide_struct Tryz.underlying37 (hval 3 37 v3 rfl rfl)
  clear hA0
  simp only [List.append_nil] at hW' hsz
  obtain ⟨fuel, hf⟩ := h0
  obtain ⟨acs, hav, hcr, _⟩ := open_any (ι := []) kinds kinds_ok fuel 29 _ d0 p0 (by simp [kinds]) hf
  have hw2 : ∀ w ∈ DataW.weights Tryz.prog 37 d2, w ≤ reachBytes := fun w hw => by
    have := List.all_eq_true.1 hsz w (by simp [DataW.weightsEach, hw])
    simpa using this
  have hw3 : ∀ w ∈ DataW.weights Tryz.prog 37 d3, w ≤ reachBytes := fun w hw => by
    have := List.all_eq_true.1 hsz w (by simp [DataW.weightsEach, hw])
    simpa using this
  obtain ⟨x2, hb2, hv2⟩ := open_value h2 hw2
  obtain ⟨x3, hb3, hv3⟩ := open_value h3 hw3
  have hw : ∀ w ∈ DataW.weights Tryz.prog 29 d0, w ≤ reachBytes := fun w hw => by
    have := List.all_eq_true.1 hsz w (by simp [DataW.weightsEach, hw])
    simpa using this
  obtain ⟨xs, rfl, hbd⟩ := av_datas hav hw
  have hv := (hcr.2 0 _ (.slice a0 n0 c0) rfl rfl).2
  refine (CallW.calls (by kernel_rfl) EV_ok (valueBack_ev xs .no hbd s1.data.toList x2 x3 .no .no .no .no hb2 hb3 []) (us := #[.slice a0 n0 c0, .string s1, .agg cs2, .agg cs3]) (start W hL) rfl (fun i d u hd hu => ?_)).mono ?_
  · match i with
    | 0 => simp at hd hu; subst hd; subst hu; exact hv
    | 1 => simp at hd hu; subst hd; subst hu; exact .lit _ rfl
    | 2 => simp at hd hu; subst hd; subst hu; exact hv2
    | 3 => simp at hd hu; subst hd; subst hu; exact hv3
    | i + 4 => simp at hd
  rintro e W' ⟨r, σ', ι', Z', ⟨rfl, hext⟩, hE, hM, hR⟩
  obtain ⟨u, rfl, hu⟩ := hR
  cases hu
  have hb : Below W.heap.size W W' := ⟨hE.os, hE.tape, hE.output, hE.size, fun k hk => hE.keep k hk fun id h => by simp at h⟩
  refine ⟨_, rfl, _, _, _, [], p0 ++ ([] ++ (p2 ++ p3)), [], hW', ?_, ?_, rfl, hb.frame _, fun h => by cases h⟩
  · exact trodAll_cons_mk (shut_bool Tryz.underlying4 _) trodAll_mk0
  · exact trodAll_mk4 (Below.trod (by kernel_rfl) (by kernel_rfl) (of_decide_eq_true (by kernel_rfl)) ⟨fuel, hf⟩ hb fun x hx => hW'.lt x (by simp [hx])) (shut_string Tryz.underlying9 hmax1) (Below.trod (by kernel_rfl) (by kernel_rfl) (of_decide_eq_true (by kernel_rfl)) h2 hb fun x hx => hW'.lt x (by simp [hx])) (Below.trod (by kernel_rfl) (by kernel_rfl) (of_decide_eq_true (by kernel_rfl)) h3 hb fun x hx => hW'.lt x (by simp [hx]))

set_option maxRecDepth 100000 in
theorem lifted (os : Os) (started : os.Started) (H : Type) (enc : TypeId × Value → H) (F : Stop.Interp) :
    ReturnsInHanded {} Tryz.checked os 4 .any ((OpenSpec.ofChange Rows.valueBackSpec).preRow enc Tryz.prog Tryz.f4 Rows.valueBackRow.domain false Rows.valueBackRow.laid) (((OpenSpec.ofChange Rows.valueBackSpec).at F).post enc Tryz.prog Tryz.f4 false true false false) := by
  obtain ⟨places, hx⟩ := reads os enc
  refine returnsInHanded_of_row (C := Tryz.checked) (s := OpenSpec.ofChange Rows.valueBackSpec) own started (by kernel_rfl) Tryz.func4
    (witness_row_at (enc := enc) (C := Tryz.checked) false (laidWorld os) theArgs rfl (by kernel_rfl) (by kernel_rfl) (by kernel_rfl)
      (OpenSpec.preRow_of_cond 8 hx (by kernel_rfl) (fun k hk => by cases hk) (by kernel_rfl) (laid_met os))) ?_
  intro W base args ds gs before hval hW _ _ hsz hL _ _
  exact contract H enc W base args ds gs before hval hW hsz hL

theorem said : Rows.ValueBackSaid :=
  OpenClaim.holds_of_cond 4 Tryz.f4 rfl rfl rfl rfl rfl rfl rfl ⟨rfl, rfl, rfl, rfl, rfl⟩ rfl rfl rfl rfl rfl (by kernel_rfl) Tryz.func4 (by kernel_rfl)
    (of_decide_eq_true (by kernel_rfl)) (by unfold Func.isWrapper; first | (rw [if_pos (by decide +kernel)]; kernel_rfl) | (rw [if_neg (by decide +kernel)]; exact ⟨rfl, rfl⟩))
    (fun os started H enc _ F => by rw [OpenClaim.pre_eq_preRow]; exact lifted os started H enc F)

/-- No parameter wants a stand-in; the program's looks are what the card says. -/
theorem plain (f : FuncId) (fn : Func) (hf : Tryz.pinned.checked.prog.funcNamed "whetstone/whetstonelaw20.ValueBack" = some f) (hfn : Tryz.pinned.checked.prog.funcs[f]? = some fn) :
    true = Tryz.pinned.checked.prog.looks [] ∧ ∀ (j : Nat) t, fn.params[j]? = some t → Tryz.pinned.checked.prog.wantsStandIn t = false := by
  obtain rfl : f = 4 := Option.some.inj ((show Tryz.prog.funcNamed "whetstone/whetstonelaw20.ValueBack" = some 4 by kernel_rfl).symm.trans hf) |>.symm
  obtain rfl : fn = Tryz.f4 := (Option.some.inj (Tryz.func4.symm.trans hfn)).symm
  refine ⟨by kernel_rfl, fun j t ht => ?_⟩
  rw [Tryz.params4] at ht
  have hd : Tryz.pinned.checked.prog.wantsStandIn 29 = false := by kernel_rfl
  have hs : Tryz.pinned.checked.prog.wantsStandIn 9 = false := by kernel_rfl
  have hvl : Tryz.pinned.checked.prog.wantsStandIn 37 = false := by kernel_rfl
  match j, ht with
  | 0, ht => rw [← (show 29 = t by simpa using ht)]; exact hd
  | 1, ht => rw [← (show 9 = t by simpa using ht)]; exact hs
  | 2, ht => rw [← (show 37 = t by simpa using ht)]; exact hvl
  | 3, ht => rw [← (show 37 = t by simpa using ht)]; exact hvl
  | j + 4, ht => simp at ht

theorem valueBack_holds : Rows.ValueBackCardSaid :=
  Claim7.holds_tied_plain_at .later [] _ _ _ _ said (fun _ h => by cases h) (by kernel_rfl) (fun _ h => by cases h) valueBack_row_tie rfl ⟨rfl, rfl⟩ (by kernel_rfl) rfl plain (by kernel_rfl)

end Go.Proofs.YtcjjmejmpdhikaaGreatDoor.valueBack
