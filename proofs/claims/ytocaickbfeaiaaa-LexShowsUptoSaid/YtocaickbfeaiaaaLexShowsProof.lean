/- LexShows answers true for every row of trees, and its argument reads afterwards as before: where what it reads is of bulk at most 1048576. -/
import Derived.Test.YtocaickbfeaiaaaEvShows
import Derived.ProofKit
import Derived.OpenShut
import Derived.JoinedCond
import Derived.Carry
namespace Go.Proofs.Ytocaickbfeaiaaa.lexShows
set_option linter.unusedSimpArgs false
open Go.ChangeShapes Go.WideShapes Go.ChangeAt Go.RowKit
set_option linter.unusedVariables false

theorem own : ownKnob Try.prog.godebug = none := by kernel_rfl

/-- the types that the argument is made of -/
def kinds : List TypeId := [24, 31, 9, 4, 3]
theorem kinds_ok : kinds.all (okKind Try.prog kinds) = true := by kernel_rfl

section
variable {H : Type}
theorem av_string {n : Nat} {d : DataW H} {acs : List AV} (h : avOf Try.prog n 9 d = some acs) : ∃ x : List UInt8, acs = [.lit (.string ⟨x.toArray⟩)] ∧ x.length + 1 ≤ Rows.uptoBulk d := by
  cases n with
  | zero => simp [avOf] at h
  | succ n =>
    unfold avOf at h; simp only [Try.underlying9] at h
    cases d with
    | lit l =>
      cases l with
      | string b => simp at h; subst h; exact ⟨b, rfl, by simp [Rows.uptoBulk]⟩
      | _ => simp at h
    | _ => simp at h
theorem av_bool {n : Nat} {d : DataW H} {acs : List AV} (h : avOf Try.prog n 4 d = some acs) : ∃ x : Bool, acs = [.lit (.bool x)] ∧ 1 ≤ Rows.uptoBulk d := by
  cases n with
  | zero => simp [avOf] at h
  | succ n =>
    unfold avOf at h; simp only [Try.underlying4] at h
    cases d with
    | lit l =>
      cases l with
      | bool b => simp at h; subst h; exact ⟨b, rfl, by simp [Rows.uptoBulk]⟩
      | _ => simp at h
    | _ => simp at h
theorem av_int {n : Nat} {d : DataW H} {acs : List AV} (h : avOf Try.prog n 3 d = some acs) : ∃ x : Int, acs = [.lit (.int .i64 x)] ∧ 1 ≤ Rows.uptoBulk d := by
  cases n with
  | zero => simp [avOf] at h
  | succ n =>
    unfold avOf at h; simp only [Try.underlying3] at h
    cases d with
    | lit l =>
      cases l with
      | int k b => simp at h; subst h; exact ⟨b, rfl, by simp [Rows.uptoBulk]⟩
      | _ => simp at h
    | _ => simp at h

theorem av_trees : ∀ (n : Nat) (d : DataW H) (acs : List AV), avOf Try.prog n 24 d = some acs → ∃ xs, acs = [.sl (rowsOf xs) .no] ∧ wtT xs + deepT xs + 1 ≤ Rows.uptoBulk d
  | 0, d, acs, h => by simp [avOf] at h
  | 1, d, acs, h => by
    unfold avOf at h; simp only [Try.underlying24] at h
    cases d with
    | nil => simp at h; subst h; exact ⟨[], rfl, by simp [wtT, deepT, Rows.uptoBulk]⟩
    | slice elems spare =>
      simp at h
      obtain ⟨rows, h1, rfl⟩ := h
      cases elems with
      | nil => simp [omap] at h1; subst h1; exact ⟨[], rfl, by simp [wtT, deepT, Rows.uptoBulk]⟩
      | cons e l => simp [omap, avOf] at h1
    | _ => simp at h
  | n + 2, d, acs, h => by
    have tree : ∀ (e : DataW H) (row : List AV), avOf Try.prog (n + 1) 31 e = some row → ∃ t : Tr, row = rowOf t ∧ wtTr t + (if t.row then 1 + deepT t.kids else 0) ≤ Rows.uptoBulk e := by
      intro e row he
      unfold avOf at he; simp only [Try.underlying31] at he
      cases e with
      | agg parts =>
        dsimp only at he
        obtain ⟨d1, p1, a1, b1, rfl, g1, he1, rfl⟩ := avFields_cons he
        obtain ⟨d2, p2, a2, b2, rfl, g2, he2, rfl⟩ := avFields_cons he1
        obtain ⟨d3, p3, a3, b3, rfl, g3, he3, rfl⟩ := avFields_cons he2
        obtain ⟨d4, p4, a4, b4, rfl, g4, he4, rfl⟩ := avFields_cons he3
        obtain ⟨rfl, rfl⟩ := avFields_nil he4
        obtain ⟨x, rfl, l1⟩ := av_string g1
        obtain ⟨ks, rfl, l2⟩ := av_trees n d2 _ g2
        obtain ⟨r, rfl, l3⟩ := av_bool g3
        obtain ⟨a, rfl, l4⟩ := av_int g4
        refine ⟨.mk x ks r a, rfl, ?_⟩
        simp only [wtTr, Tr.row, Tr.kids, Rows.uptoBulk, Rows.uptoBulkAll]
        cases r <;> simp <;> omega
      | _ => simp at he
    have many : ∀ (elems : List (DataW H)) (rows : List (List AV)), omap (avOf Try.prog (n + 1) 31) elems = some rows → ∃ xs, rows = rowsOf xs ∧ wtT xs + deepT xs ≤ Rows.uptoBulkAll elems := by
      intro elems
      induction elems with
      | nil => intro rows h; simp [omap] at h; subst h; exact ⟨[], rfl, by simp [wtT, deepT]⟩
      | cons e l ih =>
        intro rows h
        rw [omap] at h
        split at h
        · rename_i b bs h1 h2
          cases h
          obtain ⟨t, rfl, ht⟩ := tree e b h1
          obtain ⟨xs, rfl, hx⟩ := ih bs h2
          refine ⟨t :: xs, rfl, ?_⟩
          obtain ⟨x, k, r, a⟩ := t
          simp only [wtT, deepT, Rows.uptoBulkAll, Tr.row, Tr.kids] at ht ⊢
          cases r <;> simp at ht ⊢ <;> omega
        · cases h
    unfold avOf at h; simp only [Try.underlying24] at h
    cases d with
    | nil => simp at h; subst h; exact ⟨[], rfl, by simp [wtT, deepT, Rows.uptoBulk]⟩
    | slice elems spare =>
      simp at h
      obtain ⟨rows, h1, rfl⟩ := h
      obtain ⟨xs, rfl, hx⟩ := many elems rows h1
      exact ⟨xs, rfl, by simp only [Rows.uptoBulk]; omega⟩
    | _ => simp at h
end


set_option maxRecDepth 100000 in
theorem lifted (os : Os) (started : os.Started) (H : Type) (enc : TypeId × Value → H) (F : Stop.Interp) :
    ReturnsInHanded {} Try.checked os 5 .any ((Rows.OpenSpec.upto Rows.lexShowsSpec).pre6 enc Try.prog Try.f5 Rows.lexShowsUptoRow.domain false) (((Rows.OpenSpec.upto Rows.lexShowsSpec).at F).post enc Try.prog Try.f5 false true false false) := by
  refine returnsInHanded_of_cond (C := Try.checked) (s := Rows.OpenSpec.upto Rows.lexShowsSpec) (k := Rows.uptoSmall) rfl own started (by kernel_rfl) Try.func5
    (OpenSpec.witness (enc := enc) (C := Try.checked) (s := Rows.OpenSpec.upto Rows.lexShowsSpec) (k := Rows.uptoSmall) rfl false ⟨#[], #[.slice none 0 0], []⟩ 8 (by kernel_rfl) (by kernel_rfl) (by kernel_rfl)
      (x := ([.nil], [], [])) (by kernel_rfl) rfl (by kernel_rfl)) ?_
  intro W base args ds gs before hval0 hW _ hk _
  have hval : ∀ (j : Nat) t v, Try.f5.params[j]? = some t → args[j]? = some v → Value.okWide Try.prog W .any base t v := hval0
  have hW' := hW
  obtain ⟨p, q, hA0, hV, rfl, _, _⟩ := hW
  have hA : DataW.TrodAll enc Try.prog W 0 (fun _ => true) true Try.f5.params.toList args.toList ds p := hA0
  rw [Try.params5] at hA hval
  obtain ⟨v0, d0, rfl, rfl, h0⟩ := trodAll_one hA
  obtain ⟨rfl, rfl⟩ := trodVars_none hV
  obtain ⟨a0, n0, c0, rfl⟩ := okWide_slice Try.underlying24 (hval 0 24 v0 rfl rfl)
  clear hA0 hval0
  simp only [List.append_nil] at hW' hk
  have hb0 : Rows.uptoBulkAll [d0] ≤ 1048576 := of_decide_eq_true hk
  simp only [Rows.uptoBulkAll] at hb0
  obtain ⟨fuel, hf⟩ := h0
  obtain ⟨acs, hav, hcr, _⟩ := open_any (ι := []) kinds kinds_ok fuel 24 _ d0 p (by simp [kinds]) hf
  obtain ⟨xs, rfl, hwt⟩ := av_trees fuel d0 acs hav
  have hv := (hcr.2 0 _ (.slice a0 n0 c0) rfl rfl).2
  have hwd := deepT_le xs
  refine (CallW.calls (by kernel_rfl) EL_ok (shows_ev xs .no [] (by omega) (by omega)) (us := #[.slice a0 n0 c0]) (Match.start W) rfl (fun i d u hd hu => ?_)).mono ?_
  · cases i with
    | zero => simp at hd hu; subst hd; subst hu; exact hv
    | succ i => simp at hd
  rintro e W' ⟨r, σ', ι', Z', rfl, hE, hM, hR⟩
  obtain ⟨u, rfl, hu⟩ := hR
  cases hu
  have hb : Below W.heap.size W W' := ⟨hE.os, hE.tape, hE.output, hE.size, fun k hk => hE.keep k hk fun id h => by simp at h⟩
  refine ⟨_, rfl, _, _, _, [], p, [], hW', ?_, ?_, rfl, hb.frame _, fun h => by cases h⟩
  · exact trodAll_cons_mk (shut_bool Try.underlying4 _) trodAll_mk0
  · exact trodAll_mk1 (Below.trod (by kernel_rfl) (by kernel_rfl) (of_decide_eq_true (by kernel_rfl)) ⟨fuel, hf⟩ hb fun x hx => hW'.lt x (by simpa using hx))

theorem over : Rows.lexShowsUptoRow.holds Try.pinned (Rows.OpenSpec.upto Rows.lexShowsSpec) :=
  OpenClaim.holds_of_cond 5 Try.f5 rfl rfl rfl rfl rfl rfl rfl ⟨rfl, rfl, rfl, rfl, rfl⟩ rfl rfl rfl rfl rfl (by kernel_rfl) Try.func5 (by kernel_rfl)
    (of_decide_eq_true (by kernel_rfl)) (by unfold Func.isWrapper; first | (rw [if_pos (by decide +kernel)]; kernel_rfl) | (rw [if_neg (by decide +kernel)]; exact ⟨rfl, rfl⟩))
    (fun os started H enc _ F => lifted os started H enc F)

theorem lexShows_holds : Rows.LexShowsUptoSaid :=
  over

end Go.Proofs.Ytocaickbfeaiaaa.lexShows
