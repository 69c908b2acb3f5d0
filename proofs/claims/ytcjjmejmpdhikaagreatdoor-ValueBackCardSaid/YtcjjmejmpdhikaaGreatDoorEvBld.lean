/-
  EV: strings.Builder: copyCheck and String, taken on their contract; the other methods run.
-/
import Derived.Test.YtcjjmejmpdhikaaGreatDoorEvOpen
import Derived.Test.YtcjjmejmpdhikaaGreatDoorEvTy
import Derived.Lib.Strings
import Derived.Lib.Builder
import Derived.Lib.AppendStr
import Derived.Lib.UnsafeStr
import Derived.WalkKit
import Derived.WalkSpells
import Derived.WalkLawsBesides
import Derived.Lib.Hide
namespace Go.Proofs.YtcjjmejmpdhikaaGreatDoor
set_option linter.unusedSimpArgs false
set_option linter.unusedVariables false
set_option maxRecDepth 100000
open Go.RowKit

section
variable {P : Program} {ι : List Nat} {Z : Nat → Nat → Prop} {w : World} {σ : Sto}

theorem setCell_row {w : World} {b i : Nat} {c : Array Value} {T : TypeId} {fz : Nat × Nat} (v : Value) (h : w.heap[b]? = some (.cells c T fz)) : w.setCell ⟨b, i, none⟩ v = w.setRow b (c.setIfInBounds i v) := setCell_eq_setRow w b i c T fz v h

theorem freeze_heap {w : World} {g n : Nat} {c : Array Value} {T : TypeId} {fz : Nat × Nat} (h : w.heap[g]? = some (.cells c T fz)) (hn : n ≠ 0) : (w.freeze ⟨g, 0, none⟩ n).heap[g]? = some (.cells c T (if fz.1 == fz.2 then (0, 0 + n) else (min fz.1 0, max fz.2 (0 + n)))) := by
  unfold World.freeze
  rw [if_neg hn]
  simp [Array.getElem?_modify, h]
theorem freeze_other {w : World} {g n b : Nat} (hb : b ≠ g) : (w.freeze ⟨g, 0, none⟩ n).heap[b]? = w.heap[b]? := by
  unfold World.freeze
  split
  · rfl
  · simp only [Array.getElem?_modify]
    rw [if_neg (Ne.symm hb)]
theorem freeze_size {w : World} {g n : Nat} : (w.freeze ⟨g, 0, none⟩ n).heap.size = w.heap.size := by
  unfold World.freeze
  split <;> simp

/-- cells that a string is made of: they stay -/
theorem Match.freeze (h : Match σ ι Z w) {i g n : Nat} {o0 : AObj} {cs : List AV} {T : TypeId} (hσ : σ[i]? = some o0) (ho : o0 = .cells cs T ∨ o0 = .buf cs T) (hi : ι[i]? = some g) (hn0 : n ≠ 0) (hn : n ≤ cs.length) :
    Evo ι Z w ι Z (w.freeze ⟨g, 0, none⟩ n) ∧ Match (σ.set i (.buf cs T)) ι Z (w.freeze ⟨g, 0, none⟩ n) := by
  have hno : ∀ j, ¬ Z g j := by
    rcases ho with rfl | rfl
    · obtain ⟨_, _, _, _, h4⟩ := h.obj i _ g hσ hi; exact h4
    · obtain ⟨_, _, _, _, _, _, h4⟩ := h.obj i _ g hσ hi; exact h4
  obtain ⟨c, fz, hheap, hfz, hlen, hc⟩ : ∃ (c : Array Value) (fz : Nat × Nat), w.heap[g]? = some (.cells c T fz) ∧ fz.2 ≤ cs.length ∧ cs.length ≤ c.size ∧ ∀ (j : Nat) (d : AV) (u : Value), cs[j]? = some d → c[j]? = some u → d.one = true ∧ VR ι Z w d u := by
    rcases ho with rfl | rfl
    · obtain ⟨c, h1, h2, h3, _⟩ := h.obj i _ g hσ hi; exact ⟨c, (0, 0), h1, Nat.zero_le _, h2, h3⟩
    · obtain ⟨c, fz, h1, h0, h2, h3, _⟩ := h.obj i _ g hσ hi; exact ⟨c, fz, h1, h0, h2, h3⟩
  have l0 : o0.live := by rcases ho with rfl | rfl <;> trivial
  have hg := freeze_heap hheap hn0
  have e : Evo ι Z w ι Z (w.freeze ⟨g, 0, none⟩ n) :=
    { pre := fun _ _ h => h, img := fun id _ h _ => ⟨id, h⟩, zmono := fun _ _ h => h
      zsame := fun b j hz => by
        have hb : b ≠ g := fun e => hno j (e ▸ hz)
        exact World.cell?_of_block (freeze_other hb)
      csz := fun b hb => by
        by_cases hbg : b = g
        · subst hbg; unfold cellsz; rw [hg, hheap]
        · unfold cellsz; rw [freeze_other hbg]
      size := by rw [freeze_size]; exact Nat.le_refl _
      keep := fun b hb hn => freeze_other fun e => hn i (e ▸ hi)
      os := by unfold World.freeze; split <;> rfl
      tape := by unfold World.freeze; split <;> rfl
      output := by unfold World.freeze; split <;> rfl }
  have hil := (List.getElem?_eq_some_iff.1 hσ).1
  have key : ∀ (j b : Nat) (o : AObj), ι[j]? = some b → (σ.set i (.buf cs T))[j]? = some o → o.live → (j = i ∧ b = g ∧ o = .buf cs T) ∨ (j ≠ i ∧ b ≠ g ∧ σ[j]? = some o) := by
    intro j b o hj ho' lo
    by_cases hji : j = i
    · subst hji
      rw [hi] at hj
      rw [List.getElem?_set_self hil] at ho'
      exact .inl ⟨rfl, (Option.some.inj hj).symm, (Option.some.inj ho').symm⟩
    · rw [List.getElem?_set_ne (Ne.symm hji)] at ho'
      refine .inr ⟨hji, fun e => hji ?_, ho'⟩
      subst e
      exact h.inj j i b o _ hj hi ho' hσ lo l0
  refine ⟨e, h.go e (by simp [h.len]) (fun j o b ho hb lo => ?_) (fun a j b o p ha hj ho hp lo lp => ?_) fun b j hj => by rw [freeze_size]; exact h.zlt b j hj⟩
  · rcases key j b o hb ho lo with ⟨rfl, rfl, rfl⟩ | ⟨_, h2, h3⟩
    · refine .inl ⟨c, _, hg, ?_, hlen, fun j d u hd hu => ⟨(hc j d u hd hu).1, (hc j d u hd hu).2.evo e⟩, hno⟩
      split
      · dsimp only; omega
      · dsimp only; omega
    · exact .inr ⟨h3, freeze_other h2, fun _ h => h⟩
  · rcases key a b o ha ho lo with ⟨a1, a2, a3⟩ | ⟨a1, a2, a3⟩ <;> rcases key j b p hj hp lp with ⟨b1, b2, b3⟩ | ⟨b1, b2, b3⟩
    · omega
    · omega
    · omega
    · exact h.inj a j b o p ha hj a3 b3 lo lp
end

/-! copyCheck -/

theorem sizeB : (Tryz.prog.info? 97).map (·.size) = some 2 := by kernel_rfl

set_option maxRecDepth 100000 in
set_option maxHeartbeats 1000000 in
theorem chk_used (b : Nat) (w : World) (h0 : w.cell? ⟨b, 0, none⟩ = some (.pointer (some ⟨b, 0, none⟩))) :
    Calls Tryz.prog 83 #[.pointer (some ⟨b, 0, none⟩)] w fun e w' => e = .returned (.tuple #[]) ∧ w' = w := by
  obtain ⟨j, hj, _⟩ := Option.map_eq_some_iff.1 sizeB
  go_enter Tryz.func83, Tryz.ntmps83
  go_wp2
  rw [Lib.run_neq_ptr_same w _ Tryz.underlying94 hj]
  go_wp2
  go_end0
  exact ⟨rfl, rfl⟩

set_option maxRecDepth 100000 in
set_option maxHeartbeats 1000000 in
theorem chk_fresh (T : TypeId) (n : Nat) (hn : 0 < n) (hT : liesAt Tryz.prog Tryz.prog.depth T (n / Tryz.prog.cellsOf T) 0 97 1 = true) (b : Nat) (w : World) (h0 : w.cell? ⟨b, 0, none⟩ = some (.pointer none)) (hfz : w.frozen? ⟨b, 0, none⟩ = false) (hsh : w.shape? b = some (T, n)) :
    Calls Tryz.prog 83 #[.pointer (some ⟨b, 0, none⟩)] w fun e w' => e = .returned (.tuple #[]) ∧ w' = w.setCell ⟨b, 0, none⟩ (.pointer (some ⟨b, 0, none⟩)) := by
  obtain ⟨j, hj, hjs⟩ := Option.map_eq_some_iff.1 sizeB
  go_enter Tryz.func83, Tryz.ntmps83
  go_wp2
  rw [Lib.run_to_unsafe w ⟨b, 0, none⟩ Tryz.underlying94 (by kernel_rfl : Tryz.prog.underlying 165 = some .unsafePointer) hj (by rw [hjs]; decide) hsh hn]
  simp only [Result.andThen]
  rw [Oper.upon_value]
  go_wp2
  rw [run_callFunc_extern Tryz.func108 (by kernel_rfl) (by kernel_rfl) (by kernel_rfl) (e := Extern.AbiNoEscape.same) (by kernel_rfl)]
  rw [Lib.run_noEscape]
  simp only [Result.andThen]
  rw [Oper.upon_value]
  go_wp2
  rw [Lib.run_from_unsafe w ⟨b, 0, none⟩ (by kernel_rfl : Tryz.prog.underlying 165 = some .unsafePointer) Tryz.underlying94 hj hsh hT]
  simp only [Result.andThen]
  rw [Oper.upon_value]
  go_wp2
  go_end0
  exact ⟨rfl, rfl⟩

theorem lies_builderE (n : Nat) (hn : 2 ≤ n) : liesAt Tryz.prog Tryz.prog.depth 97 (n / Tryz.prog.cellsOf 97) 0 97 1 = true := by
  have hc : Tryz.prog.cellsOf 97 = 2 := by kernel_rfl
  have hd : Tryz.prog.depth = (2 * (Tryz.prog.types.size + Made.depth) + 1) + 1 := rfl
  rw [hc, hd]
  simp only [liesAt, Bool.or_eq_true]
  left
  rw [hd]
  simp [rowAt, hc, sameLayout]
  omega

def primCheck (args : List AV) (σ : Sto) : Option (ARes × Sto) :=
  match args with
  | [.ptr id 0] =>
    match σ[id]? with
    | some (.cells [a, v] T) =>
      if T = 97 then
        (match a with
        | .lit (.pointer none) => some (.ret (.tup []), σ.set id (.cells [.ptr id 0, v] T))
        | .ptr i 0 => if i = id then some (.ret (.tup []), σ) else none
        | _ => none)
      else none
    | _ => none
  | _ => none

theorem one_arg {us : Array Value} {d : AV} (h : [d].length = us.size) : ∃ v, us = #[v] := ⟨us[0]'(by simp at h; omega), by
  apply Array.ext
  · simp at h; simp; omega
  · intro i h1 h2; simp at h2; subst h2; rfl⟩

theorem primCheck_sound : CallSound Tryz.prog fun f args σ => if f = 83 then primCheck args σ else none := by
  intro f args σ r σ' hr ι Z w us hM hl hargs
  dsimp only at hr
  split at hr
  · rename_i e
    subst e
    unfold primCheck at hr
    split at hr
    · rename_i id
      split at hr
      · rename_i a v T hσ
        split at hr
        · rename_i hT
          subst hT
          obtain ⟨u, rfl⟩ := one_arg hl
          have hu := hargs 0 _ u rfl rfl
          obtain ⟨b, hb, rfl⟩ := ptr_at hu
          obtain ⟨c, hheap, hlen, hc, hz⟩ := hM.obj id _ b hσ hb
          simp at hlen
          have hc0 := Array.getElem?_eq_getElem (show 0 < c.size by omega)
          have hcell : w.cell? ⟨b, 0, none⟩ = some c[0] := by simp [World.cell?, hheap]
          refine ⟨Tryz.call83 _ _, ?_⟩
          have h0 := (hc 0 a _ rfl hc0).2
          split at hr
          · cases hr
            have hp : c[0] = .pointer none := by generalize c[0] = q at h0; cases h0; rfl
            refine (chk_fresh 97 c.size (by omega) (lies_builderE _ hlen) b w (by rw [hcell, hp]) (by simp [World.frozen?, hheap]) (by simp [World.shape?, hheap])).mono ?_
            rintro e w' ⟨rfl, rfl⟩
            rw [setCell_row _ hheap]
            obtain ⟨e1, m1⟩ := hM.setCells (cs := [.ptr id 0, v]) (c := c.setIfInBounds 0 (.pointer (some ⟨b, 0, none⟩))) hσ hb hheap (by simp) (by simp; omega) (fun j d u hd hu => by
              rcases j with _ | _ | j
              · simp at hd; subst hd
                rw [Array.getElem?_setIfInBounds_self_of_lt (by omega)] at hu
                cases hu
                exact ⟨rfl, .ptr _ _ _ hb⟩
              · rw [Array.getElem?_setIfInBounds_ne (by omega)] at hu
                exact hc 1 d u hd hu
              · simp at hd)
            exact ⟨ι, Z, e1, m1, _, rfl, .tup _ _ rfl fun i d u hd hu => by simp at hd⟩
          · rename_i i
            split at hr
            · rename_i hi
              subst hi
              cases hr
              have hp : c[0] = .pointer (some ⟨b, 0, none⟩) := by
                generalize c[0] = q at h0
                obtain ⟨b', hb', rfl⟩ := ptr_at h0
                rw [hb] at hb'; cases hb'; rfl
              refine (chk_used b w (by rw [hcell, hp])).mono ?_
              rintro e w' ⟨rfl, rfl⟩
              exact ⟨ι, Z, .refl _ _ _, hM, _, rfl, .tup _ _ rfl fun i d u hd hu => by simp at hd⟩
            · cases hr
          · cases hr
        · cases hr
      · cases hr
    · cases hr
  · cases hr

/-! String -/

theorem cellsU8 : Tryz.prog.cellsOf 5 = 1 := by kernel_rfl

set_option maxRecDepth 100000 in
set_option maxHeartbeats 1000000 in
theorem str_full (b g n cap sz : Nat) (l : List UInt8) (w : World) (hn : n = l.length) (h0 : l ≠ []) (hc1 : w.cell? ⟨b, 1, none⟩ = some (.slice (some ⟨g, 0, none⟩) n cap)) (hcap : cap ≠ 0) (hmax : n ≤ 140737488355328) (hsh : w.shape? g = some (5, sz)) (hsz : n ≤ sz)
    (hb : ∀ (j : Nat) (x : UInt8), l[j]? = some x → w.cell? ((⟨g, 0, none⟩ : Addr).add j) = some (.int .u8 x.toNat)) :
    Calls Tryz.prog 52 #[.pointer (some ⟨b, 0, none⟩)] w fun e w' => e = .returned (.string ⟨l.toArray⟩) ∧ w' = w.drew.freeze ⟨g, 0, none⟩ n := by
  have c1 : w.drew.cell? ⟨b, 1, none⟩ = some (.slice (some ⟨g, 0, none⟩) n cap) := hc1
  have hSD : (Builtin.unsafeSliceData_ #[95] 145 #[.slice (some ⟨g, 0, none⟩) n cap]).run Tryz.prog w.drew = .ok (.pointer (some ⟨g, 0, none⟩)) w.drew :=
    Lib.run_unsafeSliceData_row _ _ _ _ _ _ hcap
  have hUS : (Builtin.unsafeString_ #[145, 3] 9 #[.pointer (some ⟨g, 0, none⟩), .int .i64 n]).run Tryz.prog w.drew = .ok (.string ⟨l.toArray⟩) (w.drew.freeze ⟨g, 0, none⟩ n) := by
    subst hn
    exact Lib.run_unsafeString_row w.drew 145 3 9 5 Tryz.underlying145 cellsU8 g sz hsh l h0 hsz (by omega) hb
  clear hb hsh hsz h0 hn hmax hcap
  go_enter Tryz.func52, Tryz.ntmps52
  go_wp2
  go_region
  all_goals (go_wp2; go_ret; exact ⟨rfl, rfl⟩)

def primString (args : List AV) (σ : Sto) : Option (ARes × Sto) :=
  match args with
  | [.ptr id 0] =>
    match σ[id]? with
    | some (.cells [_, .asl g 0 n 1] T) =>
      if T = 97 ∧ 0 < n ∧ n ≤ 140737488355328 then
        (match σ[g]? with
        | some (.cells cs U) | some (.buf cs U) => if U = 5 ∧ n ≤ cs.length then (bytesAV (cs.take n)).map fun l => (.ret (.lit (.string ⟨l.toArray⟩)), σ.set g (.buf cs U)) else none
        | _ => none)
      else none
    | _ => none
  | _ => none

theorem primString_sound : CallSound Tryz.prog fun f args σ => if f = 52 then primString args σ else none := by
  intro f args σ r σ' hr ι Z w us hM hl hargs
  dsimp only at hr
  split at hr
  · rename_i e
    subst e
    unfold primString at hr
    split at hr
    · rename_i id
      split at hr
      · rename_i a g n T hσ
        split at hr
        · rename_i hcond
          obtain ⟨rfl, hn0, hnm⟩ := hcond
          obtain ⟨u, rfl⟩ := one_arg hl
          have hu := hargs 0 _ u rfl rfl
          obtain ⟨b, hb, rfl⟩ := ptr_at hu
          obtain ⟨c, hheap, hlen, hc, hz⟩ := hM.obj id _ b hσ hb
          simp at hlen
          have hc1 := Array.getElem?_eq_getElem (show 1 < c.size by omega)
          have hcell : w.cell? ⟨b, 1, none⟩ = some c[1] := by simp [World.cell?, hheap]
          have h1 := (hc 1 _ _ rfl hc1).2
          generalize c[1] = q at h1 hcell
          obtain ⟨gb, cap, rfl, hg, hncap, hmx, hcz⟩ := asl_at h1
          have go : ∀ (o0 : AObj) (cs : List AV) (l : List UInt8), σ[g]? = some o0 → (o0 = .cells cs 5 ∨ o0 = .buf cs 5) → n ≤ cs.length → bytesAV (cs.take n) = some l → r = .ret (.lit (.string ⟨l.toArray⟩)) → σ' = σ.set g (.buf cs 5) →
              (callFunc 52 #[.pointer (some ⟨b, 0, none⟩)]).run Tryz.prog w = .ok (.enter 52 #[.pointer (some ⟨b, 0, none⟩)]) w ∧ Calls Tryz.prog 52 #[.pointer (some ⟨b, 0, none⟩)] w fun e w' => ∃ ι' Z', Evo ι Z w ι' Z' w' ∧ Match σ' ι' Z' w' ∧ ERel ι' Z' w' r e := by
            intro o0 cs l ho0 ho hnl hby hr hσ'
            subst hr; subst hσ'
            obtain ⟨cg, fz, hgheap, hglen, hgc⟩ : ∃ (c : Array Value) (fz : Nat × Nat), w.heap[gb]? = some (.cells c 5 fz) ∧ cs.length ≤ c.size ∧ ∀ (j : Nat) (d : AV) (u : Value), cs[j]? = some d → c[j]? = some u → d.one = true ∧ VR ι Z w d u := by
              rcases ho with rfl | rfl
              · obtain ⟨c, h1, h2, h3, _⟩ := hM.obj g _ gb ho0 hg; exact ⟨c, (0, 0), h1, h2, h3⟩
              · obtain ⟨c, fz, h1, h0, h2, h3, _⟩ := hM.obj g _ gb ho0 hg; exact ⟨c, fz, h1, h2, h3⟩
            have hll := bytesAV_len hby
            rw [List.length_take, Nat.min_eq_left hnl] at hll
            refine ⟨Tryz.call52 _ _, (str_full b gb n cap cg.size l w hll.symm (fun e => by rw [e] at hll; simp at hll; omega) hcell (by omega) hnm (by simp [World.shape?, hgheap]) (by omega) fun j x hx => ?_).mono ?_⟩
            · have hcj := bytesAV_get hby j x hx
              rw [List.getElem?_take] at hcj
              split at hcj
              · rename_i hj
                have hjc := Array.getElem?_eq_getElem (show j < cg.size by omega)
                have := (hgc j _ _ hcj hjc).2
                rw [Addr.add_lit, Nat.zero_add]
                simp only [World.cell?, hgheap]
                rw [hjc]
                generalize cg[j] = q at this
                cases this; rfl
              · cases hcj
            · rintro e w' ⟨rfl, rfl⟩
              obtain ⟨e1, m1⟩ := hM.drew.freeze ho0 ho hg (show n ≠ 0 by omega) hnl
              exact ⟨ι, Z, (Evo.drew ι Z w).trans e1, m1, _, rfl, .lit _ rfl⟩
          split at hr
          · rename_i cs U hg0
            split at hr
            · rename_i hU
              obtain ⟨rfl, hnl⟩ := hU
              rw [Option.map_eq_some_iff] at hr
              obtain ⟨l, hl1, hl2⟩ := hr
              cases hl2
              exact go _ cs l hg0 (.inl rfl) hnl hl1 rfl rfl
            · cases hr
          · rename_i cs U hg0
            split at hr
            · rename_i hU
              obtain ⟨rfl, hnl⟩ := hU
              rw [Option.map_eq_some_iff] at hr
              obtain ⟨l, hl1, hl2⟩ := hr
              cases hl2
              exact go _ cs l hg0 (.inr rfl) hnl hl1 rfl rfl
            · cases hr
          · cases hr
        · cases hr
      · cases hr
    · cases hr
  · cases hr

end Go.Proofs.YtcjjmejmpdhikaaGreatDoor
