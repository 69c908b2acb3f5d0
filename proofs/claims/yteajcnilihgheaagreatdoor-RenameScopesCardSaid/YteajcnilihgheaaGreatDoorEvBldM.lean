/-
 EV: strings.Builder: copyCheck and String, taken on their contract; the other methods run.
-/
import Derived.Test.YteajcnilihgheaaGreatDoorTBaseM
import Derived.Lib.Strings
import Derived.Lib.Builder
import Derived.Lib.AppendStr
import Derived.Lib.UnsafeStr
import Derived.WalkKit
import Derived.WalkSpells
import Derived.WalkLawsBesides
import Derived.Lib.Hide
import Derived.Lib.MakeNoZero
import Derived.Laws.IdiomCopy
import Derived.Laws.Externs
import Derived.Shelf.RegionOpenPlain
import Derived.Test.YteajcnilihgheaaGreatDoorRLawM
namespace Go.Proofs.YteajcnilihgheaaGreatDoor
set_option maxRecDepth 100000
set_option maxHeartbeats 8000000
set_option linter.unusedSimpArgs false
set_option linter.unusedVariables false
section
set_option maxRecDepth 100000
open Go.RowKit
section
variable {P : Program} {ι : List Nat} {Z : Nat → Nat → Prop} {w : World} {σ : Sto}
theorem setCell_row {w : World} {b i : Nat} {c : Array Value} {T : TypeId} {fz : Nat × Nat} (v : Value) (h : w.heap[b]? = some (.cells c T fz)) : w.setCell ⟨b, i, none⟩ v = w.setRow b (c.setIfInBounds i v) := setCell_eq_setRow w b i c T fz v h
theorem freeze_heap {w : World} {g n : Nat} {c : Array Value} {T : TypeId} {fz : Nat × Nat} (h : w.heap[g]? = some (.cells c T fz)) (hn : n ≠ 0) : (w.freeze ⟨g, 0, none⟩ n).heap[g]? = some (.cells c T (if fz.1 == fz.2 then (0, 0 + n) else (min fz.1 0, max fz.2 (0 + n)))) := by
 unfold World.freeze
 rw [if_neg hn]
 simp [Array.getElem?_modify, h]
theorem freeze_other {w : World} {g n b : Nat} (hb : b ≠ g) : (w.freeze ⟨g, 0, none⟩ n).heap[b]? = w.heap[b]? := by
 unfold World.freeze
 split
 · rfl
 · simp only [Array.getElem?_modify]
   rw [if_neg (Ne.symm hb)]
theorem freeze_size {w : World} {g n : Nat} : (w.freeze ⟨g, 0, none⟩ n).heap.size = w.heap.size := by
 unfold World.freeze
 split <;> simp
theorem Match.freeze (h : Match σ ι Z w) {i g n : Nat} {o0 : AObj} {cs : List AV} {T : TypeId} (hσ : σ[i]? = some o0) (ho : o0 = .cells cs T ∨ o0 = .buf cs T) (hi : ι[i]? = some g) (hn0 : n ≠ 0) (hn : n ≤ cs.length) :
    Evo ι Z w ι Z (w.freeze ⟨g, 0, none⟩ n) ∧ Match (σ.set i (.buf cs T)) ι Z (w.freeze ⟨g, 0, none⟩ n) := by
 have hno : ∀ j, ¬ Z g j := by
  rcases ho with rfl | rfl
  · obtain ⟨_, _, _, _, h4⟩ := h.obj i _ g hσ hi; exact h4
  · obtain ⟨_, _, _, _, _, _, h4⟩ := h.obj i _ g hσ hi; exact h4
 obtain ⟨c, fz, hheap, hfz, hlen, hc⟩ : ∃ (c : Array Value) (fz : Nat × Nat), w.heap[g]? = some (.cells c T fz) ∧ fz.2 ≤ cs.length ∧ cs.length ≤ c.size ∧ ∀ (j : Nat) (d : AV) (u : Value), cs[j]? = some d → c[j]? = some u → d.one = true ∧ VR ι Z w d u := by
  rcases ho with rfl | rfl
  · obtain ⟨c, h1, h2, h3, _⟩ := h.obj i _ g hσ hi; exact ⟨c, (0, 0), h1, Nat.zero_le _, h2, h3⟩
  · obtain ⟨c, fz, h1, h0, h2, h3, _⟩ := h.obj i _ g hσ hi; exact ⟨c, fz, h1, h0, h2, h3⟩
 have l0 : o0.live := by rcases ho with rfl | rfl <;> trivial
 have hg := freeze_heap hheap hn0
 have e : Evo ι Z w ι Z (w.freeze ⟨g, 0, none⟩ n) :=
  { pre := fun _ _ h => h, img := fun id _ h _ => ⟨id, h⟩, zmono := fun _ _ h => h
    zsame := fun b j hz => by
     have hb : b ≠ g := fun e => hno j (e ▸ hz)
     exact World.cell?_of_block (freeze_other hb)
    csz := fun b hb => by
     by_cases hbg : b = g
     · subst hbg; unfold cellsz; rw [hg, hheap]
     · unfold cellsz; rw [freeze_other hbg]
    size := by rw [freeze_size]; exact Nat.le_refl _
    keep := fun b hb hn => freeze_other fun e => hn i (e ▸ hi)
    os := by unfold World.freeze; split <;> rfl
    tape := by unfold World.freeze; split <;> rfl
    output := by unfold World.freeze; split <;> rfl
    znew := fun _ _ h _ => .inl h }
 have hil := (List.getElem?_eq_some_iff.1 hσ).1
 have key : ∀ (j b : Nat) (o : AObj), ι[j]? = some b → (σ.set i (.buf cs T))[j]? = some o → o.live → (j = i ∧ b = g ∧ o = .buf cs T) ∨ (j ≠ i ∧ b ≠ g ∧ σ[j]? = some o) := by
  intro j b o hj ho' lo
  by_cases hji : j = i
  · subst hji
    rw [hi] at hj
    rw [List.getElem?_set_self hil] at ho'
    exact .inl ⟨rfl, (Option.some.inj hj).symm, (Option.some.inj ho').symm⟩
  · rw [List.getElem?_set_ne (Ne.symm hji)] at ho'
    refine .inr ⟨hji, fun e => hji ?_, ho'⟩
    subst e
    exact h.inj j i b o _ hj hi ho' hσ lo l0
 refine ⟨e, h.go e (by simp [h.len]) (fun j o b ho hb lo => ?_) (fun a j b o p ha hj ho hp lo lp => ?_) fun b j hj => by rw [freeze_size]; exact h.zlt b j hj⟩
 · rcases key j b o hb ho lo with ⟨rfl, rfl, rfl⟩ | ⟨_, h2, h3⟩
   · refine .inl ⟨c, _, hg, ?_, hlen, fun j d u hd hu => ⟨(hc j d u hd hu).1, (hc j d u hd hu).2.evo e⟩, hno⟩
     split
     · dsimp only; omega
     · dsimp only; omega
   · exact .inr ⟨h3, freeze_other h2, fun _ h => h⟩
 · rcases key a b o ha ho lo with ⟨a1, a2, a3⟩ | ⟨a1, a2, a3⟩ <;> rcases key j b p hj hp lp with ⟨b1, b2, b3⟩ | ⟨b1, b2, b3⟩
   · omega
   · omega
   · omega
   · exact h.inj a j b o p ha hj a3 b3 lo lp
end
theorem sizeB : (Tryz.prog.info? 76).map (·.size) = some 2 := by kernel_rfl
theorem chk_used (b : Nat) (w : World) (h0 : w.cell? ⟨b, 0, none⟩ = some (.pointer (some ⟨b, 0, none⟩))) :
    Calls Tryz.prog 43 #[.pointer (some ⟨b, 0, none⟩)] w fun e w' => e = .returned (.tuple #[]) ∧ w' = w := by
 obtain ⟨j, hj, _⟩ := Option.map_eq_some_iff.1 sizeB
 go_enter Tryz.func43, Tryz.ntmps43
 go_wp2
 rw [Lib.run_neq_ptr_same w _ Tryz.underlying73 hj]
 go_wp2
 go_end0
 exact ⟨rfl, rfl⟩
theorem chk_fresh (T : TypeId) (n : Nat) (hn : 0 < n) (hT : liesAt Tryz.prog Tryz.prog.depth T (n / Tryz.prog.cellsOf T) 0 76 1 = true) (b : Nat) (w : World) (h0 : w.cell? ⟨b, 0, none⟩ = some (.pointer none)) (hfz : w.frozen? ⟨b, 0, none⟩ = false) (hsh : w.shape? b = some (T, n)) :
    Calls Tryz.prog 43 #[.pointer (some ⟨b, 0, none⟩)] w fun e w' => e = .returned (.tuple #[]) ∧ w' = w.setCell ⟨b, 0, none⟩ (.pointer (some ⟨b, 0, none⟩)) := by
 obtain ⟨j, hj, hjs⟩ := Option.map_eq_some_iff.1 sizeB
 go_enter Tryz.func43, Tryz.ntmps43
 go_wp2
 rw [Lib.run_to_unsafe w ⟨b, 0, none⟩ Tryz.underlying73 (by kernel_rfl : Tryz.prog.underlying 159 = some .unsafePointer) hj (by rw [hjs]; decide) hsh hn]
 simp only [Result.andThen]
 rw [Oper.upon_value]
 go_wp2
 rw [run_callFunc_extern Tryz.func71 (by kernel_rfl) (by kernel_rfl) (by kernel_rfl) (e := Extern.AbiNoEscape.same) (by kernel_rfl)]
 rw [Lib.run_noEscape]
 simp only [Result.andThen]
 rw [Oper.upon_value]
 go_wp2
 rw [Lib.run_from_unsafe w ⟨b, 0, none⟩ (by kernel_rfl : Tryz.prog.underlying 159 = some .unsafePointer) Tryz.underlying73 hj hsh hT]
 simp only [Result.andThen]
 rw [Oper.upon_value]
 go_wp2
 go_end0
 exact ⟨rfl, rfl⟩
theorem lies_builderE (n : Nat) (hn : 2 ≤ n) : liesAt Tryz.prog Tryz.prog.depth 76 (n / Tryz.prog.cellsOf 76) 0 76 1 = true := by
 have hc : Tryz.prog.cellsOf 76 = 2 := by kernel_rfl
 have hd : Tryz.prog.depth = (2 * (Tryz.prog.types.size + Made.depth) + 1) + 1 := rfl
 rw [hc, hd]
 simp only [liesAt, Bool.or_eq_true]
 left
 rw [hd]
 simp [rowAt, hc, sameLayout]
 omega
def bldT (T : TypeId) : Bool := T == 76
theorem lies_bld {T : TypeId} (h : bldT T = true) (n : Nat) (hn : 2 ≤ n) : liesAt Tryz.prog Tryz.prog.depth T (n / Tryz.prog.cellsOf T) 0 76 1 = true := by
 unfold bldT at h
 rw [beq_iff_eq] at h
 subst h
 exact lies_builderE n hn
def primCheck (args : List AV) (σ : Sto) : Option (ARes × Sto) :=
 match args with
 | [.ptr id 0] =>
  match σ[id]? with
  | some (.cells [a, v] T) =>
   if bldT T = true then
    (match a with
    | .lit (.pointer none) => some (.ret (.tup []), σ.set id (.cells [.ptr id 0, v] T))
    | .ptr i 0 => if i = id then some (.ret (.tup []), σ) else none
    | _ => none)
   else none
  | _ => none
 | _ => none
theorem primCheck_sound : CallSound Tryz.prog fun f args σ => if f = 43 then primCheck args σ else none := by
 intro f args σ r σ' hr ι Z w us hM hl hargs
 dsimp only at hr
 split at hr
 · rename_i e
   subst e
   unfold primCheck at hr
   split at hr
   · rename_i id
     split at hr
     · rename_i a v T hσ
       split at hr
       · rename_i hT
         obtain ⟨u, rfl⟩ := one_arg hl
         have hu := hargs 0 _ u rfl rfl
         obtain ⟨b, hb, rfl⟩ := ptr_at hu
         obtain ⟨c, hheap, hlen, hc, hz⟩ := hM.obj id _ b hσ hb
         simp at hlen
         have hc0 := Array.getElem?_eq_getElem (show 0 < c.size by omega)
         have hcell : w.cell? ⟨b, 0, none⟩ = some c[0] := by simp [World.cell?, hheap]
         refine ⟨Tryz.call43 _ _, ?_⟩
         have h0 := (hc 0 a _ rfl hc0).2
         split at hr
         · cases hr
           have hp : c[0] = .pointer none := by generalize c[0] = q at h0; cases h0; rfl
           refine (chk_fresh T c.size (by omega) (lies_bld hT _ hlen) b w (by rw [hcell, hp]) (by simp [World.frozen?, hheap]) (by simp [World.shape?, hheap])).mono ?_
           rintro e w' ⟨rfl, rfl⟩
           rw [setCell_row _ hheap]
           obtain ⟨e1, m1⟩ := hM.setCells (cs := [.ptr id 0, v]) (c := c.setIfInBounds 0 (.pointer (some ⟨b, 0, none⟩))) hσ hb hheap (by simp) (by simp; omega) (fun j d u hd hu => by
            rcases j with _ | _ | j
            · simp at hd; subst hd
              rw [Array.getElem?_setIfInBounds_self_of_lt (by omega)] at hu
              cases hu
              exact ⟨rfl, .ptr _ _ _ hb⟩
            · rw [Array.getElem?_setIfInBounds_ne (by omega)] at hu
              exact hc 1 d u hd hu
            · simp at hd)
           exact ⟨ι, Z, e1, m1, _, rfl, .tup _ _ rfl fun i d u hd hu => by simp at hd⟩
         · rename_i i
           split at hr
           · rename_i hi
             subst hi
             cases hr
             have hp : c[0] = .pointer (some ⟨b, 0, none⟩) := by
              generalize c[0] = q at h0
              obtain ⟨b', hb', rfl⟩ := ptr_at h0
              rw [hb] at hb'; cases hb'; rfl
             refine (chk_used b w (by rw [hcell, hp])).mono ?_
             rintro e w' ⟨rfl, rfl⟩
             exact ⟨ι, Z, .refl _ _ _, hM, _, rfl, .tup _ _ rfl fun i d u hd hu => by simp at hd⟩
           · cases hr
         · cases hr
       · cases hr
     · cases hr
   · cases hr
 · cases hr
theorem cellsU8 : Tryz.prog.cellsOf 5 = 1 := by kernel_rfl
theorem str_full (b g n cap sz : Nat) (l : List UInt8) (w : World) (hn : n = l.length) (h0 : l ≠ []) (hc1 : w.cell? ⟨b, 1, none⟩ = some (.slice (some ⟨g, 0, none⟩) n cap)) (hcap : cap ≠ 0) (hmax : n ≤ 140737488355328) (hsh : w.shape? g = some (5, sz)) (hsz : n ≤ sz)
    (hb : ∀ (j : Nat) (x : UInt8), l[j]? = some x → w.cell? ((⟨g, 0, none⟩ : Addr).add j) = some (.int .u8 x.toNat)) :
    Calls Tryz.prog 25 #[.pointer (some ⟨b, 0, none⟩)] w fun e w' => e = .returned (.string ⟨l.toArray⟩) ∧ w' = w.drew.freeze ⟨g, 0, none⟩ n := by
 have c1 : w.drew.cell? ⟨b, 1, none⟩ = some (.slice (some ⟨g, 0, none⟩) n cap) := hc1
 have hSD : (Builtin.unsafeSliceData_ #[74] 116 #[.slice (some ⟨g, 0, none⟩) n cap]).run Tryz.prog w.drew = .ok (.pointer (some ⟨g, 0, none⟩)) w.drew :=
  Lib.run_unsafeSliceData_row _ _ _ _ _ _ hcap
 have hUS : (Builtin.unsafeString_ #[116, 3] 9 #[.pointer (some ⟨g, 0, none⟩), .int .i64 n]).run Tryz.prog w.drew = .ok (.string ⟨l.toArray⟩) (w.drew.freeze ⟨g, 0, none⟩ n) := by
  subst hn
  exact Lib.run_unsafeString_row w.drew 116 3 9 5 Tryz.underlying116 cellsU8 g sz hsh l h0 hsz (by omega) hb
 clear hb hsh hsz h0 hn hmax hcap
 go_enter Tryz.func25, Tryz.ntmps25
 go_wp2
 go_region
 all_goals (go_wp2; go_ret; exact ⟨rfl, rfl⟩)
def primString (args : List AV) (σ : Sto) : Option (ARes × Sto) :=
 match args with
 | [.ptr id 0] =>
  match σ[id]? with
  | some (.cells [_, .asl g 0 n 1] T) =>
   if bldT T = true ∧ 0 < n ∧ n ≤ 140737488355328 then
    (match σ[g]? with
    | some (.cells cs U) | some (.buf cs U) => if U = 5 ∧ n ≤ cs.length then (bytesAV (cs.take n)).map fun l => (.ret (.lit (.string ⟨l.toArray⟩)), σ.set g (.buf cs U)) else none
    | _ => none)
   else none
  | _ => none
 | _ => none
theorem primString_sound : CallSound Tryz.prog fun f args σ => if f = 25 then primString args σ else none := by
 intro f args σ r σ' hr ι Z w us hM hl hargs
 dsimp only at hr
 split at hr
 · rename_i e
   subst e
   unfold primString at hr
   split at hr
   · rename_i id
     split at hr
     · rename_i a g n T hσ
       split at hr
       · rename_i hcond
         obtain ⟨hT, hn0, hnm⟩ := hcond
         obtain ⟨u, rfl⟩ := one_arg hl
         have hu := hargs 0 _ u rfl rfl
         obtain ⟨b, hb, rfl⟩ := ptr_at hu
         obtain ⟨c, hheap, hlen, hc, hz⟩ := hM.obj id _ b hσ hb
         simp at hlen
         have hc1 := Array.getElem?_eq_getElem (show 1 < c.size by omega)
         have hcell : w.cell? ⟨b, 1, none⟩ = some c[1] := by simp [World.cell?, hheap]
         have h1 := (hc 1 _ _ rfl hc1).2
         generalize c[1] = q at h1 hcell
         obtain ⟨gb, cap, rfl, hg, hncap, hmx, hcz⟩ := asl_at h1
         have go : ∀ (o0 : AObj) (cs : List AV) (l : List UInt8), σ[g]? = some o0 → (o0 = .cells cs 5 ∨ o0 = .buf cs 5) → n ≤ cs.length → bytesAV (cs.take n) = some l → r = .ret (.lit (.string ⟨l.toArray⟩)) → σ' = σ.set g (.buf cs 5) →
             (callFunc 25 #[.pointer (some ⟨b, 0, none⟩)]).run Tryz.prog w = .ok (.enter 25 #[.pointer (some ⟨b, 0, none⟩)]) w ∧ Calls Tryz.prog 25 #[.pointer (some ⟨b, 0, none⟩)] w fun e w' => ∃ ι' Z', Evo ι Z w ι' Z' w' ∧ Match σ' ι' Z' w' ∧ ERel ι' Z' w' r e := by
          intro o0 cs l ho0 ho hnl hby hr hσ'
          subst hr; subst hσ'
          obtain ⟨cg, fz, hgheap, hglen, hgc⟩ : ∃ (c : Array Value) (fz : Nat × Nat), w.heap[gb]? = some (.cells c 5 fz) ∧ cs.length ≤ c.size ∧ ∀ (j : Nat) (d : AV) (u : Value), cs[j]? = some d → c[j]? = some u → d.one = true ∧ VR ι Z w d u := by
           rcases ho with rfl | rfl
           · obtain ⟨c, h1, h2, h3, _⟩ := hM.obj g _ gb ho0 hg; exact ⟨c, (0, 0), h1, h2, h3⟩
           · obtain ⟨c, fz, h1, h0, h2, h3, _⟩ := hM.obj g _ gb ho0 hg; exact ⟨c, fz, h1, h2, h3⟩
          have hll := bytesAV_len hby
          rw [List.length_take, Nat.min_eq_left hnl] at hll
          refine ⟨Tryz.call25 _ _, (str_full b gb n cap cg.size l w hll.symm (fun e => by rw [e] at hll; simp at hll; omega) hcell (by omega) hnm (by simp [World.shape?, hgheap]) (by omega) fun j x hx => ?_).mono ?_⟩
          · have hcj := bytesAV_get hby j x hx
            rw [List.getElem?_take] at hcj
            split at hcj
            · rename_i hj
              have hjc := Array.getElem?_eq_getElem (show j < cg.size by omega)
              have := (hgc j _ _ hcj hjc).2
              rw [Addr.add_lit, Nat.zero_add]
              simp only [World.cell?, hgheap]
              rw [hjc]
              generalize cg[j] = q at this
              cases this; rfl
            · cases hcj
          · rintro e w' ⟨rfl, rfl⟩
            obtain ⟨e1, m1⟩ := hM.drew.freeze ho0 ho hg (show n ≠ 0 by omega) hnl
            exact ⟨ι, Z, (Evo.drew ι Z w).trans e1, m1, _, rfl, .lit _ rfl⟩
         split at hr
         · rename_i cs U hg0
           split at hr
           · rename_i hU
             obtain ⟨rfl, hnl⟩ := hU
             rw [Option.map_eq_some_iff] at hr
             obtain ⟨l, hl1, hl2⟩ := hr
             cases hl2
             exact go _ cs l hg0 (.inl rfl) hnl hl1 rfl rfl
           · cases hr
         · rename_i cs U hg0
           split at hr
           · rename_i hU
             obtain ⟨rfl, hnl⟩ := hU
             rw [Option.map_eq_some_iff] at hr
             obtain ⟨l, hl1, hl2⟩ := hr
             cases hl2
             exact go _ cs l hg0 (.inr rfl) hnl hl1 rfl rfl
           · cases hr
         · cases hr
       · cases hr
     · cases hr
   · cases hr
 · cases hr
end
section
set_option maxRecDepth 100000
open Go.RowKit
structure AsIf (w w' : World) : Prop where
 heap : w'.heap = w.heap
 os : w'.os = w.os
 tape : w'.tape = w.tape
 output : w'.output = w.output
section
variable {ι : List Nat} {Z : Nat → Nat → Prop} {w w' : World} {σ : Sto}
theorem AsIf.refl (w : World) : AsIf w w := ⟨rfl, rfl, rfl, rfl⟩
theorem AsIf.trans {w w' w'' : World} (h : AsIf w w') (g : AsIf w' w'') : AsIf w w'' := ⟨g.heap.trans h.heap, g.os.trans h.os, g.tape.trans h.tape, g.output.trans h.output⟩
theorem AsIf.evo (h : AsIf w w') (ι : List Nat) (Z : Nat → Nat → Prop) : Evo ι Z w ι Z w' :=
 ⟨fun _ _ h => h, fun id _ h _ => ⟨id, h⟩, fun _ _ h => h, fun b j _ => World.cell?_of_block (by rw [h.heap]), fun b _ => by unfold cellsz; rw [h.heap], by rw [h.heap]; exact Nat.le_refl _, fun b _ _ => by rw [h.heap], h.os, h.tape, h.output, fun _ _ h _ => .inl h, fun id b h => .inr ⟨id, h⟩⟩
theorem AsIf.match (h : AsIf w w') (hM : Match σ ι Z w) : Match σ ι Z w' := hM.same (h.evo ι Z) fun _ _ _ => by rw [h.heap]
end
theorem grow_fresh (b n : Nat) (a : Option Addr) (w : World) (hb : b < w.heap.size) (hc1 : w.cell? ⟨b, 1, none⟩ = some (.slice a 0 0)) (hfz : w.frozen? ⟨b, 1, none⟩ = false) (hn : n ≤ 140737488355328) :
    Calls Tryz.prog 44 #[.pointer (some ⟨b, 0, none⟩), .int .i64 n] w fun e w' => e = .returned (.tuple #[]) ∧ ∃ cs : Array Value, n ≤ cs.size ∧ cs.size ≤ maxLen ∧ AsIf ((w.setCell ⟨b, 1, none⟩ (.slice (some ⟨w.heap.size, 0, none⟩) 0 cs.size)).alloc (.cells cs 5)) w' := by
 obtain ⟨cs, hrun, hle, hmax⟩ := Lib.run_makeNoZero (P := Tryz.prog) w.drew #[3] 74 5 Tryz.underlying74 n (by omega)
 have hw : IntKind.i64.wrap (IntKind.i64.wrap 0 + (n : Int)) = n := by
  rw [IntKind.wrap_i64, IntKind.wrap_i64]
  omega
 have hcall : (callFunc 72 #[.int .i64 (IntKind.i64.wrap (IntKind.i64.wrap 0 + (n : Int)))]).run Tryz.prog w.drew = .ok (.value (.slice (some ⟨w.drew.heap.size, 0, none⟩) n cs.size)) (w.drew.drew.drew.alloc (.cells cs 5)) := by
  rw [hw, run_callFunc_extern Tryz.func72 (by kernel_rfl) (by kernel_rfl) (by kernel_rfl) (e := Extern.BytealgMakeNoZero.makeNoZero #[3] #[74]) (by kernel_rfl), hrun]
  rfl
 have c1 : w.drew.cell? ⟨b, 1, none⟩ = some (.slice a 0 0) := hc1
 have c2 : (w.alloc (.cells cs 5)).cell? ⟨b, 1, none⟩ = some (.slice a 0 0) := by rw [cell_alloc w _ b 1 hb]; exact hc1
 have f2 : (w.alloc (.cells cs 5)).frozen? ⟨b, 1, none⟩ = false := by
  have : (w.alloc (.cells cs 5)).heap[b]? = w.heap[b]? := Below.heap_alloc _ _ _ hb
  unfold World.frozen? at hfz ⊢
  simp only [this]
  exact hfz
 have hsz : (Tryz.prog.info? 5).map (·.size) = some 1 := by kernel_rfl
 have hcopy : ∀ W : World, (Builtin.copy_ #[74, 74] 3 #[.slice (some ⟨w.heap.size, 0, none⟩) 0 cs.size, .slice a 0 0]).run Tryz.prog W = .ok (goInt 0) W :=
  fun W => run_copy_none W 74 74 3 5 _ _ 0 cs.size 0 0 Tryz.underlying74 hsz rfl
 have hmx := hmax (by unfold maxLen; omega)
 have hfin : ∀ W : World, AsIf ((w.setCell ⟨b, 1, none⟩ (.slice (some ⟨w.heap.size, 0, none⟩) 0 cs.size)).alloc (.cells cs 5)) W → ∃ cs : Array Value, n ≤ cs.size ∧ cs.size ≤ maxLen ∧ AsIf ((w.setCell ⟨b, 1, none⟩ (.slice (some ⟨w.heap.size, 0, none⟩) 0 cs.size)).alloc (.cells cs 5)) W :=
  fun W h => ⟨cs, hle, hmx, h⟩
 clear hw hc1 hfz
 have mixed : Tryz.prog.follows .mixedOrders = true := by kernel_rfl
 go_enter Tryz.func44, Tryz.ntmps44
 go_wp2
 go_region_o
 all_goals (go_wp2; go_end0; exact ⟨rfl, hfin _ ⟨rfl, rfl, rfl, rfl⟩⟩)
end
section
set_option maxRecDepth 100000
open Go.RowKit
theorem AsIf.alloc {w w' : World} (h : AsIf w w') (x : Obj) : AsIf (w.alloc x) (w'.alloc x) := ⟨by show w'.heap.push x = w.heap.push x; rw [h.heap], h.os, h.tape, h.output⟩
theorem AsIf.setCell {w w' : World} (h : AsIf w w') (p : Addr) (v : Value) : AsIf (w.setCell p v) (w'.setCell p v) := ⟨by unfold World.setCell; simp only [h.heap], h.os, h.tape, h.output⟩
def Grew (w : World) (b n : Nat) (w' : World) : Prop :=
 (n = 0 ∧ AsIf (w.setCell ⟨b, 0, none⟩ (.pointer (some ⟨b, 0, none⟩))) w') ∨
 ∃ cs : Array Value, 0 < n ∧ n ≤ cs.size ∧ cs.size ≤ maxLen ∧ AsIf (((w.setCell ⟨b, 0, none⟩ (.pointer (some ⟨b, 0, none⟩))).setCell ⟨b, 1, none⟩ (.slice (some ⟨w.heap.size, 0, none⟩) 0 cs.size)).alloc (.cells cs 5)) w'
theorem Grow_fresh (b n sz : Nat) (a : Option Addr) (w : World) (hsz : 2 ≤ sz) (hb : b < w.heap.size) (h0 : w.cell? ⟨b, 0, none⟩ = some (.pointer none)) (hc1 : w.cell? ⟨b, 1, none⟩ = some (.slice a 0 0)) (hfz : ∀ i, w.frozen? ⟨b, i, none⟩ = false) (hsh : w.shape? b = some (76, sz)) (hn : n ≤ 140737488355328) :
    Calls Tryz.prog 22 #[.pointer (some ⟨b, 0, none⟩), .int .i64 n] w fun e w' => e = .returned (.tuple #[]) ∧ Grew w b n w' := by
 have hset : (w.setCell ⟨b, 0, none⟩ (.pointer (some ⟨b, 0, none⟩))).heap.size = w.heap.size := by simp [World.setCell]
 have c1 : (w.setCell ⟨b, 0, none⟩ (.pointer (some ⟨b, 0, none⟩))).cell? ⟨b, 1, none⟩ = some (.slice a 0 0) := by
  rw [World.cell?_setCell_other (h := (show (⟨b, 0, none⟩ : Addr) ≠ ⟨b, 1, none⟩ by intro e; cases e))]; exact hc1
 have c1' : (w.setCell ⟨b, 0, none⟩ (.pointer (some ⟨b, 0, none⟩))).drew.cell? ⟨b, 1, none⟩ = some (.slice a 0 0) := c1
 have f1 : (w.setCell ⟨b, 0, none⟩ (.pointer (some ⟨b, 0, none⟩))).drew.frozen? ⟨b, 1, none⟩ = false := by
  show (w.setCell ⟨b, 0, none⟩ (.pointer (some ⟨b, 0, none⟩))).frozen? ⟨b, 1, none⟩ = false
  rw [World.frozen?_setCell]; exact hfz 1
 have hn0 : ¬ (n : Int) < 0 := by omega
 have mixed : Tryz.prog.follows .mixedOrders = true := by kernel_rfl
 go_enter Tryz.func22, Tryz.ntmps22
 go_wp2_with fail
 refine (chk_fresh 76 sz (by omega) (lies_builderE _ hsz) b w h0 (hfz 0) hsh).mono ?_
 rintro e w' ⟨rfl, rfl⟩
 dsimp only
 go_wp2_with fail
 go_region_o
 all_goals go_wp2_with fail
 · refine (grow_fresh b n a (w.setCell ⟨b, 0, none⟩ (.pointer (some ⟨b, 0, none⟩))).drew (by simpa [World.setCell] using hb) c1' f1 hn).mono ?_
   rintro e w' ⟨rfl, cs, h1, h2, h3⟩
   dsimp only
   go_wp2_with fail
   go_end0
   refine ⟨rfl, .inr ⟨cs, by omega, h1, h2, ?_⟩⟩
   have hs : (w.setCell ⟨b, 0, none⟩ (.pointer (some ⟨b, 0, none⟩))).drew.heap.size = w.heap.size := hset
   rw [hs] at h3
   exact (show AsIf (((w.setCell ⟨b, 0, none⟩ (.pointer (some ⟨b, 0, none⟩))).setCell ⟨b, 1, none⟩ (.slice (some ⟨w.heap.size, 0, none⟩) 0 cs.size)).alloc (.cells cs 5)) (((w.setCell ⟨b, 0, none⟩ (.pointer (some ⟨b, 0, none⟩))).drew.setCell ⟨b, 1, none⟩ (.slice (some ⟨w.heap.size, 0, none⟩) 0 cs.size)).alloc (.cells cs 5)) from ⟨rfl, rfl, rfl, rfl⟩).trans h3
 · go_end0
   exact ⟨rfl, .inl ⟨by omega, rfl, rfl, rfl, rfl⟩⟩
def primGrow (args : List AV) (σ : Sto) : Option (ARes × Sto) :=
 match args with
 | [.ptr id 0, .lit (.int .i64 n)] =>
  match σ[id]? with
  | some (.cells [.lit (.pointer none), .sl [] .full] T) =>
   if T = 76 ∧ 0 ≤ n ∧ n ≤ 140737488355328 then
    (if n = 0 then some (.ret (.tup []), σ.set id (.cells [.ptr id 0, .sl [] .full] T))
    else some (.ret (.tup []), σ.set id (.cells [.ptr id 0, .asl σ.length 0 0 1] T) ++ [.cells [] 5]))
   else none
  | _ => none
 | _ => none
theorem two_args {us : Array Value} {d e : AV} (h : [d, e].length = us.size) : ∃ u v, us = #[u, v] := ⟨us[0]'(by simp at h; omega), us[1]'(by simp at h; omega), by
 apply Array.ext
 · simp at h; simp; omega
 · intro i h1 h2
   simp at h2
   rcases i with _ | _ | i
   · rfl
   · rfl
   · omega⟩
theorem primGrow_sound : CallSound Tryz.prog fun f args σ => if f = 22 then primGrow args σ else none := by
 intro f args σ r σ' hr ι Z w us hM hl hargs
 dsimp only at hr
 split at hr
 · rename_i e
   subst e
   unfold primGrow at hr
   split at hr
   · rename_i id n
     split at hr
     · rename_i T hσ
       split at hr
       · rename_i hcond
         obtain ⟨rfl, hn0, hnm⟩ := hcond
         obtain ⟨u, u2, rfl⟩ := two_args hl
         have hu := hargs 0 _ u rfl rfl
         have hu2 := hargs 1 _ u2 rfl rfl
         obtain ⟨b, hb, rfl⟩ := ptr_at hu
         cases hu2
         obtain ⟨m, rfl⟩ : ∃ m : Nat, n = m := ⟨n.toNat, by omega⟩
         obtain ⟨c, hheap, hlen, hc, hz⟩ := hM.obj id _ b hσ hb
         simp at hlen
         have hc0 := Array.getElem?_eq_getElem (show 0 < c.size by omega)
         have hc1 := Array.getElem?_eq_getElem (show 1 < c.size by omega)
         have h0 := (hc 0 _ _ rfl hc0).2
         have h1 := (hc 1 _ _ rfl hc1).2
         have cell0 : w.cell? ⟨b, 0, none⟩ = some c[0] := by simp [World.cell?, hheap]
         have cell1 : w.cell? ⟨b, 1, none⟩ = some c[1] := by simp [World.cell?, hheap]
         have p0 : c[0] = .pointer none := by generalize c[0] = q at h0; cases h0; rfl
         obtain ⟨a, p1⟩ : ∃ a, c[1] = .slice a 0 0 := by
          generalize c[1] = q at h1
          cases h1 with
          | nils a cc tok g1 g2 =>
           rcases g2 with g2 | ⟨_, g2⟩
           · cases g2
           · exact ⟨a, by rw [g2]⟩
          | sl b' o' n' c' k es tok U g1 g2 => simp at g1; omega
         have hbl : b < w.heap.size := (Array.getElem?_eq_some_iff.1 hheap).1
         refine ⟨Tryz.call22 _ _, (Grow_fresh b m c.size a w hlen hbl (by rw [cell0, p0]) (by rw [cell1, p1]) (fun i => by simp [World.frozen?, hheap]) (by simp [World.shape?, hheap]) (by omega)).mono ?_⟩
         rintro e w' ⟨rfl, hg⟩
         rcases hg with ⟨rfl, hA⟩ | ⟨cs, hm, hle, hmx, hA⟩
         · rw [if_pos (by rfl)] at hr
           cases hr
           rw [setCell_row _ hheap] at hA
           obtain ⟨e1, m1⟩ := hM.setCells (cs := [.ptr id 0, .sl [] .full]) (c := c.setIfInBounds 0 (.pointer (some ⟨b, 0, none⟩))) hσ hb hheap (by simp) (by simp; omega) (fun j d u hd hu => by
            rcases j with _ | _ | j
            · simp at hd; subst hd
              rw [Array.getElem?_setIfInBounds_self_of_lt (by omega)] at hu
              cases hu
              exact ⟨rfl, .ptr _ _ _ hb⟩
            · rw [Array.getElem?_setIfInBounds_ne (by omega)] at hu
              exact hc 1 d u hd hu
            · simp at hd)
           exact ⟨ι, Z, e1.trans (hA.evo ι Z), hA.match m1, _, rfl, .tup _ _ rfl fun i d u hd hu => by simp at hd⟩
         · rw [if_neg (by omega)] at hr
           cases hr
           -- first the new block, then the two cells
           have heq : ((w.setCell ⟨b, 0, none⟩ (.pointer (some ⟨b, 0, none⟩))).setCell ⟨b, 1, none⟩ (.slice (some ⟨w.heap.size, 0, none⟩) 0 cs.size)).alloc (.cells cs 5) = ((w.alloc (.cells cs 5)).setCell ⟨b, 0, none⟩ (.pointer (some ⟨b, 0, none⟩))).setCell ⟨b, 1, none⟩ (.slice (some ⟨w.heap.size, 0, none⟩) 0 cs.size) := by
            rw [World.setCell_alloc_past (hn := hbl), World.setCell_alloc_past (hn := by simpa [World.setCell] using hbl)]
           rw [heq] at hA
           obtain ⟨e0, m0⟩ := hM.newCells [] cs 5 (by simp) (fun j d u hd hu => by simp at hd)
           have hheap1 : (w.alloc (.cells cs 5)).heap[b]? = some (.cells c 76 (0, 0)) := by rw [Below.heap_alloc _ _ _ hbl]; exact hheap
           have hil := (List.getElem?_eq_some_iff.1 hσ).1
           have hσ1 : (σ ++ [.cells [] 5])[id]? = some (.cells [.lit (.pointer none), .sl [] .full] 76) := by rw [List.getElem?_append_left hil]; exact hσ
           have hb1 : (ι ++ [w.heap.size])[id]? = some b := by rw [List.getElem?_append_left (by rw [hM.len]; exact hil)]; exact hb
           rw [setCell_row _ hheap1] at hA
           have hheap2 := setRow_heap (w.alloc (.cells cs 5)) b c (c.setIfInBounds 0 (.pointer (some ⟨b, 0, none⟩))) 76 (0, 0) hheap1
           rw [setCell_row _ hheap2] at hA
           rw [setRow_setRow] at hA
           obtain ⟨e1, m1⟩ := m0.setCells (cs := [.ptr id 0, .asl σ.length 0 0 1]) (c := (c.setIfInBounds 0 (.pointer (some ⟨b, 0, none⟩))).setIfInBounds 1 (.slice (some ⟨w.heap.size, 0, none⟩) 0 cs.size)) hσ1 hb1 hheap1 (by simp) (by simp; omega) (fun j d u hd hu => by
            rcases j with _ | _ | j
            · simp at hd; subst hd
              rw [Array.getElem?_setIfInBounds_ne (by omega), Array.getElem?_setIfInBounds_self_of_lt (by omega)] at hu
              cases hu
              exact ⟨rfl, .ptr _ _ _ hb1⟩
            · simp at hd; subst hd
              rw [Array.getElem?_setIfInBounds_self_of_lt (by simp; omega)] at hu
              cases hu
              refine ⟨rfl, .asl _ _ _ _ cs.size w.heap.size (by rw [← hM.len]; simp) (Nat.zero_le _) hmx ?_⟩
              unfold cellsz
              rw [heap_alloc_new]
              simp
            · simp at hd)
           have hset : (σ ++ [AObj.cells [] 5]).set id (.cells [.ptr id 0, .asl σ.length 0 0 1] 76) = σ.set id (.cells [.ptr id 0, .asl σ.length 0 0 1] 76) ++ [.cells [] 5] := List.set_append_left _ _ hil
           rw [hset] at m1
           exact ⟨_, Z, (e0.trans e1).trans (hA.evo _ Z), hA.match m1, _, rfl, .tup _ _ rfl fun i d u hd hu => by simp at hd⟩
       · cases hr
     · cases hr
   · cases hr
 · cases hr
end
section
set_option maxRecDepth 100000
open Go.RowKit
def primR (f : FuncId) : Option (List AV → Sto → Option (ARes × Sto)) :=
 if f = 43 then some primCheck else if f = 25 then some primString else if f = 22 then some primGrow else none
noncomputable def ER : Env := { code := codeP Tryz.prog, prim := primR, ms := fun f => if f = 23 then [74] else [] }
theorem ER_ok : EnvOk Tryz.prog ER := {
 code := fun f fn h => codeP_ok f fn h
 prim := fun f g h => by
  have h : primR f = some g := h
  unfold primR at h
  split at h
  · rename_i e; cases h; subst e; exact primCheck_sound
  · split at h
    · rename_i e; cases h; subst e; exact primString_sound
    · split at h
      · rename_i e; cases h; subst e; exact primGrow_sound
      · cases h }
def zs (n : Nat) : ByteArray := ⟨(List.replicate n 122).toArray⟩
def isZ (n : Nat) : Option (ARes × Sto) → Bool
 | some (.ret (.lit (.string s)), _) => s.data.toList == List.replicate n 122
 | _ => false
theorem isZ_of {n : Nat} {o : Option (ARes × Sto)} (h : isZ n o = true) : ∃ τ, o = some (.ret (.lit (.string (zs n))), τ) := by
 unfold isZ at h
 split at h
 · rename_i s τ
   refine ⟨τ, ?_⟩
   have h := eq_of_beq h
   have e : s = zs n := ByteArray.ext (by show s.data = (List.replicate n 122).toArray; rw [← h])
   rw [e]
 · cases h
theorem rep40 : isZ 40 (evCall Tryz.prog ER 30 5 [.lit (.string ⟨#[122]⟩), .lit (.int .i64 40)] []) = true := by decide +kernel
theorem rep30 : isZ 30 (evCall Tryz.prog ER 30 5 [.lit (.string ⟨#[122]⟩), .lit (.int .i64 30)] []) = true := by decide +kernel
def primRepeat (args : List AV) (σ : Sto) : Option (ARes × Sto) :=
 match args with
 | [.lit (.string s), .lit (.int .i64 c)] => if s.data.toList = [122] ∧ (c = 40 ∨ c = 30) then some (.ret (.lit (.string (zs c.toNat))), σ) else none
 | _ => none
theorem VR.noIds {ι : List Nat} {Z : Nat → Nat → Prop} {w : World} {l : List Value} {o : Nat} {u : Value} (h : VR ι Z w (.eptr (l.map .lit) o) u) : VR [] Z w (.eptr (l.map .lit) o) u := by
 generalize hr : l.map AV.lit = row at h
 cases h with
 | eptr _ _ b o U g1 g2 =>
  refine .eptr row _ b _ U g1 fun j d hd => ?_
  have h2 := g2 j d hd
  rw [← hr, List.getElem?_map] at hd
  obtain ⟨v, _, rfl⟩ := Option.map_eq_some_iff.1 hd
  generalize U j = x at h2
  cases h2 with
  | lit _ h3 => exact .lit _ h3
theorem run_forget {f : FuncId} {args : List AV} {n : Nat} {v : Value} {τ : Sto} {us : Array Value} {σ : Sto} {ι : List Nat} {Z : Nat → Nat → Prop} {w : World} (hv : scal v = true) (h : evCall Tryz.prog ER n f args [] = some (.ret (.lit v), τ)) (hM : Match σ ι Z w) (hl : args.length = us.size)
    (hargs : ∀ (i : Nat) (d : AV) (u : Value), args[i]? = some d → us[i]? = some u → VR [] Z w d u) :
    (callFunc f us).run Tryz.prog w = .ok (.enter f us) w ∧ Calls Tryz.prog f us w fun e w' => ∃ ι' Z', Evo ι Z w ι' Z' w' ∧ Match σ ι' Z' w' ∧ ERel ι' Z' w' (.ret (.lit v)) e := by
 have M0 : Match [] [] Z w := ⟨rfl, fun id o b h => by simp at h, fun i j b o p h => by simp at h, hM.zlt, fun g l hg => ⟨(hM.glob g l hg).1.noIds, (hM.glob g l hg).2⟩, fun id b h => by simp at h⟩
 obtain ⟨h1, h2⟩ := evCall_sound (by kernel_rfl) ER_ok n f args [] _ τ h [] Z w us M0 hl hargs
 refine ⟨h1, h2.mono fun e w' hx => ?_⟩
 obtain ⟨ι', Z', hEv, hM', hR⟩ := hx
 obtain ⟨u, rfl, hu⟩ := hR
 cases hu
 have hb : Below w.heap.size w w' := ⟨hEv.os, hEv.tape, hEv.output, hEv.size, fun k hk => hEv.keep k hk fun id h => by simp at h⟩
 exact ⟨ι, Z, Evo.ofBelow hM hb, hM.below hb, _, rfl, .lit _ hv⟩
theorem primRepeat_sound : CallSound Tryz.prog fun f args σ => if f = 5 then primRepeat args σ else none := by
 intro f args σ r σ' hr ι Z w us hM hl hargs
 dsimp only at hr
 split at hr
 · rename_i e
   subst e
   unfold primRepeat at hr
   split at hr
   · rename_i s c
     split at hr
     · rename_i hc
       cases hr
       obtain ⟨h0, h1⟩ := hc
       have hs : s = ⟨#[122]⟩ := ByteArray.ext (by show s.data = #[122]; rw [← Array.toArray_toList (xs := s.data), h0])
       subst hs
       have key : ∃ τ, evCall Tryz.prog ER 30 5 [.lit (.string ⟨#[122]⟩), .lit (.int .i64 c)] [] = some (.ret (.lit (.string (zs c.toNat))), τ) := by
        rcases h1 with rfl | rfl
        · exact isZ_of rep40
        · exact isZ_of rep30
       obtain ⟨τ, hτ⟩ := key
       refine run_forget rfl hτ hM hl fun i d u hd hu => ?_
       have h2 := hargs i d u hd hu
       rcases i with _ | _ | i
       · simp at hd; subst hd; cases h2; exact .lit _ rfl
       · simp at hd; subst hd; cases h2; exact .lit _ rfl
       · simp at hd
     · cases hr
   · cases hr
 · cases hr
end
section
open Go.RowKit
def kLe (s : ByteArray) : Trm := .mk 9 ⟨#[]⟩ false [] [kV s, kV ⟨#[118]⟩]
def yFun (a b : ByteArray) : Ty := .mk true ⟨#[]⟩ (kLe a) [.mk a (yInts b), .mk b (yInts a)] [yInts b]
def rLam (a b : ByteArray) : Rhs := .mk 4 ⟨#[]⟩ [aV a] [.mk b (yFun a b), .mk a (yInts b)] [yInts a] [eLet a (yFun a b) (rOne a) (eRet (aV a)), eRet (aV b)] [kLe a]
def eMatch (a b : ByteArray) : Exp := .mk 4 ⟨#[]⟩ [] [] (aV a) [.mk a [a, b, a] [eRet (aV a)], .mk b [] [eRet (aV b)]] []
def eOdd (a b : ByteArray) : Exp := .mk 9 a [yFun a b] [rLam a b, rOne b] (aV b) [] [eMatch a b, eRet (aV a)]
def fBig (a b : ByteArray) : Fun := .mk a [.mk a (yFun a b), .mk b (yInts a)] (yInts b) (eLet b (yInts b) (rLam a b) (eOdd a b))
abbrev eNo : Exp := .mk 0 ⟨#[]⟩ [] [] (.mk 0 ⟨#[]⟩ false [] false) [] []
def fOdd (a b : ByteArray) : Fun := .mk ⟨#[]⟩ [] yNo (eOdd a b)
def yFlat : Ty := .mk false tInt (.mk 0 ⟨#[]⟩ false [] []) [.mk tX (yInts tX)] [yInts tX]
def fFlat : Fun := .mk ⟨#[]⟩ [.mk tX yFlat, .mk tX yFlat] yFlat eNo
def fNo : Fun := .mk ⟨#[]⟩ [] yNo eNo
theorem sm9_of {u : List ByteArray} {f : Fun} (hu : txtW u ≤ 1000000) (hf : f.w ≤ 1000000) : Sm9 (u, f) := by
 have hun : u.length ≤ 1000000 := Nat.le_trans (txtW_len u) hu
 have hfn : f.n ≤ 1000000 := Nat.le_trans f.n_leW hf
 have hbl := bl_F f
 have hbn : (bF f).length ≤ 1000000 := Nat.le_trans hbl.1 hf
 have an := (anew_F (F := NFp) u f).len
 have hgw := renF_w u f (by omega)
 have hgn := (renF NFp u f).1.n_leW
 exact ⟨⟨by show f.n ≤ _; omega, by show u.length + (bF f).length ≤ _; omega, fun s hs => Nat.le_trans (hbl.2 s hs) (by show f.w ≤ _; omega)⟩, by show (renF NFp u f).1.n ≤ _; omega, by show (renF NFp u f).2.length ≤ _; rw [an]; omega⟩
theorem sm9_N {u : List ByteArray} {f : Fun} {N : Nat} (h : Sm9 (u, f)) (hN : 160000000000000 ≤ N) : 16 * (f.n + (renF NFp u f).1.n + (renF NFp u f).2.length) + 12 < N := by
 have h1 : f.n ≤ 1000000000 := h.ok.n
 have h2 : (renF NFp u f).1.n ≤ 1000000000 := h.n
 have h3 : (renF NFp u f).2.length ≤ 1000000000 := h.l
 omega
theorem tW_len : ∀ {l : List ByteArray} {k : Nat}, (∀ s ∈ l, s.size ≤ k) → txtW l ≤ (1 + k) * l.length
 | [], k, _ => Nat.le_refl _
 | s :: l, k, h => by
  have h1 := h s (by simp)
  have h2 := tW_len (l := l) (k := k) fun x hx => h x (by simp [hx])
  simp only [txtW, List.length_cons, Nat.mul_add, Nat.mul_one]; omega
theorem z0 : (⟨#[]⟩ : ByteArray).size = 0 := rfl
theorem zI : (⟨#[105, 110, 116]⟩ : ByteArray).size = 3 := rfl
theorem zv : (⟨#[118]⟩ : ByteArray).size = 1 := rfl
theorem kLe_w (s : ByteArray) : (kLe s).w ≤ 100 + s.size := by simp [kLe, Trm.w, trmW, rgW, z0, zI, zv]; omega
theorem yInts_w (s : ByteArray) : (yInts s).w ≤ 200 + s.size := by simp [Ty.w, prmW, tyW, Trm.w, trmW, rgW, z0, zI, zv]; omega
theorem yFun_w {a b : ByteArray} (ha : a.size ≤ 60) (hb : b.size ≤ 60) : (yFun a b).w ≤ 2000 := by
 have h1 := yInts_w a; have h2 := yInts_w b; have h3 := kLe_w a
 unfold yFun
 generalize yInts a = ya at *; generalize yInts b = yb at *; generalize kLe a = k at *
 simp [Ty.w, prmW, tyW, Prm.w, z0, zI, zv]; omega
theorem aV_w (s : ByteArray) : (aV s).w ≤ 5 + s.size := by simp [Atm.w, rgW]
theorem eRet_w (s : ByteArray) : (eRet (aV s)).w ≤ 50 + s.size := by simp [Exp.w, tyW, rhsW, armW, expW, Atm.w, rgW, z0, zI, zv]; omega
theorem rOne_w (s : ByteArray) : (rOne s).w ≤ 50 + s.size := by simp [Rhs.w, tyW, prmW, atmW, trmW, expW, Atm.w, rgW, z0, zI, zv]; omega
theorem eLet_w (s : ByteArray) (t : Ty) (r : Rhs) (e : Exp) : (eLet s t r e).w ≤ 50 + s.size + t.w + r.w + e.w := by simp [Exp.w, tyW, rhsW, armW, expW, Atm.w, rgW, z0, zI, zv]; omega
theorem rLam_w {a b : ByteArray} (ha : a.size ≤ 60) (hb : b.size ≤ 60) : (rLam a b).w ≤ 20000 := by
 have h1 := yInts_w a; have h2 := yInts_w b; have h3 := kLe_w a; have h4 := yFun_w ha hb; have h5 := eLet_w a (yFun a b) (rOne a) (eRet (aV a)); have h6 := rOne_w a; have h7 := eRet_w a; have h8 := eRet_w b; have h9 := aV_w a
 unfold rLam
 generalize eLet a (yFun a b) (rOne a) (eRet (aV a)) = e1 at *
 generalize yInts a = ya at *; generalize yInts b = yb at *; generalize kLe a = k at *; generalize yFun a b = yf at *; generalize eRet (aV b) = er at *; generalize aV a = av at *
 simp [Rhs.w, Ty.w, prmW, tyW, Prm.w, atmW, trmW, expW, rgW, z0, zI, zv]; omega
theorem eMatch_w {a b : ByteArray} (ha : a.size ≤ 60) (hb : b.size ≤ 60) : (eMatch a b).w ≤ 2000 := by
 have h7 := eRet_w a; have h8 := eRet_w b; have h9 := aV_w a
 unfold eMatch
 generalize eRet (aV b) = er at *; generalize eRet (aV a) = ea at *; generalize aV a = av at *
 simp [Exp.w, tyW, rhsW, armW, expW, Arm.w, txtW, rgW, z0, zI, zv]; omega
theorem eOdd_w {a b : ByteArray} (ha : a.size ≤ 60) (hb : b.size ≤ 60) : (eOdd a b).w ≤ 40000 := by
 have h4 := yFun_w ha hb; have h5 := rLam_w ha hb; have h6 := rOne_w b; have h7 := eRet_w a; have h8 := eMatch_w ha hb; have h9 := aV_w b
 unfold eOdd
 generalize yFun a b = yf at *; generalize rLam a b = rl at *; generalize rOne b = ro at *; generalize eRet (aV a) = er at *; generalize eMatch a b = em at *; generalize aV b = av at *
 simp [Exp.w, tyW, rhsW, armW, expW, rgW, z0, zI, zv]; omega
theorem fBig_w {a b : ByteArray} (ha : a.size ≤ 60) (hb : b.size ≤ 60) : (fBig a b).w ≤ 100000 := by
 have h1 := yInts_w a; have h2 := yInts_w b; have h4 := yFun_w ha hb; have h5 := rLam_w ha hb; have h6 := eOdd_w ha hb; have h7 := eLet_w b (yInts b) (rLam a b) (eOdd a b)
 unfold fBig
 generalize eLet b (yInts b) (rLam a b) (eOdd a b) = e1 at *
 generalize yFun a b = yf at *; generalize yInts a = ya at *; generalize yInts b = yb at *
 simp [Fun.w, prmW, Prm.w, z0, zI, zv]; omega
theorem fOdd_w {a b : ByteArray} (ha : a.size ≤ 60) (hb : b.size ≤ 60) : (fOdd a b).w ≤ 100000 := by
 have h6 := eOdd_w ha hb
 unfold fOdd
 generalize eOdd a b = e1 at *
 simp [Fun.w, Ty.w, prmW, tyW, Trm.w, trmW, rgW, z0, zI, zv]; omega
theorem fFlat_w : fFlat.w ≤ 100000 := by decide +kernel
theorem fNo_w : fNo.w ≤ 100000 := by decide +kernel
def scNames : List ByteArray := [tX, tY, ⟨#[]⟩, x1, ⟨#[120, 95]⟩, ⟨#[95, 49]⟩, ⟨#[120, 95, 49, 95, 50]⟩, ⟨#[120, 95, 97, 49]⟩, ⟨#[118]⟩, ⟨#[120, 95, 48, 49]⟩, zs 40, zs 30 ++ ⟨#[95, 51]⟩, ⟨#[102]⟩]
theorem scNames_size : ∀ s ∈ scNames, s.size ≤ 40 := by decide +kernel
end
end Go.Proofs.YteajcnilihgheaaGreatDoor
