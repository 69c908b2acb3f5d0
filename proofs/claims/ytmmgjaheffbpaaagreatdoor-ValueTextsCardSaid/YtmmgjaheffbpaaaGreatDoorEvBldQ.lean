/-
 EV: strings.Builder: copyCheck and String, taken on their contract; the other methods run.
-/
import Derived.Test.YtmmgjaheffbpaaaGreatDoorLentQ
import Derived.Test.YtmmgjaheffbpaaaGreatDoorWBaseQ
import Derived.Lib.Strings
import Derived.Lib.Builder
import Derived.Lib.AppendStr
import Derived.Lib.UnsafeStr
import Derived.WalkKit
import Derived.WalkSpells
import Derived.WalkLawsBesides
import Derived.Lib.Hide
import Derived.Lib.MakeNoZero
import Derived.Laws.IdiomCopy
import Derived.Laws.Externs
import Derived.Shelf.RegionOpenPlain
import Derived.Shelf.Pu.ParseUintPublic10
import Derived.Shelf.LaysM
import Derived.Shelf.Strconv.Itoa1
import Derived.Shelf.Strconv.Itoa2
import Derived.Ground.MpProg
import Derived.Test.YtmmgjaheffbpaaaGreatDoorProg
namespace Go.Proofs.YtmmgjaheffbpaaaGreatDoor
set_option linter.unusedSimpArgs false
set_option linter.unusedVariables false
set_option maxRecDepth 100000
open Go.RowKit
section
variable {P : Program} {ι : List Nat} {Z : Nat → Nat → Prop} {w : World} {σ : Sto}
theorem setCell_row {w : World} {b i : Nat} {c : Array Value} {T : TypeId} {fz : Nat × Nat} (v : Value) (h : w.heap[b]? = some (.cells c T fz)) : w.setCell ⟨b, i, none⟩ v = w.setRow b (c.setIfInBounds i v) := setCell_eq_setRow w b i c T fz v h
theorem freeze_heap {w : World} {g n : Nat} {c : Array Value} {T : TypeId} {fz : Nat × Nat} (h : w.heap[g]? = some (.cells c T fz)) (hn : n ≠ 0) : (w.freeze ⟨g, 0, none⟩ n).heap[g]? = some (.cells c T (if fz.1 == fz.2 then (0, 0 + n) else (min fz.1 0, max fz.2 (0 + n)))) := by
 unfold World.freeze
 rw [if_neg hn]
 simp [Array.getElem?_modify, h]
theorem freeze_other {w : World} {g n b : Nat} (hb : b ≠ g) : (w.freeze ⟨g, 0, none⟩ n).heap[b]? = w.heap[b]? := by
 unfold World.freeze
 split
 · rfl
 · simp only [Array.getElem?_modify]
   rw [if_neg (Ne.symm hb)]
theorem freeze_size {w : World} {g n : Nat} : (w.freeze ⟨g, 0, none⟩ n).heap.size = w.heap.size := by
 unfold World.freeze
 split <;> simp
theorem Match.freeze (h : Match σ ι Z w) {i g n : Nat} {o0 : AObj} {cs : List AV} {T : TypeId} (hσ : σ[i]? = some o0) (ho : o0 = .cells cs T ∨ o0 = .buf cs T) (hi : ι[i]? = some g) (hn0 : n ≠ 0) (hn : n ≤ cs.length) :
    Evo ι Z w ι Z (w.freeze ⟨g, 0, none⟩ n) ∧ Match (σ.set i (.buf cs T)) ι Z (w.freeze ⟨g, 0, none⟩ n) := by
 have hno : ∀ j, ¬ Z g j := by
  rcases ho with rfl | rfl
  · obtain ⟨_, _, _, _, h4⟩ := h.obj i _ g hσ hi; exact h4
  · obtain ⟨_, _, _, _, _, _, h4⟩ := h.obj i _ g hσ hi; exact h4
 obtain ⟨c, fz, hheap, hfz, hlen, hc⟩ : ∃ (c : Array Value) (fz : Nat × Nat), w.heap[g]? = some (.cells c T fz) ∧ fz.2 ≤ cs.length ∧ cs.length ≤ c.size ∧ ∀ (j : Nat) (d : AV) (u : Value), cs[j]? = some d → c[j]? = some u → d.one = true ∧ VR ι Z w d u := by
  rcases ho with rfl | rfl
  · obtain ⟨c, h1, h2, h3, _⟩ := h.obj i _ g hσ hi; exact ⟨c, (0, 0), h1, Nat.zero_le _, h2, h3⟩
  · obtain ⟨c, fz, h1, h0, h2, h3, _⟩ := h.obj i _ g hσ hi; exact ⟨c, fz, h1, h0, h2, h3⟩
 have l0 : o0.live := by rcases ho with rfl | rfl <;> trivial
 have hg := freeze_heap hheap hn0
 have e : Evo ι Z w ι Z (w.freeze ⟨g, 0, none⟩ n) :=
  { pre := fun _ _ h => h, img := fun id _ h _ => ⟨id, h⟩, zmono := fun _ _ h => h
    zsame := fun b j hz => by
     have hb : b ≠ g := fun e => hno j (e ▸ hz)
     exact World.cell?_of_block (freeze_other hb)
    csz := fun b hb => by
     by_cases hbg : b = g
     · subst hbg; unfold cellsz; rw [hg, hheap]
     · unfold cellsz; rw [freeze_other hbg]
    size := by rw [freeze_size]; exact Nat.le_refl _
    keep := fun b hb hn => freeze_other fun e => hn i (e ▸ hi)
    os := by unfold World.freeze; split <;> rfl
    tape := by unfold World.freeze; split <;> rfl
    output := by unfold World.freeze; split <;> rfl
    znew := fun _ _ h _ => .inl h }
 have hil := (List.getElem?_eq_some_iff.1 hσ).1
 have key : ∀ (j b : Nat) (o : AObj), ι[j]? = some b → (σ.set i (.buf cs T))[j]? = some o → o.live → (j = i ∧ b = g ∧ o = .buf cs T) ∨ (j ≠ i ∧ b ≠ g ∧ σ[j]? = some o) := by
  intro j b o hj ho' lo
  by_cases hji : j = i
  · subst hji
    rw [hi] at hj
    rw [List.getElem?_set_self hil] at ho'
    exact .inl ⟨rfl, (Option.some.inj hj).symm, (Option.some.inj ho').symm⟩
  · rw [List.getElem?_set_ne (Ne.symm hji)] at ho'
    refine .inr ⟨hji, fun e => hji ?_, ho'⟩
    subst e
    exact h.inj j i b o _ hj hi ho' hσ lo l0
 refine ⟨e, h.go e (by simp [h.len]) (fun j o b ho hb lo => ?_) (fun a j b o p ha hj ho hp lo lp => ?_) fun b j hj => by rw [freeze_size]; exact h.zlt b j hj⟩
 · rcases key j b o hb ho lo with ⟨rfl, rfl, rfl⟩ | ⟨_, h2, h3⟩
   · refine .inl ⟨c, _, hg, ?_, hlen, fun j d u hd hu => ⟨(hc j d u hd hu).1, (hc j d u hd hu).2.evo e⟩, hno⟩
     split
     · dsimp only; omega
     · dsimp only; omega
   · exact .inr ⟨h3, freeze_other h2, fun _ h => h⟩
 · rcases key a b o ha ho lo with ⟨a1, a2, a3⟩ | ⟨a1, a2, a3⟩ <;> rcases key j b p hj hp lp with ⟨b1, b2, b3⟩ | ⟨b1, b2, b3⟩
   · omega
   · omega
   · omega
   · exact h.inj a j b o p ha hj a3 b3 lo lp
end
theorem sizeB : (Tryz.prog.info? 86).map (·.size) = some 2 := by kernel_rfl
set_option maxRecDepth 100000 in
set_option maxHeartbeats 1000000 in
theorem chk_used (b : Nat) (w : World) (h0 : w.cell? ⟨b, 0, none⟩ = some (.pointer (some ⟨b, 0, none⟩))) :
    Calls Tryz.prog 71 #[.pointer (some ⟨b, 0, none⟩)] w fun e w' => e = .returned (.tuple #[]) ∧ w' = w := by
 obtain ⟨j, hj, _⟩ := Option.map_eq_some_iff.1 sizeB
 go_enter Tryz.func71, Tryz.ntmps71
 go_wp2
 rw [Lib.run_neq_ptr_same w _ Tryz.underlying83 hj]
 go_wp2
 go_end0
 exact ⟨rfl, rfl⟩
set_option maxRecDepth 100000 in
set_option maxHeartbeats 1000000 in
theorem chk_fresh (T : TypeId) (n : Nat) (hn : 0 < n) (hT : liesAt Tryz.prog Tryz.prog.depth T (n / Tryz.prog.cellsOf T) 0 86 1 = true) (b : Nat) (w : World) (h0 : w.cell? ⟨b, 0, none⟩ = some (.pointer none)) (hfz : w.frozen? ⟨b, 0, none⟩ = false) (hsh : w.shape? b = some (T, n)) :
    Calls Tryz.prog 71 #[.pointer (some ⟨b, 0, none⟩)] w fun e w' => e = .returned (.tuple #[]) ∧ w' = w.setCell ⟨b, 0, none⟩ (.pointer (some ⟨b, 0, none⟩)) := by
 obtain ⟨j, hj, hjs⟩ := Option.map_eq_some_iff.1 sizeB
 go_enter Tryz.func71, Tryz.ntmps71
 go_wp2
 rw [Lib.run_to_unsafe w ⟨b, 0, none⟩ Tryz.underlying83 (by kernel_rfl : Tryz.prog.underlying 160 = some .unsafePointer) hj (by rw [hjs]; decide) hsh hn]
 simp only [Result.andThen]
 rw [Oper.upon_value]
 go_wp2
 rw [run_callFunc_extern Tryz.func99 (by kernel_rfl) (by kernel_rfl) (by kernel_rfl) (e := Extern.AbiNoEscape.same) (by kernel_rfl)]
 rw [Lib.run_noEscape]
 simp only [Result.andThen]
 rw [Oper.upon_value]
 go_wp2
 rw [Lib.run_from_unsafe w ⟨b, 0, none⟩ (by kernel_rfl : Tryz.prog.underlying 160 = some .unsafePointer) Tryz.underlying83 hj hsh hT]
 simp only [Result.andThen]
 rw [Oper.upon_value]
 go_wp2
 go_end0
 exact ⟨rfl, rfl⟩
theorem lies_builderE (n : Nat) (hn : 2 ≤ n) : liesAt Tryz.prog Tryz.prog.depth 86 (n / Tryz.prog.cellsOf 86) 0 86 1 = true := by
 have hc : Tryz.prog.cellsOf 86 = 2 := by kernel_rfl
 have hd : Tryz.prog.depth = (2 * (Tryz.prog.types.size + Made.depth) + 1) + 1 := rfl
 rw [hc, hd]
 simp only [liesAt, Bool.or_eq_true]
 left
 rw [hd]
 simp [rowAt, hc, sameLayout]
 omega
def primCheck (args : List AV) (σ : Sto) : Option (ARes × Sto) :=
 match args with
 | [.ptr id 0] =>
  match σ[id]? with
  | some (.cells [a, v] T) =>
   if T = 86 then
    (match a with
    | .lit (.pointer none) => some (.ret (.tup []), σ.set id (.cells [.ptr id 0, v] T))
    | .ptr i 0 => if i = id then some (.ret (.tup []), σ) else none
    | _ => none)
   else none
  | _ => none
 | _ => none
theorem one_arg {us : Array Value} {d : AV} (h : [d].length = us.size) : ∃ v, us = #[v] := ⟨us[0]'(by simp at h; omega), by
 apply Array.ext
 · simp at h; simp; omega
 · intro i h1 h2; simp at h2; subst h2; rfl⟩
theorem primCheck_sound : CallSound Tryz.prog fun f args σ => if f = 71 then primCheck args σ else none := by
 intro f args σ r σ' hr ι Z w us hM hl hargs
 dsimp only at hr
 split at hr
 · rename_i e
   subst e
   unfold primCheck at hr
   split at hr
   · rename_i id
     split at hr
     · rename_i a v T hσ
       split at hr
       · rename_i hT
         subst hT
         obtain ⟨u, rfl⟩ := one_arg hl
         have hu := hargs 0 _ u rfl rfl
         obtain ⟨b, hb, rfl⟩ := ptr_at hu
         obtain ⟨c, hheap, hlen, hc, hz⟩ := hM.obj id _ b hσ hb
         simp at hlen
         have hc0 := Array.getElem?_eq_getElem (show 0 < c.size by omega)
         have hcell : w.cell? ⟨b, 0, none⟩ = some c[0] := by simp [World.cell?, hheap]
         refine ⟨Tryz.call71 _ _, ?_⟩
         have h0 := (hc 0 a _ rfl hc0).2
         split at hr
         · cases hr
           have hp : c[0] = .pointer none := by generalize c[0] = q at h0; cases h0; rfl
           refine (chk_fresh 86 c.size (by omega) (lies_builderE _ hlen) b w (by rw [hcell, hp]) (by simp [World.frozen?, hheap]) (by simp [World.shape?, hheap])).mono ?_
           rintro e w' ⟨rfl, rfl⟩
           rw [setCell_row _ hheap]
           obtain ⟨e1, m1⟩ := hM.setCells (cs := [.ptr id 0, v]) (c := c.setIfInBounds 0 (.pointer (some ⟨b, 0, none⟩))) hσ hb hheap (by simp) (by simp; omega) (fun j d u hd hu => by
            rcases j with _ | _ | j
            · simp at hd; subst hd
              rw [Array.getElem?_setIfInBounds_self_of_lt (by omega)] at hu
              cases hu
              exact ⟨rfl, .ptr _ _ _ hb⟩
            · rw [Array.getElem?_setIfInBounds_ne (by omega)] at hu
              exact hc 1 d u hd hu
            · simp at hd)
           exact ⟨ι, Z, e1, m1, _, rfl, .tup _ _ rfl fun i d u hd hu => by simp at hd⟩
         · rename_i i
           split at hr
           · rename_i hi
             subst hi
             cases hr
             have hp : c[0] = .pointer (some ⟨b, 0, none⟩) := by
              generalize c[0] = q at h0
              obtain ⟨b', hb', rfl⟩ := ptr_at h0
              rw [hb] at hb'; cases hb'; rfl
             refine (chk_used b w (by rw [hcell, hp])).mono ?_
             rintro e w' ⟨rfl, rfl⟩
             exact ⟨ι, Z, .refl _ _ _, hM, _, rfl, .tup _ _ rfl fun i d u hd hu => by simp at hd⟩
           · cases hr
         · cases hr
       · cases hr
     · cases hr
   · cases hr
 · cases hr
theorem cellsU8 : Tryz.prog.cellsOf 5 = 1 := by kernel_rfl
set_option maxRecDepth 100000 in
set_option maxHeartbeats 1000000 in
theorem str_full (b g n cap sz : Nat) (l : List UInt8) (w : World) (hn : n = l.length) (h0 : l ≠ []) (hc1 : w.cell? ⟨b, 1, none⟩ = some (.slice (some ⟨g, 0, none⟩) n cap)) (hcap : cap ≠ 0) (hmax : n ≤ 140737488355328) (hsh : w.shape? g = some (5, sz)) (hsz : n ≤ sz)
    (hb : ∀ (j : Nat) (x : UInt8), l[j]? = some x → w.cell? ((⟨g, 0, none⟩ : Addr).add j) = some (.int .u8 x.toNat)) :
    Calls Tryz.prog 43 #[.pointer (some ⟨b, 0, none⟩)] w fun e w' => e = .returned (.string ⟨l.toArray⟩) ∧ w' = w.drew.freeze ⟨g, 0, none⟩ n := by
 have c1 : w.drew.cell? ⟨b, 1, none⟩ = some (.slice (some ⟨g, 0, none⟩) n cap) := hc1
 have hSD : (Builtin.unsafeSliceData_ #[84] 131 #[.slice (some ⟨g, 0, none⟩) n cap]).run Tryz.prog w.drew = .ok (.pointer (some ⟨g, 0, none⟩)) w.drew :=
  Lib.run_unsafeSliceData_row _ _ _ _ _ _ hcap
 have hUS : (Builtin.unsafeString_ #[131, 3] 9 #[.pointer (some ⟨g, 0, none⟩), .int .i64 n]).run Tryz.prog w.drew = .ok (.string ⟨l.toArray⟩) (w.drew.freeze ⟨g, 0, none⟩ n) := by
  subst hn
  exact Lib.run_unsafeString_row w.drew 131 3 9 5 Tryz.underlying131 cellsU8 g sz hsh l h0 hsz (by omega) hb
 clear hb hsh hsz h0 hn hmax hcap
 go_enter Tryz.func43, Tryz.ntmps43
 go_wp2
 go_region
 all_goals (go_wp2; go_ret; exact ⟨rfl, rfl⟩)
def primString (args : List AV) (σ : Sto) : Option (ARes × Sto) :=
 match args with
 | [.ptr id 0] =>
  match σ[id]? with
  | some (.cells [_, .asl g 0 n 1] T) =>
   if T = 86 ∧ 0 < n ∧ n ≤ 140737488355328 then
    (match σ[g]? with
    | some (.cells cs U) | some (.buf cs U) => if U = 5 ∧ n ≤ cs.length then (bytesAV (cs.take n)).map fun l => (.ret (.lit (.string ⟨l.toArray⟩)), σ.set g (.buf cs U)) else none
    | _ => none)
   else none
  | _ => none
 | _ => none
theorem primString_sound : CallSound Tryz.prog fun f args σ => if f = 43 then primString args σ else none := by
 intro f args σ r σ' hr ι Z w us hM hl hargs
 dsimp only at hr
 split at hr
 · rename_i e
   subst e
   unfold primString at hr
   split at hr
   · rename_i id
     split at hr
     · rename_i a g n T hσ
       split at hr
       · rename_i hcond
         obtain ⟨rfl, hn0, hnm⟩ := hcond
         obtain ⟨u, rfl⟩ := one_arg hl
         have hu := hargs 0 _ u rfl rfl
         obtain ⟨b, hb, rfl⟩ := ptr_at hu
         obtain ⟨c, hheap, hlen, hc, hz⟩ := hM.obj id _ b hσ hb
         simp at hlen
         have hc1 := Array.getElem?_eq_getElem (show 1 < c.size by omega)
         have hcell : w.cell? ⟨b, 1, none⟩ = some c[1] := by simp [World.cell?, hheap]
         have h1 := (hc 1 _ _ rfl hc1).2
         generalize c[1] = q at h1 hcell
         obtain ⟨gb, cap, rfl, hg, hncap, hmx, hcz⟩ := asl_at h1
         have go : ∀ (o0 : AObj) (cs : List AV) (l : List UInt8), σ[g]? = some o0 → (o0 = .cells cs 5 ∨ o0 = .buf cs 5) → n ≤ cs.length → bytesAV (cs.take n) = some l → r = .ret (.lit (.string ⟨l.toArray⟩)) → σ' = σ.set g (.buf cs 5) →
             (callFunc 43 #[.pointer (some ⟨b, 0, none⟩)]).run Tryz.prog w = .ok (.enter 43 #[.pointer (some ⟨b, 0, none⟩)]) w ∧ Calls Tryz.prog 43 #[.pointer (some ⟨b, 0, none⟩)] w fun e w' => ∃ ι' Z', Evo ι Z w ι' Z' w' ∧ Match σ' ι' Z' w' ∧ ERel ι' Z' w' r e := by
          intro o0 cs l ho0 ho hnl hby hr hσ'
          subst hr; subst hσ'
          obtain ⟨cg, fz, hgheap, hglen, hgc⟩ : ∃ (c : Array Value) (fz : Nat × Nat), w.heap[gb]? = some (.cells c 5 fz) ∧ cs.length ≤ c.size ∧ ∀ (j : Nat) (d : AV) (u : Value), cs[j]? = some d → c[j]? = some u → d.one = true ∧ VR ι Z w d u := by
           rcases ho with rfl | rfl
           · obtain ⟨c, h1, h2, h3, _⟩ := hM.obj g _ gb ho0 hg; exact ⟨c, (0, 0), h1, h2, h3⟩
           · obtain ⟨c, fz, h1, h0, h2, h3, _⟩ := hM.obj g _ gb ho0 hg; exact ⟨c, fz, h1, h2, h3⟩
          have hll := bytesAV_len hby
          rw [List.length_take, Nat.min_eq_left hnl] at hll
          refine ⟨Tryz.call43 _ _, (str_full b gb n cap cg.size l w hll.symm (fun e => by rw [e] at hll; simp at hll; omega) hcell (by omega) hnm (by simp [World.shape?, hgheap]) (by omega) fun j x hx => ?_).mono ?_⟩
          · have hcj := bytesAV_get hby j x hx
            rw [List.getElem?_take] at hcj
            split at hcj
            · rename_i hj
              have hjc := Array.getElem?_eq_getElem (show j < cg.size by omega)
              have := (hgc j _ _ hcj hjc).2
              rw [Addr.add_lit, Nat.zero_add]
              simp only [World.cell?, hgheap]
              rw [hjc]
              generalize cg[j] = q at this
              cases this; rfl
            · cases hcj
          · rintro e w' ⟨rfl, rfl⟩
            obtain ⟨e1, m1⟩ := hM.drew.freeze ho0 ho hg (show n ≠ 0 by omega) hnl
            exact ⟨ι, Z, (Evo.drew ι Z w).trans e1, m1, _, rfl, .lit _ rfl⟩
         split at hr
         · rename_i cs U hg0
           split at hr
           · rename_i hU
             obtain ⟨rfl, hnl⟩ := hU
             rw [Option.map_eq_some_iff] at hr
             obtain ⟨l, hl1, hl2⟩ := hr
             cases hl2
             exact go _ cs l hg0 (.inl rfl) hnl hl1 rfl rfl
           · cases hr
         · rename_i cs U hg0
           split at hr
           · rename_i hU
             obtain ⟨rfl, hnl⟩ := hU
             rw [Option.map_eq_some_iff] at hr
             obtain ⟨l, hl1, hl2⟩ := hr
             cases hl2
             exact go _ cs l hg0 (.inr rfl) hnl hl1 rfl rfl
           · cases hr
         · cases hr
       · cases hr
     · cases hr
   · cases hr
 · cases hr
end Go.Proofs.YtmmgjaheffbpaaaGreatDoor
namespace Go.Proofs.YtmmgjaheffbpaaaGreatDoor
set_option linter.unusedSimpArgs false
set_option linter.unusedVariables false
set_option maxRecDepth 100000
open Go.RowKit
structure AsIf (w w' : World) : Prop where
 heap : w'.heap = w.heap
 os : w'.os = w.os
 tape : w'.tape = w.tape
 output : w'.output = w.output
section
variable {ι : List Nat} {Z : Nat → Nat → Prop} {w w' : World} {σ : Sto}
theorem AsIf.refl (w : World) : AsIf w w := ⟨rfl, rfl, rfl, rfl⟩
theorem AsIf.trans {w w' w'' : World} (h : AsIf w w') (g : AsIf w' w'') : AsIf w w'' := ⟨g.heap.trans h.heap, g.os.trans h.os, g.tape.trans h.tape, g.output.trans h.output⟩
theorem AsIf.evo (h : AsIf w w') (ι : List Nat) (Z : Nat → Nat → Prop) : Evo ι Z w ι Z w' :=
 ⟨fun _ _ h => h, fun id _ h _ => ⟨id, h⟩, fun _ _ h => h, fun b j _ => World.cell?_of_block (by rw [h.heap]), fun b _ => by unfold cellsz; rw [h.heap], by rw [h.heap]; exact Nat.le_refl _, fun b _ _ => by rw [h.heap], h.os, h.tape, h.output, fun _ _ h _ => .inl h, fun id b h => .inr ⟨id, h⟩⟩
theorem AsIf.match (h : AsIf w w') (hM : Match σ ι Z w) : Match σ ι Z w' := hM.same (h.evo ι Z) fun _ _ _ => by rw [h.heap]
end
set_option maxRecDepth 100000 in
set_option maxHeartbeats 1000000 in
theorem grow_fresh (b n : Nat) (a : Option Addr) (w : World) (hb : b < w.heap.size) (hc1 : w.cell? ⟨b, 1, none⟩ = some (.slice a 0 0)) (hfz : w.frozen? ⟨b, 1, none⟩ = false) (hn : n ≤ 140737488355328) :
    Calls Tryz.prog 72 #[.pointer (some ⟨b, 0, none⟩), .int .i64 n] w fun e w' => e = .returned (.tuple #[]) ∧ ∃ cs : Array Value, n ≤ cs.size ∧ cs.size ≤ maxLen ∧ AsIf ((w.setCell ⟨b, 1, none⟩ (.slice (some ⟨w.heap.size, 0, none⟩) 0 cs.size)).alloc (.cells cs 5)) w' := by
 obtain ⟨cs, hrun, hle, hmax⟩ := Lib.run_makeNoZero (P := Tryz.prog) w.drew #[3] 84 5 Tryz.underlying84 n (by omega)
 have hw : IntKind.i64.wrap (IntKind.i64.wrap 0 + (n : Int)) = n := by
  rw [IntKind.wrap_i64, IntKind.wrap_i64]
  omega
 have hcall : (callFunc 100 #[.int .i64 (IntKind.i64.wrap (IntKind.i64.wrap 0 + (n : Int)))]).run Tryz.prog w.drew = .ok (.value (.slice (some ⟨w.drew.heap.size, 0, none⟩) n cs.size)) (w.drew.drew.drew.alloc (.cells cs 5)) := by
  rw [hw, run_callFunc_extern Tryz.func100 (by kernel_rfl) (by kernel_rfl) (by kernel_rfl) (e := Extern.BytealgMakeNoZero.makeNoZero #[3] #[84]) (by kernel_rfl), hrun]
  rfl
 have c1 : w.drew.cell? ⟨b, 1, none⟩ = some (.slice a 0 0) := hc1
 have c2 : (w.alloc (.cells cs 5)).cell? ⟨b, 1, none⟩ = some (.slice a 0 0) := by rw [cell_alloc w _ b 1 hb]; exact hc1
 have f2 : (w.alloc (.cells cs 5)).frozen? ⟨b, 1, none⟩ = false := by
  have : (w.alloc (.cells cs 5)).heap[b]? = w.heap[b]? := Below.heap_alloc _ _ _ hb
  unfold World.frozen? at hfz ⊢
  simp only [this]
  exact hfz
 have hsz : (Tryz.prog.info? 5).map (·.size) = some 1 := by kernel_rfl
 have hcopy : ∀ W : World, (Builtin.copy_ #[84, 84] 3 #[.slice (some ⟨w.heap.size, 0, none⟩) 0 cs.size, .slice a 0 0]).run Tryz.prog W = .ok (goInt 0) W :=
  fun W => run_copy_none W 84 84 3 5 _ _ 0 cs.size 0 0 Tryz.underlying84 hsz rfl
 have hmx := hmax (by unfold maxLen; omega)
 have hfin : ∀ W : World, AsIf ((w.setCell ⟨b, 1, none⟩ (.slice (some ⟨w.heap.size, 0, none⟩) 0 cs.size)).alloc (.cells cs 5)) W → ∃ cs : Array Value, n ≤ cs.size ∧ cs.size ≤ maxLen ∧ AsIf ((w.setCell ⟨b, 1, none⟩ (.slice (some ⟨w.heap.size, 0, none⟩) 0 cs.size)).alloc (.cells cs 5)) W :=
  fun W h => ⟨cs, hle, hmx, h⟩
 clear hw hc1 hfz
 have mixed : Tryz.prog.follows .mixedOrders = true := by kernel_rfl
 go_enter Tryz.func72, Tryz.ntmps72
 go_wp2
 go_region_o
 all_goals (go_wp2; go_end0; exact ⟨rfl, hfin _ ⟨rfl, rfl, rfl, rfl⟩⟩)
end Go.Proofs.YtmmgjaheffbpaaaGreatDoor
namespace Go.Proofs.YtmmgjaheffbpaaaGreatDoor
set_option linter.unusedSimpArgs false
set_option linter.unusedVariables false
set_option maxRecDepth 100000
open Go.RowKit
theorem AsIf.alloc {w w' : World} (h : AsIf w w') (x : Obj) : AsIf (w.alloc x) (w'.alloc x) := ⟨by show w'.heap.push x = w.heap.push x; rw [h.heap], h.os, h.tape, h.output⟩
theorem AsIf.setCell {w w' : World} (h : AsIf w w') (p : Addr) (v : Value) : AsIf (w.setCell p v) (w'.setCell p v) := ⟨by unfold World.setCell; simp only [h.heap], h.os, h.tape, h.output⟩
def Grew (w : World) (b n : Nat) (w' : World) : Prop :=
 (n = 0 ∧ AsIf (w.setCell ⟨b, 0, none⟩ (.pointer (some ⟨b, 0, none⟩))) w') ∨
 ∃ cs : Array Value, 0 < n ∧ n ≤ cs.size ∧ cs.size ≤ maxLen ∧ AsIf (((w.setCell ⟨b, 0, none⟩ (.pointer (some ⟨b, 0, none⟩))).setCell ⟨b, 1, none⟩ (.slice (some ⟨w.heap.size, 0, none⟩) 0 cs.size)).alloc (.cells cs 5)) w'
set_option maxHeartbeats 1000000 in
theorem Grow_fresh (b n sz : Nat) (a : Option Addr) (w : World) (hsz : 2 ≤ sz) (hb : b < w.heap.size) (h0 : w.cell? ⟨b, 0, none⟩ = some (.pointer none)) (hc1 : w.cell? ⟨b, 1, none⟩ = some (.slice a 0 0)) (hfz : ∀ i, w.frozen? ⟨b, i, none⟩ = false) (hsh : w.shape? b = some (86, sz)) (hn : n ≤ 140737488355328) :
    Calls Tryz.prog 41 #[.pointer (some ⟨b, 0, none⟩), .int .i64 n] w fun e w' => e = .returned (.tuple #[]) ∧ Grew w b n w' := by
 have hset : (w.setCell ⟨b, 0, none⟩ (.pointer (some ⟨b, 0, none⟩))).heap.size = w.heap.size := by simp [World.setCell]
 have c1 : (w.setCell ⟨b, 0, none⟩ (.pointer (some ⟨b, 0, none⟩))).cell? ⟨b, 1, none⟩ = some (.slice a 0 0) := by
  rw [World.cell?_setCell_other (h := (show (⟨b, 0, none⟩ : Addr) ≠ ⟨b, 1, none⟩ by intro e; cases e))]; exact hc1
 have c1' : (w.setCell ⟨b, 0, none⟩ (.pointer (some ⟨b, 0, none⟩))).drew.cell? ⟨b, 1, none⟩ = some (.slice a 0 0) := c1
 have f1 : (w.setCell ⟨b, 0, none⟩ (.pointer (some ⟨b, 0, none⟩))).drew.frozen? ⟨b, 1, none⟩ = false := by
  show (w.setCell ⟨b, 0, none⟩ (.pointer (some ⟨b, 0, none⟩))).frozen? ⟨b, 1, none⟩ = false
  rw [World.frozen?_setCell]; exact hfz 1
 have hn0 : ¬ (n : Int) < 0 := by omega
 have mixed : Tryz.prog.follows .mixedOrders = true := by kernel_rfl
 go_enter Tryz.func41, Tryz.ntmps41
 go_wp2_with fail
 refine (chk_fresh 86 sz (by omega) (lies_builderE _ hsz) b w h0 (hfz 0) hsh).mono ?_
 rintro e w' ⟨rfl, rfl⟩
 dsimp only
 go_wp2_with fail
 go_region_o
 all_goals go_wp2_with fail
 · refine (grow_fresh b n a (w.setCell ⟨b, 0, none⟩ (.pointer (some ⟨b, 0, none⟩))).drew (by simpa [World.setCell] using hb) c1' f1 hn).mono ?_
   rintro e w' ⟨rfl, cs, h1, h2, h3⟩
   dsimp only
   go_wp2_with fail
   go_end0
   refine ⟨rfl, .inr ⟨cs, by omega, h1, h2, ?_⟩⟩
   have hs : (w.setCell ⟨b, 0, none⟩ (.pointer (some ⟨b, 0, none⟩))).drew.heap.size = w.heap.size := hset
   rw [hs] at h3
   exact (show AsIf (((w.setCell ⟨b, 0, none⟩ (.pointer (some ⟨b, 0, none⟩))).setCell ⟨b, 1, none⟩ (.slice (some ⟨w.heap.size, 0, none⟩) 0 cs.size)).alloc (.cells cs 5)) (((w.setCell ⟨b, 0, none⟩ (.pointer (some ⟨b, 0, none⟩))).drew.setCell ⟨b, 1, none⟩ (.slice (some ⟨w.heap.size, 0, none⟩) 0 cs.size)).alloc (.cells cs 5)) from ⟨rfl, rfl, rfl, rfl⟩).trans h3
 · go_end0
   exact ⟨rfl, .inl ⟨by omega, rfl, rfl, rfl, rfl⟩⟩
def primGrow (args : List AV) (σ : Sto) : Option (ARes × Sto) :=
 match args with
 | [.ptr id 0, .lit (.int .i64 n)] =>
  match σ[id]? with
  | some (.cells [.lit (.pointer none), .sl [] .full] T) =>
   if T = 86 ∧ 0 ≤ n ∧ n ≤ 140737488355328 then
    (if n = 0 then some (.ret (.tup []), σ.set id (.cells [.ptr id 0, .sl [] .full] T))
    else some (.ret (.tup []), σ.set id (.cells [.ptr id 0, .asl σ.length 0 0 1] T) ++ [.cells [] 5]))
   else none
  | _ => none
 | _ => none
theorem two_args {us : Array Value} {d e : AV} (h : [d, e].length = us.size) : ∃ u v, us = #[u, v] := ⟨us[0]'(by simp at h; omega), us[1]'(by simp at h; omega), by
 apply Array.ext
 · simp at h; simp; omega
 · intro i h1 h2
   simp at h2
   rcases i with _ | _ | i
   · rfl
   · rfl
   · omega⟩
theorem primGrow_sound : CallSound Tryz.prog fun f args σ => if f = 41 then primGrow args σ else none := by
 intro f args σ r σ' hr ι Z w us hM hl hargs
 dsimp only at hr
 split at hr
 · rename_i e
   subst e
   unfold primGrow at hr
   split at hr
   · rename_i id n
     split at hr
     · rename_i T hσ
       split at hr
       · rename_i hcond
         obtain ⟨rfl, hn0, hnm⟩ := hcond
         obtain ⟨u, u2, rfl⟩ := two_args hl
         have hu := hargs 0 _ u rfl rfl
         have hu2 := hargs 1 _ u2 rfl rfl
         obtain ⟨b, hb, rfl⟩ := ptr_at hu
         cases hu2
         obtain ⟨m, rfl⟩ : ∃ m : Nat, n = m := ⟨n.toNat, by omega⟩
         obtain ⟨c, hheap, hlen, hc, hz⟩ := hM.obj id _ b hσ hb
         simp at hlen
         have hc0 := Array.getElem?_eq_getElem (show 0 < c.size by omega)
         have hc1 := Array.getElem?_eq_getElem (show 1 < c.size by omega)
         have h0 := (hc 0 _ _ rfl hc0).2
         have h1 := (hc 1 _ _ rfl hc1).2
         have cell0 : w.cell? ⟨b, 0, none⟩ = some c[0] := by simp [World.cell?, hheap]
         have cell1 : w.cell? ⟨b, 1, none⟩ = some c[1] := by simp [World.cell?, hheap]
         have p0 : c[0] = .pointer none := by generalize c[0] = q at h0; cases h0; rfl
         obtain ⟨a, p1⟩ : ∃ a, c[1] = .slice a 0 0 := by
          generalize c[1] = q at h1
          cases h1 with
          | nils a cc tok g1 g2 =>
           rcases g2 with g2 | ⟨_, g2⟩
           · cases g2
           · exact ⟨a, by rw [g2]⟩
          | sl b' o' n' c' k es tok U g1 g2 => simp at g1; omega
         have hbl : b < w.heap.size := (Array.getElem?_eq_some_iff.1 hheap).1
         refine ⟨Tryz.call41 _ _, (Grow_fresh b m c.size a w hlen hbl (by rw [cell0, p0]) (by rw [cell1, p1]) (fun i => by simp [World.frozen?, hheap]) (by simp [World.shape?, hheap]) (by omega)).mono ?_⟩
         rintro e w' ⟨rfl, hg⟩
         rcases hg with ⟨rfl, hA⟩ | ⟨cs, hm, hle, hmx, hA⟩
         · rw [if_pos (by rfl)] at hr
           cases hr
           rw [setCell_row _ hheap] at hA
           obtain ⟨e1, m1⟩ := hM.setCells (cs := [.ptr id 0, .sl [] .full]) (c := c.setIfInBounds 0 (.pointer (some ⟨b, 0, none⟩))) hσ hb hheap (by simp) (by simp; omega) (fun j d u hd hu => by
            rcases j with _ | _ | j
            · simp at hd; subst hd
              rw [Array.getElem?_setIfInBounds_self_of_lt (by omega)] at hu
              cases hu
              exact ⟨rfl, .ptr _ _ _ hb⟩
            · rw [Array.getElem?_setIfInBounds_ne (by omega)] at hu
              exact hc 1 d u hd hu
            · simp at hd)
           exact ⟨ι, Z, e1.trans (hA.evo ι Z), hA.match m1, _, rfl, .tup _ _ rfl fun i d u hd hu => by simp at hd⟩
         · rw [if_neg (by omega)] at hr
           cases hr
           -- first the new block, then the two cells
           have heq : ((w.setCell ⟨b, 0, none⟩ (.pointer (some ⟨b, 0, none⟩))).setCell ⟨b, 1, none⟩ (.slice (some ⟨w.heap.size, 0, none⟩) 0 cs.size)).alloc (.cells cs 5) = ((w.alloc (.cells cs 5)).setCell ⟨b, 0, none⟩ (.pointer (some ⟨b, 0, none⟩))).setCell ⟨b, 1, none⟩ (.slice (some ⟨w.heap.size, 0, none⟩) 0 cs.size) := by
            rw [World.setCell_alloc_past (hn := hbl), World.setCell_alloc_past (hn := by simpa [World.setCell] using hbl)]
           rw [heq] at hA
           obtain ⟨e0, m0⟩ := hM.newCells [] cs 5 (by simp) (fun j d u hd hu => by simp at hd)
           have hheap1 : (w.alloc (.cells cs 5)).heap[b]? = some (.cells c 86 (0, 0)) := by rw [Below.heap_alloc _ _ _ hbl]; exact hheap
           have hil := (List.getElem?_eq_some_iff.1 hσ).1
           have hσ1 : (σ ++ [.cells [] 5])[id]? = some (.cells [.lit (.pointer none), .sl [] .full] 86) := by rw [List.getElem?_append_left hil]; exact hσ
           have hb1 : (ι ++ [w.heap.size])[id]? = some b := by rw [List.getElem?_append_left (by rw [hM.len]; exact hil)]; exact hb
           rw [setCell_row _ hheap1] at hA
           have hheap2 := setRow_heap (w.alloc (.cells cs 5)) b c (c.setIfInBounds 0 (.pointer (some ⟨b, 0, none⟩))) 86 (0, 0) hheap1
           rw [setCell_row _ hheap2] at hA
           rw [setRow_setRow] at hA
           obtain ⟨e1, m1⟩ := m0.setCells (cs := [.ptr id 0, .asl σ.length 0 0 1]) (c := (c.setIfInBounds 0 (.pointer (some ⟨b, 0, none⟩))).setIfInBounds 1 (.slice (some ⟨w.heap.size, 0, none⟩) 0 cs.size)) hσ1 hb1 hheap1 (by simp) (by simp; omega) (fun j d u hd hu => by
            rcases j with _ | _ | j
            · simp at hd; subst hd
              rw [Array.getElem?_setIfInBounds_ne (by omega), Array.getElem?_setIfInBounds_self_of_lt (by omega)] at hu
              cases hu
              exact ⟨rfl, .ptr _ _ _ hb1⟩
            · simp at hd; subst hd
              rw [Array.getElem?_setIfInBounds_self_of_lt (by simp; omega)] at hu
              cases hu
              refine ⟨rfl, .asl _ _ _ _ cs.size w.heap.size (by rw [← hM.len]; simp) (Nat.zero_le _) hmx ?_⟩
              unfold cellsz
              rw [heap_alloc_new]
              simp
            · simp at hd)
           have hset : (σ ++ [AObj.cells [] 5]).set id (.cells [.ptr id 0, .asl σ.length 0 0 1] 86) = σ.set id (.cells [.ptr id 0, .asl σ.length 0 0 1] 86) ++ [.cells [] 5] := List.set_append_left _ _ hil
           rw [hset] at m1
           exact ⟨_, Z, (e0.trans e1).trans (hA.evo _ Z), hA.match m1, _, rfl, .tup _ _ rfl fun i d u hd hu => by simp at hd⟩
       · cases hr
     · cases hr
   · cases hr
 · cases hr
end Go.Proofs.YtmmgjaheffbpaaaGreatDoor
namespace Go.Proofs
open Go.Shelf
def Tryz.lays283_ren : Go.Shelf.Ren := ⟨fun | 283 => 114 | n => n, fun | 3 => 3 | 9 => 9 | 4 => 4 | n => n, fun | n => n⟩
theorem Tryz.lays283 : Go.Proofs.Lays.n283 Tryz.prog Tryz.lays283_ren := {
 mixed := by kernel_rfl
 f283 := Tryz.func114.trans (congrArg some (by kernel_rfl))
 t3 := Tryz.underlying3
 a3 := Tryz.isAgg3
 z3 := Tryz.sizeOf3
 v3 := Tryz.zeroValue3
 t4 := Tryz.underlying4
 a4 := Tryz.isAgg4
 z4 := Tryz.sizeOf4
 v4 := Tryz.zeroValue4
 t9 := Tryz.underlying9
 a9 := Tryz.isAgg9
 z9 := Tryz.sizeOf9
 v9 := Tryz.zeroValue9 }
open Go.Lib in
theorem Tryz.internal_strconv_small (i : Nat) (h : i < 100) (w : World) :
    Calls Tryz.prog 114 #[.int .i64 i] w fun e w' => e = .returned (.string ⟨(Lib.decDigits i).toArray⟩) ∧ w' = w := Any.internal_strconv_small Tryz.lays283 i h w
def Tryz.laysM284_ren : Go.Shelf.Ren := ⟨fun | 284 => 115 | 129 => 127 | 317 => 126 | 318 => 128 | n => n, fun | 53 => 53 | 3 => 3 | 212 => 187 | 0 => 0 | 4 => 4 | 46 => 155 | 5 => 5 | 9 => 9 | n => n, fun | 17 => 1 | n => n⟩
theorem Tryz.laysM284 : Go.Proofs.LaysM.n284 Tryz.prog Tryz.laysM284_ren := {
 mixed := by kernel_rfl
 f129 := Tryz.func127.trans (congrArg some (by kernel_rfl))
 f284 := Tryz.func115.trans (congrArg some (by kernel_rfl))
 f317 := Tryz.func126.trans (congrArg some (by kernel_rfl))
 f318 := Tryz.func128.trans (congrArg some (by kernel_rfl))
 t0 := Tryz.underlying0
 a0 := Tryz.isAgg0
 z0 := Tryz.sizeOf0
 v0 := Tryz.zeroValue0
 t3 := Tryz.underlying3
 a3 := Tryz.isAgg3
 z3 := Tryz.sizeOf3
 v3 := Tryz.zeroValue3
 t4 := Tryz.underlying4
 a4 := Tryz.isAgg4
 z4 := Tryz.sizeOf4
 v4 := Tryz.zeroValue4
 t5 := Tryz.underlying5
 a5 := Tryz.isAgg5
 z5 := Tryz.sizeOf5
 v5 := Tryz.zeroValue5
 t9 := Tryz.underlying9
 a9 := Tryz.isAgg9
 z9 := Tryz.sizeOf9
 v9 := Tryz.zeroValue9
 t46 := Tryz.underlying155
 a46 := Tryz.isAgg155
 z46 := Tryz.sizeOf155
 v46 := Tryz.zeroValue155
 t53 := Tryz.underlying53
 a53 := Tryz.isAgg53
 z53 := Tryz.sizeOf53
 v53 := Tryz.zeroValue53
 t212 := Tryz.underlying187
 a212 := Tryz.isAgg187
 z212 := Tryz.sizeOf187
 v212 := Tryz.zeroValue187
 g17 := by kernel_rfl
 i0 := by kernel_rfl
 i3 := by kernel_rfl
 i4 := by kernel_rfl
 i5 := by kernel_rfl
 i9 := by kernel_rfl
 i46 := by kernel_rfl
 i53 := by kernel_rfl
 i212 := by kernel_rfl
 m17 := by kernel_rfl }
open Go.Lib in
theorem Tryz.internal_strconv_numDigits (u : Nat) (h1 : 1 ≤ u) (h2 : u < 18446744073709551616) (w : World) (htab : Lib.TabIs Tryz.prog w "internal/strconv.uint64pow10" .u64 Lib.pow10Tab) :
    Calls Tryz.prog 115 #[.int .u64 u] w fun e w' => e = .returned (.int .i64 (Lib.nDigits u)) ∧ w' = w := Any.internal_strconv_numDigits Tryz.laysM284 u h1 h2 w htab
def Tryz.lays285_ren : Go.Shelf.Ren := ⟨fun | 285 => 116 | n => n, fun | 37 => 84 | 53 => 53 | 3 => 3 | 4 => 4 | 51 => 79 | 9 => 9 | 5 => 5 | 0 => 0 | n => n, fun | n => n⟩
theorem Tryz.lays285 : Go.Proofs.Lays.n285 Tryz.prog Tryz.lays285_ren := {
 mixed := by kernel_rfl
 f285 := Tryz.func116.trans (congrArg some (by kernel_rfl))
 t0 := Tryz.underlying0
 a0 := Tryz.isAgg0
 z0 := Tryz.sizeOf0
 v0 := Tryz.zeroValue0
 t3 := Tryz.underlying3
 a3 := Tryz.isAgg3
 z3 := Tryz.sizeOf3
 v3 := Tryz.zeroValue3
 t4 := Tryz.underlying4
 a4 := Tryz.isAgg4
 z4 := Tryz.sizeOf4
 v4 := Tryz.zeroValue4
 t5 := Tryz.underlying5
 a5 := Tryz.isAgg5
 z5 := Tryz.sizeOf5
 v5 := Tryz.zeroValue5
 t9 := Tryz.underlying9
 a9 := Tryz.isAgg9
 z9 := Tryz.sizeOf9
 v9 := Tryz.zeroValue9
 t37 := Tryz.underlying84
 a37 := Tryz.isAgg84
 z37 := Tryz.sizeOf84
 v37 := Tryz.zeroValue84
 t51 := Tryz.underlying79
 a51 := Tryz.isAgg79
 z51 := Tryz.sizeOf79
 v51 := Tryz.zeroValue79
 t53 := Tryz.underlying53
 a53 := Tryz.isAgg53
 z53 := Tryz.sizeOf53
 v53 := Tryz.zeroValue53 }
open Go.RowKit Go.Sort Go.Lib in
theorem Tryz.internal_strconv_formatBase10 (blk off cap : Nat) (u : Nat) (d : Array UInt8) (w : World) (hH : Holds (fun (b : UInt8) => Value.int .u8 (b.toNat : Int)) w blk off d) (hu : u < 10 ^ d.size) (hu64 : u < 18446744073709551616) (hsz : d.size < 4611686018427387904) :
    Calls Tryz.prog 116 #[.slice (some ⟨blk, off, none⟩) d.size cap, .int .u64 u] w fun e w' =>
     e = .returned (.tuple #[]) ∧ ∃ (n v' : Nat) (dk : Array UInt8), w' = (putRow (fun (b : UInt8) => Value.int .u8 (b.toNat : Int)) w blk off dk).drewN n ∧ FmtInv d.size u 0 v' dk := Any.internal_strconv_formatBase10 Tryz.lays285 blk off cap u d w hH hu hu64 hsz
def Tryz.laysPu14_ren : Go.Shelf.Ren := ⟨fun | 14 => 124 | 16 => 132 | 17 => 133 | 19 => 137 | 20 => 138 | 21 => 139 | 22 => 140 | 23 => 141 | 24 => 142 | 25 => 143 | 27 => 145 | 26 => 144 | 28 => 146 | 29 => 147 | 30 => 114 | 31 => 115 | 32 => 116 | 33 => 117 | 35 => 127 | 34 => 126 | 36 => 128 | 37 => 129 | 38 => 130 | 39 => 134 | 40 => 135 | n => n, fun | 9 => 9 | 3 => 3 | 22 => 53 | 24 => 89 | 25 => 182 | 4 => 4 | 34 => 193 | 5 => 5 | 36 => 155 | 37 => 84 | 0 => 0 | 39 => 195 | 21 => 21 | 44 => 202 | 47 => 131 | 50 => 206 | 48 => 204 | 2 => 2 | 52 => 172 | 55 => 175 | 59 => 187 | 60 => 79 | 20 => 20 | 61 => 188 | 65 => 198 | 66 => 199 | 67 => 92 | n => n, fun | 0 => 4 | 1 => 5 | 2 => 1 | 3 => 2 | 4 => 3 | n => n⟩
theorem Tryz.laysPu14 : Go.Proofs.LaysPu.n14 Tryz.prog Tryz.laysPu14_ren := {
 mixed := by kernel_rfl
 f14 := Tryz.func124.trans (congrArg some (by kernel_rfl))
 f16 := Tryz.func132.trans (congrArg some (by kernel_rfl))
 f17 := Tryz.func133.trans (congrArg some (by kernel_rfl))
 f19 := Tryz.func137.trans (congrArg some (by kernel_rfl))
 f20 := Tryz.func138.trans (congrArg some (by kernel_rfl))
 f21 := Tryz.func139.trans (congrArg some (by kernel_rfl))
 f22 := Tryz.func140.trans (congrArg some (by kernel_rfl))
 f23 := Tryz.func141.trans (congrArg some (by kernel_rfl))
 f24 := Tryz.func142.trans (congrArg some (by kernel_rfl))
 f25 := Tryz.func143.trans (congrArg some (by kernel_rfl))
 f26 := Tryz.func144.trans (congrArg some (by kernel_rfl))
 f27 := Tryz.func145.trans (congrArg some (by kernel_rfl))
 f28 := Tryz.func146.trans (congrArg some (by kernel_rfl))
 f29 := Tryz.func147.trans (congrArg some (by kernel_rfl))
 f30 := Tryz.func114.trans (congrArg some (by kernel_rfl))
 f31 := Tryz.func115.trans (congrArg some (by kernel_rfl))
 f32 := Tryz.func116.trans (congrArg some (by kernel_rfl))
 f33 := Tryz.func117.trans (congrArg some (by kernel_rfl))
 f34 := Tryz.func126.trans (congrArg some (by kernel_rfl))
 f35 := Tryz.func127.trans (congrArg some (by kernel_rfl))
 f36 := Tryz.func128.trans (congrArg some (by kernel_rfl))
 f37 := Tryz.func129.trans (congrArg some (by kernel_rfl))
 f38 := Tryz.func130.trans (congrArg some (by kernel_rfl))
 f39 := Tryz.func134.trans (congrArg some (by kernel_rfl))
 f40 := Tryz.func135.trans (congrArg some (by kernel_rfl))
 t0 := Tryz.underlying0
 a0 := Tryz.isAgg0
 z0 := Tryz.sizeOf0
 v0 := Tryz.zeroValue0
 i0 := by kernel_rfl
 t2 := Tryz.underlying2
 a2 := Tryz.isAgg2
 z2 := Tryz.sizeOf2
 v2 := Tryz.zeroValue2
 i2 := by kernel_rfl
 t3 := Tryz.underlying3
 a3 := Tryz.isAgg3
 z3 := Tryz.sizeOf3
 v3 := Tryz.zeroValue3
 i3 := by kernel_rfl
 t4 := Tryz.underlying4
 a4 := Tryz.isAgg4
 z4 := Tryz.sizeOf4
 v4 := Tryz.zeroValue4
 i4 := by kernel_rfl
 t5 := Tryz.underlying5
 a5 := Tryz.isAgg5
 z5 := Tryz.sizeOf5
 v5 := Tryz.zeroValue5
 i5 := by kernel_rfl
 t9 := Tryz.underlying9
 a9 := Tryz.isAgg9
 z9 := Tryz.sizeOf9
 v9 := Tryz.zeroValue9
 i9 := by kernel_rfl
 t20 := Tryz.underlying20
 a20 := Tryz.isAgg20
 z20 := Tryz.sizeOf20
 v20 := Tryz.zeroValue20
 i20 := by kernel_rfl
 t21 := Tryz.underlying21
 a21 := Tryz.isAgg21
 z21 := Tryz.sizeOf21
 v21 := Tryz.zeroValue21
 i21 := by kernel_rfl
 t22 := Tryz.underlying53
 a22 := Tryz.isAgg53
 z22 := Tryz.sizeOf53
 v22 := Tryz.zeroValue53
 i22 := by kernel_rfl
 t24 := Tryz.underlying89
 a24 := Tryz.isAgg89
 z24 := Tryz.sizeOf89
 v24 := Tryz.zeroValue89
 i24 := by kernel_rfl
 t25 := Tryz.underlying182
 a25 := Tryz.isAgg182
 z25 := Tryz.sizeOf182
 v25 := Tryz.zeroValue182
 i25 := by kernel_rfl
 t34 := Tryz.underlying193
 a34 := Tryz.isAgg193
 z34 := Tryz.sizeOf193
 v34 := Tryz.zeroValue193
 i34 := by kernel_rfl
 c34 := by kernel_rfl
 t36 := Tryz.underlying155
 a36 := Tryz.isAgg155
 z36 := Tryz.sizeOf155
 v36 := Tryz.zeroValue155
 i36 := by kernel_rfl
 t37 := Tryz.underlying84
 a37 := Tryz.isAgg84
 z37 := Tryz.sizeOf84
 v37 := Tryz.zeroValue84
 i37 := by kernel_rfl
 t39 := Tryz.underlying195
 a39 := Tryz.isAgg195
 z39 := Tryz.sizeOf195
 v39 := Tryz.zeroValue195
 i39 := by kernel_rfl
 t44 := Tryz.underlying202
 a44 := Tryz.isAgg202
 z44 := Tryz.sizeOf202
 v44 := Tryz.zeroValue202
 i44 := by kernel_rfl
 t47 := Tryz.underlying131
 a47 := Tryz.isAgg131
 z47 := Tryz.sizeOf131
 v47 := Tryz.zeroValue131
 i47 := by kernel_rfl
 t48 := Tryz.underlying204
 a48 := Tryz.isAgg204
 z48 := Tryz.sizeOf204
 v48 := Tryz.zeroValue204
 i48 := by kernel_rfl
 t50 := Tryz.underlying206
 a50 := Tryz.isAgg206
 z50 := Tryz.sizeOf206
 v50 := Tryz.zeroValue206
 i50 := by kernel_rfl
 t52 := Tryz.underlying172
 a52 := Tryz.isAgg172
 z52 := Tryz.sizeOf172
 v52 := Tryz.zeroValue172
 i52 := by kernel_rfl
 t55 := Tryz.underlying175
 a55 := Tryz.isAgg175
 z55 := Tryz.sizeOf175
 v55 := Tryz.zeroValue175
 i55 := by kernel_rfl
 t59 := Tryz.underlying187
 a59 := Tryz.isAgg187
 z59 := Tryz.sizeOf187
 v59 := Tryz.zeroValue187
 i59 := by kernel_rfl
 t60 := Tryz.underlying79
 a60 := Tryz.isAgg79
 z60 := Tryz.sizeOf79
 v60 := Tryz.zeroValue79
 i60 := by kernel_rfl
 t61 := Tryz.underlying188
 a61 := Tryz.isAgg188
 z61 := Tryz.sizeOf188
 t65 := Tryz.underlying198
 a65 := Tryz.isAgg198
 z65 := Tryz.sizeOf198
 v65 := Tryz.zeroValue198
 i65 := by kernel_rfl
 t66 := Tryz.underlying199
 a66 := Tryz.isAgg199
 z66 := Tryz.sizeOf199
 v66 := Tryz.zeroValue199
 i66 := by kernel_rfl
 t67 := Tryz.underlying92
 a67 := Tryz.isAgg92
 z67 := Tryz.sizeOf92
 v67 := Tryz.zeroValue92
 i67 := by kernel_rfl
 g0 := by kernel_rfl
 m0 := by kernel_rfl
 g1 := by kernel_rfl
 m1 := by kernel_rfl
 g2 := by kernel_rfl
 m2 := by kernel_rfl
 g3 := by kernel_rfl
 m3 := by kernel_rfl
 g4 := by kernel_rfl
 m4 := by kernel_rfl }
open Go.RowKit in
theorem Tryz.strconv_ParseUint_10_at64_ok (s : ByteArray) (hmax : s.size ≤ 9223372036854775806) (u : Nat) (h : Lib.parseUintB 64 s.data.toList = .ok u) (w : World) :
    Calls Tryz.prog 124 #[.string s, .int .i64 10, .int .i64 64] w fun e w' => e = .returned (.tuple #[.int .u64 u, .nilIface]) ∧ (w' = w ∨ w' = Lib.bytesWorld w 5 s) := Any.strconv_ParseUint_10_at64_ok Tryz.laysPu14 s hmax u h w
end Go.Proofs
