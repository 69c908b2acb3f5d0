/-
  EV: strings.Builder: Grow.
-/
import Derived.Test.YtcjjmejmpdhikaaGreatDoorEvGrow
namespace Go.Proofs.YtcjjmejmpdhikaaGreatDoor
set_option linter.unusedSimpArgs false
set_option linter.unusedVariables false
set_option maxRecDepth 100000
open Go.RowKit

theorem AsIf.alloc {w w' : World} (h : AsIf w w') (x : Obj) : AsIf (w.alloc x) (w'.alloc x) := ⟨by show w'.heap.push x = w.heap.push x; rw [h.heap], h.os, h.tape, h.output⟩
theorem AsIf.setCell {w w' : World} (h : AsIf w w') (p : Addr) (v : Value) : AsIf (w.setCell p v) (w'.setCell p v) := ⟨by unfold World.setCell; simp only [h.heap], h.os, h.tape, h.output⟩

/-- what Grow leaves of a builder that held nothing -/
def Grew (w : World) (b n : Nat) (w' : World) : Prop :=
  (n = 0 ∧ AsIf (w.setCell ⟨b, 0, none⟩ (.pointer (some ⟨b, 0, none⟩))) w') ∨
  ∃ cs : Array Value, 0 < n ∧ n ≤ cs.size ∧ cs.size ≤ maxLen ∧ AsIf (((w.setCell ⟨b, 0, none⟩ (.pointer (some ⟨b, 0, none⟩))).setCell ⟨b, 1, none⟩ (.slice (some ⟨w.heap.size, 0, none⟩) 0 cs.size)).alloc (.cells cs 5)) w'

set_option maxHeartbeats 1000000 in
theorem Grow_fresh (b n sz : Nat) (a : Option Addr) (w : World) (hsz : 2 ≤ sz) (hb : b < w.heap.size) (h0 : w.cell? ⟨b, 0, none⟩ = some (.pointer none)) (hc1 : w.cell? ⟨b, 1, none⟩ = some (.slice a 0 0)) (hfz : ∀ i, w.frozen? ⟨b, i, none⟩ = false) (hsh : w.shape? b = some (97, sz)) (hn : n ≤ 140737488355328) :
    Calls Tryz.prog 50 #[.pointer (some ⟨b, 0, none⟩), .int .i64 n] w fun e w' => e = .returned (.tuple #[]) ∧ Grew w b n w' := by
  have hset : (w.setCell ⟨b, 0, none⟩ (.pointer (some ⟨b, 0, none⟩))).heap.size = w.heap.size := by simp [World.setCell]
  have c1 : (w.setCell ⟨b, 0, none⟩ (.pointer (some ⟨b, 0, none⟩))).cell? ⟨b, 1, none⟩ = some (.slice a 0 0) := by
    rw [World.cell?_setCell_other (h := (show (⟨b, 0, none⟩ : Addr) ≠ ⟨b, 1, none⟩ by intro e; cases e))]; exact hc1
  have c1' : (w.setCell ⟨b, 0, none⟩ (.pointer (some ⟨b, 0, none⟩))).drew.cell? ⟨b, 1, none⟩ = some (.slice a 0 0) := c1
  have f1 : (w.setCell ⟨b, 0, none⟩ (.pointer (some ⟨b, 0, none⟩))).drew.frozen? ⟨b, 1, none⟩ = false := by
    show (w.setCell ⟨b, 0, none⟩ (.pointer (some ⟨b, 0, none⟩))).frozen? ⟨b, 1, none⟩ = false
    rw [World.frozen?_setCell]; exact hfz 1
  have hn0 : ¬ (n : Int) < 0 := by omega
  have mixed : Tryz.prog.follows .mixedOrders = true := by kernel_rfl
  go_enter Tryz.func50, Tryz.ntmps50
  go_wp2_with fail
  refine (chk_fresh 97 sz (by omega) (lies_builderE _ hsz) b w h0 (hfz 0) hsh).mono ?_
  rintro e w' ⟨rfl, rfl⟩
  dsimp only
  go_wp2_with fail
  go_region_o
  all_goals go_wp2_with fail
  · refine (grow_fresh b n a (w.setCell ⟨b, 0, none⟩ (.pointer (some ⟨b, 0, none⟩))).drew (by simpa [World.setCell] using hb) c1' f1 hn).mono ?_
    rintro e w' ⟨rfl, cs, h1, h2, h3⟩
    dsimp only
    go_wp2_with fail
    go_end0
    refine ⟨rfl, .inr ⟨cs, by omega, h1, h2, ?_⟩⟩
    have hs : (w.setCell ⟨b, 0, none⟩ (.pointer (some ⟨b, 0, none⟩))).drew.heap.size = w.heap.size := hset
    rw [hs] at h3
    exact (show AsIf (((w.setCell ⟨b, 0, none⟩ (.pointer (some ⟨b, 0, none⟩))).setCell ⟨b, 1, none⟩ (.slice (some ⟨w.heap.size, 0, none⟩) 0 cs.size)).alloc (.cells cs 5)) (((w.setCell ⟨b, 0, none⟩ (.pointer (some ⟨b, 0, none⟩))).drew.setCell ⟨b, 1, none⟩ (.slice (some ⟨w.heap.size, 0, none⟩) 0 cs.size)).alloc (.cells cs 5)) from ⟨rfl, rfl, rfl, rfl⟩).trans h3
  · go_end0
    exact ⟨rfl, .inl ⟨by omega, rfl, rfl, rfl, rfl⟩⟩

def primGrow (args : List AV) (σ : Sto) : Option (ARes × Sto) :=
  match args with
  | [.ptr id 0, .lit (.int .i64 n)] =>
    match σ[id]? with
    | some (.cells [.lit (.pointer none), .sl [] .full] T) =>
      if T = 97 ∧ 0 ≤ n ∧ n ≤ 140737488355328 then
        (if n = 0 then some (.ret (.tup []), σ.set id (.cells [.ptr id 0, .sl [] .full] T))
        else some (.ret (.tup []), σ.set id (.cells [.ptr id 0, .asl σ.length 0 0 1] T) ++ [.cells [] 5]))
      else none
    | _ => none
  | _ => none

theorem two_args {us : Array Value} {d e : AV} (h : [d, e].length = us.size) : ∃ u v, us = #[u, v] := ⟨us[0]'(by simp at h; omega), us[1]'(by simp at h; omega), by
  apply Array.ext
  · simp at h; simp; omega
  · intro i h1 h2
    simp at h2
    rcases i with _ | _ | i
    · rfl
    · rfl
    · omega⟩

theorem primGrow_sound : CallSound Tryz.prog fun f args σ => if f = 50 then primGrow args σ else none := by
  intro f args σ r σ' hr ι Z w us hM hl hargs
  dsimp only at hr
  split at hr
  · rename_i e
    subst e
    unfold primGrow at hr
    split at hr
    · rename_i id n
      split at hr
      · rename_i T hσ
        split at hr
        · rename_i hcond
          obtain ⟨rfl, hn0, hnm⟩ := hcond
          obtain ⟨u, u2, rfl⟩ := two_args hl
          have hu := hargs 0 _ u rfl rfl
          have hu2 := hargs 1 _ u2 rfl rfl
          obtain ⟨b, hb, rfl⟩ := ptr_at hu
          cases hu2
          obtain ⟨m, rfl⟩ : ∃ m : Nat, n = m := ⟨n.toNat, by omega⟩
          obtain ⟨c, hheap, hlen, hc, hz⟩ := hM.obj id _ b hσ hb
          simp at hlen
          have hc0 := Array.getElem?_eq_getElem (show 0 < c.size by omega)
          have hc1 := Array.getElem?_eq_getElem (show 1 < c.size by omega)
          have h0 := (hc 0 _ _ rfl hc0).2
          have h1 := (hc 1 _ _ rfl hc1).2
          have cell0 : w.cell? ⟨b, 0, none⟩ = some c[0] := by simp [World.cell?, hheap]
          have cell1 : w.cell? ⟨b, 1, none⟩ = some c[1] := by simp [World.cell?, hheap]
          have p0 : c[0] = .pointer none := by generalize c[0] = q at h0; cases h0; rfl
          obtain ⟨a, p1⟩ : ∃ a, c[1] = .slice a 0 0 := by
            generalize c[1] = q at h1
            cases h1 with
            | nils a cc tok g1 g2 =>
              rcases g2 with g2 | ⟨_, g2⟩
              · cases g2
              · exact ⟨a, by rw [g2]⟩
            | sl b' o' n' c' k es tok U g1 g2 => simp at g1; omega
          have hbl : b < w.heap.size := (Array.getElem?_eq_some_iff.1 hheap).1
          refine ⟨Tryz.call50 _ _, (Grow_fresh b m c.size a w hlen hbl (by rw [cell0, p0]) (by rw [cell1, p1]) (fun i => by simp [World.frozen?, hheap]) (by simp [World.shape?, hheap]) (by omega)).mono ?_⟩
          rintro e w' ⟨rfl, hg⟩
          rcases hg with ⟨rfl, hA⟩ | ⟨cs, hm, hle, hmx, hA⟩
          · rw [if_pos (by rfl)] at hr
            cases hr
            rw [setCell_row _ hheap] at hA
            obtain ⟨e1, m1⟩ := hM.setCells (cs := [.ptr id 0, .sl [] .full]) (c := c.setIfInBounds 0 (.pointer (some ⟨b, 0, none⟩))) hσ hb hheap (by simp) (by simp; omega) (fun j d u hd hu => by
              rcases j with _ | _ | j
              · simp at hd; subst hd
                rw [Array.getElem?_setIfInBounds_self_of_lt (by omega)] at hu
                cases hu
                exact ⟨rfl, .ptr _ _ _ hb⟩
              · rw [Array.getElem?_setIfInBounds_ne (by omega)] at hu
                exact hc 1 d u hd hu
              · simp at hd)
            exact ⟨ι, Z, e1.trans (hA.evo ι Z), hA.match m1, _, rfl, .tup _ _ rfl fun i d u hd hu => by simp at hd⟩
          · rw [if_neg (by omega)] at hr
            cases hr
            -- first the new block, then the two cells
            have heq : ((w.setCell ⟨b, 0, none⟩ (.pointer (some ⟨b, 0, none⟩))).setCell ⟨b, 1, none⟩ (.slice (some ⟨w.heap.size, 0, none⟩) 0 cs.size)).alloc (.cells cs 5) = ((w.alloc (.cells cs 5)).setCell ⟨b, 0, none⟩ (.pointer (some ⟨b, 0, none⟩))).setCell ⟨b, 1, none⟩ (.slice (some ⟨w.heap.size, 0, none⟩) 0 cs.size) := by
              rw [World.setCell_alloc_past (hn := hbl), World.setCell_alloc_past (hn := by simpa [World.setCell] using hbl)]
            rw [heq] at hA
            obtain ⟨e0, m0⟩ := hM.newCells [] cs 5 (by simp) (fun j d u hd hu => by simp at hd)
            have hheap1 : (w.alloc (.cells cs 5)).heap[b]? = some (.cells c 97 (0, 0)) := by rw [Below.heap_alloc _ _ _ hbl]; exact hheap
            have hil := (List.getElem?_eq_some_iff.1 hσ).1
            have hσ1 : (σ ++ [.cells [] 5])[id]? = some (.cells [.lit (.pointer none), .sl [] .full] 97) := by rw [List.getElem?_append_left hil]; exact hσ
            have hb1 : (ι ++ [w.heap.size])[id]? = some b := by rw [List.getElem?_append_left (by rw [hM.len]; exact hil)]; exact hb
            rw [setCell_row _ hheap1] at hA
            have hheap2 := setRow_heap (w.alloc (.cells cs 5)) b c (c.setIfInBounds 0 (.pointer (some ⟨b, 0, none⟩))) 97 (0, 0) hheap1
            rw [setCell_row _ hheap2] at hA
            rw [setRow_setRow] at hA
            obtain ⟨e1, m1⟩ := m0.setCells (cs := [.ptr id 0, .asl σ.length 0 0 1]) (c := (c.setIfInBounds 0 (.pointer (some ⟨b, 0, none⟩))).setIfInBounds 1 (.slice (some ⟨w.heap.size, 0, none⟩) 0 cs.size)) hσ1 hb1 hheap1 (by simp) (by simp; omega) (fun j d u hd hu => by
              rcases j with _ | _ | j
              · simp at hd; subst hd
                rw [Array.getElem?_setIfInBounds_ne (by omega), Array.getElem?_setIfInBounds_self_of_lt (by omega)] at hu
                cases hu
                exact ⟨rfl, .ptr _ _ _ hb1⟩
              · simp at hd; subst hd
                rw [Array.getElem?_setIfInBounds_self_of_lt (by simp; omega)] at hu
                cases hu
                refine ⟨rfl, .asl _ _ _ _ cs.size w.heap.size (by rw [← hM.len]; simp) (Nat.zero_le _) hmx ?_⟩
                unfold cellsz
                rw [heap_alloc_new]
                simp
              · simp at hd)
            have hset : (σ ++ [AObj.cells [] 5]).set id (.cells [.ptr id 0, .asl σ.length 0 0 1] 97) = σ.set id (.cells [.ptr id 0, .asl σ.length 0 0 1] 97) ++ [.cells [] 5] := List.set_append_left _ _ hil
            rw [hset] at m1
            exact ⟨_, Z, (e0.trans e1).trans (hA.evo _ Z), hA.match m1, _, rfl, .tup _ _ rfl fun i d u hd hu => by simp at hd⟩
        · cases hr
      · cases hr
    · cases hr
  · cases hr

end Go.Proofs.YtcjjmejmpdhikaaGreatDoor
