/-
  EV: strings.Builder: Grow, of one that holds nothing yet, taken on its contract.
-/
import Derived.Test.YtcjjmejmpdhikaaGreatDoorEvBld
import Derived.Lib.MakeNoZero
import Derived.Laws.IdiomCopy
import Derived.Laws.Externs
import Derived.Shelf.RegionOpenPlain
namespace Go.Proofs.YtcjjmejmpdhikaaGreatDoor
set_option linter.unusedSimpArgs false
set_option linter.unusedVariables false
set_option maxRecDepth 100000
open Go.RowKit

/-- worlds that are the same but for what was drawn -/
structure AsIf (w w' : World) : Prop where
  heap : w'.heap = w.heap
  os : w'.os = w.os
  tape : w'.tape = w.tape
  output : w'.output = w.output

section
variable {ι : List Nat} {Z : Nat → Nat → Prop} {w w' : World} {σ : Sto}
theorem AsIf.refl (w : World) : AsIf w w := ⟨rfl, rfl, rfl, rfl⟩
theorem AsIf.trans {w w' w'' : World} (h : AsIf w w') (g : AsIf w' w'') : AsIf w w'' := ⟨g.heap.trans h.heap, g.os.trans h.os, g.tape.trans h.tape, g.output.trans h.output⟩
theorem AsIf.evo (h : AsIf w w') (ι : List Nat) (Z : Nat → Nat → Prop) : Evo ι Z w ι Z w' :=
  ⟨fun _ _ h => h, fun id _ h _ => ⟨id, h⟩, fun _ _ h => h, fun b j _ => World.cell?_of_block (by rw [h.heap]), fun b _ => by unfold cellsz; rw [h.heap], by rw [h.heap]; exact Nat.le_refl _, fun b _ _ => by rw [h.heap], h.os, h.tape, h.output⟩
theorem AsIf.match (h : AsIf w w') (hM : Match σ ι Z w) : Match σ ι Z w' := hM.same (h.evo ι Z) fun _ _ _ => by rw [h.heap]
end

set_option maxRecDepth 100000 in
set_option maxHeartbeats 1000000 in
theorem grow_fresh (b n : Nat) (a : Option Addr) (w : World) (hb : b < w.heap.size) (hc1 : w.cell? ⟨b, 1, none⟩ = some (.slice a 0 0)) (hfz : w.frozen? ⟨b, 1, none⟩ = false) (hn : n ≤ 140737488355328) :
    Calls Tryz.prog 84 #[.pointer (some ⟨b, 0, none⟩), .int .i64 n] w fun e w' => e = .returned (.tuple #[]) ∧ ∃ cs : Array Value, n ≤ cs.size ∧ cs.size ≤ maxLen ∧ AsIf ((w.setCell ⟨b, 1, none⟩ (.slice (some ⟨w.heap.size, 0, none⟩) 0 cs.size)).alloc (.cells cs 5)) w' := by
  obtain ⟨cs, hrun, hle, hmax⟩ := Lib.run_makeNoZero (P := Tryz.prog) w.drew #[3] 95 5 Tryz.underlying95 n (by omega)
  have hw : IntKind.i64.wrap (IntKind.i64.wrap 0 + (n : Int)) = n := by
    rw [IntKind.wrap_i64, IntKind.wrap_i64]
    omega
  have hcall : (callFunc 109 #[.int .i64 (IntKind.i64.wrap (IntKind.i64.wrap 0 + (n : Int)))]).run Tryz.prog w.drew = .ok (.value (.slice (some ⟨w.drew.heap.size, 0, none⟩) n cs.size)) (w.drew.drew.drew.alloc (.cells cs 5)) := by
    rw [hw, run_callFunc_extern Tryz.func109 (by kernel_rfl) (by kernel_rfl) (by kernel_rfl) (e := Extern.BytealgMakeNoZero.makeNoZero #[3] #[95]) (by kernel_rfl), hrun]
    rfl
  have c1 : w.drew.cell? ⟨b, 1, none⟩ = some (.slice a 0 0) := hc1
  have c2 : (w.alloc (.cells cs 5)).cell? ⟨b, 1, none⟩ = some (.slice a 0 0) := by rw [cell_alloc w _ b 1 hb]; exact hc1
  have f2 : (w.alloc (.cells cs 5)).frozen? ⟨b, 1, none⟩ = false := by
    have : (w.alloc (.cells cs 5)).heap[b]? = w.heap[b]? := Below.heap_alloc _ _ _ hb
    unfold World.frozen? at hfz ⊢
    simp only [this]
    exact hfz
  have hsz : (Tryz.prog.info? 5).map (·.size) = some 1 := by kernel_rfl
  have hcopy : ∀ W : World, (Builtin.copy_ #[95, 95] 3 #[.slice (some ⟨w.heap.size, 0, none⟩) 0 cs.size, .slice a 0 0]).run Tryz.prog W = .ok (goInt 0) W :=
    fun W => run_copy_none W 95 95 3 5 _ _ 0 cs.size 0 0 Tryz.underlying95 hsz rfl
  have hmx := hmax (by unfold maxLen; omega)
  have hfin : ∀ W : World, AsIf ((w.setCell ⟨b, 1, none⟩ (.slice (some ⟨w.heap.size, 0, none⟩) 0 cs.size)).alloc (.cells cs 5)) W → ∃ cs : Array Value, n ≤ cs.size ∧ cs.size ≤ maxLen ∧ AsIf ((w.setCell ⟨b, 1, none⟩ (.slice (some ⟨w.heap.size, 0, none⟩) 0 cs.size)).alloc (.cells cs 5)) W :=
    fun W h => ⟨cs, hle, hmx, h⟩
  clear hw hc1 hfz
  have mixed : Tryz.prog.follows .mixedOrders = true := by kernel_rfl
  go_enter Tryz.func84, Tryz.ntmps84
  go_wp2
  go_region_o
  all_goals (go_wp2; go_end0; exact ⟨rfl, hfin _ ⟨rfl, rfl, rfl, rfl⟩⟩)

end Go.Proofs.YtcjjmejmpdhikaaGreatDoor
