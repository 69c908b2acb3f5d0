/-
 EV: slices.Sorted at maps.Keys, taken on the shelf's contract; tree.Free.
-/
import Derived.Test.YteajcnilihgheaaGreatDoorTSortM
import Derived.Test.YteajcnilihgheaaGreatDoorRw14M
import Derived.Test.YteajcnilihgheaaGreatDoorStrsM
namespace Go.Proofs.YteajcnilihgheaaGreatDoor
set_option maxRecDepth 100000
set_option maxHeartbeats 8000000
set_option linter.unusedSimpArgs false
set_option linter.unusedVariables false
section
open Go.RowKit Go.Sort Go.Maps Go.Shelf
section
variable {ι : List Nat} {Z : Nat → Nat → Prop} {w : World} {σ : Sto}
theorem Below.evoNew (hM : Match σ ι Z w) {w' : World} (hb : Below w.heap.size w w') {g : Nat} (hg : w.heap.size ≤ g) (hgl : g < w'.heap.size) : Evo ι Z w (ι ++ [g]) Z w' where
 pre := fun id b h => by rw [List.getElem?_append_left (List.getElem?_eq_some_iff.1 h).1]; exact h
 img := fun id b h hl => by
  rcases Nat.lt_or_ge id ι.length with h1 | h1
  · rw [List.getElem?_append_left h1] at h; exact ⟨id, h⟩
  · rw [List.getElem?_append_right h1] at h
    have : b = g := by
     cases hk : id - ι.length with
     | zero => rw [hk] at h; simpa using h.symm
     | succ k => rw [hk] at h; simp at h
    omega
 zmono := fun _ _ h => h
 zsame := fun b j e => World.cell?_of_block (hb.block b (hM.zlt b j e))
 csz := fun b hl => by unfold cellsz; rw [hb.block b hl]
 size := hb.size
 keep := fun b hl _ => hb.block b hl
 os := hb.os
 tape := hb.tape
 output := hb.output
 znew := fun _ _ h _ => .inl h
 inew := fun id b h => by
  rcases Nat.lt_or_ge id ι.length with h1 | h1
  · rw [List.getElem?_append_left h1] at h; exact .inr ⟨id, h⟩
  · rw [List.getElem?_append_right h1] at h
    have : b = g := by
     cases hk : id - ι.length with
     | zero => rw [hk] at h; simpa using h.symm
     | succ k => rw [hk] at h; simp at h
    exact .inl (by omega)
end
def keysBs (es : List (Value × AV)) : List (List UInt8) := (keysB es).map fun s => s.data.toList
theorem keysBs_len {es : List (Value × AV)} (h : strK es) : (keysBs es).length = es.length := by
 unfold keysBs
 rw [List.length_map]
 induction es with
 | nil => rfl
 | cons q l ih =>
  obtain ⟨q1, q2⟩ := q
  obtain ⟨q, rfl⟩ := h _ List.mem_cons_self
  rw [keysB_cons, List.length_cons, List.length_cons, ih fun p hp => h p (List.mem_cons_of_mem _ hp)]
open Classical in
noncomputable def primKeys (args : List AV) (σ : Sto) : Option (ARes × Sto) :=
 match args with
 | [.fn (.func g) [] [.ptr vid 0]] =>
  match σ[vid]? with
  | some (.cells [.mp mid] T) =>
   match σ[mid]? with
   | some (.map .str es) => if g = 110 ∧ strK es ∧ (keysB es).Nodup ∧ es.length ≤ 1000000000000 ∧ (∀ s ∈ keysB es, s.size ≤ 1000000000000) ∧ es ≠ [] then
       some (.ret (.asl σ.length 0 es.length 1), σ ++ [.cells ((sortB (keysB es)).map encA) 9]) else if g = 110 ∧ es = [] then some (.ret (.sl [] .full), σ) else none
   | _ => none
  | _ => none
 | _ => none
theorem sorts_in (m : Nat) : AnyZ.SortsIn Tryz.prog Tryz.sorted69_ren Fence.wide m :=
 ⟨fun blk off cap ss W hH hblk hsz => callsIn_wide.2 (AnyM.slices_Sort_string Tryz.sort109 blk off cap ss W hH hblk hsz),
  fun p cap W => callsIn_wide.2 (AnyM.slices_Sort_string_none Tryz.sort109 p cap W)⟩
theorem sorted_keys {H : Type} (Bm b nn : Nat) (D0 : DataW H) (R : Value → Option (DataW H × List MemPlace)) (w : World) (hBm : Bm < w.heap.size) (hm : w.cell? ⟨Bm, 0, none⟩ = some (.map (some b))) (hown : w.ownsMap Tryz.prog 9 R b nn D0) (hmax : Maps.size D0 ≤ maxLen) (hbytes : Maps.size D0 * 16 ≤ 140737488355328) :
    Calls Tryz.prog 69 #[.func (.func 110) #[] #[.pointer (some ⟨Bm, 0, none⟩)]] w fun e w' => ∃ (v : Value) (ss : List (List UInt8)), e = .returned v ∧ ss.Perm (strKeys D0) ∧
     w'.ownsRow w.heap.size 9 1 v ss.length ((ss.mergeSort (fun x y => decide (x ≤ y))).map encStr) ∧ (v = .slice none 0 0 ↔ ss = []) ∧ Below w.heap.size w w' := by
 have hseq : SeqGives Fence.wide 2 Tryz.prog 110 #[.pointer (some ⟨Bm, 0, none⟩)] encStr (fun ss => ss.Perm (strKeys D0)) (Maps.size D0) w :=
  AnyZ.keys_gives (ρ := Tryz.keys70_ren) { Tryz.keys70 with } Fence.wide _ trivial rfl (by omega) Bm b nn D0 w hBm hm hown
 refine callsIn_wide.1 (AnyZ.sorted_in Tryz.sorted69 Fence.wide 5 trivial trivial trivial trivial rfl (by omega) (sorts_in _) (enters_of Tryz.func109 (by kernel_rfl) rfl) 110 #[.pointer (some ⟨Bm, 0, none⟩)] trivial (enters_of Tryz.func110 (by kernel_rfl) rfl) _ _ hmax hbytes _ hseq)
theorem primKeys_sound : CallSound Tryz.prog fun f args σ => if f = 69 then primKeys args σ else none := by
 intro f args σ r σ' hr ι Z w us hM hl hargs
 dsimp only at hr
 split at hr
 · rename_i e
   subst e
   unfold primKeys at hr
   split at hr
   · rename_i g vid
     split at hr
     · rename_i mid T hσ
       split at hr
       · rename_i es hσ2
         obtain ⟨u, rfl⟩ := one_arg hl
         have hu := hargs 0 _ u rfl rfl
         have go : g = 110 → strK es → (keysB es).Nodup → es.length ≤ 1000000000000 → (∀ s ∈ keysB es, s.size ≤ 1000000000000) → ∃ Bm, u = .func (.func 110) #[] #[.pointer (some ⟨Bm, 0, none⟩)] ∧ Calls Tryz.prog 69 #[u] w fun e w' => ∃ (v : Value) (ss : List (List UInt8)), e = .returned v ∧ ss.Perm (keysBs es) ∧
          w'.ownsRow w.heap.size 9 1 v ss.length ((ss.mergeSort (fun x y => decide (x ≤ y))).map encStr) ∧ (v = .slice none 0 0 ↔ ss = []) ∧ Below w.heap.size w w' := by
          intro hg hk hn hlen hs
          subst hg
          generalize hd : AV.fn (.func 110) [] [.ptr vid 0] = d at hu
          cases hu with
          | fn f0 first cap fs cs h1 h2 h3 h4 =>
           cases hd
           obtain rfl : fs = #[] := Array.eq_empty_of_size_eq_zero h1.symm
           obtain ⟨c0, rfl⟩ : ∃ c0, cs = #[c0] := one_arg (d := .ptr vid 0) h2
           obtain ⟨Bm, hBm, rfl⟩ := ptr_at (h4 0 _ c0 rfl rfl)
           obtain ⟨c, hheap, hcl, hc, _⟩ := hM.obj vid _ Bm hσ hBm
           have hc0 := Array.getElem?_eq_getElem (show 0 < c.size by simp at hcl; omega)
           have hv0 := (hc 0 _ _ rfl hc0).2
           have hcell : w.cell? ⟨Bm, 0, none⟩ = some c[0] := by simp [World.cell?, hheap, hc0]
           generalize c[0] = q at hv0 hcell
           cases hv0 with
           | mp _ mb hmb =>
            obtain ⟨arr, ha, hal, hall, _⟩ := hM.obj mid _ mb hσ2 hmb
            refine ⟨Bm, rfl, ?_⟩
            have hkey : ∀ (i : Nat) (a : MapEntry), arr[i]? = some a → ∃ s, s ∈ keysB es ∧ a.key = .string s ∧ a.born = i ∧ (keysB es)[i]? = some s := by
             intro i a hai
             have hil : i < es.length := by have := (Array.getElem?_eq_some_iff.1 hai).1; omega
             obtain ⟨s, hs⟩ := hk _ (List.getElem_mem hil)
             have := hall i (es[i]).1 (es[i]).2 a (by rw [List.getElem?_eq_getElem hil]) hai
             have hki : ∀ (es : List (Value × AV)) (i : Nat) (s : ByteArray) (v : AV), strK es → es[i]? = some (.string s, v) → (keysB es)[i]? = some s := by
              intro es
              induction es with
              | nil => intro i s v _ h; simp at h
              | cons q l ih =>
               intro i s v hk h
               obtain ⟨q1, q2⟩ := q
               obtain ⟨q, rfl⟩ := hk _ List.mem_cons_self
               rw [keysB_cons]
               cases i with
               | zero => simp only [List.getElem?_cons_zero, Option.some.injEq, Prod.mk.injEq, Value.string.injEq] at h ⊢; exact h.1
               | succ i => exact ih i s v (fun p hp => hk p (List.mem_cons_of_mem _ hp)) (by simpa using h)
             have hks := hki es i s (es[i]).2 hk (by rw [List.getElem?_eq_getElem hil, ← hs])
             exact ⟨s, List.mem_of_getElem? hks, this.1.trans hs, this.2.1, hks⟩
            have hkb : (keysB es).length = es.length := by have := keysBs_len hk; unfold keysBs at this; rwa [List.length_map] at this
            let R : Value → Option (DataW Unit × List MemPlace) := fun _ => some (.lit (.bool true), [])
            have hu9 : Tryz.prog.underlying 9 = some .string := by kernel_rfl
            have hread : ∀ (i : Nat) (a : MapEntry) (s : ByteArray), arr[i]? = some a → (keysB es)[i]? = some s → Go.WideElems.rd Tryz.prog 9 R a = some (.string s.data.toList, .lit (.bool true)) := by
             intro i a s hai hsi
             obtain ⟨s2, q1, q2, q3, q4⟩ := hkey i a hai
             rw [hsi] at q4; cases q4
             have hsz := hs s q1
             unfold Go.WideElems.rd
             rw [q2, Go.WideMaps.keyOf_string_mk hu9 (show s.size ≤ maxLen by unfold maxLen; omega)]
             rfl
            have hrows : arr.toList.map (Go.WideElems.rg Tryz.prog 9 R) = (keysBs es).map fun b => (.string b, .lit (.bool true)) := by
             refine List.ext_getElem? fun i => ?_
             rw [List.getElem?_map, Array.getElem?_toList, List.getElem?_map]
             unfold keysBs
             rw [List.getElem?_map]
             cases hai : arr[i]? with
             | none =>
              have : (keysB es)[i]? = none := by rw [List.getElem?_eq_none_iff, hkb, ← hal]; simpa using hai
              rw [this]; rfl
             | some a =>
              obtain ⟨s2, q1, q2, q3, q4⟩ := hkey i a hai
              rw [q4]
              show some _ = some _
              rw [Go.WideElems.rg, hread i a s2 hai q4]; rfl
            have hown : w.ownsMap Tryz.prog 9 R mb arr.size (.map ((arr.toList.map (Go.WideElems.rg Tryz.prog 9 R)).foldr DataW.insert [])) := by
             refine ⟨arr, arr.size, ha, ⟨by show arr.size ≤ maxLen; unfold maxLen; omega, ⟨fun x hx => ?_, ?_, ?_⟩, fun x hx => ?_⟩, Nat.le_refl _, rfl⟩
             · obtain ⟨i, hi, rfl⟩ := List.getElem_of_mem hx
               have hi' : i < arr.size := by simpa using hi
               obtain ⟨_, _, _, q3, _⟩ := hkey i arr[i] (Array.getElem?_eq_getElem hi')
               have : (arr.toList)[i] = arr[i] := by simp
               rw [this, q3]; exact hi'
             · have : arr.toList.map (·.born) = List.range arr.size := by
                refine List.ext_getElem? fun i => ?_
                rw [List.getElem?_map, Array.getElem?_toList]
                cases hai : arr[i]? with
                | none => have : arr.size ≤ i := by simpa using hai
                          simp [this]
                | some a =>
                 obtain ⟨_, _, _, q3, _⟩ := hkey i a hai
                 have := (Array.getElem?_eq_some_iff.1 hai).1
                 simp [this, q3]
               rw [this]; exact List.nodup_range
             · have : arr.toList.map (·.key) = (keysB es).map .string := by
                refine List.ext_getElem? fun i => ?_
                rw [List.getElem?_map, Array.getElem?_toList, List.getElem?_map]
                cases hai : arr[i]? with
                | none =>
                 have : (keysB es)[i]? = none := by rw [List.getElem?_eq_none_iff, hkb, ← hal]; simpa using hai
                 rw [this]; rfl
                | some a =>
                 obtain ⟨s2, q1, q2, q3, q4⟩ := hkey i a hai
                 rw [q4]; simp [q2]
               rw [this]
               exact List.Pairwise.map _ (fun a b h e => h (by injection e)) hn
             · obtain ⟨i, hi, rfl⟩ := List.getElem_of_mem hx
               have hi' : i < arr.size := by simpa using hi
               obtain ⟨s2, q1, q2, q3, q4⟩ := hkey i arr[i] (Array.getElem?_eq_getElem hi')
               have : (arr.toList)[i] = arr[i] := by simp
               rw [this]
               exact ⟨_, hread i _ s2 (Array.getElem?_eq_getElem hi') q4⟩
            have hperm : (strKeys (.map ((arr.toList.map (Go.WideElems.rg Tryz.prog 9 R)).foldr DataW.insert []) : DataW Unit)).Perm (keysBs es) := by
             show (List.map _ _).Perm _
             refine ((Go.WideShapes.sorted_perm _).map _).trans ?_
             rw [hrows, List.map_map]
             have : ((fun p : Lit × DataW Unit => strOf p.1) ∘ fun b => (Lit.string b, DataW.lit (.bool true))) = id := rfl
             rw [this, List.map_id]
            have hsz : Maps.size (.map ((arr.toList.map (Go.WideElems.rg Tryz.prog 9 R)).foldr DataW.insert []) : DataW Unit) = arr.size := by
             show List.length _ = _
             rw [(Go.WideShapes.sorted_perm _).length_eq]; simp
            refine (sorted_keys Bm mb _ _ R w (by have := (Array.getElem?_eq_some_iff.1 hheap).1; exact this) hcell hown (by rw [hsz]; unfold maxLen; omega) (by rw [hsz]; omega)).mono ?_
            rintro e w' ⟨v, ss, h1, h2, h3⟩
            exact ⟨v, ss, h1, h2.trans hperm, h3⟩
          | _ => cases hd
         split at hr
         · rename_i hcond
           obtain ⟨hg, hk, hn, hlen, hs, hne⟩ := hcond
           cases hr
           obtain ⟨Bm, hu2, hcalls⟩ := go hg hk hn hlen hs
           refine ⟨Tryz.call69 _ _, hcalls.mono ?_⟩
           rintro e w' ⟨v, ss, rfl, hp, hrow, hnil, hbl⟩
           have hsl : ss.length = es.length := by rw [hp.length_eq, keysBs_len hk]
           have hsne : ss ≠ [] := fun h => hne (List.eq_nil_of_length_eq_zero (by rw [← hsl, h]; rfl))
           obtain ⟨_, hrow⟩ := hrow
           rcases hrow with ⟨rfl, _⟩ | ⟨g2, cap, cur, rfl, hg2, hgh, hcap, hcm, hcs, htk⟩
           · exact absurd (hnil.1 rfl) hsne
           have hgl := (Array.getElem?_eq_some_iff.1 hgh).1
           have hms : ss.mergeSort (fun x y => decide (x ≤ y)) = sortB (keysB es) := mergeSort_of_perm hp
           rw [hms, Nat.mul_one] at htk
           have ev := Below.evoNew hM hbl hg2 hgl
           have m0 := hM.below hbl
           refine ⟨ι ++ [g2], Z, ev, ?_, _, rfl, ?_⟩
           · refine hM.go ev (by simp [hM.len]) (fun id o b ho hb hlive => ?_) (fun i j b o p hi hj ho hp lo lp => ?_) fun b j hj => Nat.lt_of_lt_of_le (hM.zlt b j hj) hbl.size
             · rcases Nat.lt_or_ge id σ.length with hl' | hl'
               · rw [List.getElem?_append_left hl'] at ho
                 rw [List.getElem?_append_left (by rw [hM.len]; exact hl')] at hb
                 have := (hM.obj id o b ho hb).lt hlive
                 exact .inr ⟨ho, hbl.block b this, fun _ hj => hj⟩
               · have hid : id = σ.length := by have := (List.getElem?_eq_some_iff.1 ho).1; simp at this; omega
                 subst hid
                 rw [List.getElem?_append_right (by omega)] at ho
                 rw [List.getElem?_append_right (by rw [hM.len]; omega)] at hb
                 simp [hM.len] at ho hb
                 subst ho; subst hb
                 refine .inl ⟨cur, hgh, ?_, fun j d u hd hu => ?_, fun j hj => ?_⟩
                 · simp only [List.length_map]
                   have := congrArg List.length htk
                   simp only [List.length_take, List.length_map] at this
                   have : (sortB (keysB es)).length ≤ cur.toList.length := by omega
                   simpa using this
                 · rw [List.getElem?_map, Option.map_eq_some_iff] at hd
                   obtain ⟨s, hs1, rfl⟩ := hd
                   have h1 : (cur.toList.take ss.length)[j]? = some (encStr s) := by rw [htk, List.getElem?_map, hs1]; rfl
                   rw [List.getElem?_take] at h1
                   split at h1
                   · rw [Array.getElem?_toList] at h1
                     rw [hu] at h1
                     cases h1
                     exact ⟨rfl, .lit _ rfl⟩
                   · cases h1
                 · have := hM.zlt _ j hj; omega
             · have key : ∀ (i b : Nat) (o : AObj), (ι ++ [g2])[i]? = some b → (σ ++ [AObj.cells ((sortB (keysB es)).map encA) 9])[i]? = some o → o.live → (i < σ.length ∧ ι[i]? = some b ∧ σ[i]? = some o ∧ b < w.heap.size) ∨ (i = σ.length ∧ b = g2) := by
                intro i b o hi ho lo
                rcases Nat.lt_or_ge i σ.length with hl' | hl'
                · rw [List.getElem?_append_left hl'] at ho
                  rw [List.getElem?_append_left (by rw [hM.len]; exact hl')] at hi
                  exact .inl ⟨hl', hi, ho, (hM.obj i o b ho hi).lt lo⟩
                · have hid : i = σ.length := by have := (List.getElem?_eq_some_iff.1 ho).1; simp at this; omega
                  subst hid
                  rw [List.getElem?_append_right (by rw [hM.len]; omega)] at hi
                  simp [hM.len] at hi
                  exact .inr ⟨rfl, hi.symm⟩
               rcases key i b o hi ho lo with ⟨_, a1, a2, a3⟩ | ⟨a1, a2⟩ <;> rcases key j b p hj hp lp with ⟨_, b1, b2, b3⟩ | ⟨b1, b2⟩
               · exact hM.inj i j b o p a1 b1 a2 b2 lo lp
               · omega
               · omega
               · omega
           · rw [hsl]
             refine .asl _ _ _ _ cap g2 (by rw [← hM.len]; simp) (by omega) hcm ?_
             have : cellsz w' g2 = cur.size := by unfold cellsz; rw [hgh]
             rw [this, hcs]; omega
         · split at hr
           · rename_i hcond
             obtain ⟨hg, rfl⟩ := hcond
             cases hr
             obtain ⟨Bm, hu2, hcalls⟩ := go hg (fun p hp => by cases hp) (by simp [keysB]) (by simp) (by simp [keysB])
             refine ⟨Tryz.call69 _ _, hcalls.mono ?_⟩
             rintro e w' ⟨v, ss, rfl, hp, hrow, hnil, hbl⟩
             have hsn : ss = [] := List.Perm.eq_nil (by simpa [keysBs, keysB] using hp)
             have hv := hnil.2 hsn
             subst hv
             exact ⟨ι, Z, .ofBelow hM hbl, hM.below hbl, _, rfl, .nils none 0 .full (fun _ => rfl) (.inr ⟨rfl, rfl⟩)⟩
           · cases hr
       · cases hr
     · cases hr
   · cases hr
 · cases hr
mutual
def allY : Ty → List ByteArray
 | .mk fn st rf ps rs => namesT rf ++ (allPs ps ++ allYs rs)
def allP : Prm → List ByteArray
 | .mk nm ty => allY ty
def allPs : List Prm → List ByteArray
 | [] => []
 | p :: l => allP p ++ allPs l
def allYs : List Ty → List ByteArray
 | [] => []
 | t :: l => allY t ++ allYs l
end
def allA : Atm → List ByteArray
 | .mk k nm ng dg tr => [nm]
def allAs : List Atm → List ByteArray
 | [] => []
 | a :: l => allA a ++ allAs l
mutual
def allE : Exp → List ByteArray
 | .mk k nm ty rh am ar bd => allA am ++ (allYs ty ++ (allRs rh ++ (allEs bd ++ allMs ar)))
def allEs : List Exp → List ByteArray
 | [] => []
 | t :: l => allE t ++ allEs l
def allR : Rhs → List ByteArray
 | .mk k nm ats ps rs bd ts => allAs ats ++ (namesTs ts ++ (allPs ps ++ (allYs rs ++ allEs bd)))
def allRs : List Rhs → List ByteArray
 | [] => []
 | t :: l => allR t ++ allRs l
def allM : Arm → List ByteArray
 | .mk cn ns bd => allEs bd
def allMs : List Arm → List ByteArray
 | [] => []
 | t :: l => allM t ++ allMs l
end
def Fits (l : List ByteArray) (n : Nat) : Prop := l.length ≤ n ∧ ∀ s ∈ l, s.size ≤ n
theorem Fits.app {a b : List ByteArray} {m n : Nat} (h : Fits a m) (k : Fits b n) : Fits (a ++ b) (m + n) := ⟨by have := h.1; have := k.1; simp; omega, fun s hs => by
 rcases List.mem_append.1 hs with hs | hs
 · have := h.2 s hs; omega
 · have := k.2 s hs; omega⟩
theorem Fits.mono {a : List ByteArray} {m n : Nat} (h : Fits a m) (hn : m ≤ n) : Fits a n := ⟨Nat.le_trans h.1 hn, fun s hs => Nat.le_trans (h.2 s hs) hn⟩
theorem Fits.nil (n : Nat) : Fits [] n := ⟨by simp, fun s hs => by cases hs⟩
mutual
theorem fitsT : ∀ t : Trm, Fits (namesT t) t.w
 | .mk k nm ng dg ks => by
  rw [namesT, Trm.w]
  have h1 : Fits (if k = 1 then [nm] else []) (1 + nm.size) := by
   split
   · exact ⟨by simp, fun s hs => by simp only [List.mem_singleton] at hs; subst hs; omega⟩
   · exact .nil _
  exact (h1.app (fitsTs ks)).mono (by omega)
theorem fitsTs : ∀ t : List Trm, Fits (namesTs t) (trmW t)
 | [] => .nil _
 | t :: l => by rw [namesTs, trmW]; exact (fitsT t).app (fitsTs l)
end
mutual
theorem fitsY : ∀ t : Ty, Fits (allY t) t.w
 | .mk fn st rf ps rs => by rw [allY, Ty.w]; exact ((fitsT rf).app ((fitsPs ps).app (fitsYs rs))).mono (by omega)
theorem fitsP : ∀ t : Prm, Fits (allP t) t.w
 | .mk nm ty => by rw [allP, Prm.w]; exact (fitsY ty).mono (by omega)
theorem fitsPs : ∀ t : List Prm, Fits (allPs t) (prmW t)
 | [] => .nil _
 | t :: l => by rw [allPs, prmW]; exact (fitsP t).app (fitsPs l)
theorem fitsYs : ∀ t : List Ty, Fits (allYs t) (tyW t)
 | [] => .nil _
 | t :: l => by rw [allYs, tyW]; exact (fitsY t).app (fitsYs l)
end
theorem fitsA : ∀ t : Atm, Fits (allA t) t.w
 | .mk k nm ng dg tr => by
  rw [allA, Atm.w]
  exact ⟨by simp; omega, fun s hs => by simp only [List.mem_singleton] at hs; subst hs; omega⟩
theorem fitsAs : ∀ t : List Atm, Fits (allAs t) (atmW t)
 | [] => .nil _
 | t :: l => by rw [allAs, atmW]; exact (fitsA t).app (fitsAs l)
mutual
theorem fitsE : ∀ t : Exp, Fits (allE t) t.w
 | .mk k nm ty rh am ar bd => by rw [allE, Exp.w]; exact ((fitsA am).app ((fitsYs ty).app ((fitsRs rh).app ((fitsEs bd).app (fitsMs ar))))).mono (by omega)
theorem fitsEs : ∀ t : List Exp, Fits (allEs t) (expW t)
 | [] => .nil _
 | t :: l => by rw [allEs, expW]; exact (fitsE t).app (fitsEs l)
theorem fitsR : ∀ t : Rhs, Fits (allR t) t.w
 | .mk k nm ats ps rs bd ts => by rw [allR, Rhs.w]; exact ((fitsAs ats).app ((fitsTs ts).app ((fitsPs ps).app ((fitsYs rs).app (fitsEs bd))))).mono (by omega)
theorem fitsRs : ∀ t : List Rhs, Fits (allRs t) (rhsW t)
 | [] => .nil _
 | t :: l => by rw [allRs, rhsW]; exact (fitsR t).app (fitsRs l)
theorem fitsM : ∀ t : Arm, Fits (allM t) t.w
 | .mk cn ns bd => by rw [allM, Arm.w]; exact (fitsEs bd).mono (by omega)
theorem fitsMs : ∀ t : List Arm, Fits (allMs t) (armW t)
 | [] => .nil _
 | t :: l => by rw [allMs, armW]; exact (fitsM t).app (fitsMs l)
end
mutual
theorem inY : ∀ (t : Ty) (s : ByteArray), frY t s → s ∈ allY t
 | .mk fn st rf ps rs, s, h => by
  rw [frY] at h
  rw [allY, List.mem_append, List.mem_append]
  rcases h with ⟨_, h⟩ | ⟨_, h⟩
  · exact .inr (inPs ps _ (allYs rs) s (inYs rs s) h)
  · exact .inl h.1
theorem inP : ∀ (t : Prm) (s : ByteArray), frP t s → s ∈ allP t
 | .mk nm ty, s, h => by rw [frP] at h; rw [allP]; exact inY ty s h
theorem inPs : ∀ (l : List Prm) (G : ByteArray → Prop) (m : List ByteArray) (s : ByteArray), (G s → s ∈ m) → frPs l G s → s ∈ allPs l ∨ s ∈ m
 | [], G, m, s, hg, h => by rw [frPs] at h; exact .inr (hg h)
 | p :: l, G, m, s, hg, h => by
  rw [frPs] at h
  rw [allPs, List.mem_append]
  rcases h with h | ⟨_, h⟩
  · exact .inl (.inl (inP p s h))
  · rcases inPs l G m s hg h with h | h
    · exact .inl (.inr h)
    · exact .inr h
theorem inYs : ∀ (t : List Ty) (s : ByteArray), frYs t s → s ∈ allYs t
 | [], s, h => by rw [frYs] at h; exact h.elim
 | t :: l, s, h => by
  rw [frYs] at h
  rw [allYs, List.mem_append]
  rcases h with h | h
  · exact .inl (inY t s h)
  · exact .inr (inYs l s h)
end
theorem inA : ∀ (t : Atm) (s : ByteArray), frA t s → s ∈ allA t
 | .mk k nm ng dg tr, s, h => by rw [allA, h.2]; exact List.mem_cons_self
theorem inAs : ∀ (l : List Atm) (s : ByteArray), (∃ a ∈ l, frA a s) → s ∈ allAs l
 | [], s, h => by obtain ⟨a, h, _⟩ := h; cases h
 | x :: l, s, h => by
  rw [allAs, List.mem_append]
  obtain ⟨a, h1, h2⟩ := h
  rcases List.mem_cons.1 h1 with rfl | h1
  · exact .inl (inA _ s h2)
  · exact .inr (inAs l s ⟨a, h1, h2⟩)
theorem inTs : ∀ (l : List Trm) (s : ByteArray), (∃ a ∈ l, frT a s) → s ∈ namesTs l
 | [], s, h => by obtain ⟨a, h, _⟩ := h; cases h
 | x :: l, s, h => by
  rw [namesTs, List.mem_append]
  obtain ⟨a, h1, h2⟩ := h
  rcases List.mem_cons.1 h1 with rfl | h1
  · exact .inl h2.1
  · exact .inr (inTs l s ⟨a, h1, h2⟩)
mutual
theorem inE : ∀ (t : Exp) (s : ByteArray), frE t s → s ∈ allE t
 | .mk k nm ty rh am ar bd, s, h => by
  rw [frE] at h
  simp only [allE, List.mem_append]
  rcases h with (((⟨_, h⟩ | h) | h) | ⟨_, h⟩) | h
  · exact .inl (inA am s h)
  · exact .inr (.inl (inYs ty s h))
  · exact .inr (.inr (.inl (inRs rh s h)))
  · exact .inr (.inr (.inr (.inl (inEs bd s h))))
  · exact .inr (.inr (.inr (.inr (inMs ar s h))))
theorem inEs : ∀ (t : List Exp) (s : ByteArray), frEs t s → s ∈ allEs t
 | [], s, h => by rw [frEs] at h; exact h.elim
 | t :: l, s, h => by
  rw [frEs] at h
  rw [allEs, List.mem_append]
  rcases h with h | h
  · exact .inl (inE t s h)
  · exact .inr (inEs l s h)
theorem inR : ∀ (t : Rhs) (s : ByteArray), frR t s → s ∈ allR t
 | .mk k nm ats ps rs bd ts, s, h => by
  rw [frR] at h
  simp only [allR, List.mem_append]
  rcases h with (h | h) | h
  · exact .inl (inAs ats s h)
  · exact .inr (.inl (inTs ts s h))
  · rcases inPs ps _ (allYs rs ++ allEs bd) s (fun h => List.mem_append.2 (h.imp (inYs rs s) (inEs bd s))) h with h | h
    · exact .inr (.inr (.inl h))
    · rcases List.mem_append.1 h with h | h
      · exact .inr (.inr (.inr (.inl h)))
      · exact .inr (.inr (.inr (.inr h)))
theorem inRs : ∀ (t : List Rhs) (s : ByteArray), frRs t s → s ∈ allRs t
 | [], s, h => by rw [frRs] at h; exact h.elim
 | t :: l, s, h => by
  rw [frRs] at h
  rw [allRs, List.mem_append]
  rcases h with h | h
  · exact .inl (inR t s h)
  · exact .inr (inRs l s h)
theorem inM : ∀ (t : Arm) (s : ByteArray), frM t s → s ∈ allM t
 | .mk cn ns bd, s, h => by rw [frM] at h; rw [allM]; exact inEs bd s h.2
theorem inMs : ∀ (t : List Arm) (s : ByteArray), frMs t s → s ∈ allMs t
 | [], s, h => by rw [frMs] at h; exact h.elim
 | t :: l, s, h => by
  rw [frMs] at h
  rw [allMs, List.mem_append]
  rcases h with h | h
  · exact .inl (inM t s h)
  · exact .inr (inMs l s h)
end
theorem nodup_le {α : Type} : ∀ (l m : List α), l.Nodup → (∀ x ∈ l, x ∈ m) → l.length ≤ m.length
 | [], m, _, _ => by simp
 | a :: l, m, hn, h => by
  obtain ⟨p, q, rfl⟩ := List.append_of_mem (h a List.mem_cons_self)
  rw [List.nodup_cons] at hn
  have := nodup_le l (p ++ q) hn.2 fun x hx => by
   have h1 := h x (List.mem_cons_of_mem _ hx)
   rcases List.mem_append.1 h1 with h1 | h1
   · exact List.mem_append.2 (.inl h1)
   · rcases List.mem_cons.1 h1 with rfl | h1
     · exact absurd hx hn.1
     · exact List.mem_append.2 (.inr h1)
  simp only [List.length_append, List.length_cons] at this ⊢
  omega
open Classical in
noncomputable def setL (G : ByteArray → Prop) : List ByteArray := if h : ∃ l : List ByteArray, l.Nodup ∧ ∀ s, s ∈ l ↔ G s then (sortB h.choose).map strB else []
theorem setL_eq {G : ByteArray → Prop} {l : List ByteArray} (hn : l.Nodup) (hm : ∀ s, s ∈ l ↔ G s) : setL G = (sortB l).map strB := by
 have h : ∃ l : List ByteArray, l.Nodup ∧ ∀ s, s ∈ l ↔ G s := ⟨l, hn, hm⟩
 unfold setL
 rw [dif_pos h]
 have hp : h.choose.Perm l := (List.perm_ext_iff_of_nodup h.choose_spec.1 hn).2 fun a => (h.choose_spec.2 a).trans (hm a).symm
 unfold sortB
 rw [mergeSort_of_perm (hp.map fun s : ByteArray => s.data.toList)]
theorem mem_setL {G : ByteArray → Prop} {l : List ByteArray} (hn : l.Nodup) (hm : ∀ s, s ∈ l ↔ G s) (s : ByteArray) : s ∈ setL G ↔ G s := by
 rw [setL_eq hn hm, List.mem_map, ← hm s, ← mem_sortB]
 constructor
 · rintro ⟨a, h1, rfl⟩; exact h1
 · intro h; exact ⟨s.data.toList, h, by cases s; rfl⟩
noncomputable abbrev treeFreeF : FS := smF (fun e : Exp => [.agg e.cs]) (fun e => .sl (txtR (setL (frE e))) .no) (fun e => e.w ≤ 1000000000000) Exp.w 10
variable {S : Sp} {N : Nat}
theorem treeFree_w (H : LkH S) (hF : S.sp 128 = some tfreeF) (hm : S.ms 38 = []) (k1 : S.sp 70 = none) (k2 : S.base 70 = none) (k3 : S.ms 70 = []) (s1 : S.sp 69 = none) (s2 : S.base 69 = some primKeys) :
    SmOk Tryz.prog S N 38 (fun e : Exp => [.agg e.cs]) (fun e => .sl (txtR (setL (frE e))) .no) (fun e => e.w ≤ 1000000000000) Exp.w 10 := by
 intro e σ hw hN
 refine JC.startF (fn := Tryz.f38) (codeOf H.code Tryz.func38 rfl (by kernel_rfl)) rfl hm rfl (zL rfl) fun tm => ?_
 refine CW.hide fun R0 hR0 => ?_
 have mk1 := fun (ρ : Operand → Option AV) (σ : Sto) (ds : Option Tmp) (ty : TypeId) (po : String) (af : Array Edge) (gu : Option (Nat × Bool)) => es_mk (P := Tryz.prog) (M := []) (ρ := ρ) (σ := σ) (t := 94) (kt := 9) (e := 3) (q := .str) (ds := ds) (ty := ty) (po := po) (af := af) (gu := gu) (by kernel_rfl) (by kernel_rfl)
 have mk2 := fun (ρ : Operand → Option AV) (σ : Sto) (ds : Option Tmp) (ty : TypeId) (po : String) (af : Array Edge) (gu : Option (Nat × Bool)) => es_mk (P := Tryz.prog) (M := []) (ρ := ρ) (σ := σ) (t := 66) (kt := 9) (e := 4) (q := .str) (ds := ds) (ty := ty) (po := po) (af := af) (gu := gu) (by kernel_rfl) (by kernel_rfl)
 refine CW.seqK fun K hK => CW.region ?_
 simp (maxDischargeDepth := 16) [zY]
 refine hK _ _ ?_; clear hK K
 refine CW.seqK fun K hK => CW.region ?_
 simp (maxDischargeDepth := 16) [zY, mk1, mk2]
 refine hK _ _ ?_; clear hK K
 refine CW.seqK fun K hK => CW.region ?_
 simp (maxDischargeDepth := 16) [zY, Exp.len, Exp.tk, Exp.put]
 refine (lexprs_ev (N := N) H hF e.w (by omega) hw [e] .full (fun p => p < σ.length ∨ p = σ.length + 3) (lid := σ.length + 3) (bid := σ.length + 1) (nid := σ.length + 2) (σ ++ [.cells e.cs 49, .map .str [], .map .str [], .cells [.mp (σ.length + 1), .mp (σ.length + 2)] 153]) (fun _ => 0) (fun _ => False) (by simp [expW]) ⟨by simp [zF], ⟨[], by simp [zF], fun p hp => (by cases hp), fun s => rfl⟩, ⟨[], by simp [zF], fun p hp => (by cases hp), fun p hp => (by cases hp), fun s => by simp [mapGet], by simp [keysB]⟩, fun p hp => by simp; omega, .inr rfl, by omega⟩ (fun s => by simp only [expW]; omega)).mono ?_
 rintro r σ2 ⟨rfl, h2, x2⟩
 simp (maxDischargeDepth := 16) [zY]
 refine hK _ _ ?_; clear hK K
 have g0 := h2.l
 obtain ⟨es, g1, g2, g3, g4, g5⟩ := h2.n
 have hext := ext_of x2 fun p hp => .inl hp
 have hmem : ∀ s, s ∈ keysB es ↔ frE e s := fun s => by rw [← mem_keysB g2, g4 s]; simp [frEs]
 have hfit := fitsE e
 have hkl := nodup_le (keysB es) (allE e) g5 fun s hs => inE e s ((hmem s).1 hs)
 have hks := fun s (hs : s ∈ keysB es) => hfit.2 s (inE e s ((hmem s).1 hs))
 have hel : (keysB es).length = es.length := by have := keysBs_len g2; unfold keysBs at this; rwa [List.length_map] at this
 have hR : setL (frE e) = (sortB (keysB es)).map strB := setL_eq g5 hmem
 refine CW.seqK fun K hK => CW.region ?_
 simp (maxDischargeDepth := 16) [zY, g0]
 refine CallW.startF (fn := Tryz.f70) (prim_none k1 k2) (codeOf H.code Tryz.func70 rfl (by kernel_rfl)) rfl k3 rfl (zL rfl) fun tm => ?_
 refine CW.hide fun R1 hR1 => ?_
 refine CW.seqK fun K hK => CW.region ?_
 simp (maxDischargeDepth := 16) [zY]
 refine hK _ _ ?_; clear hK K
 refine CW.seqK fun K hK => CW.region ?_
 simp (maxDischargeDepth := 16) [zY]
 refine hK _ _ ?_; clear hK K
 refine CW.ret (hR1 _ _ _ ⟨.fn (.func 110) [] [.ptr σ2.length 0], by simp [zA, omap, zB, zF, lk], ?_⟩)
 simp (maxDischargeDepth := 16) [zY]
 have hnl := (List.getElem?_eq_some_iff.1 g1).1
 have j1 : (σ2 ++ [AObj.cells [.mp (σ.length + 2)] 66])[σ2.length]? = some (.cells [.mp (σ.length + 2)] 66) := List.getElem?_concat_length
 have j2 := (st_old (l := [AObj.cells [.mp (σ.length + 2)] 66]) hnl).trans g1
 rcases Classical.em (es = []) with he | he
 · subst he
   have pk : primKeys [.fn (.func 110) [] [.ptr σ2.length 0]] (σ2 ++ [AObj.cells [.mp (σ.length + 2)] 66]) = some (.ret (.sl [] .full), σ2 ++ [AObj.cells [.mp (σ.length + 2)] 66]) := by
    simp only [primKeys, j1, j2]
    rw [if_neg (by simp), if_pos (by simp)]
   refine CallW.prim (g := primKeys) (prim_base s1 s2) pk ?_
   simp (maxDischargeDepth := 16) [zY]
   refine hK _ _ (CW.ret (hR0 _ _ _ ⟨.sl [] .full, by simp [zA, omap, zB, zF, lk], ?_⟩))
   show Fgt _ _ _ (.ret (.sl (txtR (setL (frE e))) .no)) _
   rw [hR]
   have : sortB (keysB []) = [] := by simp [sortB, keysB]
   rw [this]
   exact Fgt.pure (hext.trans ⟨_, rfl⟩) (Frz.nrm rfl)
 · have pk : primKeys [.fn (.func 110) [] [.ptr σ2.length 0]] (σ2 ++ [AObj.cells [.mp (σ.length + 2)] 66]) = some (.ret (.asl (σ2.length + 1) 0 es.length 1), (σ2 ++ [AObj.cells [.mp (σ.length + 2)] 66]) ++ [.cells ((sortB (keysB es)).map encA) 9]) := by
    simp only [primKeys, j1, j2]
    rw [if_pos ⟨rfl, g2, g5, by have := hfit.1; omega, fun s hs => by have := hks s hs; omega, he⟩]
    simp
   have hsl : (sortB (keysB es)).length = es.length := by unfold sortB; rw [List.length_mergeSort, List.length_map, hel]
   refine CallW.prim (g := primKeys) (prim_base s1 s2) pk ?_
   simp (maxDischargeDepth := 16) [zY]
   refine hK _ _ (CW.ret (hR0 _ _ _ ⟨.asl (σ2.length + 1) 0 es.length 1, by simp [zA, omap, zB, zF, lk], ?_⟩))
   show Fgt _ _ _ (.ret (.sl (txtR (setL (frE e))) .no)) _
   rw [hR, ← hsl]
   refine Fgt.pure (hext.trans ⟨_, rfl⟩) (frz_texts (zs := []) (T := 9) (by simp [zF]) ?_)
   obtain ⟨τ, rfl⟩ := hext
   simp; omega
end
section
open Go.RowKit
theorem Ty.n_eq (fn : Bool) (st : ByteArray) (rf : Trm) (ps : List Prm) (rs : List Ty) : (Ty.mk fn st rf ps rs).n = rf.n + prmN ps + tyN rs := by cases rf; simp only [Ty.n, Trm.n]
theorem Prm.n_eq (nm : ByteArray) (ty : Ty) : (Prm.mk nm ty).n = ty.n := by obtain ⟨_, _, ⟨_, _, _, _, _⟩, _, _⟩ := ty; simp only [Prm.n, Ty.n]
theorem Exp.n_eq (k : Int) (nm : ByteArray) (ty : List Ty) (rh : List Rhs) (am : Atm) (ar : List Arm) (bd : List Exp) : (Exp.mk k nm ty rh am ar bd).n = am.n + tyN ty + rhsN rh + armN ar + expN bd := by cases am; simp only [Exp.n, Atm.n]; omega
end
section
open Go.RowKit
def Fin1 (n : Nat) (G : ByteArray → Prop) : Prop := ∃ l : List ByteArray, l.length ≤ n ∧ ∀ s, s ∈ l ↔ G s
theorem Fin1.or {n m : Nat} {G H : ByteArray → Prop} : Fin1 n G → Fin1 m H → Fin1 (n + m) fun s => G s ∨ H s
 | ⟨a, la, ha⟩, ⟨b, lb, hb⟩ => ⟨a ++ b, by rw [List.length_append]; omega, fun s => by rw [List.mem_append, ha, hb]⟩
theorem Fin1.and {n : Nat} {G : ByteArray → Prop} (C : ByteArray → Prop) : Fin1 n G → Fin1 n fun s => C s ∧ G s
 | ⟨a, la, ha⟩ => ⟨a.filter fun s => @decide (C s) (Classical.propDecidable _), Nat.le_trans (List.length_filter_le _ _) la, fun s => by rw [List.mem_filter, ha]; simp [and_comm]⟩
theorem Fin1.no : Fin1 0 fun _ => False := ⟨[], Nat.le_refl _, by simp⟩
theorem Fin1.iff {n m : Nat} {G H : ByteArray → Prop} (hn : n ≤ m) (h : ∀ s, G s ↔ H s) : Fin1 n G → Fin1 m H
 | ⟨a, la, ha⟩ => ⟨a, Nat.le_trans la hn, fun s => (ha s).trans (h s)⟩
mutual
theorem namesT_n : ∀ t : Trm, (namesT t).length ≤ t.n
 | .mk k nm ng dg ks => by
  have := namesTs_n ks
  simp only [namesT, List.length_append, Trm.n]
  split
  · simp only [List.length_cons, List.length_nil]; omega
  · simp only [List.length_nil]; omega
theorem namesTs_n : ∀ l : List Trm, (namesTs l).length ≤ trmN l
 | [] => Nat.le_refl _
 | t :: l => by have := namesT_n t; have := namesTs_n l; simp only [namesTs, List.length_append, trmN]; omega
end
theorem fin_T (t : Trm) : Fin1 t.n (frT t) := Fin1.iff (Nat.le_refl _) (fun s => by rw [frT, and_comm]) (Fin1.and (fun s => s ≠ vB) ⟨namesT t, namesT_n t, fun s => Iff.rfl⟩)
theorem fin_A : ∀ a : Atm, Fin1 a.n (frA a)
 | .mk k nm ng dg tr => Fin1.iff (by simp only [Atm.n]; omega) (fun s => by rw [frA]) (Fin1.and (n := 1) (fun _ => k = 1) (G := fun s => s = nm) ⟨[nm], Nat.le_refl _, by simp⟩)
theorem fin_As : ∀ l : List Atm, Fin1 (atmN l) fun s => ∃ a ∈ l, frA a s
 | [] => Fin1.iff (Nat.zero_le _) (by simp) Fin1.no
 | a :: l => Fin1.iff (by simp only [atmN]; omega) (by simp) (Fin1.or (fin_A a) (fin_As l))
theorem fin_Ts : ∀ l : List Trm, Fin1 (trmN l) fun s => ∃ a ∈ l, frT a s
 | [] => Fin1.iff (Nat.zero_le _) (by simp) Fin1.no
 | a :: l => Fin1.iff (by simp only [trmN]; omega) (by simp) (Fin1.or (fin_T a) (fin_Ts l))
mutual
theorem fin_Y : ∀ t : Ty, Fin1 t.n (frY t)
 | .mk fn st rf ps rs => Fin1.iff (by rw [Ty.n_eq]; omega) (fun s => by rw [frY]) (Fin1.or (Fin1.and (fun _ => fn = true) (fin_Ps ps _ _ (fin_Ys rs))) (Fin1.and (fun _ => fn = false) (fin_T rf)))
theorem fin_P : ∀ t : Prm, Fin1 t.n (frP t)
 | .mk nm ty => Fin1.iff (by rw [Prm.n_eq]; exact Nat.le_refl _) (fun s => by rw [frP]) (fin_Y ty)
theorem fin_Ps : ∀ (l : List Prm) (n : Nat) (G : ByteArray → Prop), Fin1 n G → Fin1 (prmN l + n) (frPs l G)
 | [], n, G, h => Fin1.iff (Nat.le_add_left _ _) (fun s => by rw [frPs]) h
 | p :: l, n, G, h => Fin1.iff (by simp only [prmN]; omega) (fun s => by rw [frPs]) (Fin1.or (fin_P p) (Fin1.and (fun s => s ≠ p.nmOf) (fin_Ps l n G h)))
theorem fin_Ys : ∀ l : List Ty, Fin1 (tyN l) (frYs l)
 | [] => Fin1.iff (Nat.zero_le _) (fun s => by rw [frYs]) Fin1.no
 | t :: l => Fin1.iff (by simp only [tyN]; omega) (fun s => by rw [frYs]) (Fin1.or (fin_Y t) (fin_Ys l))
end
mutual
theorem fin_E : ∀ t : Exp, Fin1 t.n (frE t)
 | .mk k nm ty rh am ar bd => Fin1.iff (by rw [Exp.n_eq]; omega) (fun s => by rw [frE]) (Fin1.or (Fin1.or (Fin1.or (Fin1.or (Fin1.and (fun _ => ownK k = true) (fin_A am)) (fin_Ys ty)) (fin_Rs rh)) (Fin1.and (fun s => k = 1 → s ≠ nm) (fin_Es bd))) (fin_Ms ar))
theorem fin_Es : ∀ l : List Exp, Fin1 (expN l) (frEs l)
 | [] => Fin1.iff (Nat.zero_le _) (fun s => by rw [frEs]) Fin1.no
 | t :: l => Fin1.iff (by simp only [expN]; omega) (fun s => by rw [frEs]) (Fin1.or (fin_E t) (fin_Es l))
theorem fin_R : ∀ t : Rhs, Fin1 t.n (frR t)
 | .mk k nm ats ps rs bd ts => Fin1.iff (by simp only [Rhs.n]; omega) (fun s => by rw [frR]) (Fin1.or (Fin1.or (fin_As ats) (fin_Ts ts)) (fin_Ps ps _ _ (Fin1.or (fin_Ys rs) (fin_Es bd))))
theorem fin_Rs : ∀ l : List Rhs, Fin1 (rhsN l) (frRs l)
 | [] => Fin1.iff (Nat.zero_le _) (fun s => by rw [frRs]) Fin1.no
 | t :: l => Fin1.iff (by simp only [rhsN]; omega) (fun s => by rw [frRs]) (Fin1.or (fin_R t) (fin_Rs l))
theorem fin_M : ∀ t : Arm, Fin1 t.n (frM t)
 | .mk cn ns bd => Fin1.iff (by simp only [Arm.n]; omega) (fun s => by rw [frM]) (Fin1.and (fun s => s ∉ ns) (fin_Es bd))
theorem fin_Ms : ∀ l : List Arm, Fin1 (armN l) (frMs l)
 | [] => Fin1.iff (Nat.zero_le _) (fun s => by rw [frMs]) Fin1.no
 | t :: l => Fin1.iff (by simp only [armN]; omega) (fun s => by rw [frMs]) (Fin1.or (fin_M t) (fin_Ms l))
end
theorem nodup_of (l : List ByteArray) : ∃ k : List ByteArray, k.Nodup ∧ k.length ≤ l.length ∧ ∀ s, s ∈ k ↔ s ∈ l := by
 induction l with
 | nil => exact ⟨[], by simp, Nat.le_refl _, by simp⟩
 | cons x l ih =>
  obtain ⟨k, h1, h3, h2⟩ := ih
  rcases Classical.em (x ∈ k) with h | h
  · refine ⟨k, h1, Nat.le_succ_of_le h3, fun s => ?_⟩
    rw [h2, List.mem_cons]
    constructor
    · exact .inr
    · rintro (rfl | h')
      · exact (h2 _).1 h
      · exact h'
  · exact ⟨x :: k, List.nodup_cons.2 ⟨h, h1⟩, by simp only [List.length_cons]; omega, fun s => by rw [List.mem_cons, List.mem_cons, h2]⟩
theorem mem_free (e : Exp) (s : ByteArray) : s ∈ setL (frE e) ↔ frE e s := by
 obtain ⟨l, _, hl⟩ := fin_E e
 obtain ⟨k, h1, _, h2⟩ := nodup_of l
 exact mem_setL h1 (fun s => (h2 s).trans (hl s)) s
theorem free_len (e : Exp) : (setL (frE e)).length ≤ e.n := by
 obtain ⟨l, h0, hl⟩ := fin_E e
 obtain ⟨k, h1, h3, h2⟩ := nodup_of l
 rw [setL_eq h1 fun s => (h2 s).trans (hl s)]
 simp only [sortB, List.length_map, List.length_mergeSort]
 omega
end
end Go.Proofs.YteajcnilihgheaaGreatDoor
