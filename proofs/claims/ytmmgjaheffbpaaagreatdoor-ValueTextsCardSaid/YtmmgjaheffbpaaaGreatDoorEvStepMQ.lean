/-
 EV: THE STEP: slices that are written to: literals, append.
-/
import Derived.Test.YtmmgjaheffbpaaaGreatDoorEvStep2Q
import Derived.Lib.FrozenHead
namespace Go.Proofs.YtmmgjaheffbpaaaGreatDoor
set_option linter.unusedSimpArgs false
set_option linter.unusedVariables false
open Go.RowKit
section
variable {P : Program} {ι : List Nat} {Z : Nat → Nat → Prop} {w : World} {r : Operand → Value} {ρ : Operand → Option AV} {σ : Sto}
theorem chunks_flat (k : Nat) : ∀ (n : Nat) (cs : List AV), (chunks k n cs).flatten = cs.take (n * k)
 | 0, cs => by simp [chunks]
 | n + 1, cs => by rw [chunks, List.flatten_cons, chunks_flat k n, Nat.succ_mul, Nat.add_comm, List.take_add]
theorem chunks_row {k n : Nat} {cs : List AV} (h : n * k ≤ cs.length) {i : Nat} {e : List AV} (he : (chunks k n cs)[i]? = some e) : e.length = k := by
 obtain ⟨h1, rfl⟩ := chunks_get k n cs i e he
 have : (i + 1) * k ≤ n * k := Nat.mul_le_mul_right _ h1
 rw [Nat.succ_mul] at this
 simp; omega
theorem Match.growCells (h : Match σ ι Z w) {i g : Nat} {cs0 cs : List AV} {T : TypeId} {old c : Array Value} (hσ : σ[i]? = some (.cells cs0 T)) (hi : ι[i]? = some g)
    (hg : w.heap[g]? = some (.cells old T (0, 0))) (hs : c.size = old.size) (hl : cs.length ≤ c.size) (hc : ∀ (j : Nat) (d : AV) (u : Value), cs[j]? = some d → c[j]? = some u → d.one = true ∧ VR ι Z w d u) :
    Evo ι Z w (ι ++ [g]) Z (w.setRow g c) ∧ Match (σ.set i .dead ++ [.cells cs T]) (ι ++ [g]) Z (w.setRow g c) := by
 have hno : ∀ j, ¬ Z g j := by obtain ⟨_, _, _, _, h4⟩ := h.obj i _ g hσ hi; exact h4
 have e := Evo.setRow (Z := Z) hi hg hs (fun j hj => (hno j hj).elim) [g] Z (by simp) (fun _ _ h => h) (fun _ _ h => .inl h)
 have hil := (List.getElem?_eq_some_iff.1 hσ).1
 have key : ∀ (j b : Nat) (o : AObj), (ι ++ [g])[j]? = some b → (σ.set i .dead ++ [.cells cs T])[j]? = some o → o.live → (j = σ.length ∧ b = g ∧ o = .cells cs T) ∨ (j < σ.length ∧ b ≠ g ∧ σ[j]? = some o ∧ ι[j]? = some b) := by
  intro j b o hj ho lo
  rcases Nat.lt_or_ge j σ.length with hl | hl
  · rw [List.getElem?_append_left (by rw [h.len]; exact hl)] at hj
    rw [List.getElem?_append_left (by simpa using hl)] at ho
    by_cases hji : j = i
    · subst hji
      rw [List.getElem?_set_self hil] at ho
      cases ho; exact lo.elim
    · rw [List.getElem?_set_ne (Ne.symm hji)] at ho
      refine .inr ⟨hl, fun e => hji ?_, ho, hj⟩
      subst e
      exact h.inj j i b o _ hj hi ho hσ lo trivial
  · have hid : j = σ.length := by have := (List.getElem?_eq_some_iff.1 ho).1; simp at this; omega
    subst hid
    rw [List.getElem?_append_right (by rw [h.len]; omega)] at hj
    rw [List.getElem?_append_right (by simp)] at ho
    simp [h.len] at hj ho
    exact .inl ⟨rfl, hj.symm, ho.symm⟩
 refine ⟨e, h.go e (by simp [h.len]) (fun j o b ho hb lo => ?_) (fun a j b o p ha hj ho hp lo lp => ?_) fun b j hj => by have := h.zlt b j hj; simpa using this⟩
 · rcases key j b o hb ho lo with ⟨rfl, rfl, rfl⟩ | ⟨h1, h2, h3, h4⟩
   · exact .inl ⟨c, setRow_heap w b old c T (0, 0) hg, hl, fun j d u hd hu => ⟨(hc j d u hd hu).1, (hc j d u hd hu).2.evo e⟩, hno⟩
   · exact .inr ⟨h3, setRow_other w g b c h2, fun _ h => h⟩
 · rcases key a b o ha ho lo with ⟨a1, a2, a3⟩ | ⟨a1, a2, a3, a4⟩ <;> rcases key j b p hj hp lp with ⟨b1, b2, b3⟩ | ⟨b1, b2, b3, b4⟩
   · omega
   · omega
   · omega
   · exact h.inj a j b o p a4 b4 a3 b3 lo lp
theorem step_buildM (hρ : ∀ x d, ρ x = some d → VR ι Z w d (r x)) (hM : Match σ ι Z w) {o : Oper} {t e k len : Nat} {ps : Array (Nat × Operand)} {l : List (Nat × AV)} {z : Value} {d : AV} {cs : List AV} {acc : Acc} (ho : o.op = .buildSlice t len ps) (ht : P.underlying t = some (.slice e)) (hl : parts? ρ ps = some l)
    (hk : szOf P e = some (k + 1)) (hz : (P.info? e).bind (·.zero) = some z) (hd : abs2 z = some d) (hs : len * (k + 1) ≤ 2 ^ 24) (hdl : d.cells.length = k + 1) (hdt : d.notTup = true)
    (hf : fillA (fun i => some (i * (k + 1), k + 1)) (List.replicate len d.cells).flatten l = some cs) : StepR P ι Z w r o (.val (.asl σ.length 0 len (k + 1)) (σ ++ [.cells cs e]) acc) := by
 have h1 := parts_rel hρ hl
 have h2 := (abs2_rel (ι := ι) (Z := Z) (w := w) hd).2.cells hdt
 rw [Option.bind_eq_some_iff] at hz
 obtain ⟨ie, hie, hz⟩ := hz
 obtain ⟨ie', hie', hks⟩ := szOf_info hk
 have : ie' = ie := by rw [hie] at hie'; exact (Option.some.inj hie').symm
 subst this
 have hzl : z.cells.size = k + 1 := by rw [← hdl]; simpa using h2.1.symm
 have hbase : CR ι Z w (List.replicate len d.cells).flatten ((Array.range (len * (k + 1))).map (z.cells[· % z.cells.size]!)).toList := by
  refine ⟨by simp [hdl], fun j x y hx hy => ?_⟩
  have hj : j < len * (k + 1) := by have := (List.getElem?_eq_some_iff.1 hx).1; simpa [hdl] using this
  rw [replicate_get _ _ _ (by rw [hdl]; exact hj), hdl] at hx
  have hm : j % (k + 1) < k + 1 := Nat.mod_lt _ (by omega)
  have hy' : y = z.cells[j % (k + 1)]! := by
   rw [Array.toList_map, List.getElem?_map] at hy
   simp [hj, hzl] at hy
   exact hy.symm
  refine h2.2 (j % (k + 1)) x y hx ?_
  rw [hy', Array.getElem?_toList, Array.getElem?_eq_getElem (by omega), getElem!_pos z.cells (j % (k + 1)) (by omega)]
 obtain ⟨out, h3, h4⟩ := fill_rel h1.1 h1.2 hbase hf
 have hcl : cs.length = len * (k + 1) := by rw [fillA_length hf]; simp [hdl]
 have hol : out.size = len * (k + 1) := by rw [← hcl]; simpa using h4.1.symm
 obtain ⟨e1, m1⟩ := hM.newCells cs out e (by omega) (fun j x y hx hy => h4.2 j x y hx (by simpa using hy))
 have hlen : len ≤ maxLen := by
  have : len ≤ len * (k + 1) := Nat.le_mul_of_pos_right _ (by omega)
  have h24 : (2 : Nat) ^ 24 ≤ maxLen := by decide
  omega
 refine ⟨.slice (some ⟨w.heap.size, 0, none⟩) len len, _, _, _, ?_, e1, m1, .asl _ _ _ _ len w.heap.size (by rw [← hM.len]; simp) (Nat.le_refl _) hlen ?_⟩
 · rcases Nat.eq_zero_or_pos len with h0 | h0
   · subst h0
     unfold execOp
     rw [ho]
     refine run_v ?_
     have hr0 : Array.range 0 = #[] := rfl
     have h3' := h3
     simp [hr0] at h3'
     simp only [Instr.buildSlice, Sem.run_bind, run_underlying ht, Result.andThen_ok, run_szOf hk, Nat.zero_mul]
     simp [hr0, h3', newRow]
   · unfold execOp
     rw [ho]
     have hpos : 0 < len * (k + 1) := Nat.mul_pos h0 (by omega)
     exact run_v (run_buildSlice w t e len _ out ie' z ht hie hz (by rw [hks]; omega) (by rw [hks]; omega) (by rw [hks]; exact h3))
 · unfold cellsz
   rw [heap_alloc_new]
   dsimp only
   omega
theorem step_makeM (hρ : ∀ x d, ρ x = some d → VR ι Z w d (r x)) (hM : Match σ ι Z w) {o : Oper} {t : TypeId} {x y : Operand} {s : AStep} (ho : o.op = .makeSlice t x y) (h : evMake P ρ σ t x y = some s) : StepR P ι Z w r o s := by
 unfold evMake at h
 split at h
 · rename_i e kx l ky c ht hx hy
   split at h
   · rename_i k by_ z hk hb hz
     split at h
     · rename_i d hd
       split at h
       · rename_i hc
         obtain ⟨⟨h0, hlc, hby, hc2⟩, hdl, hdt⟩ := hc
         have hvx := hρ x _ hx
         have hvy := hρ y _ hy
         have ex : r x = .int kx l := by generalize r x = q at hvx; cases hvx; rfl
         have ey : r y = .int ky c := by generalize r y = q at hvy; cases hvy; rfl
         have h2 := (abs2_rel (ι := ι) (Z := Z) (w := w) hd).2.cells hdt
         rw [Option.bind_eq_some_iff] at hz
         obtain ⟨ie, hie, hz⟩ := hz
         obtain ⟨ie', hie', hks⟩ := szOf_info hk
         have e1 : ie' = ie := by rw [hie] at hie'; exact (Option.some.inj hie').symm
         subst e1
         have hbs : ie'.bytes = by_ := by unfold bytesOf at hb; rw [hie] at hb; exact Option.some.inj hb
         have hzl : z.cells.size = k + 1 := by rw [← hdl]; simpa using h2.1.symm
         have hrun := run_make (P := P) w t e ie' z ht hie hz kx ky l c h0 hlc (by rw [hbs]; omega) (by omega)
         obtain ⟨m, rfl⟩ : ∃ m : Nat, l = m := ⟨l.toNat, by omega⟩
         obtain ⟨n, rfl⟩ : ∃ n : Nat, c = n := ⟨c.toNat, by omega⟩
         simp only [Int.toNat_natCast] at hrun ⊢
         have hmn : m ≤ n := by omega
         have hmk : m * (k + 1) ≤ n * (k + 1) := Nat.mul_le_mul_right _ hmn
         have hfl : (List.replicate m d.cells).flatten.length = m * (k + 1) := by simp [hdl]
         have hbase : ∀ (j : Nat) (x : AV) (y : Value), (List.replicate m d.cells).flatten[j]? = some x → (madeCells z.cells (n * ie'.size))[j]? = some y → x.one = true ∧ VR ι Z w x y := fun j x y hx hy => by
          have hj : j < m * (k + 1) := by have := (List.getElem?_eq_some_iff.1 hx).1; rwa [hfl] at this
          rw [replicate_get _ _ _ (by rw [hdl]; exact hj), hdl] at hx
          have hm : j % (k + 1) < k + 1 := Nat.mod_lt _ (by omega)
          have hy' : y = z.cells[j % (k + 1)]! := by
           unfold madeCells at hy
           have hj2 : j < n * (k + 1) := by omega
           rw [Array.getElem?_map] at hy
           simp [hks, hj2, hzl] at hy
           exact hy.symm
          refine h2.2 (j % (k + 1)) x y hx ?_
          rw [hy', Array.getElem?_toList, Array.getElem?_eq_getElem (by omega), getElem!_pos z.cells (j % (k + 1)) (by omega)]
         have hlen : n ≤ maxLen := by
          have h24 : (140737488355328 : Nat) ≤ maxLen := by decide
          omega
         have hrun2 : (execOp r o).run P w = .ok (.value (.slice (some ⟨w.heap.size, 0, none⟩) m n)) (w.alloc (.cells (madeCells z.cells (n * ie'.size)) e)) := by
          unfold execOp
          rw [ho]
          refine run_v ?_
          simp only [ex, ey]
          exact hrun
         split at h
         · rename_i hz0
           have hm0 : m = 0 := by have := hz0.2; omega
           subst hm0
           cases h
           obtain ⟨e1, m1⟩ := hM.newTok (madeCells z.cells (n * ie'.size)) e 0 (Nat.zero_le _)
           refine ⟨.slice (some ⟨w.heap.size, 0, none⟩) 0 n, _, _, _, hrun2, e1, m1, .frs _ _ n w.heap.size (by rw [← hM.len]; simp) ?_ hlen⟩
           unfold cellsz
           rw [heap_alloc_new]
           dsimp only
           rw [size_madeCells, hks]
           exact Nat.le_refl _
         cases h
         obtain ⟨e1, m1⟩ := hM.newCells (List.replicate m d.cells).flatten (madeCells z.cells (n * ie'.size)) e (by rw [hfl, size_madeCells, hks]; exact hmk) hbase
         refine ⟨.slice (some ⟨w.heap.size, 0, none⟩) m n, _, _, _, hrun2, e1, m1, .asl _ _ _ _ n w.heap.size (by rw [← hM.len]; simp) hmn hlen ?_⟩
         unfold cellsz
         rw [heap_alloc_new]
         dsimp only
         rw [size_madeCells, hks]
         show 0 + n * (k + 1) ≤ n * (k + 1)
         omega
       · cases h
     · cases h
   · cases h
 · cases h
theorem rowsA_cells (hM : Match σ ι Z w) {d : AV} {u : Value} {K : Nat} {es : List (List AV)} (hv : VR ι Z w d u) (h : rowsA σ K d = some es) : ∃ (a : Option Addr) (c : Nat) (us : List Value), u = .slice a es.length c ∧ (a = none → es.length = 0 ∧ c = 0) ∧ es.length ≤ c ∧
    (∀ (i : Nat) (e : List AV), es[i]? = some e → e.length = K) ∧ CR ι Z w es.flatten us ∧ us.length = es.length * K ∧ ∀ (j : Nat) (u : Value), us[j]? = some u → ∃ b o, a = some ⟨b, o, none⟩ ∧ w.cell? ⟨b, o + j, none⟩ = some u := by
 unfold rowsA at h
 split at h
 · split at h
   · rename_i hk
     cases h
     obtain ⟨a, c, rfl, hac, han⟩ := sl_row hv
     obtain ⟨h1, h2, h3, us, h4, h5, h6⟩ := sl_cells hv hk
     exact ⟨a, c, us, rfl, han, h2, h3, h4, h5, fun j u hu => by obtain ⟨b, o, g1, g2, _⟩ := h6 j u hu; exact ⟨b, o, g1, g2⟩⟩
   · cases h
 · split at h
   · rename_i id off n k' hk
     subst hk
     split at h
     · rename_i cs T hσ
       split at h
       · rename_i hl
         cases h
         obtain ⟨b, c, rfl, hb, hc, hmx, hcz⟩ := asl_at hv
         obtain ⟨cur, g1, g2, g3, g4⟩ := hM.obj id _ b hσ hb
         have hcr := CR.ofArrLe g2 g3
         refine ⟨_, c, ((cur.toList.take cs.length).drop off).take (n * k'), by rw [chunks_length], (fun h => by cases h), by rw [chunks_length]; exact hc, fun i e he => chunks_row (by simp; omega) he, ?_, ?_, fun j u hu => ⟨b, off, rfl, ?_⟩⟩
         · rw [chunks_flat]
           exact (hcr.drop off).take _
         · rw [chunks_length]
           simp; omega
         · rw [List.getElem?_take] at hu
           split at hu
           · rw [List.getElem?_drop, List.getElem?_take] at hu
             split at hu
             · simp [World.cell?, g1]
               simpa using hu
             · cases hu
           · cases hu
       · cases h
     · cases h
   · cases h
 · cases h
theorem evAppendM_sound (hρ : ∀ x d, ρ x = some d → VR ι Z w d (r x)) (hM : Match σ ι Z w) {o : Oper} {t : TypeId} {x y : Operand} {s : AStep} (ho : o.op = .call { callee := .builtin .append, args := #[x, y], argTypes := #[t, t] }) (h : evAppendM P ρ σ t x y = some s) : StepR P ι Z w r o s := by
 unfold evAppendM at h
 split at h
 · rename_i e a b ht hx hy
   split at h
   · rename_i k by_ zn hk hb hz
     split at h
     · rename_i es fs hes hfs
       split at h
       · rename_i hc
         obtain ⟨hzn, hbytes, hlen, hf0⟩ := hc
         rw [Option.map_eq_some_iff] at hz
         obtain ⟨z, hz, hzn'⟩ := hz
         rw [Option.bind_eq_some_iff] at hz
         obtain ⟨ie', hie, hz⟩ := hz
         obtain ⟨ie2, hie2, hks⟩ := szOf_info hk
         have hks : ie2.size = k + 1 := hks
         have : ie2 = ie' := by rw [hie] at hie2; exact (Option.some.inj hie2).symm
         subst this
         have hby : ie2.bytes = by_ := by unfold bytesOf at hb; rw [hie] at hb; simpa using hb
         have hzk : z.cells.size = k + 1 := by omega
         have hvx := hρ x _ hx
         obtain ⟨a1, c, us, hux, han, hac, hrx, hus, hul, huc⟩ := rowsA_cells hM hvx hes
         obtain ⟨a2, c2, vs, huy, han2, hac2, hry, hvs, hvl, hvc⟩ := rowsA_cells hM (hρ y _ hy) hfs
         have hexec : ∀ (u : Value) (w' : World), (Builtin.append_ #[t, t] o.type #[.slice a1 es.length c, .slice a2 fs.length c2]).run P w = .ok u w' → (execOp r o).run P w = .ok (.value u) w' := by
          intro u w' h
          unfold execOp
          rw [ho]
          simp [resolve, invoke, builtin, hux, huy, h]
         have hm0 : 0 < fs.length := by omega
         obtain ⟨b2, o2, rfl⟩ : ∃ b2 o2, a2 = some ⟨b2, o2, none⟩ := by
          have hv0 : 0 < vs.length := by rw [hvl]; exact Nat.mul_pos hm0 (by omega)
          obtain ⟨b, o', h1, _⟩ := hvc 0 _ (List.getElem?_eq_getElem hv0)
          exact ⟨b, o', h1⟩
         have hnews : ∀ (j : Nat) (u : Value), vs[j]? = some u → w.cell? ((⟨b2, o2, none⟩ : Addr).add j) = some u := by
          intro j u hu
          obtain ⟨b, o', h1, h2⟩ := hvc j u hu
          cases h1
          rw [Addr.add_lit]; exact h2
         have hvl' : vs.length = fs.length * ie2.size := by rw [hvl, hks]
         have hcr : CR ι Z w (es ++ fs).flatten (us ++ vs) := by rw [List.flatten_append]; exact hus.append hvs
         have htot : (us ++ vs).length = (es.length + fs.length) * (k + 1) := by rw [List.length_append, hul, hvl, Nat.add_mul]
         have hfl : (es ++ fs).flatten.length = (es.length + fs.length) * (k + 1) := by rw [hcr.1, htot]
         have h63 : ((es.length + fs.length : Nat) : Int) ≤ 9223372036854775807 := by omega
         -- a new row
         have fresh : ∀ (σ1 : Sto) (acc : Acc), σ1.length = σ.length → Match σ1 ι Z w → (execOp r o).run P w = .ok (.value (.slice (some ⟨w.heap.size, 0, none⟩) (es.length + fs.length) (grownCap w (es.length + fs.length) c e)))
             (w.drew.alloc (.cells (us.toArray ++ vs.toArray ++ Builtin.zeroCells z.cells (grownCap w (es.length + fs.length) c e - (es.length + fs.length))) e)) →
             StepR P ι Z w r o (.val (.asl σ.length 0 (es.length + fs.length) (k + 1)) (σ1 ++ [.cells (es ++ fs).flatten e]) acc) := by
          intro σ1 acc hl1 hM1 hrun
          have hge := grownCap_ge w (es.length + fs.length) c e
          have hmx : grownCap w (es.length + fs.length) c e ≤ maxLen := grownCap_le_maxLen w _ c e (by unfold maxLen; omega)
          generalize hcap : grownCap w (es.length + fs.length) c e = cap at *
          have hsz : (us.toArray ++ vs.toArray ++ Builtin.zeroCells z.cells (cap - (es.length + fs.length))).size = cap * (k + 1) := by
           simp only [Array.size_append, List.size_toArray, size_zeroCells, hzk]
           have := htot
           rw [List.length_append] at this
           rw [this, ← Nat.add_mul]
           congr 1; omega
          have hle : (es.length + fs.length) * (k + 1) ≤ cap * (k + 1) := Nat.mul_le_mul_right _ hge
          obtain ⟨e1, m1⟩ := hM1.drew.newCells (es ++ fs).flatten (us.toArray ++ vs.toArray ++ Builtin.zeroCells z.cells (cap - (es.length + fs.length))) e (by rw [hsz, hfl]; exact hle) (fun j d u hd hu => by
           have hj := (List.getElem?_eq_some_iff.1 hd).1
           rw [hcr.1, List.length_append] at hj
           have := hcr.2 j d u hd (by
            rw [Array.getElem?_append_left (by simp; omega)] at hu
            simpa using hu)
           exact ⟨this.1, this.2.evo (Evo.drew ι Z w)⟩)
          have e2 := (Evo.drew ι Z w).trans e1
          refine ⟨_, _, _, _, hrun, e2, m1, .asl _ _ _ _ cap w.heap.size (by rw [← hl1, ← hM1.len]; simp) hge hmx ?_⟩
          unfold cellsz
          have : (w.drew.alloc (.cells (us.toArray ++ vs.toArray ++ Builtin.zeroCells z.cells (cap - (es.length + fs.length))) e)).heap[w.heap.size]? = _ := heap_alloc_new w.drew _
          rw [this]
          dsimp only
          rw [hsz]; omega
         have growRun : c < es.length + fs.length → (execOp r o).run P w = .ok (.value (.slice (some ⟨w.heap.size, 0, none⟩) (es.length + fs.length) (grownCap w (es.length + fs.length) c e)))
             (w.drew.alloc (.cells (us.toArray ++ vs.toArray ++ Builtin.zeroCells z.cells (grownCap w (es.length + fs.length) c e - (es.length + fs.length))) e)) := by
          intro hlt
          have hfit := growslice_fits (bytes := by_) hlt hbytes
          cases a1 with
          | none =>
           obtain ⟨h1, h2⟩ := han rfl
           have hu0 : us = [] := List.eq_nil_of_length_eq_zero (by rw [hul, h1]; simp)
           subst hu0; subst h2
           have := hexec _ _ (by
            rw [h1]
            exact run_append_nil (P := P) w t o.type e ie2 z ht hie hz ⟨b2, o2, none⟩ fs.length c2 vs hvl' hnews hm0 (by omega) (by rw [hby]; have := hbytes; rw [h1, Nat.zero_add] at this; omega))
           rw [this]
           simp [h1]
          | some a =>
           have hold : ∀ (j : Nat) (u : Value), us[j]? = some u → w.cell? (a.add j) = some u := by
            intro j u hu
            obtain ⟨b, o', h1, h2⟩ := huc j u hu
            cases h1
            rw [Addr.add_lit]; exact h2
           exact hexec _ _ (run_append_grow (P := P) w t o.type e ie2 z ht hie hz a es.length c us (by rw [hul, hks]) hold ⟨b2, o2, none⟩ fs.length c2 vs hvl' hnews hlt h63 (by rw [hby]; exact hfit))
         split at h
         · cases h
           have hes0 : es = [] := by
            unfold rowsA at hes
            simp at hes
            exact hes
           subst hes0
           have hc0 : c = 0 := by
            rw [hux] at hvx
            cases hvx with
            | nils a c tok g1 g2 => rcases g2 with g2 | ⟨_, g2⟩; · cases g2
                                    · exact g2
            | sl b q n c k' es tok U g1 g2 => exact absurd g2 (by rw [← g1]; simp)
           have := fresh σ (.grows none σ.length) rfl hM (growRun (by rw [hc0]; simp; omega))
           simpa using this
         · rename_i id n k'
           split at h
           · rename_i cs T hσ
             split at h
             · rename_i hT
               obtain ⟨rfl, hn⟩ := hT
               cases h
               by_cases hroom : es.length + fs.length ≤ c
               · have hk' : k' = k + 1 := by
                  by_cases hq : k' = k + 1
                  · exact hq
                  · simp [rowsA, hq] at hes
                 subst hk'
                 obtain ⟨g, c', hu', hb', hcc, hmx, hcz⟩ := asl_at hvx
                 rw [hux] at hu'
                 cases hu'
                 obtain ⟨cur, hheap, g2, g3, g4⟩ := hM.obj id _ g hσ hb'
                 have hcs : cellsz w g = cur.size := by unfold cellsz; rw [hheap]
                 have hle : (es.length + fs.length) * (k + 1) ≤ c * (k + 1) := Nat.mul_le_mul_right _ hroom
                 have hfit : es.length * ie2.size + vs.length ≤ cur.size := by rw [hvl, hks, ← Nat.add_mul]; omega
                 have hrun := hexec _ _ (run_append_room (P := P) w t o.type T ie2 ht hie g es.length c cur hheap ⟨b2, o2, none⟩ fs.length c2 vs hvl' hnews hvs.oneCell hroom hfit)
                 have hold : cur.toList.take (es.length * (k + 1)) = us := by
                  apply List.ext_getElem?
                  intro j
                  rw [List.getElem?_take]
                  split
                  · rename_i hj
                    have hju : j < us.length := by rw [hul]; exact hj
                    obtain ⟨b, o', h1, h2⟩ := huc j _ (List.getElem?_eq_getElem hju)
                    cases h1
                    rw [List.getElem?_eq_getElem hju, ← h2, Nat.zero_add]
                    simp [World.cell?, hheap]
                  · rename_i hj
                    rw [List.getElem?_eq_none (by rw [hul]; omega)]
                 rw [hks] at hrun hfit
                 have hdl : (cur.toList.take (es.length * (k + 1)) ++ vs ++ cur.toList.drop (es.length * (k + 1) + vs.length)).toArray.size = cur.size := by
                  simp only [List.size_toArray, List.length_append, List.length_take, List.length_drop, Array.length_toList]
                  omega
                 have hm' : (es.length + fs.length) * (k + 1) ≤ cur.size := by omega
                 obtain ⟨e1, m1⟩ := hM.growCells (cs := (es ++ fs).flatten) (c := (cur.toList.take (es.length * (k + 1)) ++ vs ++ cur.toList.drop (es.length * (k + 1) + vs.length)).toArray) hσ hb' hheap hdl (by rw [hdl, hfl]; exact hm') (fun j d u hd hu => hcr.2 j d u hd (by
                  have hj := (List.getElem?_eq_some_iff.1 hd).1
                  rw [hcr.1] at hj
                  rw [hold, List.getElem?_toArray, List.getElem?_append_left hj] at hu
                  exact hu))
                 refine ⟨_, _, _, _, hrun, e1, m1, .asl _ _ _ _ c g (by rw [← hM.len]; simp) hroom hmx ?_⟩
                 unfold cellsz
                 rw [setRow_heap w g cur _ T _ hheap]
                 dsimp only
                 rw [hdl]; omega
               · exact fresh (σ.set id .dead) _ (by simp) (hM.kill id) (growRun (by omega))
             · cases h
           · cases h
         · cases h
       · cases h
     · cases h
   · cases h
 · cases h
theorem byteAV_length (s : ByteArray) : (byteAV s).length = s.size := by unfold byteAV; rw [List.length_map, Array.length_toList]; rfl
theorem byteAV_CR (s : ByteArray) : CR ι Z w (byteAV s) (Lib.strCells s) := by
 refine ⟨by rw [byteAV_length, Lib.strCells_length], fun j d u hd hu => ?_⟩
 unfold byteAV at hd
 unfold Lib.strCells at hu
 rw [List.getElem?_map, Option.map_eq_some_iff] at hd hu
 obtain ⟨b, hb, rfl⟩ := hd
 obtain ⟨b', hb', rfl⟩ := hu
 rw [hb] at hb'
 cases hb'
 exact ⟨rfl, .lit _ rfl⟩
theorem Match.growAs (h : Match σ ι Z w) {i g : Nat} {o0 o1 : AObj} {T : TypeId} {fz : Nat × Nat} {old c : Array Value} (hσ : σ[i]? = some o0) (l0 : o0.live) (hi : ι[i]? = some g) (hno : ∀ j, ¬ Z g j)
    (hg : w.heap[g]? = some (.cells old T fz)) (hs : c.size = old.size) (hobj : Evo ι Z w (ι ++ [g]) Z (w.setRow g c) → ObjM (ι ++ [g]) Z (w.setRow g c) g o1) :
    Evo ι Z w (ι ++ [g]) Z (w.setRow g c) ∧ Match (σ.set i .dead ++ [o1]) (ι ++ [g]) Z (w.setRow g c) := by
 have e := Evo.setRow (Z := Z) hi hg hs (fun j hj => (hno j hj).elim) [g] Z (by simp) (fun _ _ h => h) (fun _ _ h => .inl h)
 have hil := (List.getElem?_eq_some_iff.1 hσ).1
 have key : ∀ (j b : Nat) (o : AObj), (ι ++ [g])[j]? = some b → (σ.set i .dead ++ [o1])[j]? = some o → o.live → (j = σ.length ∧ b = g ∧ o = o1) ∨ (j < σ.length ∧ b ≠ g ∧ σ[j]? = some o ∧ ι[j]? = some b) := by
  intro j b o hj ho lo
  rcases Nat.lt_or_ge j σ.length with hl | hl
  · rw [List.getElem?_append_left (by rw [h.len]; exact hl)] at hj
    rw [List.getElem?_append_left (by simpa using hl)] at ho
    by_cases hji : j = i
    · subst hji
      rw [List.getElem?_set_self hil] at ho
      cases ho; exact lo.elim
    · rw [List.getElem?_set_ne (Ne.symm hji)] at ho
      refine .inr ⟨hl, fun e => hji ?_, ho, hj⟩
      subst e
      exact h.inj j i b o _ hj hi ho hσ lo l0
  · have hid : j = σ.length := by have := (List.getElem?_eq_some_iff.1 ho).1; simp at this; omega
    subst hid
    rw [List.getElem?_append_right (by rw [h.len]; omega)] at hj
    rw [List.getElem?_append_right (by simp)] at ho
    simp [h.len] at hj ho
    exact .inl ⟨rfl, hj.symm, ho.symm⟩
 refine ⟨e, h.go e (by simp [h.len]) (fun j o b ho hb lo => ?_) (fun a j b o p ha hj ho hp lo lp => ?_) fun b j hj => by have := h.zlt b j hj; simpa using this⟩
 · rcases key j b o hb ho lo with ⟨rfl, rfl, rfl⟩ | ⟨h1, h2, h3, h4⟩
   · exact .inl (hobj e)
   · exact .inr ⟨h3, setRow_other w g b c h2, fun _ h => h⟩
 · rcases key a b o ha ho lo with ⟨a1, a2, a3⟩ | ⟨a1, a2, a3, a4⟩ <;> rcases key j b p hj hp lp with ⟨b1, b2, b3⟩ | ⟨b1, b2, b3, b4⟩
   · omega
   · omega
   · omega
   · exact h.inj a j b o p a4 b4 a3 b3 lo lp
theorem Match.newAs (h : Match σ ι Z w) (o1 : AObj) (c : Array Value) (T : TypeId) (hobj : Evo ι Z w (ι ++ [w.heap.size]) Z (w.alloc (.cells c T)) → ObjM (ι ++ [w.heap.size]) Z (w.alloc (.cells c T)) w.heap.size o1) :
    Evo ι Z w (ι ++ [w.heap.size]) Z (w.alloc (.cells c T)) ∧ Match (σ ++ [o1]) (ι ++ [w.heap.size]) Z (w.alloc (.cells c T)) := by
 have e := Evo.alloc h (.cells c T) [w.heap.size] Z (by simp) (fun _ _ h => h) (fun _ _ h _ => h)
 have key : ∀ (j b : Nat) (o : AObj), (ι ++ [w.heap.size])[j]? = some b → (σ ++ [o1])[j]? = some o → (j = σ.length ∧ b = w.heap.size ∧ o = o1) ∨ (j < σ.length ∧ σ[j]? = some o ∧ ι[j]? = some b) := by
  intro j b o hj ho
  rcases Nat.lt_or_ge j σ.length with hl | hl
  · rw [List.getElem?_append_left (by rw [h.len]; exact hl)] at hj
    rw [List.getElem?_append_left hl] at ho
    exact .inr ⟨hl, ho, hj⟩
  · have hid : j = σ.length := by have := (List.getElem?_eq_some_iff.1 ho).1; simp at this; omega
    subst hid
    rw [List.getElem?_append_right (by rw [h.len]; omega)] at hj
    rw [List.getElem?_append_right (by omega)] at ho
    simp [h.len] at hj ho
    exact .inl ⟨rfl, hj.symm, ho.symm⟩
 refine ⟨e, h.go e (by simp [h.len]) (fun j o b ho hb lo => ?_) (fun a j b o p ha hj ho hp lo lp => ?_) fun b j hj => by have := h.zlt b j hj; simp; omega⟩
 · rcases key j b o hb ho with ⟨rfl, rfl, rfl⟩ | ⟨h1, h3, h4⟩
   · exact .inl (hobj e)
   · exact .inr ⟨h3, Below.heap_alloc _ _ _ ((h.obj j o b h3 h4).lt lo), fun _ h => h⟩
 · rcases key a b o ha ho with ⟨a1, a2, a3⟩ | ⟨a1, a3, a4⟩ <;> rcases key j b p hj hp with ⟨b1, b2, b3⟩ | ⟨b1, b3, b4⟩
   · omega
   · have := (h.obj j p b b3 b4).lt lp; omega
   · have := (h.obj a o b a3 a4).lt lo; omega
   · exact h.inj a j b o p a4 b4 a3 b3 lo lp
theorem run_append_nothing {P : Program} (w : World) (t u ty e : TypeId) (i : TypeInfo) (ht : P.underlying t = some (.slice e)) (hu : P.underlying u = some .string) (hi : P.info? e = some i) (a : Option Addr) (n c : Nat) (hc : n ≤ c) (s : ByteArray) (h0 : s.size = 0) :
    (Builtin.append_ #[t, u] ty #[.slice a n c, .string s]).run P w = .ok (.slice a n c) w := by
 have hf := Lib.run_firstCells_string (P := P) w i.size s
 have he : Lib.strCells s = [] := List.eq_nil_of_length_eq_zero (by rw [Lib.strCells_length]; exact h0)
 rw [he] at hf
 cases a with
 | none => simp [Builtin.append_, run_underlying ht, run_underlying hu, sizeOf, typeInfo, hi, Builtin.lenOf, h0, hc, hf] <;> simp_all
 | some a => simp [Builtin.append_, run_underlying ht, run_underlying hu, sizeOf, typeInfo, hi, Builtin.lenOf, h0, hc, hf, storeCells] <;> simp_all [storeCells]
theorem evAppendS_sound (hρ : ∀ x d, ρ x = some d → VR ι Z w d (r x)) (hM : Match σ ι Z w) {o : Oper} {t u : TypeId} {x y : Operand} {st : AStep} (ho : o.op = .call { callee := .builtin .append, args := #[x, y], argTypes := #[t, u] }) (h : evAppendS P ρ σ t u x y = some st) : StepR P ι Z w r o st := by
 unfold evAppendS at h
 split at h
 · rename_i e a s ht hu hx hy
   split at h
   · rename_i hk hb hz
     split at h
     · rename_i hsz
       rw [Option.bind_eq_some_iff] at hz
       obtain ⟨ie, hie, hz⟩ := hz
       obtain ⟨ie2, hie2, hks⟩ := szOf_info hk
       have : ie2 = ie := by rw [hie] at hie2; exact (Option.some.inj hie2).symm
       subst this
       have hks : ie2.size = 1 := hks
       have hby : ie2.bytes = 1 := by unfold bytesOf at hb; rw [hie] at hb; simpa using hb
       have hvx := hρ x _ hx
       have huy : r y = .string s := by have := hρ y _ hy; generalize r y = q at this; cases this; rfl
       have hexec : ∀ (v : Value) (v' : Value) (w' : World), r x = v → (Builtin.append_ #[t, u] o.type #[v, .string s]).run P w = .ok v' w' → (execOp r o).run P w = .ok (.value v') w' := by
        intro v v' w' hv h
        unfold execOp
        rw [ho]
        simp [resolve, invoke, builtin, hv, huy, h]
       have hbl := byteAV_length s
       have hsl := Lib.strCells_length s
       -- a new row, behind what there was
       have fresh : ∀ (a1 : Option Addr) (n c : Nat) (us : List Value) (cs : List AV) (σ1 : Sto) (mk : List AV → AObj) (acc : Acc), r x = .slice a1 n c → (a1 = none → n = 0 ∧ c = 0) → us.length = n → cs.length = n → CR ι Z w cs us → (∀ a2, a1 = some a2 → ∀ (j : Nat) (u : Value), us[j]? = some u → w.cell? (a2.add j) = some u) → c < n + s.size → n + s.size ≤ 140737488355328 → σ1.length = σ.length → Match σ1 ι Z w →
           (∀ (l : List AV) (ι' : List Nat) (w' : World) (b : Nat) (c : Array Value), w'.heap[b]? = some (.cells c e (0, 0)) → l.length ≤ c.size → (∀ (j : Nat) (d : AV) (u : Value), l[j]? = some d → c[j]? = some u → d.one = true ∧ VR ι' Z w' d u) → (∀ j, ¬ Z b j) → ObjM ι' Z w' b (mk l)) →
           StepR P ι Z w r o (.val (.asl σ.length 0 (n + s.size) 1) (σ1 ++ [mk (cs ++ byteAV s)]) acc) := by
        intro a1 n c us cs σ1 mk acc hrx hnone hul hcl hcr hcell hlt hbound hl1 hM1 hmk
        have hge := grownCap_ge w (n + s.size) c e
        have hmx : grownCap w (n + s.size) c e ≤ maxLen := grownCap_le_maxLen w _ c e (by unfold maxLen; omega)
        have hfit := growslice_fits (bytes := 1) hlt (by omega)
        have hrun : (Builtin.append_ #[t, u] o.type #[.slice a1 n c, .string s]).run P w = .ok (.slice (some ⟨w.heap.size, 0, none⟩) (n + s.size) (grownCap w (n + s.size) c e))
            (w.drew.alloc (.cells (us.toArray ++ (Lib.strCells s).toArray ++ Builtin.zeroCells (Value.int .u8 0).cells (grownCap w (n + s.size) c e - (n + s.size))) e)) := by
         cases a1 with
         | none =>
          obtain ⟨h1, h2⟩ := hnone rfl
          have hu0 : us = [] := List.eq_nil_of_length_eq_zero (by rw [hul, h1])
          subst hu0; subst h1; subst h2
          have := run_append_nil_string (P := P) w t u o.type e ie2 (.int .u8 0) ht hu hie hz s (by omega) (by omega) (by rw [hby]; omega)
          rw [this]
          have hmap : (List.map (fun b : UInt8 => Value.int IntKind.u8 (b.toNat : Int)) s.data.toList).toArray = Array.map (fun b : UInt8 => Value.int IntKind.u8 (b.toNat : Int)) s.data := by apply Array.ext'; simp
          simp [Lib.strCells, hmap]
         | some a2 =>
          exact Lib.run_append_grow_string (P := P) w t u o.type e ie2 (.int .u8 0) ht hu hie hz a2 n c us (by rw [hks]; omega) (hcell a2 rfl) s hlt (by omega) (by rw [hby]; exact hfit)
        have hcr2 : CR ι Z w (cs ++ byteAV s) (us ++ Lib.strCells s) := hcr.append (byteAV_CR s)
        generalize hcap : grownCap w (n + s.size) c e = cap at *
        have hz1 : (Value.int IntKind.u8 0).cells.size = 1 := rfl
        have hsz2 : (us.toArray ++ (Lib.strCells s).toArray ++ Builtin.zeroCells (Value.int .u8 0).cells (cap - (n + s.size))).size = cap := by
         rw [Array.size_append, Array.size_append, List.size_toArray, List.size_toArray, size_zeroCells, hz1, hsl, hul]
         omega
        obtain ⟨e1, m1⟩ := hM1.drew.newAs (mk (cs ++ byteAV s)) (us.toArray ++ (Lib.strCells s).toArray ++ Builtin.zeroCells (Value.int .u8 0).cells (cap - (n + s.size))) e (fun ev => by
         refine hmk _ _ _ _ _ (heap_alloc_new w.drew _) (by rw [hsz2, List.length_append, hbl, hcl]; exact hge) (fun j d u hd hu => ?_) fun j hj => ?_
         · have hj := (List.getElem?_eq_some_iff.1 hd).1
           rw [hcr2.1, List.length_append] at hj
           have := hcr2.2 j d u hd (by
            rw [Array.getElem?_append_left (by simp; omega)] at hu
            simpa using hu)
           exact ⟨this.1, (this.2.evo (Evo.drew ι Z w)).evo ev⟩
         · have := hM.zlt _ _ hj; have h2 : w.drew.heap.size = w.heap.size := rfl; omega)
        refine ⟨_, _, _, _, hexec _ _ _ hrx hrun, (Evo.drew ι Z w).trans e1, m1, .asl _ _ _ _ cap w.heap.size (by rw [← hl1, ← hM1.len]; simp) hge hmx ?_⟩
        unfold cellsz
        have : (w.drew.alloc (.cells (us.toArray ++ (Lib.strCells s).toArray ++ Builtin.zeroCells (Value.int .u8 0).cells (cap - (n + s.size))) e)).heap[w.heap.size]? = _ := heap_alloc_new w.drew _
        rw [this]
        dsimp only
        rw [hsz2]; omega
       have mkC : ∀ (l : List AV) (ι' : List Nat) (w' : World) (b : Nat) (c : Array Value), w'.heap[b]? = some (.cells c e (0, 0)) → l.length ≤ c.size → (∀ (j : Nat) (d : AV) (u : Value), l[j]? = some d → c[j]? = some u → d.one = true ∧ VR ι' Z w' d u) → (∀ j, ¬ Z b j) → ObjM ι' Z w' b (.cells l e) :=
        fun l ι' w' b c h1 h2 h3 h4 => ⟨c, h1, h2, h3, h4⟩
       have mkB : ∀ (l : List AV) (ι' : List Nat) (w' : World) (b : Nat) (c : Array Value), w'.heap[b]? = some (.cells c e (0, 0)) → l.length ≤ c.size → (∀ (j : Nat) (d : AV) (u : Value), l[j]? = some d → c[j]? = some u → d.one = true ∧ VR ι' Z w' d u) → (∀ j, ¬ Z b j) → ObjM ι' Z w' b (.buf l e) :=
        fun l ι' w' b c h1 h2 h3 h4 => ⟨c, (0, 0), h1, Nat.zero_le _, h2, h3, h4⟩
       split at h
       · -- nothing yet
         have hvx' := hvx
         split at h
         · rename_i h0
           cases h
           generalize hq : r x = q at hvx
           cases hvx with
           | nils a c tok g1 g2 =>
            have hc0 : c = 0 := by rcases g2 with g2 | ⟨_, g2⟩; · cases g2
                                   · exact g2
            subst hc0
            exact ⟨_, w, ι, Z, hexec _ _ _ hq (run_append_nothing w t u o.type e ie2 ht hu hie a 0 0 (Nat.le_refl _) s h0), .refl _ _ _, hM, by rw [← hq]; exact hvx'⟩
           | sl b o' n c k es tok U g1 g2 => simp at g1; omega
         · rename_i h0
           cases h
           generalize hq : r x = q at hvx
           cases hvx with
           | nils a c tok g1 g2 =>
            have hc0 : c = 0 := by rcases g2 with g2 | ⟨_, g2⟩; · cases g2
                                   · exact g2
            subst hc0
            have := fresh a 0 0 [] [] σ (fun l => .cells l e) (.grows none σ.length) hq (fun _ => ⟨rfl, rfl⟩) rfl rfl ⟨rfl, fun j d u hd hu => by simp at hd⟩ (fun _ _ j u hu => by simp at hu) (by omega) (by omega) rfl hM mkC
            simpa using this
           | sl b o' n c k es tok U g1 g2 => simp at g1; omega
       · -- behind a row that an object holds
         rename_i id n
         obtain ⟨g, c, hrx, hg, hnc, hmx, hcz⟩ := asl_at hvx
         split at h
         · rename_i h0
           cases h
           exact ⟨_, w, ι, Z, hexec _ _ _ hrx (run_append_nothing w t u o.type e ie2 ht hu hie _ n c hnc s h0), .refl _ _ _, hM, by rw [← hrx]; exact hvx⟩
         · rename_i h0
           split at h
           · rename_i hbound
             split at h
             · rename_i cs T hσ
               split at h
               · rename_i hT
                 obtain ⟨rfl, hncs⟩ := hT
                 cases h
                 obtain ⟨cur, hheap, g2, g3, g4⟩ := hM.obj id _ g hσ hg
                 have hcs : cellsz w g = cur.size := by unfold cellsz; rw [hheap]
                 have hcr := CR.ofArrLe g2 g3
                 have hct : CR ι Z w (cs.take n) (cur.toList.take n) := by
                  have := hcr.take n
                  rw [List.take_take, Nat.min_eq_left hncs] at this
                  exact this
                 by_cases hroom : n + s.size ≤ c
                 · have hfit : n + s.size ≤ cur.size := by omega
                   have hrun := hexec _ _ _ hrx (Lib.run_append_room_stringF (P := P) w t u o.type T ie2 ht hu hie hks g n c cur (0, 0) hheap (Nat.zero_le _) s hroom hfit)
                   have hdl : (cur.toList.take n ++ Lib.strCells s ++ cur.toList.drop (n + s.size)).toArray.size = cur.size := by
                    simp only [List.size_toArray, List.length_append, List.length_take, List.length_drop, Array.length_toList, hsl]
                    omega
                   have hcr2 := hct.append (byteAV_CR (ι := ι) (Z := Z) (w := w) s)
                   obtain ⟨e1, m1⟩ := hM.growAs (o1 := .cells (cs.take n ++ byteAV s) T) (c := (cur.toList.take n ++ Lib.strCells s ++ cur.toList.drop (n + s.size)).toArray) hσ trivial hg g4 hheap hdl (fun ev =>
                    ⟨_, setRow_heap w g cur _ T _ hheap, by rw [hdl]; simp [hbl]; omega, fun j d u hd hu => by
                     have hj := (List.getElem?_eq_some_iff.1 hd).1
                     rw [hcr2.1] at hj
                     rw [List.getElem?_toArray, List.getElem?_append_left hj] at hu
                     have := hcr2.2 j d u hd hu
                     exact ⟨this.1, this.2.evo ev⟩, g4⟩)
                   refine ⟨_, _, _, _, hrun, e1, m1, .asl _ _ _ _ c g (by rw [← hM.len]; simp) hroom hmx ?_⟩
                   unfold cellsz
                   rw [setRow_heap w g cur _ T _ hheap]
                   dsimp only
                   rw [hdl]; omega
                 · refine fresh _ n c (cur.toList.take n) (cs.take n) (σ.set id .dead) (fun l => .cells l T) (.grows (some id) σ.length) hrx (fun h => by cases h) (by simp; omega) (by simp; omega) hct (fun a2 ha j u hu => ?_) (by omega) hbound (by simp) (hM.kill id) mkC
                   cases ha
                   rw [List.getElem?_take] at hu
                   split at hu
                   · rw [Addr.add_lit, Nat.zero_add]; simp [World.cell?, hheap]; simpa using hu
                   · cases hu
               · cases h
             · rename_i cs T hσ
               split at h
               · rename_i hT
                 obtain ⟨rfl, rfl⟩ := hT
                 cases h
                 obtain ⟨cur, fz, hheap, hfz, g2, g3, g4⟩ := hM.obj id _ g hσ hg
                 have hcs : cellsz w g = cur.size := by unfold cellsz; rw [hheap]
                 have hct : CR ι Z w cs (cur.toList.take cs.length) := CR.ofArrLe g2 g3
                 by_cases hroom : cs.length + s.size ≤ c
                 · have hfit : cs.length + s.size ≤ cur.size := by omega
                   have hrun := hexec _ _ _ hrx (Lib.run_append_room_stringF (P := P) w t u o.type T ie2 ht hu hie hks g cs.length c cur fz hheap hfz s hroom hfit)
                   have hdl : (cur.toList.take cs.length ++ Lib.strCells s ++ cur.toList.drop (cs.length + s.size)).toArray.size = cur.size := by
                    simp only [List.size_toArray, List.length_append, List.length_take, List.length_drop, Array.length_toList, hsl]
                    omega
                   have hcr2 := hct.append (byteAV_CR (ι := ι) (Z := Z) (w := w) s)
                   obtain ⟨e1, m1⟩ := hM.growAs (o1 := .buf (cs ++ byteAV s) T) (c := (cur.toList.take cs.length ++ Lib.strCells s ++ cur.toList.drop (cs.length + s.size)).toArray) hσ trivial hg g4 hheap hdl (fun ev =>
                    ⟨_, fz, setRow_heap w g cur _ T _ hheap, by rw [List.length_append]; omega, by rw [hdl]; simp [hbl]; omega, fun j d u hd hu => by
                     have hj := (List.getElem?_eq_some_iff.1 hd).1
                     rw [hcr2.1] at hj
                     rw [List.getElem?_toArray, List.getElem?_append_left hj] at hu
                     have := hcr2.2 j d u hd hu
                     exact ⟨this.1, this.2.evo ev⟩, g4⟩)
                   refine ⟨_, _, _, _, hrun, e1, m1, .asl _ _ _ _ c g (by rw [← hM.len]; simp) hroom hmx ?_⟩
                   unfold cellsz
                   rw [setRow_heap w g cur _ T _ hheap]
                   dsimp only
                   rw [hdl]; omega
                 · refine fresh _ cs.length c (cur.toList.take cs.length) cs (σ.set id .dead) (fun l => .buf l T) (.grows (some id) σ.length) hrx (fun h => by cases h) (by simp; omega) rfl hct (fun a2 ha j u hu => ?_) (by omega) hbound (by simp) (hM.kill id) mkB
                   cases ha
                   rw [List.getElem?_take] at hu
                   split at hu
                   · rw [Addr.add_lit, Nat.zero_add]; simp [World.cell?, hheap]; simpa using hu
                   · cases hu
               · cases h
             · cases h
           · cases h
       · cases h
     · cases h
   · cases h
 · cases h
end
end Go.Proofs.YtmmgjaheffbpaaaGreatDoor
