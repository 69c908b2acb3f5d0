/-
 SLICES THAT THE CALL ITSELF MAKES: what an owned row stands for, as plain data; append. Plain lemmas, whatever the program.
-/
import Derived.Test.YtmmgjaheffbpaaaGreatDoorRepQ
import Derived.OwnWalk
namespace Go.Proofs.YtmmgjaheffbpaaaGreatDoor
set_option linter.unusedSimpArgs false
set_option linter.unusedVariables false
open Go.RowKit
def Reps (w : World) (F : Nat → Prop) (us : List Value) (ds : List D) : Prop := us.length = ds.length ∧ ∀ (i : Nat) (u : Value) (d : D), us[i]? = some u → ds[i]? = some d → Rep w F u d
theorem Reps.nil (w : World) (F : Nat → Prop) : Reps w F [] [] := ⟨rfl, fun i u d h => by simp at h⟩
theorem Reps.cons {w : World} {F : Nat → Prop} {u : Value} {d : D} {us : List Value} {ds : List D} (h : Rep w F u d) (hs : Reps w F us ds) : Reps w F (u :: us) (d :: ds) :=
 ⟨by simp [hs.1], fun i x y hx hy => by
  cases i with
  | zero => simp at hx hy; subst hx; subst hy; exact h
  | succ i => exact hs.2 i x y (by simpa using hx) (by simpa using hy)⟩
theorem Reps.append {w : World} {F : Nat → Prop} {us vs : List Value} {ds es : List D} (h : Reps w F us ds) (g : Reps w F vs es) : Reps w F (us ++ vs) (ds ++ es) :=
 ⟨by simp [h.1, g.1], fun i x y hx hy => by
  rcases Nat.lt_or_ge i us.length with hl | hl
  · rw [List.getElem?_append_left hl] at hx
    rw [List.getElem?_append_left (by rw [← h.1]; exact hl)] at hy
    exact h.2 i x y hx hy
  · rw [List.getElem?_append_right hl] at hx
    rw [List.getElem?_append_right (by rw [← h.1]; exact hl), ← h.1] at hy
    exact g.2 _ x y hx hy⟩
theorem Reps.mono {w : World} {F G : Nat → Prop} {us : List Value} {ds : List D} (h : Reps w F us ds) (hFG : ∀ b, F b → G b) : Reps w G us ds := ⟨h.1, fun i u d a b => (h.2 i u d a b).mono hFG⟩
theorem Reps.stays {w w' : World} {F : Nat → Prop} {us : List Value} {ds : List D} (h : Reps w F us ds) (hs : ∀ b, F b → b < w.heap.size → w'.heap[b]? = w.heap[b]?) : Reps w' F us ds := ⟨h.1, fun i u d a b => (h.2 i u d a b).stays hs⟩
theorem Reps.lt {w : World} {F : Nat → Prop} {us : List Value} {ds : List D} (h : Reps w F us ds) : Reps w (fun b => F b ∧ b < w.heap.size) us ds := ⟨h.1, fun i u d a b => (h.2 i u d a b).lt⟩
theorem Reps.grown {w w' : World} {F : Nat → Prop} {us : List Value} {ds : List D} {row : Option Nat} (h : Reps w F us ds) (hg : w.grownBy w' row) (hr : ∀ b, F b → some b ≠ row) : Reps w' F us ds :=
 h.stays fun b hF hl => hg.block b hl (hr b hF)
def Own (w : World) (B : Nat) (F : Nat → Prop) (e : TypeId) (size : Nat) (v : Value) (es : List (List D)) : Prop :=
 ∃ xs, w.ownsRow B e size v es.length xs ∧ (∀ d, d ∈ es → d.length = size) ∧ Reps w (fun k => F k ∧ some k ≠ v.ownBlock) xs es.flatten
theorem Own.nil (w : World) (B : Nat) (F : Nat → Prop) (e : TypeId) (size : Nat) : Own w B F e size (.slice none 0 0) [] :=
 ⟨[], World.ownsRow_nil w B e size, fun d h => by simp at h, by simpa using Reps.nil _ _⟩
theorem Own.lt {w : World} {B : Nat} {F : Nat → Prop} {e : TypeId} {size : Nat} {v : Value} {es : List (List D)} (h : Own w B F e size v es) : ∀ k, v.ownBlock = some k → B ≤ k ∧ k < w.heap.size := by
 obtain ⟨xs, h1, _, _⟩ := h
 exact h1.lt
theorem Own.kept {w w' : World} {B : Nat} {F : Nat → Prop} {e : TypeId} {size : Nat} {v : Value} {es : List (List D)} {row : Option Nat} (h : Own w B F e size v es) (hg : w.grownBy w' row)
    (hne : v.ownBlock = none ∨ v.ownBlock ≠ row) (hF : ∀ k, F k → some k ≠ row) : Own w' B F e size v es := by
 obtain ⟨xs, h1, h2, h3⟩ := h
 exact ⟨xs, h1.kept hg hne, h2, h3.grown hg fun b hb => hF b hb.1⟩
theorem Own.mono {w : World} {B : Nat} {F G : Nat → Prop} {e : TypeId} {size : Nat} {v : Value} {es : List (List D)} (h : Own w B F e size v es) (hFG : ∀ k, F k → G k) : Own w B G e size v es := by
 obtain ⟨xs, h1, h2, h3⟩ := h
 exact ⟨xs, h1, h2, h3.mono fun b hb => ⟨hFG b hb.1, hb.2⟩⟩
theorem flatten_get {es : List (List D)} {size : Nat} (h : ∀ d, d ∈ es → d.length = size) : ∀ (i j : Nat) (e : List D) (d : D), es[i]? = some e → e[j]? = some d → es.flatten[i * size + j]? = some d := by
 induction es with
 | nil => intro i j e d h1; simp at h1
 | cons x es ih =>
  intro i j e d h1 h2
  have hx : x.length = size := h x (by simp)
  cases i with
  | zero =>
   simp at h1; subst h1
   rw [List.flatten_cons, Nat.zero_mul, Nat.zero_add, List.getElem?_append_left (List.getElem?_eq_some_iff.1 h2).1]
   exact h2
  | succ i =>
   rw [List.flatten_cons, List.getElem?_append_right (by rw [hx, Nat.succ_mul]; omega)]
   have : (i + 1) * size + j - x.length = i * size + j := by rw [hx, Nat.succ_mul]; omega
   rw [this]
   exact ih (fun d hd => h d (by simp [hd])) i j e d (by simpa using h1) h2
theorem flatten_len {es : List (List D)} {size : Nat} (h : ∀ d, d ∈ es → d.length = size) : es.flatten.length = es.length * size := by
 induction es with
 | nil => simp
 | cons x es ih =>
  have hx : x.length = size := h x (by simp)
  rw [List.flatten_cons, List.length_append, ih (fun d hd => h d (by simp [hd])), hx, List.length_cons, Nat.succ_mul]
  omega
theorem Own.rep {w : World} {B : Nat} {F : Nat → Prop} {e : TypeId} {size : Nat} {v : Value} {es : List (List D)} (h : Own w B F e size v es) : Rep w (fun k => F k ∨ v.ownBlock = some k) v (.sl es) := by
 obtain ⟨xs, h1, h2, h3⟩ := h
 have hl := h1.1
 rcases h1.2 with ⟨rfl, hn⟩ | ⟨g, cap, cur, rfl, hb, hg, hnc, hcm, hcs, htake⟩
 · have : es = [] := List.eq_nil_of_length_eq_zero hn
   subst this
   exact .nil _ _
 · rcases Nat.eq_zero_or_pos es.length with h0 | h0
   · have : es = [] := List.eq_nil_of_length_eq_zero h0
     subst this
     exact .empty _ _ (by simp)
   · have hcell : ∀ i j, i < es.length → j < size → ∃ u, xs[i * size + j]? = some u ∧ w.cell? ⟨g, 0 + i * size + j, none⟩ = some u := by
      intro i j hi hj
      have hlt : i * size + j < xs.length := by
       rw [hl]
       have : (i + 1) * size ≤ es.length * size := Nat.mul_le_mul_right _ hi
       rw [Nat.succ_mul] at this
       omega
      refine ⟨xs[i * size + j], List.getElem?_eq_getElem hlt, ?_⟩
      have := h1.cells (g := g) rfl (i * size + j) _ (List.getElem?_eq_getElem hlt)
      have hadd : (⟨g, 0, none⟩ : Addr).add (i * size + j) = ⟨g, 0 + i * size + j, none⟩ := by
       rw [Nat.zero_add]; unfold Addr.add; split
       · rename_i h; rw [h]
       · simp
      rw [← hadd]
      exact this
     refine .sl g 0 es.length cap size es (fun i j => (xs[i * size + j]?).getD undef) rfl h0 hnc hcm (.inr rfl) (lt_of_block hg) (fun i e he => h2 e (List.mem_of_getElem? he)) (fun i j hi hj => ?_) (fun i j e d he hd => ?_)
     · obtain ⟨u, hu, hc⟩ := hcell i j hi hj
       rw [hc, hu]; rfl
     · have hi : i < es.length := (List.getElem?_eq_some_iff.1 he).1
       have hj : j < size := by rw [← h2 e (List.mem_of_getElem? he)]; exact (List.getElem?_eq_some_iff.1 hd).1
       obtain ⟨u, hu, _⟩ := hcell i j hi hj
       have := h3.2 (i * size + j) u d hu (flatten_get h2 i j e d he hd)
       simp only [hu, Option.getD_some]
       exact this.mono fun b hb => .inl hb.1
section
variable {P : Program} (w : World)
theorem run_append_Own (B : Nat) (F : Nat → Prop) (t ty e : TypeId) (i : TypeInfo) (z : Value) (size bytes : Nat) (ht : P.underlying t = some (.slice e)) (hi : P.info? e = some i) (hz : i.zero = some z)
    (hsize : i.size = size) (hby : i.bytes = bytes) (hzs : z.cells.size = size) (hsz : 0 < size)
    (v : Value) (es : List (List D)) (hown : Own w B F e size v es)
    (ao : Option Addr) (m c : Nat) (news : List Value) (ds : List (List D)) (hm : ds.length = m) (hds : ∀ d, d ∈ ds → d.length = size) (hao : ao = none → m = 0 ∧ c = 0)
    (hnews : ∀ a, ao = some a → ∀ j u, news[j]? = some u → w.cell? (a.add j) = some u) (h1 : ∀ u ∈ news, u.oneCell' = true) (hr : Reps w (fun k => F k ∧ some k ≠ v.ownBlock) news ds.flatten)
    (h63 : es.length + m ≤ maxLen) (hbytes : (es.length + m) * bytes ≤ 140737488355328) (hbase : B ≤ w.heap.size) :
    ∃ v' w', (Builtin.append_ #[t, t] ty #[v, .slice ao m c]).run P w = .ok v' w' ∧ Own w' B F e size v' (es ++ ds) ∧ w.grownBy w' v.ownBlock ∧
     (v'.ownBlock = v.ownBlock ∨ ∃ g, v'.ownBlock = some g ∧ w.heap.size ≤ g) := by
 subst hsize; subst hby; subst hm
 obtain ⟨xs, o1, o2, o3⟩ := hown
 have hnl : news.length = ds.length * i.size := by rw [hr.1, flatten_len hds]
 cases ao with
 | none =>
  obtain ⟨hd0, rfl⟩ := hao rfl
  have : ds = [] := List.eq_nil_of_length_eq_zero hd0
  subst this
  refine ⟨v, w, run_append_owned_none (P := P) w B t ty e i i.size ht hi v _ xs o1, ?_, .refl _ _, .inl rfl⟩
  rw [List.append_nil]
  exact ⟨xs, o1, o2, o3⟩
 | some a =>
  have hnews := hnews a rfl
  have hsmall : es.length + ds.length ≤ 9223372036854775807 := by simp only [maxLen] at h63; omega
  have hlen : (xs ++ news).length = (es ++ ds).length * i.size := by rw [List.length_append, o1.1, hnl, List.length_append, Nat.add_mul]
  have hall : ∀ d, d ∈ es ++ ds → d.length = i.size := fun d hd => by
   rcases List.mem_append.1 hd with h | h
   · exact o2 d h
   · exact hds d h
  -- a new row
  have fresh : ∀ (old : Nat) (row : Option Nat),
      Own (w.drew.alloc (.cells (xs.toArray ++ news.toArray ++ Builtin.zeroCells z.cells (grownCap w (es.length + ds.length) old e - (es.length + ds.length))) e)) B F e i.size
       (.slice (some ⟨w.heap.size, 0, none⟩) (es.length + ds.length) (grownCap w (es.length + ds.length) old e)) (es ++ ds) ∧
      w.grownBy (w.drew.alloc (.cells (xs.toArray ++ news.toArray ++ Builtin.zeroCells z.cells (grownCap w (es.length + ds.length) old e - (es.length + ds.length))) e)) row := by
   intro old row
   have hge := grownCap_ge w (es.length + ds.length) old e
   have hcm : grownCap w (es.length + ds.length) old e ≤ maxLen := grownCap_le_maxLen w _ old e h63
   refine ⟨⟨xs ++ news, ⟨hlen, .inr ⟨w.heap.size, _, _, by simp, hbase, heap_alloc_new w.drew _, by simpa using hge, hcm, ?_, ?_⟩⟩, hall, ?_⟩, ⟨rfl, rfl, rfl, by simp, fun k hk _ => heap_alloc_old w.drew _ k hk⟩⟩
   · simp only [Array.size_append, List.size_toArray, size_zeroCells, hzs, o1.1, hnl, ← Nat.add_mul]
     congr 1
     omega
   · simp only [Array.toList_append, List.append_assoc]
     rw [← List.append_assoc, ← hlen]
     exact List.take_left
   · rw [List.flatten_append]
     have hst : ∀ (us : List Value) (dd : List D), Reps w (fun k => F k ∧ some k ≠ v.ownBlock) us dd → Reps (w.drew.alloc (.cells (xs.toArray ++ news.toArray ++ Builtin.zeroCells z.cells (grownCap w (es.length + ds.length) old e - (es.length + ds.length))) e))
         (fun k => F k ∧ some k ≠ Value.ownBlock (.slice (some ⟨w.heap.size, 0, none⟩) (es.length + ds.length) (grownCap w (es.length + ds.length) old e))) us dd := fun us dd hh =>
      (hh.lt.stays fun b _ hl => heap_alloc_old w.drew _ b hl).mono fun b hb => ⟨hb.1.1, by simp only [Value.ownBlock, ne_eq, Option.some.injEq]; have := hb.2; omega⟩
     exact (hst _ _ o3).append (hst _ _ hr)
  rcases o1.2 with ⟨rfl, hn0⟩ | ⟨g, cap, cur, rfl, hbg, hg, hnc, hcm, hcs, htake⟩
  · have hes : es = [] := List.eq_nil_of_length_eq_zero hn0
    subst hes
    have hx : xs = [] := List.eq_nil_of_length_eq_zero (by simpa using o1.1)
    subst hx
    by_cases hm : ds.length = 0
    · have : ds = [] := List.eq_nil_of_length_eq_zero hm
      subst this
      have hn : news = [] := List.eq_nil_of_length_eq_zero (by simpa using hnl)
      subst hn
      refine ⟨.slice none 0 0, w, ?_, Own.nil w B F e i.size, .refl _ _, .inl rfl⟩
      simp [Builtin.append_, run_underlying ht, sizeOf, typeInfo, hi, Builtin.lenOf, Builtin.firstCells, loadCells, loadCellsFrom]
    · have hrun := run_append_nil (P := P) w t ty e i z ht hi hz a ds.length c news hnl hnews (by omega) (by simp at hsmall; omega) (by have hb := hbytes; simp only [List.length_nil, Nat.zero_add] at hb; omega)
      have hgr := fresh 0 (Value.ownBlock (.slice none 0 0))
      simp only [List.length_nil, Nat.zero_add, List.nil_append, Array.empty_append] at hgr ⊢
      exact ⟨_, _, hrun, hgr.1, hgr.2, .inr ⟨_, rfl, Nat.le_refl _⟩⟩
  · by_cases hroom : es.length + ds.length ≤ cap
    · have hfit : es.length * i.size + news.length ≤ cur.size := by rw [hnl, hcs, ← Nat.add_mul]; exact Nat.mul_le_mul_right _ hroom
      have hrun := run_append_room (P := P) w t ty e i ht hi g es.length cap cur hg a ds.length c news hnl hnews h1 hroom hfit
      have hgb : w.grownBy (w.setRow g (cur.toList.take (es.length * i.size) ++ news ++ cur.toList.drop (es.length * i.size + news.length)).toArray) (some g) :=
       ⟨rfl, rfl, rfl, by simp, fun k _ hk => setRow_other w g k _ (fun e => hk (by simp [e]))⟩
      refine ⟨_, _, hrun, ⟨xs ++ news, ⟨hlen, .inr ⟨g, cap, _, by simp, hbg, setRow_heap w g cur _ e _ hg, by simpa using hroom, hcm, ?_, ?_⟩⟩, hall, ?_⟩, hgb, .inl rfl⟩
      · simp only [List.size_toArray, List.length_append, List.length_take, List.length_drop, Array.length_toList]
        omega
      · rw [htake, ← hlen]
        exact List.take_left
      · rw [List.flatten_append]
        exact (o3.append hr).grown hgb fun b hb => hb.2
    · have holds : ∀ j u, xs[j]? = some u → w.cell? ((⟨g, 0, none⟩ : Addr).add j) = some u := o1.cells (g := g) rfl
      have hrun := run_append_grow (P := P) w t ty e i z ht hi hz ⟨g, 0, none⟩ es.length cap xs o1.1 holds a ds.length c news hnl hnews (by omega) (by omega) (growslice_fits (by omega) hbytes)
      have hgr := fresh cap (Value.ownBlock (.slice (some ⟨g, 0, none⟩) es.length cap))
      exact ⟨_, _, hrun, hgr.1, hgr.2, .inr ⟨_, rfl, Nat.le_refl _⟩⟩
theorem wpList_append_Own {ops : Array Oper} {rest : List Oper} {o : Oper} {a : Act} {Q : Exit → Act → World → Prop} (hgd : o.guard = none) (s x : Operand) (t : TypeId)
    (ho : o.op = .call { callee := .builtin .append, args := #[s, x], argTypes := #[t, t] })
    (B : Nat) (F : Nat → Prop) (e : TypeId) (i : TypeInfo) (z : Value) (size bytes : Nat) (ht : P.underlying t = some (.slice e)) (hi : P.info? e = some i) (hz : i.zero = some z)
    (hsize : i.size = size) (hby : i.bytes = bytes) (hzs : z.cells.size = size) (hsz : 0 < size)
    (v : Value) (es : List (List D)) (hs : a.eval s = v) (hown : Own w B F e size v es)
    (ao : Option Addr) (m c : Nat) (hx : a.eval x = .slice ao m c) (news : List Value) (ds : List (List D)) (hm : ds.length = m) (hds : ∀ d, d ∈ ds → d.length = size) (hao : ao = none → m = 0 ∧ c = 0)
    (hnews : ∀ a, ao = some a → ∀ j u, news[j]? = some u → w.cell? (a.add j) = some u) (h1 : ∀ u ∈ news, u.oneCell' = true) (hr : Reps w (fun k => F k ∧ some k ≠ v.ownBlock) news ds.flatten)
    (h63 : es.length + m ≤ maxLen) (hbytes : (es.length + m) * bytes ≤ 140737488355328) (hbase : B ≤ w.heap.size)
    (h : ∀ v' w', Own w' B F e size v' (es ++ ds) → w.grownBy w' v.ownBlock → (v'.ownBlock = v.ownBlock ∨ ∃ g, v'.ownBlock = some g ∧ w.heap.size ≤ g) → wpList P ops Q rest (a.put o.dst v') w') : wpList P ops Q (o :: rest) a w :=
 wpList_plain hgd fun K hK => by
  obtain ⟨v', w', hrun, h2, h3, h4⟩ := run_append_Own (P := P) w B F t o.type e i z size bytes ht hi hz hsize hby hzs hsz v es hown ao m c news ds hm hds hao hnews h1 hr h63 hbytes hbase
  unfold Oper.wp execOp
  simp only [ho, resolve, invoke, builtin, Sem.run_bind, Sem.run_pure, Result.andThen_ok, List.map_toArray, List.map_cons, List.map_nil, hs, hx, hrun]
  exact hK _ _ (h v' w' h2 h3 h4)
end
def Blk (w : World) (k : Nat) (c : Array Value) (t : TypeId) : Prop := w.heap[k]? = some (.cells c t (0, 0))
theorem Blk.cell {w : World} {k : Nat} {c : Array Value} {t : TypeId} (h : Blk w k c t) (j : Nat) : w.cell? ⟨k, j, none⟩ = c[j]? := by unfold Blk at h; simp [World.cell?, h]
theorem Blk.frozen {w : World} {k : Nat} {c : Array Value} {t : TypeId} (h : Blk w k c t) (j : Nat) : w.frozen? ⟨k, j, none⟩ = false := by unfold Blk at h; simp [World.frozen?, h]
theorem Blk.lt {w : World} {k : Nat} {c : Array Value} {t : TypeId} (h : Blk w k c t) : k < w.heap.size := lt_of_block h
theorem Blk.stays {w w' : World} {k : Nat} {c : Array Value} {t : TypeId} (h : Blk w k c t) (hg : w'.heap[k]? = w.heap[k]?) : Blk w' k c t := by unfold Blk at *; rw [hg]; exact h
theorem Blk.grown {w w' : World} {k : Nat} {c : Array Value} {t : TypeId} {r : Option Nat} (h : Blk w k c t) (hg : w.grownBy w' r) (hr : some k ≠ r) : Blk w' k c t := h.stays (hg.block k h.lt hr)
theorem Blk.below {w w' : World} {k : Nat} {c : Array Value} {t : TypeId} (h : Blk w k c t) (hg : Below w.heap.size w w') : Blk w' k c t := h.stays (hg.block k h.lt)
theorem Blk.alloc {w : World} {k : Nat} {c : Array Value} {t : TypeId} (h : Blk w k c t) (x : Obj) : Blk (w.alloc x) k c t := h.stays (Below.heap_alloc w x k h.lt)
theorem Blk.drew {w : World} {k : Nat} {c : Array Value} {t : TypeId} (h : Blk w k c t) : Blk w.drew k c t := h
theorem Blk.drewN {w : World} {k : Nat} {c : Array Value} {t : TypeId} (h : Blk w k c t) (n : Nat) : Blk (w.drewN n) k c t := h
theorem Blk.new (w : World) (c : Array Value) (t : TypeId) : Blk (w.alloc (.cells c t)) w.heap.size c t := heap_alloc_new w _
theorem Blk.new' {w : World} {k : Nat} (c : Array Value) (t : TypeId) (h : k = w.heap.size) : Blk (w.alloc (.cells c t)) k c t := by subst h; exact heap_alloc_new w _
theorem Blk.other {w : World} {k : Nat} {c : Array Value} {t : TypeId} (h : Blk w k c t) {k' j : Nat} {u : Value} (hk : k ≠ k') : Blk (w.setCell ⟨k', j, none⟩ u) k c t := h.stays (Below.heap_setCell w _ u k hk)
theorem Blk.set {w : World} {k : Nat} {c : Array Value} {t : TypeId} (h : Blk w k c t) (j : Nat) (u : Value) : Blk (w.setCell ⟨k, j, none⟩ u) k (c.setIfInBounds j u) t := by
 unfold Blk at *
 have hlt := lt_of_block h
 have h' : w.heap[k] = .cells c t (0, 0) := by simpa [Array.getElem?_eq_getElem hlt] using h
 show (w.heap.modify k _)[k]? = _
 rw [Array.getElem?_eq_getElem (by simpa using hlt), Array.getElem_modify_self, h']
 rfl
theorem grownBy_setCell (w : World) (b k : Nat) (u : Value) : w.grownBy (w.setCell ⟨b, k, none⟩ u) (some b) :=
 ⟨rfl, rfl, rfl, by simp, fun j _ hj => Below.heap_setCell _ _ _ _ (fun e => hj (by rw [e]))⟩
theorem grownBy_drewN (w : World) (n : Nat) (r : Option Nat) : w.grownBy (w.drewN n) r := ⟨rfl, rfl, rfl, Nat.le_refl _, fun _ _ _ => rfl⟩
theorem grownBy_drew (w : World) (r : Option Nat) : w.grownBy w.drew r := ⟨rfl, rfl, rfl, Nat.le_refl _, fun _ _ _ => rfl⟩
theorem grownBy_trans {a b c : World} {r : Option Nat} (h : a.grownBy b r) (g : b.grownBy c r) : a.grownBy c r :=
 ⟨g.os.trans h.os, g.tape.trans h.tape, g.output.trans h.output, Nat.le_trans h.size g.size, fun k hk hr => (g.block k (Nat.lt_of_lt_of_le hk h.size) hr).trans (h.block k hk hr)⟩
theorem grownBy_own {a b c : World} {r r' : Option Nat} (h : a.grownBy b r) (g : b.grownBy c r') (hr : ∀ k, r' = some k → a.heap.size ≤ k) : a.grownBy c r :=
 ⟨g.os.trans h.os, g.tape.trans h.tape, g.output.trans h.output, Nat.le_trans h.size g.size, fun k hk hr0 => (g.block k (Nat.lt_of_lt_of_le hk h.size) (fun e => by have := hr k e.symm; omega)).trans (h.block k hk hr0)⟩
theorem grownBy_fresh {a b c : World} {r : Option Nat} (h : a.grownBy b none) (g : b.grownBy c r) (hr : ∀ k, r = some k → a.heap.size ≤ k) : a.grownBy c none := grownBy_own h g hr
theorem grownBy_setOwn {a b : World} {r : Option Nat} (h : a.grownBy b r) {k j : Nat} {u : Value} (hk : a.heap.size ≤ k) : a.grownBy (b.setCell ⟨k, j, none⟩ u) r :=
 grownBy_own h (grownBy_setCell b k j u) (fun i hi => by cases hi; exact hk)
theorem grownBy_drewN' {a b : World} {r : Option Nat} (h : a.grownBy b r) (n : Nat) : a.grownBy (b.drewN n) r := grownBy_trans h (grownBy_drewN b n r)
theorem grownBy_drew' {a b : World} {r : Option Nat} (h : a.grownBy b r) : a.grownBy b.drew r := grownBy_trans h (grownBy_drew b r)
theorem grownBy_alloc' {a b : World} {r : Option Nat} (h : a.grownBy b r) (x : Obj) : a.grownBy (b.alloc x) r := grownBy_trans h (World.grownBy_alloc b x r)
theorem quiet2 {P : Program} {f : FuncId} {args : Array Value} {w : World} {k n : Nat} {v : Value} (h : Calls P f args (w.drewN (k + n)) fun e w' => e = .returned v ∧ ∃ m, w' = (w.drewN (k + n)).drewN m) :
    Calls P f args (w.drewN (k + n)) fun e w'' => e = .returned v ∧ ∃ m, w'' = w.drewN (k + m) :=
 h.mono fun _ _ ⟨he, m, hm⟩ => ⟨he, n + m, by rw [hm, World.drewN_drewN, Nat.add_assoc]⟩
theorem quiet2_same {P : Program} {f : FuncId} {args : Array Value} {w : World} {k n : Nat} {v : Value} (h : Calls P f args (w.drewN (k + n)) fun e w' => e = .returned v ∧ w' = w.drewN (k + n)) :
    Calls P f args (w.drewN (k + n)) fun e w'' => e = .returned v ∧ ∃ m, w'' = w.drewN (k + m) :=
 h.mono fun _ _ ⟨he, hm⟩ => ⟨he, n, hm⟩
theorem Own.keptOld {w w' : World} {B : Nat} {e : TypeId} {size : Nat} {v : Value} {es : List (List D)} {row : Option Nat} (h : Own w B (fun k => B ≤ k) e size v es) (hg : w.grownBy w' row)
    (hr : ∀ k, row = some k → k < B) : Own w' B (fun k => B ≤ k) e size v es := by
 refine h.kept hg ?_ (fun k hk e => by have := hr k e.symm; omega)
 cases hv : v.ownBlock with
 | none => exact .inl rfl
 | some k => exact .inr fun e => by have := (h.lt k hv).1; have := hr k e.symm; omega
theorem Own.alloc {w : World} {B : Nat} {F : Nat → Prop} {e : TypeId} {size : Nat} {v : Value} {es : List (List D)} (h : Own w B F e size v es) (x : Obj) : Own (w.alloc x) B F e size v es :=
 h.kept (World.grownBy_alloc w x none) (by cases v.ownBlock <;> simp) (fun _ _ => by simp)
theorem Own.drew {w : World} {B : Nat} {F : Nat → Prop} {e : TypeId} {size : Nat} {v : Value} {es : List (List D)} (h : Own w B F e size v es) : Own w.drew B F e size v es :=
 h.kept (grownBy_drew w none) (by cases v.ownBlock <;> simp) (fun _ _ => by simp)
theorem Own.drewN {w : World} {B : Nat} {F : Nat → Prop} {e : TypeId} {size : Nat} {v : Value} {es : List (List D)} (h : Own w B F e size v es) (n : Nat) : Own (w.drewN n) B F e size v es :=
 h.kept (grownBy_drewN w n none) (by cases v.ownBlock <;> simp) (fun _ _ => by simp)
theorem cells_new {w : World} {c : Array Value} {t : TypeId} {n : Nat} (hn : n = w.heap.size) : ∀ a : Addr, some (⟨n, 0, none⟩ : Addr) = some a → ∀ (j : Nat) (u : Value), c.toList[j]? = some u → (w.alloc (.cells c t)).cell? (a.add j) = some u := by
 intro a ha j u hu
 cases ha
 subst hn
 rw [Addr.add_lit, Nat.zero_add]
 simpa using hu
theorem Rep.cells {w : World} {F : Nat → Prop} {ao : Option Addr} {n c k : Nat} {es : List (List D)} (h : Rep w F (.slice ao n c) (.sl es)) (hk : ∀ d, d ∈ es → d.length = k) :
    es.length = n ∧ (ao = none → n = 0 ∧ c = 0) ∧ ∃ us, (∀ a, ao = some a → ∀ j u, us[j]? = some u → w.cell? (a.add j) = some u) ∧ Reps w F us es.flatten := by
 cases h with
 | empty a c h => exact ⟨rfl, fun e => ⟨rfl, h e⟩, [], fun a _ j u hu => by simp at hu, by simpa using Reps.nil w F⟩
 | sl b o n c k' es U h1 h0 h2 h3 h4 hlt h5 h6 h7 =>
  have e : k' = k := by
   have h0' : 0 < es.length := by omega
   have e1 := h5 0 es[0] (List.getElem?_eq_getElem h0')
   have e2 := hk es[0] (List.getElem_mem h0')
   omega
  subst e
  refine ⟨h1, fun e => (by cases e), (List.range (n * k')).map fun j => U (j / k') (j % k'), ?_, ?_⟩
  · intro a ha j u hu
    cases ha
    have hj : j < n * k' := by
     have := (List.getElem?_eq_some_iff.1 hu).1
     simpa using this
    have hk0 : 0 < k' := by
     rcases Nat.eq_zero_or_pos k' with h | h
     · subst h; simp at hj
     · exact h
    rw [List.getElem?_map, List.getElem?_range hj] at hu
    simp only [Option.map_some, Option.some.injEq] at hu
    have hc := h6 (j / k') (j % k') (Nat.div_lt_of_lt_mul (by rw [Nat.mul_comm]; exact hj)) (Nat.mod_lt _ hk0)
    have hd := Nat.div_add_mod j k'
    rw [Addr.add_lit, ← hu, ← hc]
    congr 2
    rw [Nat.mul_comm] at hd
    omega
  · refine ⟨by rw [flatten_len hk]; simp [h1], ?_⟩
    intro j u d hu hd
    have hj : j < n * k' := by
     have := (List.getElem?_eq_some_iff.1 hu).1
     simpa using this
    have hk0 : 0 < k' := by
     rcases Nat.eq_zero_or_pos k' with h | h
     · subst h; simp at hj
     · exact h
    rw [List.getElem?_map, List.getElem?_range hj] at hu
    simp only [Option.map_some, Option.some.injEq] at hu
    have hq : j / k' < es.length := by rw [h1]; exact Nat.div_lt_of_lt_mul (by rw [Nat.mul_comm]; exact hj)
    have hl := hk es[j / k'] (List.getElem_mem hq)
    have hr : j % k' < es[j / k'].length := by rw [hl]; exact Nat.mod_lt _ hk0
    have := flatten_get hk (j / k') (j % k') _ _ (List.getElem?_eq_getElem hq) (List.getElem?_eq_getElem hr)
    have hdm := Nat.div_add_mod j k'
    have e : j / k' * k' + j % k' = j := by rw [Nat.mul_comm]; exact hdm
    rw [e] at this
    rw [this] at hd
    cases hd
    rw [← hu]
    exact h7 _ _ _ _ (List.getElem?_eq_getElem hq) (List.getElem?_eq_getElem hr)
theorem Reps.one {w : World} {F : Nat → Prop} {us : List Value} {ds : List D} (h : Reps w F us ds) (hd : ∀ u, D.leaf u ∈ ds → u.oneCell' = true) : ∀ u ∈ us, u.oneCell' = true := by
 intro u hu
 obtain ⟨i, hi, rfl⟩ := List.mem_iff_getElem.1 hu
 have hi' : i < ds.length := by rw [← h.1]; exact hi
 exact (h.2 i _ _ (List.getElem?_eq_getElem hi) (List.getElem?_eq_getElem hi')).one fun v e => hd v (by rw [← e]; exact List.getElem_mem hi')
end Go.Proofs.YtmmgjaheffbpaaaGreatDoor
