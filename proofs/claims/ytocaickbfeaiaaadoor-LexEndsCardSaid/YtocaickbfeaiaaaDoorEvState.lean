/-
  EV: the document's Parse: the rows that are open, in memory.
-/
import Derived.Test.YtocaickbfeaiaaaDoorEvClose
namespace Go.Proofs.YtocaickbfeaiaaaDoor
set_option linter.unusedSimpArgs false
set_option linter.unusedVariables false
open Go.RowKit

section
variable (g : Nat → Nat) (σ : Sto)
mutual
/-- a tree that objects hold: those of its rows are done (1) -/
def IsTr : List AV → Tr → Prop
  | row, .mk x k r a => ∃ kv, row = [.lit (.string ⟨x.toArray⟩), kv, .lit (.bool r), .lit (.int .i64 a)] ∧ ((k = [] ∧ kv = .sl [] .full) ∨ ∃ id cs, kv = .asl id 0 k.length 4 ∧ g id = 1 ∧ σ[id]? = some (.cells cs 83) ∧ IsTrs cs k)
def IsTrs : List AV → List Tr → Prop
  | cs, [] => cs = []
  | cs, t :: l => ∃ row rest, cs = row ++ rest ∧ IsTr row t ∧ IsTrs rest l
end
end

section
variable {g g' : Nat → Nat} {σ σ' : Sto}
mutual
theorem IsTr.keep (h : ∀ id, id < σ.length → g id = 1 → g' id = 1 ∧ σ'[id]? = σ[id]?) : ∀ (row : List AV) (t : Tr), IsTr g σ row t → IsTr g' σ' row t
  | row, .mk x k r a, ⟨kv, h1, h2⟩ => by
    refine ⟨kv, h1, ?_⟩
    rcases h2 with h2 | ⟨id, cs, h3, h4, h5, h6⟩
    · exact .inl h2
    · have hl := h id (List.getElem?_eq_some_iff.1 h5).1 h4
      exact .inr ⟨id, cs, h3, hl.1, hl.2.trans h5, IsTrs.keep h cs k h6⟩
theorem IsTrs.keep (h : ∀ id, id < σ.length → g id = 1 → g' id = 1 ∧ σ'[id]? = σ[id]?) : ∀ (cs : List AV) (l : List Tr), IsTrs g σ cs l → IsTrs g' σ' cs l
  | cs, [], h1 => h1
  | cs, t :: l, ⟨row, rest, h1, h2, h3⟩ => ⟨row, rest, h1, IsTr.keep h row t h2, IsTrs.keep h rest l h3⟩
end

theorem IsTr.length : ∀ {row : List AV} {t : Tr}, IsTr g σ row t → row.length = 4
  | row, .mk x k r a, ⟨kv, h1, _⟩ => by rw [h1]; rfl
theorem IsTrs.length : ∀ {cs : List AV} {l : List Tr}, IsTrs g σ cs l → cs.length = l.length * 4
  | cs, [], h => by rw [IsTrs] at h; subst h; rfl
  | cs, t :: l, ⟨row, rest, h1, h2, h3⟩ => by
    have a := IsTr.length h2
    have b := IsTrs.length h3
    rw [h1, List.length_append, a, b, List.length_cons]; omega
theorem IsTrs.snoc {row : List AV} {t : Tr} (ht : IsTr g σ row t) : ∀ {cs : List AV} {l : List Tr}, IsTrs g σ cs l → IsTrs g σ (cs ++ row) (l ++ [t])
  | cs, [], h => by rw [IsTrs] at h; subst h; exact ⟨row, [], by simp, ht, rfl⟩
  | cs, u :: l, ⟨row', rest, h1, h2, h3⟩ => ⟨row', rest ++ row, by rw [h1, List.append_assoc], h2, IsTrs.snoc ht h3⟩
end

/-- a row that is open, of the how many-th level -/
def OpenRow (g : Nat → Nat) (σ : Sto) (v : AV) (xs : List Tr) (lev : Nat) : Prop :=
  (xs = [] ∧ v = .sl [] .full) ∨ ∃ id cs, v = .asl id 0 xs.length 4 ∧ g id = lev + 2 ∧ σ[id]? = some (.cells cs 83) ∧ IsTrs g σ cs xs

/-- the levels, the last that is open first -/
def Levels (g : Nat → Nat) (σ : Sto) (ls bs : List AV) : List (List Tr × Int) → Prop
  | [] => True
  | (xs, b) :: rest => (∃ v, ls[rest.length]? = some v ∧ OpenRow g σ v xs rest.length) ∧ bs[rest.length]? = some (.lit (.int .i64 b)) ∧ Levels g σ ls bs rest

theorem Levels.keep {g g' : Nat → Nat} {σ σ' : Sto} {ls ls' bs bs' : List AV} : ∀ {st : List (List Tr × Int)}, (∀ id, id < σ.length → g id = 1 → g' id = 1 ∧ σ'[id]? = σ[id]?) → (∀ id, id < σ.length → 2 ≤ g id → g id < st.length + 2 → g' id = g id ∧ σ'[id]? = σ[id]?) →
    (∀ j, j < st.length → ls'[j]? = ls[j]? ∧ bs'[j]? = bs[j]?) → Levels g σ ls bs st → Levels g' σ' ls' bs' st
  | [], _, _, _, _ => trivial
  | (xs, b) :: rest, h1, h2, h3, ⟨⟨v, hv, ho⟩, hb, hr⟩ => by
    have hj := h3 rest.length (by simp)
    refine ⟨⟨v, by rw [hj.1]; exact hv, ?_⟩, by rw [hj.2]; exact hb, Levels.keep h1 (fun id hid a b => h2 id hid a (by simp; omega)) (fun j hj => h3 j (by simp; omega)) hr⟩
    rcases ho with ho | ⟨id, cs, g1, g2, g3, g4⟩
    · exact .inl ho
    · have hl := (List.getElem?_eq_some_iff.1 g3).1
      have hk := h2 id hl (by omega) (by simp; omega)
      exact .inr ⟨id, cs, g1, by rw [hk.1]; exact g2, hk.2.trans g3, IsTrs.keep h1 cs xs g4⟩

structure PS (σ0 σ : Sto) (R L B : Nat) (g : Nat → Nat) (ls bs : List AV) (st : List (List Tr × Int)) : Prop where
  r : σ[R]? = some (.cells [.asl L 0 st.length 1, .asl B 0 st.length 1] 79)
  l : σ[L]? = some (.cells ls 37)
  b : σ[B]? = some (.cells bs 3)
  ll : st.length ≤ ls.length
  lb : st.length ≤ bs.length
  rl : R ≠ L
  rb : R ≠ B
  lb' : L ≠ B
  r0 : σ0.length ≤ R
  l0 : σ0.length ≤ L
  b0 : σ0.length ≤ B
  gr : g R = 0
  gl : g L = 0
  gb : g B = 0
  g0 : ∀ j, g j ≠ 0 → σ0.length ≤ j
  keep : ∀ j, j < σ0.length → σ[j]? = σ0[j]?
  le : σ0.length ≤ σ.length
  lev : Levels g σ ls bs st

def PState (σ0 σ : Sto) (R : Nat) (st : List (List Tr × Int)) : Prop := ∃ L B g ls bs, PS σ0 σ R L B g ls bs st

/-- behind a put: the state -/
theorem PS.put {σ0 σ σ' : Sto} {R L B : Nat} {g : Nat → Nat} {ls bs : List AV} {xs : List Tr} {b : Int} {rest : List (List Tr × Int)} (h : PS σ0 σ R L B g ls bs ((xs, b) :: rest)) {row : List AV} {t : Tr} (ht : IsTr g σ row t) {v : AV} (hv : ls[rest.length]? = some v) {cs : List AV}
    (hold : (xs = [] ∧ v = .sl [] .full ∧ cs = []) ∨ ∃ id, v = .asl id 0 xs.length 4 ∧ g id = rest.length + 2 ∧ σ[id]? = some (.cells cs 83)) (hcs : IsTrs g σ cs xs) {r : ARes} (hp : PutPost σ R L rest.length xs.length 37 v ls cs row r σ') :
    PState σ0 σ' R ((xs ++ [t], b) :: rest) := by
  obtain ⟨rfl, hlen, id', hid', hc', hL', hfr⟩ := hp
  have lR := (List.getElem?_eq_some_iff.1 h.r).1
  have lL := (List.getElem?_eq_some_iff.1 h.l).1
  have lB := (List.getElem?_eq_some_iff.1 h.b).1
  have gid : ∀ j, isId v j → g j = rest.length + 2 := by
    rintro j ⟨m, hm⟩
    rcases hold with ⟨_, h1, _⟩ | ⟨id, h1, h2, h3⟩
    · rw [h1] at hm; cases hm
    · rw [h1] at hm; cases hm; exact h2
  have hnR : ¬ isId v R := fun e => by have := gid R e; rw [h.gr] at this; omega
  have hnB : ¬ isId v B := fun e => by have := gid B e; rw [h.gb] at this; omega
  have frozen : ∀ id, id < σ.length → g id = 1 → (if id = id' then rest.length + 2 else if g id = rest.length + 2 then 0 else g id) = 1 ∧ σ'[id]? = σ[id]? := by
    intro id hid h1
    refine ⟨by rw [if_neg (by omega), if_neg (by omega)]; exact h1, hfr id hid (fun e => by subst e; rw [h.gl] at h1; omega) fun e => by have := gid id e; omega⟩
  obtain ⟨⟨v0, hv0, _⟩, hb0, hlv⟩ := h.lev
  have hll : (ls.set rest.length (.asl id' 0 (xs.length + 1) 4)).length = ls.length := List.length_set
  have hrl := h.ll
  simp only [List.length_cons] at hrl
  refine ⟨L, B, fun j => if j = id' then rest.length + 2 else if g j = rest.length + 2 then 0 else g j, ls.set rest.length (.asl id' 0 (xs.length + 1) 4), bs, ?_⟩
  refine { r := ?_, l := hL', b := ?_, ll := by rw [hll]; exact h.ll, lb := h.lb, rl := h.rl, rb := h.rb, lb' := h.lb', r0 := h.r0, l0 := h.l0, b0 := h.b0, gr := ?_, gl := ?_, gb := ?_, g0 := ?_, keep := ?_, le := Nat.le_trans h.le hlen, lev := ?_ }
  · rw [hfr R lR h.rl hnR]; exact h.r
  · rw [hfr B lB (Ne.symm h.lb') hnB]; exact h.b
  · rw [if_neg (by omega), if_neg (by rw [h.gr]; omega)]; exact h.gr
  · rw [if_neg (by omega), if_neg (by rw [h.gl]; omega)]; exact h.gl
  · rw [if_neg (by omega), if_neg (by rw [h.gb]; omega)]; exact h.gb
  · intro j hj
    have := h.le
    split at hj
    · omega
    · split at hj
      · exact absurd rfl hj
      · exact h.g0 j hj
  · intro j hj
    have hl := h.l0
    rw [hfr j (by have := h.le; omega) (by omega) fun e => by have := h.g0 j (by have := gid j e; omega); omega]
    exact h.keep j hj
  · refine ⟨⟨_, List.getElem?_set_self (by omega), .inr ⟨id', cs ++ row, by simp, by simp, hc', IsTrs.snoc (IsTr.keep frozen _ _ ht) (IsTrs.keep frozen _ _ hcs)⟩⟩, hb0, ?_⟩
    refine Levels.keep frozen (fun id hid h2 h3 => ?_) (fun j hj => ⟨List.getElem?_set_ne (by omega), rfl⟩) hlv
    refine ⟨by rw [if_neg (by omega), if_neg (by omega)], hfr id hid (fun e => by subst e; rw [h.gl] at h2; omega) fun e => by have := gid id e; omega⟩

/-- the last level's own row -/
theorem PS.top {σ0 σ : Sto} {R L B : Nat} {g : Nat → Nat} {ls bs : List AV} {xs : List Tr} {b : Int} {rest : List (List Tr × Int)} (h : PS σ0 σ R L B g ls bs ((xs, b) :: rest)) :
    ∃ v cs, ls[rest.length]? = some v ∧ IsTrs g σ cs xs ∧ OldAt σ v xs.length cs ∧ ((xs = [] ∧ v = .sl [] .full ∧ cs = []) ∨ ∃ id, v = .asl id 0 xs.length 4 ∧ g id = rest.length + 2 ∧ σ[id]? = some (.cells cs 83)) ∧ ¬ isId v L ∧ ¬ isId v R ∧ v.one = true := by
  obtain ⟨⟨v, hv, ho⟩, hb, hlv⟩ := h.lev
  rcases ho with ⟨h1, h2⟩ | ⟨id, cs, h1, h2, h3, h4⟩
  · subst h1; subst h2
    exact ⟨_, [], hv, rfl, .inl ⟨rfl, rfl, rfl⟩, .inl ⟨rfl, rfl, rfl⟩, (fun ⟨m, e⟩ => by cases e), (fun ⟨m, e⟩ => by cases e), rfl⟩
  · subst h1
    refine ⟨_, cs, hv, h4, .inr ⟨id, rfl, h3, IsTrs.length h4⟩, .inr ⟨id, rfl, h2, h3⟩, ?_, ?_, rfl⟩
    · rintro ⟨m, e⟩; cases e; rw [h.gl] at h2; omega
    · rintro ⟨m, e⟩; cases e; rw [h.gr] at h2; omega

theorem put_st {σ0 σ : Sto} {R L B : Nat} {g : Nat → Nat} {ls bs : List AV} {xs : List Tr} {b : Int} {rest : List (List Tr × Int)} (h : PS σ0 σ R L B g ls bs ((xs, b) :: rest)) {row : List AV} {t : Tr} (ht : IsTr g σ row t) (hm : xs.length ≤ 1000000) (hn : rest.length ≤ 1000000) :
    JC Tryd.prog EL 34 [.ptr R 0, .agg row] σ fun r σ' => r = .ret (.tup []) ∧ PState σ0 σ' R ((xs ++ [t], b) :: rest) := by
  obtain ⟨v, cs, hv, hcs, hold, hold2, hvL, hvR, _⟩ := h.top
  have hrl := h.ll
  simp only [List.length_cons] at hrl
  refine (put_ev σ R L rest.length xs.length 0 0 _ _ v _ ls cs row h.r h.l (by omega) hv hold (IsTr.length ht) hn hm h.rl hvL hvR).mono fun r σ' hp => ⟨hp.1, h.put ht hv hold2 hcs hp⟩

theorem close_st {σ0 σ : Sto} {R L B : Nat} {g : Nat → Nat} {ls bs : List AV} {xs xs1 : List Tr} {b b1 : Int} {rest : List (List Tr × Int)} (h : PS σ0 σ R L B g ls bs ((xs1, b1) :: (xs, b) :: rest)) (hm : xs.length ≤ 1000000) (hn : rest.length ≤ 1000000) :
    JC Tryd.prog EL 32 [.ptr R 0] σ fun r σ' => r = .ret (.tup []) ∧ PState σ0 σ' R ((xs ++ [.mk [] xs1 true b1], b) :: rest) := by
  obtain ⟨v1, cs1, hv1, hcs1, hold1, hold12, hvL1, hvR1, hone⟩ := h.top
  have lR := (List.getElem?_eq_some_iff.1 h.r).1
  have lL := (List.getElem?_eq_some_iff.1 h.l).1
  have lB := (List.getElem?_eq_some_iff.1 h.b).1
  have hrl := h.ll
  have hrb := h.lb
  simp only [List.length_cons] at hrl hrb
  obtain ⟨_, hb1, hlv0⟩ := h.lev
  generalize hrow : ([.lit (.string ⟨#[]⟩), v1, .lit (.bool true), .lit (.int .i64 b1)] : List AV) = row
  generalize hσ1 : (σ ++ [AObj.cells row 83]).set R (.cells [.asl L 0 (rest.length + 1) 1, .asl B 0 (rest.length + 1) 1] 79) = σ1
  have l1 : σ1.length = σ.length + 1 := by rw [← hσ1]; simp
  have same : ∀ j, j < σ.length → j ≠ R → σ1[j]? = σ[j]? := fun j hj hjR => by rw [← hσ1, List.getElem?_set_ne (Ne.symm hjR), List.getElem?_append_left hj]
  have frozen : ∀ id, id < σ.length → g id = 1 → (if g id = rest.length + 3 then 1 else g id) = 1 ∧ σ1[id]? = σ[id]? := by
    intro id hid h1
    exact ⟨by rw [if_neg (by omega)]; exact h1, same id hid fun e => by subst e; rw [h.gr] at h1; omega⟩
  have h1 : PS σ0 σ1 R L B (fun j => if g j = rest.length + 3 then 1 else g j) ls bs ((xs, b) :: rest) := by
    refine { r := ?_, l := ?_, b := ?_, ll := by simp; omega, lb := by simp; omega, rl := h.rl, rb := h.rb, lb' := h.lb', r0 := h.r0, l0 := h.l0, b0 := h.b0, gr := ?_, gl := ?_, gb := ?_, g0 := ?_, keep := ?_, le := by rw [l1]; have := h.le; omega, lev := ?_ }
    · rw [← hσ1]; exact List.getElem?_set_self (by simp; omega)
    · rw [same L lL (Ne.symm h.rl)]; exact h.l
    · rw [same B lB (Ne.symm h.rb)]; exact h.b
    · rw [if_neg (by rw [h.gr]; omega)]; exact h.gr
    · rw [if_neg (by rw [h.gl]; omega)]; exact h.gl
    · rw [if_neg (by rw [h.gb]; omega)]; exact h.gb
    · intro j hj
      split at hj
      · exact h.g0 j (by omega)
      · exact h.g0 j hj
    · intro j hj
      have := h.r0
      have := h.le
      rw [same j (by omega) (by omega)]
      exact h.keep j hj
    · refine Levels.keep frozen (fun id hid g1 g2 => ?_) (fun j hj => ⟨rfl, rfl⟩) hlv0
      simp only [List.length_cons] at g2
      exact ⟨by rw [if_neg (by omega)], same id hid fun e => by subst e; rw [h.gr] at g1; omega⟩
  have ht : IsTr (fun j => if g j = rest.length + 3 then 1 else g j) σ1 row (.mk [] xs1 true b1) := by
    refine ⟨v1, hrow.symm, ?_⟩
    rcases hold12 with ⟨h1, h2, h3⟩ | ⟨id, h1, h2, h3⟩
    · exact .inl ⟨h1, h2⟩
    · simp only [List.length_cons] at h2
      refine .inr ⟨id, cs1, h1, if_pos (by omega), ?_, IsTrs.keep frozen _ _ hcs1⟩
      rw [same id (List.getElem?_eq_some_iff.1 h3).1 (fun e => by subst e; rw [h.gr] at h2; omega)]; exact h3
  obtain ⟨v, cs, hv, hcs, hold, hold2, hvL, hvR, _⟩ := h1.top
  have hold0 : OldAt σ v xs.length cs := by
    rcases hold with h2 | ⟨id, h2, h3, h4⟩
    · exact .inl h2
    · refine .inr ⟨id, h2, ?_, h4⟩
      have hid := (List.getElem?_eq_some_iff.1 h3).1
      have hR' : id ≠ R := fun e => hvR ⟨_, by rw [h2, e]⟩
      rcases Nat.lt_or_ge id σ.length with hlt | hge
      · rw [← same id hlt hR']; exact h3
      · rcases hold2 with ⟨_, g1, _⟩ | ⟨id2, g1, g2, g3⟩
        · rw [h2] at g1; cases g1
        · rw [h2] at g1; cases g1
          obtain ⟨⟨v', hv', ho'⟩, _, _⟩ := hlv0
          rw [hv] at hv'
          cases hv'
          rcases ho' with ⟨_, q⟩ | ⟨id3, cs3, q1, q2, q3, _⟩
          · rw [h2] at q; cases q
          · rw [h2] at q1; cases q1
            have := (List.getElem?_eq_some_iff.1 q3).1
            omega
  have := close_ev σ R L rest.length xs.length B b1 79 37 3 v v1 ls bs cs h.r h.l h.b (by omega) hv hv1 hb1 hold0 hone hn hm h.rl h.rb h.lb' hvL hvR
  rw [hrow, hσ1] at this
  exact this.mono fun r σ' hp => ⟨hp.1, h1.put ht hv hold2 hcs hp⟩

/-- a level more -/
theorem PS.push {σ0 σ : Sto} {R L B : Nat} {g : Nat → Nat} {ls bs : List AV} {st : List (List Tr × Int)} (h : PS σ0 σ R L B g ls bs st) {σ' : Sto} {L' B' : Nat} {b : Int} {ls' bs' : List AV} (hls : ls' = ls.take st.length ++ [.sl [] .full]) (hbs : bs' = bs.take st.length ++ [.lit (.int .i64 b)])
    (hR : σ'[R]? = some (.cells [.asl L' 0 (st.length + 1) 1, .asl B' 0 (st.length + 1) 1] 79)) (hL : σ'[L']? = some (.cells ls' 37)) (hB : σ'[B']? = some (.cells bs' 3)) (hl : σ.length ≤ L') (hb : σ.length ≤ B') (hLB : L' ≠ B')
    (hle : σ.length ≤ σ'.length) (same : ∀ j, j < σ.length → j ≠ R → j ≠ L → j ≠ B → σ'[j]? = σ[j]?) : PState σ0 σ' R (([], b) :: st) := by
  have lR := (List.getElem?_eq_some_iff.1 h.r).1
  have hrl := h.ll
  have hrb := h.lb
  have hl0 := h.le
  have z : ∀ j, σ.length ≤ j → (if σ.length ≤ j then 0 else g j) = 0 := fun j hj => if_pos hj
  refine ⟨L', B', fun j => if σ.length ≤ j then 0 else g j, ls', bs', ?_⟩
  refine { r := hR, l := hL, b := hB, ll := by rw [hls]; simp; omega, lb := by rw [hbs]; simp; omega, rl := by omega, rb := by omega, lb' := hLB, r0 := h.r0, l0 := by omega, b0 := by omega, gr := ?_, gl := z _ hl, gb := z _ hb, g0 := ?_, keep := ?_, le := by omega, lev := ?_ }
  · rw [if_neg (by omega)]; exact h.gr
  · intro j hj
    split at hj
    · exact absurd rfl hj
    · exact h.g0 j hj
  · intro j hj
    have := h.r0
    have := h.l0
    have := h.b0
    rw [same j (by omega) (by omega) (by omega) (by omega)]
    exact h.keep j hj
  · have ne : ∀ id, g id ≠ 0 → id ≠ R ∧ id ≠ L ∧ id ≠ B := fun id hg => ⟨fun e => hg (by rw [e]; exact h.gr), fun e => hg (by rw [e]; exact h.gl), fun e => hg (by rw [e]; exact h.gb)⟩
    refine ⟨⟨.sl [] .full, ?_, .inl ⟨rfl, rfl⟩⟩, ?_, ?_⟩
    · rw [hls, List.getElem?_append_right (by simp; omega)]; simp [Nat.min_eq_left hrl]
    · rw [hbs, List.getElem?_append_right (by simp; omega)]; simp [Nat.min_eq_left hrb]
    · refine Levels.keep (fun id hid g1 => ?_) (fun id hid g1 g2 => ?_) (fun j hj => ?_) h.lev
      · obtain ⟨a, b, c⟩ := ne id (by omega)
        exact ⟨by rw [if_neg (by omega)]; exact g1, same id hid a b c⟩
      · obtain ⟨a, b, c⟩ := ne id (by omega)
        exact ⟨by rw [if_neg (by omega)], same id hid a b c⟩
      · rw [hls, hbs, List.getElem?_append_left (by simp; omega), List.getElem?_append_left (by simp; omega), List.getElem?_take_of_lt hj, List.getElem?_take_of_lt hj]
        exact ⟨rfl, rfl⟩

end Go.Proofs.YtocaickbfeaiaaaDoor
