/-
  EV: the package tree: Subst.
-/
import Derived.Test.YtncoidmbmihliaaGreatDoorTr3M
import Derived.Test.YtncoidmbmihliaaGreatDoorTOfM
namespace Go.Proofs.YtncoidmbmihliaaGreatDoor
set_option linter.unusedSimpArgs false
set_option linter.unusedVariables false
section
open Go.RowKit

variable {S : Sp} {N : Nat}
abbrev mkOf (names : List ByteArray) (atoms : List Atm) : MkE := ⟨0, 0, 0, 0, 0, 0, names, atoms⟩
structure SubX where
  e : Exp
  names : List ByteArray
  atoms : List Atm
abbrev SubX.m (s : SubX) : MkE := mkOf s.names s.atoms
abbrev SubX.Pre (s : SubX) : Prop := (s.e.n ≤ 100000000 ∧ s.e.c ≤ 20000) ∧ 0 < s.names.length ∧ s.names.length ≤ 1000000000 ∧ 0 < s.atoms.length ∧ atmN s.atoms ≤ 100000000
abbrev substEF : FS := ⟨SubX, fun s => [.agg s.e.cs, .sl (txtR s.names) .no, .sl (atmR s.atoms) .no], fun s _ => s.Pre, fun s σ => (.ret (.tup [.agg (s.m.putE s.e).cs, .lit (.int .i64 0)]), σ), fun s => 16 * (s.m.W + s.e.n) + 15⟩
theorem substEF_uniq : FS.uniq substEF := fun a b σ e ha hb => by
  obtain ⟨e1, n1, a1⟩ := a; obtain ⟨e2, n2, a2⟩ := b
  simp only [List.cons.injEq, AV.agg.injEq, AV.sl.injEq, and_true, true_and] at e
  obtain ⟨h1, h2, h3⟩ := e
  cases Exp.inj h1; cases txtR_inj h2; cases atmR_inj h3
  rfl
theorem trmR_row (l : List Trm) : ∀ r ∈ trmR l, r.length = 5 := by
  intro r hr
  rw [trmR_map] at hr
  obtain ⟨x, _, rfl⟩ := List.mem_map.1 hr
  exact x.len
theorem toTs_n (l : List Atm) : trmN (l.map Atm.toT) ≤ atmN l := by
  induction l with
  | nil => exact Nat.le_refl _
  | cons a l ih => have := a.toT_n; simp only [List.map_cons, trmN, atmN]; omega
theorem atmN_take : ∀ (l : List Atm) (n : Nat), atmN (l.take n) ≤ atmN l
  | [], n => by simp
  | a :: l, 0 => by simp [atmN]
  | a :: l, n + 1 => by have := atmN_take l n; simp only [List.take_succ_cons, atmN]; omega
set_option maxRecDepth 100000 in
set_option maxHeartbeats 400000 in
theorem substE_w (hc : S.code = codeP Tryz.prog) (hE : EnvOk Tryz.prog (S.E N)) (hm : S.ms 7 = [52]) (hm2 : S.ms 23 = []) (hA : S.sp 24 = some atomF) (h1 : S.sp 29 = some (mkF (fun m t => [.ptr m.mid 0, .agg t.cs]) (fun m t => .agg (m.putE t).cs) Exp.n Exp.c 14)) (s : SubX) (σ : Sto) (hp : s.Pre) (hN : 16 * (s.m.W + s.e.n) + 15 ≤ N) :
    FS.Ok Tryz.prog substEF 7 s σ := by
  refine defer_call (by kernel_rfl) hE (fn := Tryz.f7) (gn := Tryz.f23) (codeOf hc Tryz.func7 rfl (by kernel_rfl)) rfl (codeOf hc Tryz.func23 rfl (by kernel_rfl)) rfl (Nat.le_of_ble_eq_true rfl) (Nat.le_of_ble_eq_true rfl) ?_
  obtain ⟨⟨ek, enm, ety, erh, ⟨amk, amnm, amng, amdg, amtr⟩, ear, ebd⟩, names, atoms⟩ := s
  obtain ⟨p1, p2, p3, p4, p5⟩ := hp
  dsimp only at p1 p2 p3 p4 p5
  rw [num_fm (Nat.le_of_ble_eq_true rfl)]
  show JD _ (S.E N) (S.ms _) _ (fm 42 (num 0 [.agg _, .sl (txtR names) .no, .sl (atmR atoms) .no]) _) _ _
  rw [hm]
  refine J.cw (CW.hide fun R hR => CW.region ?_)
  simp (maxDischargeDepth := 16) [symX, List.length_set, Exp.cs]
  refine hR _ _ _ ⟨rfl, by rw [fm_len]; exact Nat.le_of_ble_eq_true rfl, [.ptr (σ.length + 4) 0, .ptr (σ.length + 3) 0], by simp [omap, symX], ?_⟩
  show JD _ (S.E N) (S.ms _) _ _ _ _
  rw [hm, set_fm]
  simp only [pt]
  have hmn : (if atoms.length < names.length then (atoms.length : Int) else names.length) = ((min names.length atoms.length : Nat) : Int) := by split <;> omega
  have hn1 : min names.length atoms.length ≤ names.length := Nat.min_le_left _ _
  have hn2 : min names.length atoms.length ≤ atoms.length := Nat.min_le_right _ _
  have hn3 : 0 < min names.length atoms.length := by omega
  generalize hmin : min names.length atoms.length = n at hmn hn1 hn2 hn3
  have hal := atmN_len atoms
  have hN2 : 16 * (atmN atoms + trmN (mkOf names atoms).ts + Exp.n (.mk ek enm ety erh (.mk amk amnm amng amdg amtr) ear ebd)) + 15 ≤ N := hN
  have htk : (atmR atoms).take n = atmR (atoms.take n) := by rw [atmR_map, atmR_map, List.map_take]
  have htl : (atoms.take n).length = n := List.length_take_of_le hn2
  have hhd := atmR_hd atoms
  refine J.cw (CW.hide fun R2 hR2 => ?_)
  refine CW.seqK fun K hK => CW.region ?_
  simp (maxDischargeDepth := 16) [symX, List.length_set, es_min, hmn]
  refine hK _ _ ?_; clear hK K
  refine CW.seqK fun K hK => CW.region ?_
  simp (maxDischargeDepth := 16) [symX, List.length_set]
  refine hK _ _ ?_; clear hK K
  refine CW.seqK fun K hK => ?_
  refine CW.seqK fun K hK => CW.region ?_
  simp (maxDischargeDepth := 16) [symX, List.length_set, hn2, atmR_len, hhd, htk, htl, Int.natCast_nonneg, sliceTok]
  refine hK _ _ ?_; clear hK K
  refine CW.block (CW.hide fun R3 hR3 => ?_)
  refine CW.loopF (fun p : Nat × AV × Option Nat × List AObj => [(1, .sl (txtR names) .no), (2, .sl (atmR atoms) .no), (3, .ptr σ.length 0), (4, .ptr (σ.length + 1) 0), (5, .ptr (σ.length + 2) 0), (6, .ptr (σ.length + 3) 0), (7, .ptr (σ.length + 4) 0), (8, .ptr (σ.length + 5) 0), (9, .ptr (σ.length + 6) 0), (13, .fn (.func 23) [] [.ptr (σ.length + 4) 0, .ptr (σ.length + 3) 0]), (21, .sl (atmR (atoms.take n)) .no), (22, intV n), (23, intV p.1)])
    (fun p => σ ++ (.cells [.lit (.int .u8 ek), .lit (.string enm), .sl (tyR ety) .no, .sl (rhsR erh) .no, .lit (.int .u8 amk), .lit (.string amnm), .lit (.bool amng), .sl (limR amdg) .no, .lit (.bool amtr), .sl (armR ear) .no, .sl (expR ebd) .no] 34 :: .cells [.sl (txtR names) .no] 35 :: .cells [.sl (atmR atoms) .no] 36 ::
      .cells [.lit (.int .u8 0), .lit (.string ⟨#[]⟩), .sl [] .full, .sl [] .full, .lit (.int .u8 0), .lit (.string ⟨#[]⟩), .lit (.bool false), .sl [] .full, .lit (.bool false), .sl [] .full, .sl [] .full] 34 :: .cells [.lit (.int .i64 0)] 39 :: .cells [intV n] 3 :: .cells [p.2.1] 52 :: p.2.2.2))
    (fun p => p.1 ≤ n ∧ ((p.1 = 0 ∧ p.2.1 = .sl [] .full) ∨ ∃ i, p.2.1 = .asl (σ.length + (i + 7)) 0 p.1 5 ∧ p.2.2.2[i]? = some (.cells (trmR ((atoms.take p.1).map Atm.toT)).flatten 54))) (fun p => n - p.1) (0, .sl [] .full, none, []) ?_ ?_ ?_ ?_
  · simp [sub, lk]
  · simp
  · exact ⟨by simp, .inl ⟨rfl, rfl⟩⟩
  rintro ⟨j, lv, d, g⟩ tm ⟨hj, hA⟩
  dsimp only at hj hA ⊢
  have hsz : (Value.agg #[Value.int .u8 0, Value.string ⟨#[]⟩, Value.bool false, Value.slice none 0 0, Value.slice none 0 0]).cells.size = 5 := rfl
  have hg3 : ∀ a b c : AObj, (g ++ [a, b, c])[g.length + 2]? = some c := fun a b c => by simp
  have hs3 : ∀ a b c o : AObj, (g ++ [a, b, c]).set (g.length + 2) o = g ++ [a, b, o] := fun a b c o => by rw [List.set_append_right _ _ (by omega)]; simp
  rcases hA with ⟨rfl, rfl⟩ | ⟨i, rfl, hgi⟩
  · have hlta : 0 < (atoms.take n).length := by omega
    have ha := atmR_get hlta
    have htn := atmN_get (show 0 < atoms.length by omega)
    have hes : (trmR ((atoms.take 0).map Atm.toT)).length = 0 := by rw [trmR_len, List.length_map]; exact List.length_take_of_le (by omega)
    have hap := apdM (P := Tryz.prog) (σ := (σ ++ (.cells [.lit (.int .u8 ek), .lit (.string enm), .sl (tyR ety) .no, .sl (rhsR erh) .no, .lit (.int .u8 amk), .lit (.string amnm), .lit (.bool amng), .sl (limR amdg) .no, .lit (.bool amtr), .sl (armR ear) .no, .sl (expR ebd) .no] 34 :: .cells [.sl (txtR names) .no] 35 :: .cells [.sl (atmR atoms) .no] 36 :: .cells [.lit (.int .u8 0), .lit (.string ⟨#[]⟩), .sl [] .full, .sl [] .full, .lit (.int .u8 0), .lit (.string ⟨#[]⟩), .lit (.bool false), .sl [] .full, .lit (.bool false), .sl [] .full, .sl [] .full] 34 :: .cells [.lit (.int .i64 0)] 39 :: .cells [intV n] 3 :: .cells [.sl [] .full] 52 :: (g ++ [.cells atoms[0].cs 30, .cells [.lit (.int .u8 0), .lit (.string ⟨#[]⟩), .lit (.bool false), .sl [] .full, .sl [] .full] 54])))) (t := 52) (e := 54) (k := 4) (by_ := 80) (es := trmR ((atoms.take 0).map Atm.toT)) (lv := .sl [] .full) (d := none) [.lit (.int .u8 0), .lit (.string ⟨#[]⟩), .lit (.bool false), .sl [] .full, .sl [] .full] (.asl (σ.length + (g.length + 8)) 0 1 5) (by simp [symX, rowsA, chunks]) (.inl ⟨rfl, rfl, rfl⟩) (trmR_row _) rfl (by kernel_rfl) (by kernel_rfl) (by kernel_rfl) (by kernel_rfl) (by rw [hes]; omega) (by rw [hes]; omega)
    rw [hes] at hap
    refine CW.hide fun R4 hR4 => CW.seqK fun K4 hK4 => CW.region ?_
    simp (maxDischargeDepth := 16) [symX, List.length_set, hn3]
    refine hK4 _ _ ?_
    refine CW.seqK fun K3 hK3 => ?_
    refine CW.cond (t := true) (by simp [evx_tmp, symF, lk]) ?_
    refine CW.skip (hK3 _ _ ?_)
    refine CW.seqK fun K5 hK5 => CW.block ?_
    refine CW.seqK fun K hK => CW.region ?_
    simp (maxDischargeDepth := 16) [symX, List.length_set, ha, Atm.len, Atm.tk, Atm.put, set_last]
    refine hK _ _ ?_; clear hK K
    refine CW.draw (by kernel_rfl) ?_
    simp (maxDischargeDepth := 16) [symX, List.length_set, Atm.len, Atm.tk, set_last]
    refine call_pure atoms[0] hA atm1_inj (by simp only [nrmR, AV.nrm, Atm.nrm]) (by omega) (by omega) fun hac => ?_
    simp (maxDischargeDepth := 16) [symX, List.length_set, hac, hap, kill, hsz, hg3, hs3, Nat.add_assoc, Atm.len, Atm.tk, set_last, Trm.len]
    refine ⟨drawOk_sim [σ.length + 6, σ.length + (g.length + 7), σ.length + (g.length + 8), σ.length + (g.length + 9)] [.reads 0, .reads 1, .lcalls (fun _ => true), .pure, .news 2, .any, .pure, .writes 3, .writes 0] (.cons (by simp) (.cons (by simp) (.cons (by simp) (.cons (by simp) .nil))))
      (.cons (.reads 0 _ rfl) (.cons (.reads 1 _ rfl) (.cons (.lcalls _ _ fun i a ha hi => rfl) (.cons .pure (.cons (.news 2 _ rfl) (.cons (.any _) (.cons .pure (.cons (.writes 3 _ rfl) (.cons (.writes 0 _ rfl) .nil))))))))) (by kernel_rfl), hK5 _ _ ?_⟩
    have hw : IntKind.i64.wrap 1 = 1 := rfl
    refine CW.region ?_
    simp (maxDischargeDepth := 16) [symX, List.length_set, hw]
    refine hR4 _ _ _ ⟨(1, .asl (σ.length + (g.length + 9)) 0 1 5, none, g ++ [.cells atoms[0].cs 30, .cells [.lit (.int .u8 0), .lit (.string ⟨#[]⟩), .lit (.bool false), .sl [] .full, .sl [] .full] 54, .cells atoms[0].toT.cs 54]), _, _, rfl, by simp [sub, lk, hw], by rw [Trm.put _ rfl], ⟨by show 1 ≤ n; omega, .inr ⟨g.length + 2, rfl, by rw [hg3]; obtain ⟨a, l, rfl⟩ : ∃ a l, atoms = a :: l := (by cases atoms with | nil => simp at p4 | cons a l => exact ⟨a, l, rfl⟩); show some (AObj.cells (a :: l)[0].toT.cs 54) = some (.cells (trmR (List.map Atm.toT (List.take 1 (a :: l)))).flatten 54); simp [trmR]⟩⟩, by show n - 1 < n - 0; omega⟩
  have hig := (List.getElem?_eq_some_iff.1 hgi).1
  rcases Nat.lt_or_ge j n with hlt2 | hge
  · have hlta : j < (atoms.take n).length := by omega
    have ha := atmR_get hlta
    have htn := atmN_get (show j < atoms.length by omega)
    have hes : (trmR ((atoms.take j).map Atm.toT)).length = j := by rw [trmR_len, List.length_map]; exact List.length_take_of_le (by omega)
    have hap := apdM (P := Tryz.prog) (σ := (σ ++ (.cells [.lit (.int .u8 ek), .lit (.string enm), .sl (tyR ety) .no, .sl (rhsR erh) .no, .lit (.int .u8 amk), .lit (.string amnm), .lit (.bool amng), .sl (limR amdg) .no, .lit (.bool amtr), .sl (armR ear) .no, .sl (expR ebd) .no] 34 :: .cells [.sl (txtR names) .no] 35 :: .cells [.sl (atmR atoms) .no] 36 :: .cells [.lit (.int .u8 0), .lit (.string ⟨#[]⟩), .sl [] .full, .sl [] .full, .lit (.int .u8 0), .lit (.string ⟨#[]⟩), .lit (.bool false), .sl [] .full, .lit (.bool false), .sl [] .full, .sl [] .full] 34 :: .cells [.lit (.int .i64 0)] 39 :: .cells [intV n] 3 :: .cells [.asl (σ.length + (i + 7)) 0 j 5] 52 :: (g ++ [.cells atoms[j].cs 30, .cells [.lit (.int .u8 0), .lit (.string ⟨#[]⟩), .lit (.bool false), .sl [] .full, .sl [] .full] 54])))) (t := 52) (e := 54) (k := 4) (by_ := 80) (es := trmR ((atoms.take j).map Atm.toT)) (lv := .asl (σ.length + (i + 7)) 0 j 5) (d := (some (σ.length + (i + 7)))) [.lit (.int .u8 0), .lit (.string ⟨#[]⟩), .lit (.bool false), .sl [] .full, .sl [] .full] (.asl (σ.length + (g.length + 8)) 0 1 5) (by simp [symX, rowsA, chunks]) (.inr ⟨_, rfl, by rw [hes], by simp [symX, List.getElem?_append_left hig, hgi]⟩) (trmR_row _) rfl (by kernel_rfl) (by kernel_rfl) (by kernel_rfl) (by kernel_rfl) (by rw [hes]; omega) (by rw [hes]; omega)
    rw [hes] at hap
    have hfl := flat_len ((atoms.take j).map Atm.toT)
    have hml : ((atoms.take j).map Atm.toT).length = j := by rw [List.length_map]; exact List.length_take_of_le (by omega)
    rw [hml] at hfl
    have hFS : (trmR ((atoms.take (j + 1)).map Atm.toT)).flatten = (trmR ((atoms.take j).map Atm.toT)).flatten ++ atoms[j].toT.cs := by
      rw [List.take_succ_eq_append_getElem (by omega), List.map_append, trmR_map, trmR_map, List.map_append, List.flatten_append]
      simp
    have hst := fun (ρ : Operand → Option AV) (x y : Operand) (ds : Option Tmp) (ty : TypeId) (po : String) (af : Array Edge) (gu : Option (Nat × Bool)) (hx : ρ x = some _) (hy : ρ y = some _) => (es_appendM (P := Tryz.prog) (M := [52]) (ds := ds) (ty := ty) (po := po) (af := af) (gu := gu) x y 52 rfl).trans (hap ρ x y hx hy)
    clear hap
    generalize (trmR ((atoms.take j).map Atm.toT)).flatten = FL at hgi hst hfl hFS
    have hpc : putCells (FL ++ [.lit (.int .u8 0), .lit (.string ⟨#[]⟩), .lit (.bool false), .sl [] .full, .sl [] .full]) (j * 5) atoms[j].toT.cs = FL ++ atoms[j].toT.cs := by rw [← hfl]; exact putCells_at _ _ _ (by rw [Trm.len]; rfl)
    have hd1 : ∀ a b c : AObj, ((g ++ [a, b]).set i .dead ++ [c])[g.length + 2]? = some c := fun a b c => by rw [List.getElem?_append_right (by simp)]; simp
    have hd2 : ∀ a b c o : AObj, ((g ++ [a, b]).set i .dead ++ [c]).set (g.length + 2) o = (g ++ [a, b]).set i .dead ++ [o] := fun a b c o => by rw [List.set_append_right _ _ (by simp)]; simp
    have hjl : (j : Int) < ((j + 1 : Nat) : Int) := by omega
    have hjl2 : (j : Int) < (j : Int) + 1 := by omega
    refine CW.hide fun R4 hR4 => CW.seqK fun K4 hK4 => CW.region ?_
    simp (maxDischargeDepth := 16) [symX, List.length_set, hlt2]
    refine hK4 _ _ ?_
    refine CW.seqK fun K3 hK3 => ?_
    refine CW.cond (t := true) (by simp [evx_tmp, symF, lk]) ?_
    refine CW.skip (hK3 _ _ ?_)
    refine CW.seqK fun K5 hK5 => CW.block ?_
    refine CW.seqK fun K hK => CW.region ?_
    simp (maxDischargeDepth := 16) [symX, List.length_set, ha, Atm.len, Atm.tk, Atm.put, set_last]
    refine hK _ _ ?_; clear hK K
    refine CW.draw (by kernel_rfl) ?_
    simp (maxDischargeDepth := 16) [symX, List.length_set, Atm.len, Atm.tk, set_last, List.getElem?_append_left hig, hgi]
    refine call_pure atoms[j] hA atm1_inj (by simp only [nrmR, AV.nrm, Atm.nrm]) (by omega) (by omega) fun hac => ?_
    simp (maxDischargeDepth := 16) [symX, List.length_set, hac, hst, hjl, hjl2, kill, hsz, hg3, hs3, Nat.add_assoc, Atm.len, Atm.tk, set_last, Trm.len, List.getElem?_append_left hig, hgi, hfl, hpc, hd1, hd2]
    refine ⟨drawOk_sim [σ.length + 6, σ.length + (g.length + 7), σ.length + (g.length + 8), σ.length + (g.length + 9)] [.reads 0, .reads 1, .lcalls (fun _ => true), .pure, .news 2, .any, .pure, .writes 3, .writes 0] (.cons (by simp) (.cons (by simp) (.cons (by simp) (.cons (by simp) .nil))))
      (.cons (.reads 0 _ rfl) (.cons (.reads 1 _ rfl) (.cons (.lcalls _ _ fun i a ha hi => rfl) (.cons .pure (.cons (.news 2 _ rfl) (.cons (.any _) (.cons .pure (.cons (.writes 3 _ rfl) (.cons (.writes 0 _ rfl) .nil))))))))) (by kernel_rfl), hK5 _ _ ?_⟩
    have hw : IntKind.i64.wrap ((j : Int) + 1) = (j : Int) + 1 := IntWalk.i64_in _ ⟨by omega, by omega⟩
    refine CW.region ?_
    simp (maxDischargeDepth := 16) [symX, List.length_set, hw]
    refine hR4 _ _ _ ⟨(j + 1, .asl (σ.length + (g.length + 9)) 0 (j + 1) 5, none, (g ++ [AObj.cells atoms[j].cs 30, AObj.cells [.lit (.int .u8 0), .lit (.string ⟨#[]⟩), .lit (.bool false), .sl [] .full, .sl [] .full] 54]).set i .dead ++ [.cells (FL ++ atoms[j].toT.cs) 54]), _, _, rfl, by simp [sub, lk], rfl, ⟨by show j + 1 ≤ n; omega, .inr ⟨g.length + 2, rfl, by rw [hd1]; show _ = some (AObj.cells (trmR ((atoms.take (j + 1)).map Atm.toT)).flatten 54); rw [hFS]⟩⟩, by show n - (j + 1) < n - j; omega⟩
  · obtain rfl : j = n := by omega
    refine CW.hide fun R4 hR4 => CW.seqK fun K4 hK4 => CW.region ?_
    simp (maxDischargeDepth := 16) [symX, List.length_set]
    refine hK4 _ _ ?_
    refine CW.seqK fun K3 hK3 => ?_
    refine CW.cond (t := false) (by simp [evx_tmp, symF, lk]) ?_
    refine CW.exit (hR4 _ _ _ (hR3 _ _ _ ?_))
    simp only [outOf, if_true, andThen]
    refine hK _ _ ?_
    refine CW.seqK fun K hK => CW.region ?_
    simp (maxDischargeDepth := 16) [symX, List.length_set]
    refine hK _ _ ?_; clear hK K
    refine CW.seqK fun K hK => CW.region ?_
    simp (maxDischargeDepth := 16) [symX, List.length_set]
    have hput := fun (m : MkE) (h : m.Like (mkOf names atoms)) => h.x (.mk ek enm ety erh (.mk amk amnm amng amdg amtr) ear ebd)
    have htsE : (atoms.take j).map Atm.toT = (mkOf names atoms).ts := by show _ = (atoms.take (min names.length atoms.length)).map Atm.toT; rw [hmin]
    have htl2 : ((mkOf names atoms).ts).length = j := by rw [← htsE, List.length_map]; exact htl
    refine call_mk ⟨σ.length + (g.length + 1 + 1 + 1 + 1 + 1 + 1 + 1), σ.length + 5, σ.length + 1, σ.length + 2, σ.length + 6, σ.length + (i + 7), names, atoms⟩ (.mk ek enm ety erh (.mk amk amnm amng amdg amtr) ear ebd) h1 mkExp_inj (by simp only [nrmR, AV.nrm, tyR_nrm, rhsR_nrm, limR_nrm, armR_nrm, expR_nrm]; rfl) ⟨?_, ⟨?_, ?_, ?_, p3, p5⟩, ⟨?_, ?_, ?_, p3, ?_⟩⟩ p1 ?_ fun _ => ?_
    · simp [symF]
    · show _ = some (AObj.cells [intV (min names.length atoms.length : Nat)] _); rw [hmin]; simp [symF]
    · simp [symF]
    · simp [symF]
    · simp [symF]
    · show _ = some (AObj.cells [.asl _ 0 (mkOf names atoms).ts.length 5] _); rw [htl2]; simp [symF]
    · show _ = some (AObj.cells (trmR (mkOf names atoms).ts).flatten _); rw [← htsE]; simp [symF, List.getElem?_append_left hig, hgi]
    · show trmN (mkOf names atoms).ts ≤ 500000000
      have := toTs_n (atoms.take (min names.length atoms.length))
      have := atmN_take atoms (min names.length atoms.length)
      show trmN ((atoms.take (min names.length atoms.length)).map Atm.toT) ≤ _
      omega
    · show 16 * (atmN atoms + trmN (mkOf names atoms).ts + _) + 14 < N; omega
    rw [hput ⟨σ.length + (g.length + 1 + 1 + 1 + 1 + 1 + 1 + 1), σ.length + 5, σ.length + 1, σ.length + 2, σ.length + 6, σ.length + (i + 7), names, atoms⟩ ⟨rfl, rfl⟩]
    generalize hres : (mkOf names atoms).putE (.mk ek enm ety erh (.mk amk amnm amng amdg amtr) ear ebd) = res
    simp (maxDischargeDepth := 16) [symX, List.length_set, Exp.len, Exp.tk, Exp.put]
    refine hK _ _ (CW.ret (hR2 _ _ _ ⟨_, rfl, ?_⟩))
    show JD _ (S.E N) (S.ms _) _ _ _ _
    rw [hm2, num_fm (Nat.le_of_ble_eq_true rfl)]
    simp only [set_fm, num, pt]
    have hif : Tryz.prog.underlying 20 = some (.interface #[]) := by kernel_rfl
    rw [show (Tryz.f23).ntmps = 16 from rfl]
    refine J.cw (CW.hide fun R5 hR5 => CW.seqK fun K hK => CW.region ?_)
    simp (maxDischargeDepth := 16) [symX, List.length_set, es_nilNeq hif]
    refine hK _ _ ?_
    refine CW.cond (t := false) (by simp [evx_tmp, symF, lk]) ?_
    refine CW.skip (hR5 _ _ _ ⟨.tup [], by simp [resultsA, omap], ⟨_, rfl⟩, .tup [.agg res.cs, .lit (.int .i64 0)], by simp [resultsA, omap, res_cell, symX, Exp.tk, Exp.len], ?_⟩)
    show Fgt _ _ _ (.ret (.tup [.agg ((mkOf names atoms).putE (.mk ek enm ety erh (.mk amk amnm amng amdg amtr) ear ebd)).cs, .lit (.int .i64 0)])) _
    rw [hres]
    exact done (by simp [AV.pln, plnR, Exp.pln]) (by simp [AV.nrm, nrmR, Exp.nrm])
end
section
open Go.RowKit

variable {S : Sp} {N : Nat}
abbrev e0 : Exp := eLet tX (yBase tInt tYes) (rAdd (aV tY) (aN 1)) (eRet (aV tX))
abbrev f0 : Exp := eLet tX (yBase tInt tYes) (rAdd (aN 3) (aN 1)) (eRet (aV tX))
theorem put0 : (mkOf [tY] [aN 3]).putE e0 = f0 := by
  simp only [MkE.putE, MkE.putEs, MkE.putRs, MkE.putR, MkE.putMs, MkE.putYs, MkE.putY, MkE.putPs, MkE.putAs, List.map_cons, List.map_nil, EnvT.puts]
  rfl
theorem cnt0 : cntN [e0] = 5 := by rfl
theorem w0 : e0.w ≤ 100 := by decide
theorem n0 : e0.n ≤ 100 := by decide
theorem c0 : e0.c ≤ 100 := by decide
theorem free0 : setL (frE e0) = [tY] := by
  rw [setL_eq (l := [tY]) (by simp) fun s => ?_]
  · simp [sortB, strB]
  · simp [frE, frEs, frRs, frR, frMs, frYs, frY, frPs, frA, frT, namesT, namesTs]
    exact fun h _ h2 => absurd h2 h

theorem call_substE {P : Program} {args : List AV} {σ : Sto} {Q : ARes → Sto → Prop} (s : SubX) (h : S.sp 7 = some substEF) (ha : nrmR args = [.agg s.e.cs, .sl (txtR s.names) .no, .sl (atmR s.atoms) .no]) (hb : s.Pre) (hN : 16 * (s.m.W + s.e.n) + 15 < N)
    (hq : accW (S.E N) 7 args σ (.ret (.tup [.agg (s.m.putE s.e).cs, .lit (.int .i64 0)])) σ = .lcalls (fun _ => true) → Q (.ret (.tup [.agg (s.m.putE s.e).cs, .lit (.int .i64 0)])) σ) : CallW P (S.E N) 7 args σ Q :=
  call_sp s h substEF_uniq ha hb hN (hq (by have := acc_sp (σ := σ) s h substEF_uniq ha hN rfl (fun l => ⟨hb, rfl⟩); rw [kept_self] at this; exact this))
abbrev awakeF : FS := smF (fun _ : Unit => []) (fun _ => .lit (.bool true)) (fun _ => True) (fun _ => 1000) 0
set_option maxRecDepth 100000 in
theorem awake_w (hc : S.code = codeP Tryz.prog) (hm : S.ms 5 = []) (hV : S.sp 9 = some lvF) (hn : S.sp 19 = some lnF) (hY : S.sp 17 = some lyesF) (hB : S.sp 16 = some lbaseF) (hA : S.sp 18 = some laddF) (hR : S.sp 20 = some lretF) (hL : S.sp 15 = some lletF)
    (hS : S.sp 7 = some substEF) (hC : S.sp 13 = some countF) (hF : S.sp 14 = some treeFreeF) (hT : S.sp 21 = some (sameF (fun l => .sl (txtR l) .no) List.length 0)) (hE : S.sp 8 = some (sameF (fun t : Exp => .agg t.cs) Exp.n 9)) :
    SmOk Tryz.prog S N 5 (fun _ : Unit => []) (fun _ => .lit (.bool true)) (fun _ => True) (fun _ => 1000) 0 := by
  intro _ σ hk hN
  refine JC.startF (fn := Tryz.f5) (codeOf hc Tryz.func5 rfl (by kernel_rfl)) rfl hm rfl (Nat.le_of_ble_eq_true rfl) fun tm => ?_
  refine CW.hide fun R0 hR0 => ?_
  replace hN : 16000 ≤ N := hN
  refine CW.seqK fun K hK => CW.region ?_
  simp (maxDischargeDepth := 16) [symX, List.length_set]
  refine hK _ _ ?_; clear hK K
  refine CW.seqK fun K hK => CW.region ?_
  simp (maxDischargeDepth := 16) [symX, List.length_set]
  refine call_sm () hY lyes_inj (by simp only [nrmR]) trivial (by omega) fun _ => ?_
  simp (maxDischargeDepth := 16) [symX, List.length_set]
  refine call_sm (tInt, tYes) hB lbase_inj (by simp only [nrmR, AV.nrm, Trm.nrm]) trivial (by omega) fun _ => ?_
  simp (maxDischargeDepth := 16) [symX, List.length_set]
  refine call_sm tY hV lv_inj (by simp only [nrmR, AV.nrm]) trivial (by omega) fun _ => ?_
  simp (maxDischargeDepth := 16) [symX, List.length_set]
  refine call_sm 1 hn k1_inj (by simp only [nrmR, AV.nrm]) (.inl rfl) (by omega) fun _ => ?_
  simp (maxDischargeDepth := 16) [symX, List.length_set]
  refine call_sm (aV tY, aN 1) hA ladd_inj (by simp only [nrmR, AV.nrm, Atm.nrm]) trivial (by omega) fun _ => ?_
  simp (maxDischargeDepth := 16) [symX, List.length_set]
  refine call_sm tX hV lv_inj (by simp only [nrmR, AV.nrm]) trivial (by omega) fun _ => ?_
  simp (maxDischargeDepth := 16) [symX, List.length_set]
  refine call_sm (aV tX) hR lret_inj (by simp only [nrmR, AV.nrm, Atm.nrm]) trivial (by omega) fun _ => ?_
  simp (maxDischargeDepth := 16) [symX, List.length_set]
  refine call_sm (tX, yBase tInt tYes, rAdd (aV tY) (aN 1), eRet (aV tX)) hL llet_inj (by simp only [nrmR, AV.nrm, Ty.nrm, Rhs.nrm, Exp.nrm]) trivial (by omega) fun _ => ?_
  have hn0 : e0.n ≤ 100 ∧ e0.c ≤ 100 ∧ e0.w ≤ 100 := ⟨n0, c0, w0⟩
  have hput := put0
  have hcnt : intV ((cntN [e0] : Nat) : Int) = .lit (.int .i64 5) := by rw [cnt0]; rfl
  have hfree := free0
  have hexp : expW [e0] = e0.w := by simp [expW]
  simp only [e0] at hn0 hput hcnt hfree hexp
  generalize he : eLet tX (yBase tInt tYes) (rAdd (aV tY) (aN 1)) (eRet (aV tX)) = e at hn0 hput hcnt hfree hexp ⊢
  simp (maxDischargeDepth := 16) [symX, List.length_set, Exp.len, Exp.tk, Exp.put]
  refine hK _ _ ?_; clear hK K
  refine CW.seqK fun K hK => CW.draw (by kernel_rfl) ?_
  simp (maxDischargeDepth := 16) [symX, List.length_set, Exp.len, Exp.tk, Exp.put]
  refine call_sm 3 hn k1_inj (by simp only [nrmR, AV.nrm]) (.inr rfl) (by omega) fun hac => ?_
  simp (maxDischargeDepth := 16) [symX, List.length_set, hac, Exp.len, Exp.tk, Exp.put, Atm.len, Atm.tk, Atm.put]
  refine call_substE ⟨e, [tY], [aN 3]⟩ hS (by simp [nrmR, AV.nrm, nrmRR, Exp.nrm, txtR, atmR, Atm.nrm]) ⟨⟨by show e.n ≤ _; omega, by show e.c ≤ _; omega⟩, by simp, by simp, by simp, by show 2 ≤ _; omega⟩ (by show 16 * (4 + e.n) + 15 < N; omega) fun hac2 => ?_
  dsimp only at hac2 ⊢
  have hf : (SubX.m ⟨e, [tY], [aN 3]⟩).putE e = f0 := hput
  rw [hf] at hac2 ⊢
  have hfn : f0.n ≤ 100 := by decide
  generalize hf0 : f0 = f at hfn hac2 hf ⊢
  simp (maxDischargeDepth := 16) [symX, List.length_set, hac2, Exp.len, Exp.tk, Exp.put]
  refine ⟨drawOk_sim [σ.length, σ.length + 1] [.reads 0, .pure, .lcalls (fun _ => true), .pure, .lcalls (fun _ => true), .pure, .pure, .pure, .news 1, .writes 1, .pure] (.cons (by simp) (.cons (by simp) .nil)) (.cons (.reads 0 _ rfl) (.cons .pure (.cons (.lcalls _ _ fun i a ha hi => rfl) (.cons .pure (.cons (.lcalls _ _ fun i a ha hi => rfl) (.cons .pure (.cons .pure (.cons .pure (.cons (.news 1 _ rfl) (.cons (.writes 1 _ rfl) (.cons .pure .nil))))))))))) (by kernel_rfl), hK _ _ ?_⟩; clear hK K
  refine CW.seqK fun K hK => CW.draw (by kernel_rfl) ?_
  simp (maxDischargeDepth := 16) [symX, List.length_set, Exp.len, Exp.tk, Exp.put]
  refine call_sm [e] hC lgreat_inj (by simp [nrmR, AV.nrm, nrmRR, Exp.nrm, expR]) (by rw [hexp]; omega) (by rw [hexp]; omega) fun hac => ?_
  rw [hcnt] at hac ⊢
  simp (maxDischargeDepth := 16) [symX, List.length_set, hac, Exp.len, Exp.tk, Exp.put]
  refine call_sm e hF (fun a b h => Exp.inj (by simpa using h)) (by simp [nrmR, AV.nrm, Exp.nrm]) (by omega) (by omega) fun hac => ?_
  rw [hfree] at hac ⊢
  simp (maxDischargeDepth := 16) [symX, List.length_set, hac, Exp.len, Exp.tk, Exp.put]
  refine call_same [tY] [tY] hT (sl_inj txtR_inj) (by simp [nrmR, AV.nrm, nrmRR, txtR]) (by simp) (by show 16 * 1 + 0 < N; omega) fun hac => ?_
  rw [eqb_self] at hac ⊢
  simp (maxDischargeDepth := 16) [symX, List.length_set, hac, Exp.len, Exp.tk, Exp.put]
  refine call_sm () hY lyes_inj (by simp only [nrmR]) trivial (by omega) fun hac => ?_
  simp (maxDischargeDepth := 16) [symX, List.length_set, hac]
  refine call_sm (tInt, tYes) hB lbase_inj (by simp only [nrmR, AV.nrm, Trm.nrm]) trivial (by omega) fun hac => ?_
  simp (maxDischargeDepth := 16) [symX, List.length_set, hac]
  refine call_sm 3 hn k1_inj (by simp only [nrmR, AV.nrm]) (.inr rfl) (by omega) fun hac => ?_
  simp (maxDischargeDepth := 16) [symX, List.length_set, hac]
  refine call_sm 1 hn k1_inj (by simp only [nrmR, AV.nrm]) (.inl rfl) (by omega) fun hac => ?_
  simp (maxDischargeDepth := 16) [symX, List.length_set, hac]
  refine call_sm (aN 3, aN 1) hA ladd_inj (by simp only [nrmR, AV.nrm, Atm.nrm]) trivial (by omega) fun hac => ?_
  simp (maxDischargeDepth := 16) [symX, List.length_set, hac]
  refine call_sm tX hV lv_inj (by simp only [nrmR, AV.nrm]) trivial (by omega) fun hac => ?_
  simp (maxDischargeDepth := 16) [symX, List.length_set, hac]
  refine call_sm (aV tX) hR lret_inj (by simp only [nrmR, AV.nrm, Atm.nrm]) trivial (by omega) fun hac => ?_
  simp (maxDischargeDepth := 16) [symX, List.length_set, hac]
  refine call_sm (tX, yBase tInt tYes, rAdd (aN 3) (aN 1), eRet (aV tX)) hL llet_inj (by simp only [nrmR, AV.nrm, Ty.nrm, Rhs.nrm, Exp.nrm]) trivial (by omega) fun hac => ?_
  dsimp only at hac ⊢
  rw [show eLet tX (yBase tInt tYes) (rAdd (aN 3) (aN 1)) (eRet (aV tX)) = f from hf0] at hac ⊢
  simp (maxDischargeDepth := 16) [symX, List.length_set, hac]
  refine call_same f f hE (agg_inj Exp.inj) (by simp [nrmR, AV.nrm, Exp.nrm]) (by omega) (by omega) fun hac => ?_
  rw [eqb_self] at hac ⊢
  simp (maxDischargeDepth := 16) [symX, List.length_set, hac]
  refine ⟨drawOk_sim [σ.length, σ.length + 1] [.reads 0, .pure, .lcalls (fun _ => true), .pure, .pure, .reads 0, .lcalls (fun _ => true), .pure, .lcalls (fun _ => true), .pure, .pure, .pure, .pure, .pure, .pure, .reads 1, .lcalls (fun _ => true), .lcalls (fun _ => true), .lcalls (fun _ => true), .lcalls (fun _ => true), .lcalls (fun _ => true), .lcalls (fun _ => true), .lcalls (fun _ => true), .lcalls (fun _ => true), .lcalls (fun _ => true), .pure, .pure] (.cons (by simp) (.cons (by simp) .nil)) (.cons (.reads 0 _ rfl) (.cons .pure (.cons (.lcalls _ _ fun i a ha hi => rfl) (.cons .pure (.cons .pure (.cons (.reads 0 _ rfl) (.cons (.lcalls _ _ fun i a ha hi => rfl) (.cons .pure (.cons (.lcalls _ _ fun i a ha hi => rfl) (.cons .pure (.cons .pure (.cons .pure (.cons .pure (.cons .pure (.cons .pure (.cons (.reads 1 _ rfl) (.cons (.lcalls _ _ fun i a ha hi => rfl) (.cons (.lcalls _ _ fun i a ha hi => rfl) (.cons (.lcalls _ _ fun i a ha hi => rfl) (.cons (.lcalls _ _ fun i a ha hi => rfl) (.cons (.lcalls _ _ fun i a ha hi => rfl) (.cons (.lcalls _ _ fun i a ha hi => rfl) (.cons (.lcalls _ _ fun i a ha hi => rfl) (.cons (.lcalls _ _ fun i a ha hi => rfl) (.cons (.lcalls _ _ fun i a ha hi => rfl) (.cons .pure (.cons .pure .nil))))))))))))))))))))))))))) (by kernel_rfl), hK _ _ ?_⟩; clear hK K
  refine CW.ret (hR0 _ _ _ ⟨.lit (.bool true), by simp [resultsA, omap, res_tmp, symF, lk], done rfl rfl⟩)

end
section
open Go.RowKit

structure MkE.Comp (m m2 m3 : MkE) : Prop where
  t : ∀ x : Trm, m2.e.put (m.e.put x) = m3.e.put x
  a : ∀ x : Atm, m2.a2.put (m.a2.put x) = m3.a2.put x
variable {m m2 m3 : MkE}
theorem MkE.Comp.ts (h : m.Comp m2 m3) : ∀ l : List Trm, m2.e.puts (m.e.puts l) = m3.e.puts l
  | [] => rfl
  | x :: l => by rw [EnvT.puts, EnvT.puts, EnvT.puts, h.t x, MkE.Comp.ts h l]
theorem MkE.Comp.as (h : m.Comp m2 m3) (l : List Atm) : m2.putAs (m.putAs l) = m3.putAs l := by
  simp only [MkE.putAs, List.map_map]
  exact List.map_congr_left fun x _ => h.a x
mutual
theorem MkE.Comp.y (h : m.Comp m2 m3) : ∀ t : Ty, m2.putY (m.putY t) = m3.putY t
  | .mk fn st rf ps rs => by rw [MkE.putY, MkE.putY, MkE.putY, h.t rf, MkE.Comp.ps h ps, MkE.Comp.ys h rs]
theorem MkE.Comp.p (h : m.Comp m2 m3) : ∀ t : Prm, m2.putP (m.putP t) = m3.putP t
  | .mk nm ty => by rw [MkE.putP, MkE.putP, MkE.putP, MkE.Comp.y h ty]
theorem MkE.Comp.ps (h : m.Comp m2 m3) : ∀ t : List Prm, m2.putPs (m.putPs t) = m3.putPs t
  | [] => rfl
  | x :: l => by rw [MkE.putPs, MkE.putPs, MkE.putPs, MkE.Comp.p h x, MkE.Comp.ps h l]
theorem MkE.Comp.ys (h : m.Comp m2 m3) : ∀ t : List Ty, m2.putYs (m.putYs t) = m3.putYs t
  | [] => rfl
  | x :: l => by rw [MkE.putYs, MkE.putYs, MkE.putYs, MkE.Comp.y h x, MkE.Comp.ys h l]
end
mutual
theorem MkE.Comp.x (h : m.Comp m2 m3) : ∀ t : Exp, m2.putE (m.putE t) = m3.putE t
  | .mk k nm ty rh am ar bd => by rw [MkE.putE, MkE.putE, MkE.putE, h.ys ty, MkE.Comp.rs h rh, h.a am, MkE.Comp.ms h ar, MkE.Comp.xs h bd]
theorem MkE.Comp.r (h : m.Comp m2 m3) : ∀ t : Rhs, m2.putR (m.putR t) = m3.putR t
  | .mk k nm ats ps rs bd ts => by rw [MkE.putR, MkE.putR, MkE.putR, h.as ats, h.ps ps, h.ys rs, MkE.Comp.xs h bd, h.ts ts]
theorem MkE.Comp.arm (h : m.Comp m2 m3) : ∀ t : Arm, m2.putM (m.putM t) = m3.putM t
  | .mk cn ns bd => by rw [MkE.putM, MkE.putM, MkE.putM, MkE.Comp.xs h bd]
theorem MkE.Comp.xs (h : m.Comp m2 m3) : ∀ t : List Exp, m2.putEs (m.putEs t) = m3.putEs t
  | [] => rfl
  | x :: l => by rw [MkE.putEs, MkE.putEs, MkE.putEs, MkE.Comp.x h x, MkE.Comp.xs h l]
theorem MkE.Comp.rs (h : m.Comp m2 m3) : ∀ t : List Rhs, m2.putRs (m.putRs t) = m3.putRs t
  | [] => rfl
  | x :: l => by rw [MkE.putRs, MkE.putRs, MkE.putRs, MkE.Comp.r h x, MkE.Comp.rs h l]
theorem MkE.Comp.ms (h : m.Comp m2 m3) : ∀ t : List Arm, m2.putMs (m.putMs t) = m3.putMs t
  | [] => rfl
  | x :: l => by rw [MkE.putMs, MkE.putMs, MkE.putMs, MkE.Comp.arm h x, MkE.Comp.ms h l]
end
theorem put_nil : ∀ t : Trm, (mkOf [] []).e.put t = t := by
  have key : ∀ n : Nat, (∀ t : Trm, t.n ≤ n → (mkOf [] []).e.put t = t) ∧ ∀ l : List Trm, trmN l ≤ n → (mkOf [] []).e.puts l = l := by
    intro n
    induction n with
    | zero =>
      refine ⟨fun t ht => absurd t.n_pos (by omega), fun l hl => ?_⟩
      cases l with
      | nil => rfl
      | cons t l => have := t.n_pos; simp only [trmN] at hl; omega
    | succ n ih =>
      have h1 : ∀ t : Trm, t.n ≤ n + 1 → (mkOf [] []).e.put t = t := by
        intro t ht
        obtain ⟨k, nm, ng, dg, ks⟩ := t
        simp only [Trm.n] at ht
        rw [EnvT.put]
        have : (mkOf [] []).e.find (.mk k nm ng dg ks) = none := by rw [EnvT.find_eq]; simp [seek]
        rw [this, ih.2 ks (by omega)]
      refine ⟨h1, fun l => ?_⟩
      induction l with
      | nil => exact fun _ => rfl
      | cons t l ihl =>
        intro hl
        simp only [trmN] at hl
        rw [EnvT.puts, h1 t (by omega), ihl (by omega)]
  exact fun t => (key t.n).1 t (Nat.le_refl _)
theorem find1 (x : ByteArray) (a : Atm) (k : Int) (nm : ByteArray) (ng : Bool) (dg : List Int) (ks : List Trm) : (mkOf [x] [a]).e.find (.mk k nm ng dg ks) = if k = 1 ∧ x = nm then some a.toT else none := by
  rw [EnvT.find_eq]
  by_cases h1 : k = 1 <;> by_cases h2 : x = nm <;> simp [h1, h2, seek]
theorem find2 (x y : ByteArray) (a b : Atm) (k : Int) (nm : ByteArray) (ng : Bool) (dg : List Int) (ks : List Trm) : (mkOf [x, y] [a, b]).e.find (.mk k nm ng dg ks) = if k = 1 then (if y = nm then some b.toT else if x = nm then some a.toT else none) else none := by
  rw [EnvT.find_eq]
  by_cases h1 : k = 1 <;> by_cases h2 : x = nm <;> by_cases h3 : y = nm <;> simp [h1, h2, h3, seek]
theorem atm1 (x : ByteArray) (a : Atm) (k : Int) (nm : ByteArray) (ng : Bool) (dg : List Int) (tr : Bool) : (mkOf [x] [a]).a2.put (.mk k nm ng dg tr) = if k = 1 ∧ x = nm then a else .mk k nm ng dg tr := by
  rw [A2.put_eq]
  by_cases h1 : k = 1 <;> by_cases h2 : x = nm <;> simp [h1, h2, seek, A2.k]
theorem atm2 (x y : ByteArray) (a b : Atm) (k : Int) (nm : ByteArray) (ng : Bool) (dg : List Int) (tr : Bool) : (mkOf [x, y] [a, b]).a2.put (.mk k nm ng dg tr) = if k = 1 then (if y = nm then b else if x = nm then a else .mk k nm ng dg tr) else .mk k nm ng dg tr := by
  rw [A2.put_eq]
  by_cases h1 : k = 1 <;> by_cases h2 : x = nm <;> by_cases h3 : y = nm <;> simp [h1, h2, h3, seek, A2.k]
theorem put_toT {y : ByteArray} {a b : Atm} (h : ∀ k nm ng dg tr, a = .mk k nm ng dg tr → k = 1 → y ≠ nm) : (mkOf [y] [b]).e.put a.toT = a.toT := by
  obtain ⟨k, nm, ng, dg, tr⟩ := a
  have hn := h k nm ng dg tr rfl
  rw [Atm.toT_eq]
  by_cases h1 : k = 1
  · rw [if_pos h1, EnvT.put, find1, if_neg (fun e => hn h1 e.2)]; rfl
  rw [if_neg h1]
  repeat' split
  all_goals (rw [EnvT.put, find1, if_neg (fun e => absurd e.1 (by decide))]; rfl)
mutual
theorem comp12_t {x y : ByteArray} {a b : Atm} (hxy : x ≠ y) (h : ∀ k nm ng dg tr, a = .mk k nm ng dg tr → k = 1 → y ≠ nm) : ∀ t : Trm, (mkOf [y] [b]).e.put ((mkOf [x] [a]).e.put t) = (mkOf [x, y] [a, b]).e.put t
  | .mk k nm ng dg ks => by
    rw [EnvT.put.eq_def (mkOf [x] [a]).e, EnvT.put.eq_def (mkOf [x, y] [a, b]).e]
    simp only [find1, find2]
    by_cases h1 : k = 1
    · by_cases h2 : x = nm
      · have h3 : y ≠ nm := fun e => hxy (h2.trans e.symm)
        rw [if_pos ⟨h1, h2⟩, if_pos h1, if_neg h3, if_pos h2]
        exact put_toT h
      · rw [if_neg (fun e => h2 e.2), if_pos h1]
        by_cases h3 : y = nm
        · rw [if_pos h3]
          simp only []
          rw [EnvT.put.eq_def (mkOf [y] [b]).e]; simp only [find1]; rw [if_pos ⟨h1, h3⟩]
        · rw [if_neg h3, if_neg h2]
          simp only []
          rw [EnvT.put.eq_def (mkOf [y] [b]).e]; simp only [find1]; rw [if_neg (fun e => h3 e.2)]
          simp only [comp12_ts hxy h ks]
    · rw [if_neg (fun e => h1 e.1), if_neg h1]
      simp only []
      rw [EnvT.put.eq_def (mkOf [y] [b]).e]; simp only [find1]; rw [if_neg (fun e => h1 e.1)]
      simp only [comp12_ts hxy h ks]
theorem comp12_ts {x y : ByteArray} {a b : Atm} (hxy : x ≠ y) (h : ∀ k nm ng dg tr, a = .mk k nm ng dg tr → k = 1 → y ≠ nm) : ∀ l : List Trm, (mkOf [y] [b]).e.puts ((mkOf [x] [a]).e.puts l) = (mkOf [x, y] [a, b]).e.puts l
  | [] => rfl
  | t :: l => by rw [EnvT.puts, EnvT.puts, EnvT.puts, comp12_t hxy h t, comp12_ts hxy h l]
end
theorem comp12 {x y : ByteArray} {a b : Atm} (hxy : x ≠ y) (h : ∀ k nm ng dg tr, a = .mk k nm ng dg tr → k = 1 → y ≠ nm) : (mkOf [x] [a]).Comp (mkOf [y] [b]) (mkOf [x, y] [a, b]) := by
  refine ⟨comp12_t hxy h, fun t => ?_⟩
  obtain ⟨k, nm, ng, dg, tr⟩ := t
  obtain ⟨ak, anm, ang, adg, atr⟩ := a
  have hn := h _ _ _ _ _ rfl
  rw [atm1 x (.mk ak anm ang adg atr) k nm ng dg tr, atm2]
  by_cases h1 : k = 1
  · by_cases h2 : x = nm
    · have h3 : y ≠ nm := fun e => hxy (h2.trans e.symm)
      rw [if_pos ⟨h1, h2⟩, if_pos h1, if_neg h3, if_pos h2, atm1, if_neg (fun e => hn e.1 e.2)]
    · rw [if_neg (fun e => h2 e.2), if_pos h1, atm1]
      by_cases h3 : y = nm
      · rw [if_pos ⟨h1, h3⟩, if_pos h3]
      · rw [if_neg (fun e => h3 e.2), if_neg h3, if_neg h2]
  · rw [if_neg (fun e => h1 e.1), if_neg h1, atm1, if_neg (fun e => h1 e.1)]
mutual
theorem swap_t {x y : ByteArray} {a b : Atm} (hxy : x ≠ y) : ∀ t : Trm, (mkOf [x, y] [a, b]).e.put t = (mkOf [y, x] [b, a]).e.put t
  | .mk k nm ng dg ks => by
    rw [EnvT.put.eq_def (mkOf [x, y] [a, b]).e, EnvT.put.eq_def (mkOf [y, x] [b, a]).e]
    simp only [find2, swap_ts hxy ks]
    by_cases h1 : k = 1 <;> by_cases h2 : x = nm <;> by_cases h3 : y = nm <;> simp [h1, h2, h3]
    exact absurd (h2.trans h3.symm) hxy
theorem swap_ts {x y : ByteArray} {a b : Atm} (hxy : x ≠ y) : ∀ l : List Trm, (mkOf [x, y] [a, b]).e.puts l = (mkOf [y, x] [b, a]).e.puts l
  | [] => rfl
  | t :: l => by rw [EnvT.puts, EnvT.puts, swap_t hxy t, swap_ts hxy l]
end
theorem nil_a (t : Atm) : (mkOf [] []).a2.put t = t := by
  obtain ⟨k, nm, ng, dg, tr⟩ := t
  rw [A2.put_eq]
  simp [seek, A2.k]
theorem comp_nil {m : MkE} : m.Comp (mkOf [] []) m := ⟨fun t => put_nil _, fun t => nil_a _⟩
theorem swapC {x y : ByteArray} {a b : Atm} (hxy : x ≠ y) : (mkOf [x, y] [a, b]).Comp (mkOf [] []) (mkOf [y, x] [b, a]) := by
  refine ⟨fun t => by rw [put_nil, swap_t hxy], fun t => ?_⟩
  obtain ⟨k, nm, ng, dg, tr⟩ := t
  rw [nil_a, atm2, atm2]
  by_cases h1 : k = 1 <;> by_cases h2 : x = nm <;> by_cases h3 : y = nm <;> simp [h1, h2, h3]
  exact absurd (h2.trans h3.symm) hxy
theorem twice_law {x y : ByteArray} {a b : Atm} (hxy : x ≠ y) (h : ∀ k nm ng dg tr, a = .mk k nm ng dg tr → k = 1 → y ≠ nm) (e : Exp) :
    (mkOf [y] [b]).putE ((mkOf [x] [a]).putE e) = (mkOf [x, y] [a, b]).putE e ∧ (mkOf [y, x] [b, a]).putE e = (mkOf [x, y] [a, b]).putE e :=
  ⟨(comp12 hxy h).x e, ((swapC hxy).x e).symm.trans (comp_nil.x e)⟩
end
end Go.Proofs.YtncoidmbmihliaaGreatDoor
