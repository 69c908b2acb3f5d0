/-
 EV: the package tree: Subst.
-/
import Derived.Test.YtncoidmbmihliaaGreatDoorTr3M
namespace Go.Proofs.YtncoidmbmihliaaGreatDoor
set_option maxRecDepth 100000
set_option maxHeartbeats 8000000
set_option linter.unusedSimpArgs false
set_option linter.unusedVariables false
section
open Go.RowKit
variable {S : Sp} {N : Nat}
abbrev mkOf (names : List ByteArray) (atoms : List Atm) : MkE := ⟨0, 0, 0, 0, 0, 0, names, atoms⟩
structure SubX where
 e : Exp
 names : List ByteArray
 atoms : List Atm
abbrev SubX.m (s : SubX) : MkE := mkOf s.names s.atoms
abbrev SubX.Pre (s : SubX) : Prop := (s.e.n ≤ 100000000 ∧ s.e.c ≤ 20000) ∧ s.names.length ≤ 1000000000 ∧ atmN s.atoms ≤ 100000000
abbrev substEF : FS := ⟨SubX, fun s => [.agg s.e.cs, .sl (txtR s.names) .no, .sl (atmR s.atoms) .no], fun s _ => s.Pre, fun s σ => (.ret (.tup [.agg (s.m.putE s.e).cs, .lit (.int .i64 0)]), σ), fun s => 16 * (s.m.W + s.e.n) + 15⟩
theorem substEF_uniq : FS.uniq substEF := fun a b σ e ha hb => by
 obtain ⟨e1, n1, a1⟩ := a; obtain ⟨e2, n2, a2⟩ := b
 simp only [List.cons.injEq, AV.agg.injEq, AV.sl.injEq, and_true, true_and] at e
 obtain ⟨h1, h2, h3⟩ := e
 cases Exp.inj h1; cases txtR_inj h2; cases atmR_inj h3
 rfl
theorem trmR_row (l : List Trm) : ∀ r ∈ trmR l, r.length = 5 := by
 intro r hr
 rw [trmR_map] at hr
 obtain ⟨x, _, rfl⟩ := List.mem_map.1 hr
 exact x.len
theorem toTs_n (l : List Atm) : trmN (l.map Atm.toT) ≤ atmN l := by
 induction l with
 | nil => exact Nat.le_refl _
 | cons a l ih => have := a.toT_n; simp only [List.map_cons, trmN, atmN]; omega
theorem atmN_take : ∀ (l : List Atm) (n : Nat), atmN (l.take n) ≤ atmN l
 | [], n => by simp
 | a :: l, 0 => by simp [atmN]
 | a :: l, n + 1 => by have := atmN_take l n; simp only [List.take_succ_cons, atmN]; omega
theorem substE_w (hc : S.code = codeP Tryz.prog) (hE : EnvOk Tryz.prog (S.E N)) (hm : S.ms 7 = [52]) (hm2 : S.ms 23 = []) (hA : S.sp 24 = some atomF) (h1 : S.sp 29 = some (mkF (fun m t => [.ptr m.mid 0, .agg t.cs]) (fun m t => .agg (m.putE t).cs) Exp.n Exp.c 14)) (s : SubX) (σ : Sto) (hp : s.Pre) (hN : 16 * (s.m.W + s.e.n) + 15 ≤ N) :
    FS.Ok Tryz.prog substEF 7 s σ := by
 refine defer_call (by kernel_rfl) hE (fn := Tryz.f7) (gn := Tryz.f23) (codeOf hc Tryz.func7 rfl (by kernel_rfl)) rfl (codeOf hc Tryz.func23 rfl (by kernel_rfl)) rfl (zL rfl) (zL rfl) ?_
 obtain ⟨⟨ek, enm, ety, erh, ⟨amk, amnm, amng, amdg, amtr⟩, ear, ebd⟩, names, atoms⟩ := s
 obtain ⟨p1, p3, p5⟩ := hp
 dsimp only at p1 p3 p5
 rw [num_fm (zL rfl)]
 show JD _ (S.E N) (S.ms _) _ (fm 42 (num 0 [.agg _, .sl (txtR names) .no, .sl (atmR atoms) .no]) _) _ _
 rw [hm]
 refine J.cw (CW.hide fun R hR => CW.region ?_)
 simp (maxDischargeDepth := 16) [zY, Exp.cs]
 refine hR _ _ _ ⟨rfl, by rw [fm_len]; exact zL rfl, [.ptr (σ.length + 4) 0, .ptr (σ.length + 3) 0], by simp [omap, zX], ?_⟩
 show JD _ (S.E N) (S.ms _) _ _ _ _
 rw [hm, set_fm]
 simp only [pt]
 have hmn : (if atoms.length < names.length then (atoms.length : Int) else names.length) = ((min names.length atoms.length : Nat) : Int) := by split <;> omega
 have hn1 : min names.length atoms.length ≤ names.length := Nat.min_le_left _ _
 have hn2 : min names.length atoms.length ≤ atoms.length := Nat.min_le_right _ _
 generalize hmin : min names.length atoms.length = n at hmn hn1 hn2
 have hal := atmN_len atoms
 have hN2 : 16 * (atmN atoms + trmN (mkOf names atoms).ts + Exp.n (.mk ek enm ety erh (.mk amk amnm amng amdg amtr) ear ebd)) + 15 ≤ N := hN
 have htk : (atmR atoms).take n = atmR (atoms.take n) := by rw [atmR_map, atmR_map, List.map_take]
 have htl : (atoms.take n).length = n := List.length_take_of_le hn2
 have hhd := atmR_hd atoms
 refine J.cw (CW.hide fun R2 hR2 => ?_)
 refine CW.seqK fun K hK => CW.region ?_
 simp (maxDischargeDepth := 16) [zY, es_min, hmn]
 refine hK _ _ ?_; clear hK K
 refine CW.seqK fun K hK => CW.region ?_
 simp (maxDischargeDepth := 16) [zY]
 refine hK _ _ ?_; clear hK K
 refine CW.seqK fun K hK => ?_
 refine CW.seqK fun K hK => CW.region ?_
 simp (maxDischargeDepth := 16) [zY, hn2, atmR_len, hhd, htk, htl, Int.natCast_nonneg, sliceTok]
 refine hK _ _ ?_; clear hK K
 have fin : ∀ (lv : AV) (tid : Nat) (g : List AObj) (fr : List (Nat × AV)) (tm : List AV), lv = EnvT.lv ⟨names, (mkOf names atoms).ts, tid⟩ .full → (∀ l, EnvT.held ⟨names, (mkOf names atoms).ts, tid⟩ (σ ++ (.cells [.lit (.int .u8 ek), .lit (.string enm), .sl (tyR ety) .no, .sl (rhsR erh) .no, .lit (.int .u8 amk), .lit (.string amnm), .lit (.bool amng), .sl (limR amdg) .no, .lit (.bool amtr), .sl (armR ear) .no, .sl (expR ebd) .no] 34 :: .cells [.sl (txtR names) .no] 35 :: .cells [.sl (atmR atoms) .no] 36 :: .cells [.lit (.int .u8 0), .lit (.string ⟨#[]⟩), .sl [] .full, .sl [] .full, .lit (.int .u8 0), .lit (.string ⟨#[]⟩), .lit (.bool false), .sl [] .full, .lit (.bool false), .sl [] .full, .sl [] .full] 34 :: .cells [.lit (.int .i64 0)] 39 :: .cells [intV n] 3 :: .cells [lv] 52 :: (g ++ l)))) → sub [(1, .sl (txtR names) .no), (2, .sl (atmR atoms) .no), (3, .ptr σ.length 0), (4, .ptr (σ.length + 1) 0), (5, .ptr (σ.length + 2) 0), (6, .ptr (σ.length + 3) 0), (7, .ptr (σ.length + 4) 0), (8, .ptr (σ.length + 5) 0), (9, .ptr (σ.length + 6) 0), (13, .fn (.func 23) [] [.ptr (σ.length + 4) 0, .ptr (σ.length + 3) 0]), (21, .sl (atmR (atoms.take n)) .no), (22, intV n), (23, intV n)] fr → K (fm 42 fr tm) (σ ++ (.cells [.lit (.int .u8 ek), .lit (.string enm), .sl (tyR ety) .no, .sl (rhsR erh) .no, .lit (.int .u8 amk), .lit (.string amnm), .lit (.bool amng), .sl (limR amdg) .no, .lit (.bool amtr), .sl (armR ear) .no, .sl (expR ebd) .no] 34 :: .cells [.sl (txtR names) .no] 35 :: .cells [.sl (atmR atoms) .no] 36 :: .cells [.lit (.int .u8 0), .lit (.string ⟨#[]⟩), .sl [] .full, .sl [] .full, .lit (.int .u8 0), .lit (.string ⟨#[]⟩), .lit (.bool false), .sl [] .full, .lit (.bool false), .sl [] .full, .sl [] .full] 34 :: .cells [.lit (.int .i64 0)] 39 :: .cells [intV n] 3 :: .cells [lv] 52 :: g)) := by
  intro lv tid g fr tm hlv hheld hsub
  rw [fm_sub hsub]
  refine hK _ _ ?_
  refine CW.seqK fun K hK => CW.region ?_
  simp (maxDischargeDepth := 16) [zY]
  refine hK _ _ ?_; clear hK K
  refine CW.seqK fun K hK => CW.region ?_
  simp (maxDischargeDepth := 16) [zY]
  have hput := fun (m : MkE) (h : m.Like (mkOf names atoms)) => h.x (.mk ek enm ety erh (.mk amk amnm amng amdg amtr) ear ebd)
  refine call_mk ⟨σ.length + (g.length + 1 + 1 + 1 + 1 + 1 + 1 + 1), σ.length + 5, σ.length + 1, σ.length + 2, σ.length + 6, tid, names, atoms⟩ (.mk ek enm ety erh (.mk amk amnm amng amdg amtr) ear ebd) h1 mkExp_inj (by simp only [nrmR, AV.nrm, tyR_nrm, rhsR_nrm, limR_nrm, armR_nrm, expR_nrm]; rfl) ⟨?_, ⟨?_, ?_, ?_, p3, p5⟩, ⟨?_, ?_, ?_, p3, ?_⟩⟩ p1 ?_ fun _ => ?_
  · simp [zF]
  · show _ = some (AObj.cells [intV (min names.length atoms.length : Nat)] _); rw [hmin]; simp [zF]
  · simp [zF]
  · simp [zF]
  · simp [zF]
  · show _ = some (AObj.cells [EnvT.lv ⟨names, (mkOf names atoms).ts, tid⟩ .full] _); rw [← hlv]; simp [zF]
  · exact hheld _
  · show trmN (mkOf names atoms).ts ≤ 500000000
    have := toTs_n (atoms.take (min names.length atoms.length))
    have := atmN_take atoms (min names.length atoms.length)
    show trmN ((atoms.take (min names.length atoms.length)).map Atm.toT) ≤ _
    omega
  · show 16 * (atmN atoms + trmN (mkOf names atoms).ts + _) + 14 < N; omega
  rw [hput ⟨σ.length + (g.length + 1 + 1 + 1 + 1 + 1 + 1 + 1), σ.length + 5, σ.length + 1, σ.length + 2, σ.length + 6, tid, names, atoms⟩ ⟨rfl, rfl⟩]
  generalize hres : (mkOf names atoms).putE (.mk ek enm ety erh (.mk amk amnm amng amdg amtr) ear ebd) = res
  simp (maxDischargeDepth := 16) [zY, Exp.len, Exp.tk, Exp.put]
  refine hK _ _ (CW.ret (hR2 _ _ _ ⟨_, rfl, ?_⟩))
  show JD _ (S.E N) (S.ms _) _ _ _ _
  rw [hm2, num_fm (zL rfl)]
  simp only [set_fm, num, pt]
  have hif : Tryz.prog.underlying 20 = some (.interface #[]) := by kernel_rfl
  rw [show (Tryz.f23).ntmps = 16 from rfl]
  refine J.cw (CW.hide fun R5 hR5 => CW.seqK fun K hK => CW.region ?_)
  simp (maxDischargeDepth := 16) [zY, es_nilNeq hif]
  refine hK _ _ ?_
  refine CW.cond (t := false) (by simp [zT, zF, lk]) ?_
  refine CW.skip (hR5 _ _ _ ⟨.tup [], by simp [zA, omap], ⟨_, rfl⟩, .tup [.agg res.cs, .lit (.int .i64 0)], by simp [zA, omap, zC, zX, Exp.tk, Exp.len], ?_⟩)
  show Fgt _ _ _ (.ret (.tup [.agg ((mkOf names atoms).putE (.mk ek enm ety erh (.mk amk amnm amng amdg amtr) ear ebd)).cs, .lit (.int .i64 0)])) _
  rw [hres]
  exact done (by simp [AV.pln, plnR, Exp.pln]) (by simp [AV.nrm, nrmR, Exp.nrm])
 refine CW.block (CW.hide fun R3 hR3 => ?_)
 refine CW.loopF (fun p : Nat × AV × Option Nat × List AObj => [(1, .sl (txtR names) .no), (2, .sl (atmR atoms) .no), (3, .ptr σ.length 0), (4, .ptr (σ.length + 1) 0), (5, .ptr (σ.length + 2) 0), (6, .ptr (σ.length + 3) 0), (7, .ptr (σ.length + 4) 0), (8, .ptr (σ.length + 5) 0), (9, .ptr (σ.length + 6) 0), (13, .fn (.func 23) [] [.ptr (σ.length + 4) 0, .ptr (σ.length + 3) 0]), (21, .sl (atmR (atoms.take n)) .no), (22, intV n), (23, intV p.1)])
  (fun p => σ ++ (.cells [.lit (.int .u8 ek), .lit (.string enm), .sl (tyR ety) .no, .sl (rhsR erh) .no, .lit (.int .u8 amk), .lit (.string amnm), .lit (.bool amng), .sl (limR amdg) .no, .lit (.bool amtr), .sl (armR ear) .no, .sl (expR ebd) .no] 34 :: .cells [.sl (txtR names) .no] 35 :: .cells [.sl (atmR atoms) .no] 36 ::
   .cells [.lit (.int .u8 0), .lit (.string ⟨#[]⟩), .sl [] .full, .sl [] .full, .lit (.int .u8 0), .lit (.string ⟨#[]⟩), .lit (.bool false), .sl [] .full, .lit (.bool false), .sl [] .full, .sl [] .full] 34 :: .cells [.lit (.int .i64 0)] 39 :: .cells [intV n] 3 :: .cells [p.2.1] 52 :: p.2.2.2))
  (fun p => p.1 ≤ n ∧ ((p.1 = 0 ∧ p.2.1 = .sl [] .full) ∨ ∃ i, 0 < p.1 ∧ p.2.1 = .asl (σ.length + (i + 7)) 0 p.1 5 ∧ p.2.2.2[i]? = some (.cells (trmR ((atoms.take p.1).map Atm.toT)).flatten 54))) (fun p => n - p.1) (0, .sl [] .full, none, []) ?_ ?_ ?_ ?_
 · simp [sub, lk]
 · simp
 · exact ⟨by simp, .inl ⟨rfl, rfl⟩⟩
 rintro ⟨j, lv, d, g⟩ tm ⟨hj, hA⟩
 dsimp only at hj hA ⊢
 have hsz : (Value.agg #[Value.int .u8 0, Value.string ⟨#[]⟩, Value.bool false, Value.slice none 0 0, Value.slice none 0 0]).cells.size = 5 := rfl
 have hg3 : ∀ a b c : AObj, (g ++ [a, b, c])[g.length + 2]? = some c := fun a b c => by simp
 have hs3 : ∀ a b c o : AObj, (g ++ [a, b, c]).set (g.length + 2) o = g ++ [a, b, o] := fun a b c o => by rw [List.set_append_right _ _ (by omega)]; simp
 rcases hA with ⟨rfl, rfl⟩ | ⟨i, hj0, rfl, hgi⟩
 · rcases Nat.eq_zero_or_pos n with hn0 | hn3
   · have htl2 : ((mkOf names atoms).ts).length = 0 := by show ((atoms.take (min names.length atoms.length)).map Atm.toT).length = 0; rw [hmin, List.length_map, htl, hn0]
     refine CW.hide fun R4 hR4 => CW.seqK fun K4 hK4 => CW.region ?_
     have hn0' : (0 < n) = False := eq_false (by omega)
     simp (maxDischargeDepth := 16) [zY, hn0']
     refine hK4 _ _ ?_
     refine CW.seqK fun K3 hK3 => ?_
     refine CW.cond (t := false) (by simp [zT, zF, lk]) ?_
     refine CW.exit (hR4 _ _ _ (hR3 _ _ _ ?_))
     simp only [outOf, if_true, andThen]
     refine fin _ 0 _ _ _ ?_ (fun l => ?_) ?_
     · rw [EnvT.lv_zero htl2]
     · rw [EnvT.held_zero htl2]
     · simp [sub, lk, hn0]
   have hlta : 0 < (atoms.take n).length := by omega
   have ha := atmR_get hlta
   have htn := atmN_get (show 0 < atoms.length by omega)
   have hes : (trmR ((atoms.take 0).map Atm.toT)).length = 0 := by rw [trmR_len, List.length_map]; exact List.length_take_of_le (by omega)
   have hap := apdM (P := Tryz.prog) (σ := (σ ++ (.cells [.lit (.int .u8 ek), .lit (.string enm), .sl (tyR ety) .no, .sl (rhsR erh) .no, .lit (.int .u8 amk), .lit (.string amnm), .lit (.bool amng), .sl (limR amdg) .no, .lit (.bool amtr), .sl (armR ear) .no, .sl (expR ebd) .no] 34 :: .cells [.sl (txtR names) .no] 35 :: .cells [.sl (atmR atoms) .no] 36 :: .cells [.lit (.int .u8 0), .lit (.string ⟨#[]⟩), .sl [] .full, .sl [] .full, .lit (.int .u8 0), .lit (.string ⟨#[]⟩), .lit (.bool false), .sl [] .full, .lit (.bool false), .sl [] .full, .sl [] .full] 34 :: .cells [.lit (.int .i64 0)] 39 :: .cells [intV n] 3 :: .cells [.sl [] .full] 52 :: (g ++ [.cells atoms[0].cs 30, .cells [.lit (.int .u8 0), .lit (.string ⟨#[]⟩), .lit (.bool false), .sl [] .full, .sl [] .full] 54])))) (t := 52) (e := 54) (k := 4) (by_ := 80) (es := trmR ((atoms.take 0).map Atm.toT)) (lv := .sl [] .full) (d := none) [.lit (.int .u8 0), .lit (.string ⟨#[]⟩), .lit (.bool false), .sl [] .full, .sl [] .full] (.asl (σ.length + (g.length + 8)) 0 1 5) (by simp [zX, rowsA, chunks]) (.inl ⟨rfl, rfl, rfl⟩) (trmR_row _) rfl (by kernel_rfl) (by kernel_rfl) (by kernel_rfl) (by kernel_rfl) (by rw [hes]; omega) (by rw [hes]; omega)
   rw [hes] at hap
   refine CW.hide fun R4 hR4 => CW.seqK fun K4 hK4 => CW.region ?_
   simp (maxDischargeDepth := 16) [zY, hn3]
   refine hK4 _ _ ?_
   refine CW.seqK fun K3 hK3 => ?_
   refine CW.cond (t := true) (by simp [zT, zF, lk]) ?_
   refine CW.skip (hK3 _ _ ?_)
   refine CW.seqK fun K5 hK5 => CW.block ?_
   refine CW.seqK fun K hK => CW.region ?_
   simp (maxDischargeDepth := 16) [zY, ha, Atm.len, Atm.tk, Atm.put, set_last]
   refine hK _ _ ?_; clear hK K
   refine CW.draw (by kernel_rfl) ?_
   simp (maxDischargeDepth := 16) [zY, Atm.len, Atm.tk, set_last]
   refine call_pure atoms[0] hA atm1_inj (by simp only [nrmR, AV.nrm, Atm.nrm]) (by omega) (by omega) fun hac => ?_
   simp (maxDischargeDepth := 16) [zY, hac, hap, kill, hsz, hg3, hs3, Nat.add_assoc, Atm.len, Atm.tk, set_last, Trm.len]
   refine ⟨drawOk_sim [σ.length + 6, σ.length + (g.length + 7), σ.length + (g.length + 8), σ.length + (g.length + 9)] [.reads 0, .reads 1, .lcalls (fun _ => true), .pure, .news 2, .any, .pure, .writes 3, .writes 0] (.cons (by simp) (.cons (by simp) (.cons (by simp) (.cons (by simp) .nil))))
    (.cons (.reads 0 _ rfl) (.cons (.reads 1 _ rfl) (.cons (.lcalls _ _ fun i a ha hi => rfl) (.cons .pure (.cons (.news 2 _ rfl) (.cons (.any _) (.cons .pure (.cons (.writes 3 _ rfl) (.cons (.writes 0 _ rfl) .nil))))))))) (by kernel_rfl), hK5 _ _ ?_⟩
   have hw : IntKind.i64.wrap 1 = 1 := rfl
   refine CW.region ?_
   simp (maxDischargeDepth := 16) [zY, hw]
   refine hR4 _ _ _ ⟨(1, .asl (σ.length + (g.length + 9)) 0 1 5, none, g ++ [.cells atoms[0].cs 30, .cells [.lit (.int .u8 0), .lit (.string ⟨#[]⟩), .lit (.bool false), .sl [] .full, .sl [] .full] 54, .cells atoms[0].toT.cs 54]), _, _, rfl, by simp [sub, lk, hw], by rw [Trm.put _ rfl], ⟨by show 1 ≤ n; omega, .inr ⟨g.length + 2, Nat.one_pos, rfl, by rw [hg3]; obtain ⟨a, l, rfl⟩ : ∃ a l, atoms = a :: l := (by cases atoms with | nil => simp at hlta | cons a l => exact ⟨a, l, rfl⟩); show some (AObj.cells (a :: l)[0].toT.cs 54) = some (.cells (trmR (List.map Atm.toT (List.take 1 (a :: l)))).flatten 54); simp [trmR]⟩⟩, by show n - 1 < n - 0; omega⟩
 have hig := (List.getElem?_eq_some_iff.1 hgi).1
 rcases Nat.lt_or_ge j n with hlt2 | hge
 · have hlta : j < (atoms.take n).length := by omega
   have ha := atmR_get hlta
   have htn := atmN_get (show j < atoms.length by omega)
   have hes : (trmR ((atoms.take j).map Atm.toT)).length = j := by rw [trmR_len, List.length_map]; exact List.length_take_of_le (by omega)
   have hap := apdM (P := Tryz.prog) (σ := (σ ++ (.cells [.lit (.int .u8 ek), .lit (.string enm), .sl (tyR ety) .no, .sl (rhsR erh) .no, .lit (.int .u8 amk), .lit (.string amnm), .lit (.bool amng), .sl (limR amdg) .no, .lit (.bool amtr), .sl (armR ear) .no, .sl (expR ebd) .no] 34 :: .cells [.sl (txtR names) .no] 35 :: .cells [.sl (atmR atoms) .no] 36 :: .cells [.lit (.int .u8 0), .lit (.string ⟨#[]⟩), .sl [] .full, .sl [] .full, .lit (.int .u8 0), .lit (.string ⟨#[]⟩), .lit (.bool false), .sl [] .full, .lit (.bool false), .sl [] .full, .sl [] .full] 34 :: .cells [.lit (.int .i64 0)] 39 :: .cells [intV n] 3 :: .cells [.asl (σ.length + (i + 7)) 0 j 5] 52 :: (g ++ [.cells atoms[j].cs 30, .cells [.lit (.int .u8 0), .lit (.string ⟨#[]⟩), .lit (.bool false), .sl [] .full, .sl [] .full] 54])))) (t := 52) (e := 54) (k := 4) (by_ := 80) (es := trmR ((atoms.take j).map Atm.toT)) (lv := .asl (σ.length + (i + 7)) 0 j 5) (d := (some (σ.length + (i + 7)))) [.lit (.int .u8 0), .lit (.string ⟨#[]⟩), .lit (.bool false), .sl [] .full, .sl [] .full] (.asl (σ.length + (g.length + 8)) 0 1 5) (by simp [zX, rowsA, chunks]) (.inr ⟨_, rfl, by rw [hes], by simp [zX, List.getElem?_append_left hig, hgi]⟩) (trmR_row _) rfl (by kernel_rfl) (by kernel_rfl) (by kernel_rfl) (by kernel_rfl) (by rw [hes]; omega) (by rw [hes]; omega)
   rw [hes] at hap
   have hfl := flat_len ((atoms.take j).map Atm.toT)
   have hml : ((atoms.take j).map Atm.toT).length = j := by rw [List.length_map]; exact List.length_take_of_le (by omega)
   rw [hml] at hfl
   have hFS : (trmR ((atoms.take (j + 1)).map Atm.toT)).flatten = (trmR ((atoms.take j).map Atm.toT)).flatten ++ atoms[j].toT.cs := by
    rw [List.take_succ_eq_append_getElem (by omega), List.map_append, trmR_map, trmR_map, List.map_append, List.flatten_append]
    simp
   have hst := fun (ρ : Operand → Option AV) (x y : Operand) (ds : Option Tmp) (ty : TypeId) (po : String) (af : Array Edge) (gu : Option (Nat × Bool)) (hx : ρ x = some _) (hy : ρ y = some _) => (es_appendM (P := Tryz.prog) (M := [52]) (ds := ds) (ty := ty) (po := po) (af := af) (gu := gu) x y 52 rfl).trans (hap ρ x y hx hy)
   clear hap
   generalize (trmR ((atoms.take j).map Atm.toT)).flatten = FL at hgi hst hfl hFS
   have hpc : putCells (FL ++ [.lit (.int .u8 0), .lit (.string ⟨#[]⟩), .lit (.bool false), .sl [] .full, .sl [] .full]) (j * 5) atoms[j].toT.cs = FL ++ atoms[j].toT.cs := by rw [← hfl]; exact putCells_at _ _ _ (by rw [Trm.len]; rfl)
   have hd1 : ∀ a b c : AObj, ((g ++ [a, b]).set i .dead ++ [c])[g.length + 2]? = some c := fun a b c => by rw [List.getElem?_append_right (by simp)]; simp
   have hd2 : ∀ a b c o : AObj, ((g ++ [a, b]).set i .dead ++ [c]).set (g.length + 2) o = (g ++ [a, b]).set i .dead ++ [o] := fun a b c o => by rw [List.set_append_right _ _ (by simp)]; simp
   have hjl : (j : Int) < ((j + 1 : Nat) : Int) := by omega
   have hjl2 : (j : Int) < (j : Int) + 1 := by omega
   refine CW.hide fun R4 hR4 => CW.seqK fun K4 hK4 => CW.region ?_
   simp (maxDischargeDepth := 16) [zY, hlt2]
   refine hK4 _ _ ?_
   refine CW.seqK fun K3 hK3 => ?_
   refine CW.cond (t := true) (by simp [zT, zF, lk]) ?_
   refine CW.skip (hK3 _ _ ?_)
   refine CW.seqK fun K5 hK5 => CW.block ?_
   refine CW.seqK fun K hK => CW.region ?_
   simp (maxDischargeDepth := 16) [zY, ha, Atm.len, Atm.tk, Atm.put, set_last]
   refine hK _ _ ?_; clear hK K
   refine CW.draw (by kernel_rfl) ?_
   simp (maxDischargeDepth := 16) [zY, Atm.len, Atm.tk, set_last, List.getElem?_append_left hig, hgi]
   refine call_pure atoms[j] hA atm1_inj (by simp only [nrmR, AV.nrm, Atm.nrm]) (by omega) (by omega) fun hac => ?_
   simp (maxDischargeDepth := 16) [zY, hac, hst, hjl, hjl2, kill, hsz, hg3, hs3, Nat.add_assoc, Atm.len, Atm.tk, set_last, Trm.len, List.getElem?_append_left hig, hgi, hfl, hpc, hd1, hd2]
   refine ⟨drawOk_sim [σ.length + 6, σ.length + (g.length + 7), σ.length + (g.length + 8), σ.length + (g.length + 9)] [.reads 0, .reads 1, .lcalls (fun _ => true), .pure, .news 2, .any, .pure, .writes 3, .writes 0] (.cons (by simp) (.cons (by simp) (.cons (by simp) (.cons (by simp) .nil))))
    (.cons (.reads 0 _ rfl) (.cons (.reads 1 _ rfl) (.cons (.lcalls _ _ fun i a ha hi => rfl) (.cons .pure (.cons (.news 2 _ rfl) (.cons (.any _) (.cons .pure (.cons (.writes 3 _ rfl) (.cons (.writes 0 _ rfl) .nil))))))))) (by kernel_rfl), hK5 _ _ ?_⟩
   have hw : IntKind.i64.wrap ((j : Int) + 1) = (j : Int) + 1 := IntWalk.i64_in _ ⟨by omega, by omega⟩
   refine CW.region ?_
   simp (maxDischargeDepth := 16) [zY, hw]
   refine hR4 _ _ _ ⟨(j + 1, .asl (σ.length + (g.length + 9)) 0 (j + 1) 5, none, (g ++ [AObj.cells atoms[j].cs 30, AObj.cells [.lit (.int .u8 0), .lit (.string ⟨#[]⟩), .lit (.bool false), .sl [] .full, .sl [] .full] 54]).set i .dead ++ [.cells (FL ++ atoms[j].toT.cs) 54]), _, _, rfl, by simp [sub, lk], rfl, ⟨by show j + 1 ≤ n; omega, .inr ⟨g.length + 2, Nat.succ_pos j, rfl, by rw [hd1]; show _ = some (AObj.cells (trmR ((atoms.take (j + 1)).map Atm.toT)).flatten 54); rw [hFS]⟩⟩, by show n - (j + 1) < n - j; omega⟩
 · obtain rfl : j = n := by omega
   have htsE : (atoms.take j).map Atm.toT = (mkOf names atoms).ts := by show _ = (atoms.take (min names.length atoms.length)).map Atm.toT; rw [hmin]
   have htl2 : ((mkOf names atoms).ts).length = j := by rw [← htsE, List.length_map]; exact htl
   refine CW.hide fun R4 hR4 => CW.seqK fun K4 hK4 => CW.region ?_
   simp (maxDischargeDepth := 16) [zY]
   refine hK4 _ _ ?_
   refine CW.seqK fun K3 hK3 => ?_
   refine CW.cond (t := false) (by simp [zT, zF, lk]) ?_
   refine CW.exit (hR4 _ _ _ (hR3 _ _ _ ?_))
   simp only [outOf, if_true, andThen]
   refine fin _ (σ.length + (i + 7)) _ _ _ ?_ (fun l => ?_) ?_
   · rw [EnvT.lv_pos (by show 0 < (mkOf names atoms).ts.length; omega)]; show _ = AV.asl _ 0 (mkOf names atoms).ts.length 5; rw [htl2]
   · rw [EnvT.held_pos (by show 0 < (mkOf names atoms).ts.length; omega)]; show _ = some (AObj.cells (trmR (mkOf names atoms).ts).flatten _); rw [← htsE]; simp [zF, List.getElem?_append_left hig, hgi]
   · simp [sub, lk]
end
section
open Go.RowKit
structure MkE.Comp (m m2 m3 : MkE) : Prop where
 t : ∀ x : Trm, m2.e.put (m.e.put x) = m3.e.put x
 a : ∀ x : Atm, m2.a2.put (m.a2.put x) = m3.a2.put x
variable {m m2 m3 : MkE}
theorem MkE.Comp.ts (h : m.Comp m2 m3) : ∀ l : List Trm, m2.e.puts (m.e.puts l) = m3.e.puts l
 | [] => rfl
 | x :: l => by rw [EnvT.puts, EnvT.puts, EnvT.puts, h.t x, MkE.Comp.ts h l]
theorem MkE.Comp.as (h : m.Comp m2 m3) (l : List Atm) : m2.putAs (m.putAs l) = m3.putAs l := by
 simp only [MkE.putAs, List.map_map]
 exact List.map_congr_left fun x _ => h.a x
mutual
theorem MkE.Comp.y (h : m.Comp m2 m3) : ∀ t : Ty, m2.putY (m.putY t) = m3.putY t
 | .mk fn st rf ps rs => by rw [MkE.putY, MkE.putY, MkE.putY, h.t rf, MkE.Comp.ps h ps, MkE.Comp.ys h rs]
theorem MkE.Comp.p (h : m.Comp m2 m3) : ∀ t : Prm, m2.putP (m.putP t) = m3.putP t
 | .mk nm ty => by rw [MkE.putP, MkE.putP, MkE.putP, MkE.Comp.y h ty]
theorem MkE.Comp.ps (h : m.Comp m2 m3) : ∀ t : List Prm, m2.putPs (m.putPs t) = m3.putPs t
 | [] => rfl
 | x :: l => by rw [MkE.putPs, MkE.putPs, MkE.putPs, MkE.Comp.p h x, MkE.Comp.ps h l]
theorem MkE.Comp.ys (h : m.Comp m2 m3) : ∀ t : List Ty, m2.putYs (m.putYs t) = m3.putYs t
 | [] => rfl
 | x :: l => by rw [MkE.putYs, MkE.putYs, MkE.putYs, MkE.Comp.y h x, MkE.Comp.ys h l]
end
mutual
theorem MkE.Comp.x (h : m.Comp m2 m3) : ∀ t : Exp, m2.putE (m.putE t) = m3.putE t
 | .mk k nm ty rh am ar bd => by rw [MkE.putE, MkE.putE, MkE.putE, h.ys ty, MkE.Comp.rs h rh, h.a am, MkE.Comp.ms h ar, MkE.Comp.xs h bd]
theorem MkE.Comp.r (h : m.Comp m2 m3) : ∀ t : Rhs, m2.putR (m.putR t) = m3.putR t
 | .mk k nm ats ps rs bd ts => by rw [MkE.putR, MkE.putR, MkE.putR, h.as ats, h.ps ps, h.ys rs, MkE.Comp.xs h bd, h.ts ts]
theorem MkE.Comp.arm (h : m.Comp m2 m3) : ∀ t : Arm, m2.putM (m.putM t) = m3.putM t
 | .mk cn ns bd => by rw [MkE.putM, MkE.putM, MkE.putM, MkE.Comp.xs h bd]
theorem MkE.Comp.xs (h : m.Comp m2 m3) : ∀ t : List Exp, m2.putEs (m.putEs t) = m3.putEs t
 | [] => rfl
 | x :: l => by rw [MkE.putEs, MkE.putEs, MkE.putEs, MkE.Comp.x h x, MkE.Comp.xs h l]
theorem MkE.Comp.rs (h : m.Comp m2 m3) : ∀ t : List Rhs, m2.putRs (m.putRs t) = m3.putRs t
 | [] => rfl
 | x :: l => by rw [MkE.putRs, MkE.putRs, MkE.putRs, MkE.Comp.r h x, MkE.Comp.rs h l]
theorem MkE.Comp.ms (h : m.Comp m2 m3) : ∀ t : List Arm, m2.putMs (m.putMs t) = m3.putMs t
 | [] => rfl
 | x :: l => by rw [MkE.putMs, MkE.putMs, MkE.putMs, MkE.Comp.arm h x, MkE.Comp.ms h l]
end
theorem find1 (x : ByteArray) (a : Atm) (k : Int) (nm : ByteArray) (ng : Bool) (dg : List Int) (ks : List Trm) : (mkOf [x] [a]).e.find (.mk k nm ng dg ks) = if k = 1 ∧ x = nm then some a.toT else none := by
 rw [EnvT.find_eq]
 by_cases h1 : k = 1 <;> by_cases h2 : x = nm <;> simp [h1, h2, seek]
theorem put_toT {y : ByteArray} {a b : Atm} (h : ∀ k nm ng dg tr, a = .mk k nm ng dg tr → k = 1 → y ≠ nm) : (mkOf [y] [b]).e.put a.toT = a.toT := by
 obtain ⟨k, nm, ng, dg, tr⟩ := a
 have hn := h k nm ng dg tr rfl
 rw [Atm.toT_eq]
 by_cases h1 : k = 1
 · rw [if_pos h1, EnvT.put, find1, if_neg (fun e => hn h1 e.2)]; rfl
 rw [if_neg h1]
 repeat' split
 all_goals (rw [EnvT.put, find1, if_neg (fun e => absurd e.1 (by decide))]; rfl)
end
end Go.Proofs.YtncoidmbmihliaaGreatDoor
