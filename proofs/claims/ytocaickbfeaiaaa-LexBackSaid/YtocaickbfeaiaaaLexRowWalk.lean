/-
  THE WALK of the statement LexRow.
-/
import Derived.Test.YtocaickbfeaiaaaLexDeep
import Derived.Test.YtocaickbfeaiaaaLexPlain
namespace Go.Proofs.Ytocaickbfeaiaaa
open Go.RowKit

theorem data_app (a b : ByteArray) : (a ++ b).data.toList = a.data.toList ++ b.data.toList := by
  rw [ByteArray.data_append, Array.toList_append]

set_option maxHeartbeats 2000000 in
theorem lexRow_long (a b : ByteArray) (w : World) (ha : a.size ≤ 140737488351232) (hb : b.size ≤ 140737488351232) (h : 5000 < a.size + b.size) :
    Calls Try.prog 4 #[.string a, .string b] w fun e w' => e = .returned (.bool true) ∧ Below w.heap.size w w' := by
  have h' : (5000 : Int) < a.size + b.size := by omega
  go_enter Try.func4, Try.ntmps4
  go_wp2_with fail
  refine (awake_any _).mono ?_
  rintro e w1 ⟨rfl, hb1⟩
  go_wp2_with fail
  go_ret
  exact ⟨rfl, hb1⟩

theorem wpList_wanted {P : Program} {ops : Array Oper} {rest : List Oper} {o : Oper} {a : Act} {w : World} {Q : Exit → Act → World → Prop} (hw : Region.wanted o (yielded ops a.tmps) = true)
    (h : ∀ K : Act → World → Prop, (∀ a w, wpList P ops Q rest a w → K a w) → o.wp P a w K Q) : wpList P ops Q (o :: rest) a w :=
  wpList_step fun K hK => by rw [if_pos hw]; exact h K hK

/-- append within a guarded part -/
theorem wpList_append_OwnG {P : Program} (w : World) {ops : Array Oper} {rest : List Oper} {o : Oper} {a : Act} {Q : Exit → Act → World → Prop} (hgd : Region.wanted o (yielded ops a.tmps) = true) (s x : Operand) (t : TypeId)
    (ho : o.op = .call { callee := .builtin .append, args := #[s, x], argTypes := #[t, t] })
    (B : Nat) (F : Nat → Prop) (e : TypeId) (i : TypeInfo) (z : Value) (size bytes : Nat) (ht : P.underlying t = some (.slice e)) (hi : P.info? e = some i) (hz : i.zero = some z)
    (hsize : i.size = size) (hby : i.bytes = bytes) (hzs : z.cells.size = size) (hsz : 0 < size)
    (v : Value) (es : List (List D)) (hs : a.eval s = v) (hown : Own w B F e size v es)
    (ao : Option Addr) (m c : Nat) (hx : a.eval x = .slice ao m c) (news : List Value) (ds : List (List D)) (hm : ds.length = m) (hds : ∀ d, d ∈ ds → d.length = size) (hao : ao = none → m = 0 ∧ c = 0)
    (hnews : ∀ a, ao = some a → ∀ j u, news[j]? = some u → w.cell? (a.add j) = some u) (h1 : ∀ u ∈ news, u.oneCell' = true) (hr : Reps w (fun k => F k ∧ some k ≠ v.ownBlock) news ds.flatten)
    (h63 : es.length + m ≤ maxLen) (hbytes : (es.length + m) * bytes ≤ 140737488355328) (hbase : B ≤ w.heap.size)
    (h : ∀ v' w', Own w' B F e size v' (es ++ ds) → w.grownBy w' v.ownBlock → (v'.ownBlock = v.ownBlock ∨ ∃ g, v'.ownBlock = some g ∧ w.heap.size ≤ g) → wpList P ops Q rest (a.put o.dst v') w') : wpList P ops Q (o :: rest) a w :=
  wpList_wanted hgd fun K hK => by
    obtain ⟨v', w', hrun, h2, h3, h4⟩ := run_append_Own (P := P) w B F t o.type e i z size bytes ht hi hz hsize hby hzs hsz v es hown ao m c news ds hm hds hao hnews h1 hr h63 hbytes hbase
    unfold Oper.wp execOp
    simp only [ho, resolve, invoke, builtin, Sem.run_bind, Sem.run_pure, Result.andThen_ok, List.map_toArray, List.map_cons, List.map_nil, hs, hx, hrun]
    exact hK _ _ (h v' w' h2 h3 h4)

/-- lex.Parse, its answer under names. -/
theorem parse_as (s : ByteArray) (w : World) (l : List Tr) (k : Nat) (e0 : Int) (hm : s.size ≤ maxLen) (h : parseT s.data.toList = (l, k, e0)) :
    Calls Try.prog 9 #[.string s] w fun e w' => ∃ a c, e = .returned (.tuple #[.slice a l.length c, .int .i64 k, .int .i64 e0]) ∧ Rep w' (fun k => w.heap.size ≤ k) (.slice a l.length c) (.sl (encTrs l)) ∧ Below w.heap.size w w' :=
  (parse_any s w hm).mono fun e w' ⟨v, he, hr, hb⟩ => by
    rw [h] at he hr
    obtain ⟨a, c, rfl⟩ := hr.trees_len
    exact ⟨a, c, he, hr, hb⟩

theorem below_chain {B : Nat} {a b c : World} (h : Below B a b) (g : Below b.heap.size b c) (hB : B ≤ a.heap.size) : Below B a c := h.trans (g.mono (Nat.le_trans hB h.size))

theorem size1 (c : UInt8) : (⟨#[c]⟩ : ByteArray).size = 1 := rfl

theorem info_tree' : (Try.prog.info? 31).map (fun i => (i.zero, i.size, i.bytes)) = some (some (.agg #[.string ⟨#[]⟩, .slice none 0 0, .bool false, .int .i64 0]), 4, 56) := by kernel_rfl

set_option maxHeartbeats 4000000 in
/-- the walk as far as the first answer -/
theorem lexRow_none (a b : ByteArray) (w : World) (h : a.size + b.size ≤ 5000) (la lb lc ld : List Tr) (ka kb kc kd : Nat) (ea eb ec ed : Int)
    (ha : parseT a.data.toList = (la, ka, ea)) (hb : parseT b.data.toList = (lb, kb, eb)) (hc : parseT (a ++ (⟨#[32]⟩ : ByteArray) ++ b).data.toList = (lc, kc, ec)) (hd : parseT ((⟨#[40]⟩ : ByteArray) ++ a ++ (⟨#[41]⟩ : ByteArray)).data.toList = (ld, kd, ed))
    (hea : ea ≠ 0) :
    Calls Try.prog 4 #[.string a, .string b] w fun e w' => e = .returned (.bool true) ∧ Below w.heap.size w w' := by
  have h' : ¬ (5000 : Int) < a.size + b.size := by omega
  have q1 : (ea == 0) = false := by simpa using hea
  have q2 : (ea != 0) = true := by simpa using hea
  have HA := Lib.hid ha
  have HB := Lib.hid hb
  have HC := Lib.hid hc
  have HD := Lib.hid hd
  clear ha hb hc hd
  go_enter Try.func4, Try.ntmps4
  go_wp2_with fail
  refine (awake_any _).mono ?_
  rintro e w0 ⟨rfl, hb0⟩
  go_wp2_with fail
  refine (parse_as a _ la ka ea (by simp only [maxLen]; omega) HA.out).mono ?_
  rintro e w1 ⟨a1, c1, rfl, _, hb1⟩
  have hb1 := below_chain hb0 hb1 (Nat.le_refl _)
  go_wp2_with fail
  refine (parse_as b _ lb kb eb (by simp only [maxLen]; omega) HB.out).mono ?_
  rintro e w2 ⟨a2, c2, rfl, _, hb2⟩
  have hb2 := below_chain hb1 hb2 (Nat.le_refl _)
  go_wp2_with fail
  refine (parse_as _ _ lc kc ec (by simp [maxLen, size1]; omega) HC.out).mono ?_
  rintro e w3 ⟨a3, c3, rfl, _, hb3⟩
  have hb3 := below_chain hb2 hb3 (Nat.le_refl _)
  go_wp2_with fail
  refine (parse_as _ _ ld kd ed (by simp [maxLen, size1]; omega) HD.out).mono ?_
  rintro e w4 ⟨a4, c4, rfl, _, hb4⟩
  have hb4 := below_chain hb3 hb4 (Nat.le_refl _)
  go_wp2_with fail
  go_ret
  exact ⟨rfl, hb4⟩

set_option maxHeartbeats 4000000 in
theorem lexRow_bad (a b : ByteArray) (w : World) (h : a.size + b.size ≤ 5000) (la lb lc ld : List Tr) (ka kb kc kd : Nat) (ea eb ec ed : Int)
    (ha : parseT a.data.toList = (la, ka, ea)) (hb : parseT b.data.toList = (lb, kb, eb)) (hc : parseT (a ++ (⟨#[32]⟩ : ByteArray) ++ b).data.toList = (lc, kc, ec)) (hd : parseT ((⟨#[40]⟩ : ByteArray) ++ a ++ (⟨#[41]⟩ : ByteArray)).data.toList = (ld, kd, ed))
    (hea : ea = 0) (heb : eb ≠ 0) (hkb : kb ≤ 5000) (hlc : lc = []) (hkc : kc = kb + a.size + 1) (hec : ec = eb) :
    Calls Try.prog 4 #[.string a, .string b] w fun e w' => e = .returned (.bool true) ∧ Below w.heap.size w w' := by
  subst hea; subst hlc; subst hkc; subst hec
  have h' : ¬ (5000 : Int) < a.size + b.size := by omega
  have q1 : (ec == 0) = false := by simpa using heb
  have q2 : (ec != 0) = true := by simpa using heb
  have HA := Lib.hid ha
  have HB := Lib.hid hb
  have HC := Lib.hid hc
  have HD := Lib.hid hd
  clear ha hb hc hd
  go_enter Try.func4, Try.ntmps4
  go_wp2_with fail
  refine (awake_any _).mono ?_
  rintro e w0 ⟨rfl, hb0⟩
  go_wp2_with fail
  refine (parse_as a _ la ka 0 (by simp only [maxLen]; omega) HA.out).mono ?_
  rintro e w1 ⟨a1, c1, rfl, _, hb1⟩
  have hb1 := below_chain hb0 hb1 (Nat.le_refl _)
  go_wp2_with fail
  refine (parse_as b _ lb kb ec (by simp only [maxLen]; omega) HB.out).mono ?_
  rintro e w2 ⟨a2, c2, rfl, _, hb2⟩
  have hb2 := below_chain hb1 hb2 (Nat.le_refl _)
  go_wp2_with fail
  refine (parse_as _ _ [] _ ec (by simp [maxLen, size1]; omega) HC.out).mono ?_
  rintro e w3 ⟨a3, c3, rfl, _, hb3⟩
  have hb3 := below_chain hb2 hb3 (Nat.le_refl _)
  go_wp2_with fail
  refine (parse_as _ _ ld kd ed (by simp [maxLen, size1]; omega) HD.out).mono ?_
  rintro e w4 ⟨a4, c4, rfl, _, hb4⟩
  have hb4 := below_chain hb3 hb4 (Nat.le_refl _)
  go_wp2_with fail
  go_ret
  exact ⟨rfl, hb4⟩

/-- the leaves of trees are plain cells -/
theorem encTrs_one (l : List Tr) : ∀ u, D.leaf u ∈ (encTrs l).flatten → u.oneCell' = true := by
  intro u hu
  rw [encTrs_map] at hu
  obtain ⟨r, hr, hu⟩ := List.mem_flatten.1 hu
  obtain ⟨t, _, rfl⟩ := List.mem_map.1 hr
  obtain ⟨x, ks, r, a⟩ := t
  simp only [encTr, List.mem_cons, D.leaf.injEq, List.not_mem_nil, or_false] at hu
  rcases hu with rfl | h | rfl | rfl
  · rfl
  · cases h
  · rfl
  · rfl
theorem encTrs_four (l : List Tr) : ∀ d, d ∈ encTrs l → d.length = 4 := by
  intro d hd
  rw [encTrs_map] at hd
  obtain ⟨t, _, rfl⟩ := List.mem_map.1 hd
  exact encTr_length t

set_option maxHeartbeats 8000000 in
theorem lexRow_ok (a b : ByteArray) (w : World) (h : a.size + b.size ≤ 5000) (la lb lc ld : List Tr) (ka kb kc kd : Nat) (ea eb ec ed : Int)
    (ha : parseT a.data.toList = (la, ka, ea)) (hb : parseT b.data.toList = (lb, kb, eb)) (hc : parseT (a ++ (⟨#[32]⟩ : ByteArray) ++ b).data.toList = (lc, kc, ec)) (hd : parseT ((⟨#[40]⟩ : ByteArray) ++ a ++ (⟨#[41]⟩ : ByteArray)).data.toList = (ld, kd, ed))
    (hea : ea = 0) (heb : eb = 0) (hec : ec = 0) (hsh : shapeT lc (la ++ lb) = true) (hla : la.length ≤ 5000) (hlb : lb.length ≤ 5000) (hdp : deepT la ≤ 400)
    (hed : (deepT la = 400 ∧ ed = 3) ∨ (deepT la < 400 ∧ ed = 0 ∧ ∃ t, ld = [t] ∧ t.row = true ∧ shapeT t.kids la = true)) :
    Calls Try.prog 4 #[.string a, .string b] w fun e w' => e = .returned (.bool true) ∧ Below w.heap.size w w' := by
  subst hea; subst heb; subst hec
  have h' : ¬ (5000 : Int) < a.size + b.size := by omega
  obtain ⟨ti, hti, hz0, hz1, hz2⟩ := info_parts info_tree'
  have HA := Lib.hid ha
  have HB := Lib.hid hb
  have HC := Lib.hid hc
  have HD := Lib.hid hd
  have HS := Lib.hid hsh
  have HE := Lib.hid hed
  clear ha hb hc hd hsh hed
  go_enter Try.func4, Try.ntmps4
  go_wp2_with fail
  refine (awake_any _).mono ?_
  rintro e w0 ⟨rfl, hb0⟩
  go_wp2_with fail
  refine (parse_as a _ la ka 0 (by simp only [maxLen]; omega) HA.out).mono ?_
  rintro e w1 ⟨a1, c1, rfl, r1, hb1⟩
  have hs0 := hb0.size
  have hs1 := hb1.size
  have K1 := Lib.hid r1
  have hb1 := below_chain hb0 hb1 (Nat.le_refl _)
  clear r1
  go_wp2_with fail
  refine (parse_as b _ lb kb 0 (by simp only [maxLen]; omega) HB.out).mono ?_
  rintro e w2 ⟨a2, c2, rfl, r2, hb2⟩
  have hs2 := hb2.size
  have K1 := Lib.hid (K1.out.ext hb2)
  have K2 := Lib.hid r2
  have hb2 := below_chain hb1 hb2 (Nat.le_refl _)
  clear r2
  go_wp2_with fail
  refine (parse_as _ _ lc kc 0 (by simp [maxLen, size1]; omega) HC.out).mono ?_
  rintro e w3 ⟨a3, c3, rfl, r3, hb3⟩
  have hs3 := hb3.size
  have K1 := Lib.hid (K1.out.ext hb3)
  have K2 := Lib.hid (K2.out.ext hb3)
  have K3 := Lib.hid r3
  have hb3 := below_chain hb2 hb3 (Nat.le_refl _)
  clear r3
  go_wp2_with fail
  refine (parse_as _ _ ld kd ed (by simp [maxLen, size1]; omega) HD.out).mono ?_
  rintro e w4 ⟨a4, c4, rfl, r4, hb4⟩
  have hs4 := hb4.size
  have K1 := Lib.hid (K1.out.ext hb4)
  have K2 := Lib.hid (K2.out.ext hb4)
  have K3 := Lib.hid (K3.out.ext hb4)
  have K4 := Lib.hid r4
  have hb4 := below_chain hb3 hb4 (Nat.le_refl _)
  clear r4 hb0 hb1 hb2 hb3
  have hw4 := hb4.size
  obtain ⟨n1, ao1, us1, hus1, hre1⟩ := (K1.out.lt.alloc (.cells #[] 31)).cells (encTrs_four la)
  have N1 := Lib.hid n1
  have A1 := Lib.hid ao1
  have U1 := Lib.hid hus1
  have E1 := Lib.hid hre1
  clear n1 ao1 hus1 hre1
  go_wp2_with (at_builtin; refine wpList_append_OwnG _ rfl (.tmp 79) (.tmp 80) 24 rfl w4.heap.size (fun k => w.heap.size ≤ k) 31 ti _ 4 56 Try.underlying24 hti hz0 hz1 hz2 rfl (by decide) (.slice (some ⟨w4.heap.size, 0, none⟩) 0 0) [] rfl ?own a1 la.length c1 rfl us1 (encTrs la) ?m1 ?ds ?ao ?news ?one ?reps ?b1 ?b2 ?b3 ?next)
  case own => exact Own.made (World.ownsRow_made w4 #[] 0 (Nat.le_refl _) (Nat.zero_le _) rfl)
  case m1 => exact N1.out
  case ds => exact encTrs_four la
  case ao => exact A1.out
  case news => exact U1.out
  case one => exact E1.out.one (encTrs_one la)
  case reps =>
    refine E1.out.mono fun k hk => ⟨by omega, ?_⟩
    simp only [Value.ownBlock, ne_eq, Option.some.injEq]
    omega
  case b1 => simp only [List.length_nil, maxLen]; omega
  case b2 => simp only [List.length_nil]; omega
  case b3 => simp
  case next =>
    intro v1 w5 hown1 hg1 hwh1
    have hg1' := hg1.size
    simp at hg1'
    have K1 := Lib.hid ((K1.out.lt.alloc _).grown hg1 (by intro k hk; simp only [Value.ownBlock, ne_eq, Option.some.injEq]; omega))
    have K2 := Lib.hid ((K2.out.lt.alloc _).grown hg1 (by intro k hk; simp only [Value.ownBlock, ne_eq, Option.some.injEq]; omega))
    have K3 := Lib.hid ((K3.out.lt.alloc _).grown hg1 (by intro k hk; simp only [Value.ownBlock, ne_eq, Option.some.injEq]; omega))
    have K4 := Lib.hid ((K4.out.lt.alloc _).grown hg1 (by intro k hk; simp only [Value.ownBlock, ne_eq, Option.some.injEq]; omega))
    have BW5 := Lib.hid ((hb4.alloc hw4 _).trans ⟨hg1.os, hg1.tape, hg1.output, hg1.size, fun k hk => hg1.block k (by simp; omega) (by simp only [Value.ownBlock, ne_eq, Option.some.injEq]; omega)⟩)
    have O1 := Lib.hid hown1
    have hov := hown1.lt
    have OV := Lib.hid hov
    clear hown1 hg1 hwh1 hov U1 E1 A1 N1
    obtain ⟨n2, ao2, us2, hus2, hre2⟩ := K2.out.cells (encTrs_four lb)
    have N2 := Lib.hid n2
    have A2 := Lib.hid ao2
    have U2 := Lib.hid hus2
    have E2 := Lib.hid hre2
    clear n2 ao2 hus2 hre2
    go_wp2_with (at_builtin; refine wpList_append_OwnG _ rfl (.tmp 81) (.tmp 82) 24 rfl w4.heap.size (fun k => w.heap.size ≤ k) 31 ti _ 4 56 Try.underlying24 hti hz0 hz1 hz2 rfl (by decide) v1 (encTrs la) rfl ?own a2 lb.length c2 rfl us2 (encTrs lb) ?m1 ?ds ?ao ?news ?one ?reps ?b1 ?b2 ?b3 ?next)
    case own => exact O1.out
    case m1 => exact N2.out
    case ds => exact encTrs_four lb
    case ao => exact A2.out
    case news => exact U2.out
    case one => exact E2.out.one (encTrs_one lb)
    case reps =>
      refine E2.out.mono fun k hk => ⟨by omega, fun e => ?_⟩
      have := (OV.out k e.symm).1
      omega
    case b1 => rw [encTrs_length]; simp only [maxLen]; omega
    case b2 => rw [encTrs_length]; omega
    case b3 => omega
    case next =>
      intro v2 w6 hown2 hg2 hwh2
      have hg2' := hg2.size
      have hne : ∀ k, k < w4.heap.size → some k ≠ v1.ownBlock := fun k hk e => by have := (OV.out k e.symm).1; omega
      have K1 := Lib.hid (K1.out.grown hg2 fun k hk => hne k hk.2)
      have K3 := Lib.hid (K3.out.grown hg2 fun k hk => hne k hk.2)
      have K4 := Lib.hid (K4.out.grown hg2 fun k hk => hne k hk.2)
      have BW6 := Lib.hid (BW5.out.trans ⟨hg2.os, hg2.tape, hg2.output, hg2.size, fun k hk => hg2.block k (by omega) (hne k (by omega))⟩)
      have hrep := hown2.rep
      rw [← encTrs_append] at hrep
      obtain ⟨a5, c5, e5⟩ := hrep.trees_len
      rw [List.length_append] at e5
      subst e5
      have R5 := Lib.hid hrep
      clear hrep hown2 hg2 hwh2 U2 E2 A2 N2 hne O1
      have hsh := shape_any _ lc (la ++ lb) _ _ _ _ w6 (Nat.lt_succ_self _) K3.out R5.out
      rw [HS.out] at hsh
      have SH := Lib.hid hsh
      clear hsh
      go_wp2_with fail
      refine SH.out.mono ?_
      rintro e w7 ⟨rfl, n7, rfl⟩
      have hdp2 := deep_any _ la _ _ (w6.drewN n7) (Nat.lt_succ_self _) (by omega) K1.out.drewN
      have DP := Lib.hid hdp2
      clear hdp2
      rcases HE.out with ⟨h400, hed3⟩ | ⟨h400, hed0, t, hld, htr, hts⟩
      · subst hed3
        rw [h400] at DP
        go_wp2_with fail
        refine DP.out.mono ?_
        rintro e w8 ⟨rfl, hb8⟩
        go_wp2_with fail
        go_ret
        exact ⟨rfl, (below_dN BW6.out n7).trans (hb8.mono BW6.out.size)⟩
      · subst hed0
        subst hld
        go_wp2_with fail
        refine DP.out.mono ?_
        rintro e w8 ⟨rfl, hb8⟩
        have K4' := K4.out.drewN.ext hb8
        have K1' := K1.out.drewN.ext hb8
        obtain ⟨b9, o9, c9, e9, _, _, _, f9⟩ := K4'.trees (by simp)
        simp only [Value.slice.injEq] at e9
        obtain ⟨rfl, _, rfl⟩ := e9
        obtain ⟨d0, ⟨kv, d1, r1⟩, d2, d3⟩ := f9 0 t rfl
        rw [htr] at d2
        simp only [Nat.zero_mul, Nat.add_zero] at d1 d2
        have hsh := shape_any _ t.kids la kv _ _ _ w8 (Nat.lt_succ_self _) r1 K1'
        rw [hts] at hsh
        have SH2 := Lib.hid hsh
        have B8 := Lib.hid ((below_dN BW6.out n7).trans (hb8.mono BW6.out.size))
        clear hsh K4' K1' f9 r1 hb8 d0 d3
        have hne : ((deepT la : Int) == 400) = false := by simp; omega
        go_wp2_with fail
        refine SH2.out.mono ?_
        rintro e w9 ⟨rfl, n9, rfl⟩
        go_wp2_with fail
        go_ret
        exact ⟨rfl, below_dN B8.out n9⟩
/-- THE CONTRACT of LexRow: true, whatever the texts. -/
theorem lexRow_any (a b : ByteArray) (w : World) (ha : a.size ≤ 140737488351232) (hb : b.size ≤ 140737488351232) :
    Calls Try.prog 4 #[.string a, .string b] w fun e w' => e = .returned (.bool true) ∧ Below w.heap.size w w' := by
  by_cases h : 5000 < a.size + b.size
  · exact lexRow_long a b w ha hb h
  have h : a.size + b.size ≤ 5000 := by omega
  have hl : a.data.toList.length + b.data.toList.length ≤ 5000 := by rw [size_bytes, size_bytes]; exact h
  have e1 : (a ++ (⟨#[32]⟩ : ByteArray) ++ b).data.toList = a.data.toList ++ [32] ++ b.data.toList := by rw [data_app, data_app]
  have e2 : ((⟨#[40]⟩ : ByteArray) ++ a ++ (⟨#[41]⟩ : ByteArray)).data.toList = [40] ++ a.data.toList ++ [41] := by rw [data_app, data_app]
  by_cases ha0 : (parseT a.data.toList).2.2 = 0
  · by_cases hb0 : (parseT b.data.toList).2.2 = 0
    · obtain ⟨h1, h2⟩ := two_ok ha0 hl hb0
      obtain ⟨h3, h4⟩ := in_row ha0 (by omega)
      obtain ⟨_, ja, hra, hja, _⟩ := parse_ok ha0
      obtain ⟨_, jb, hrb, hjb, _⟩ := parse_ok hb0
      have ca := row_count _ _ _ _ (Nat.zero_le _) _ _ hra
      have cb := row_count _ _ _ _ (Nat.zero_le _) _ _ hrb
      have la := (rowN_le _ _ _ _ (Nat.zero_le _) _ _ hra).2
      have lb := (rowN_le _ _ _ _ (Nat.zero_le _) _ _ hrb).2
      have qa : (parseT a.data.toList).1.length ≤ 5000 := by omega
      have qb : (parseT b.data.toList).1.length ≤ 5000 := by omega
      clear hra hrb hja hjb
      rw [← e1] at h1 h2
      rw [← e2] at h4
      generalize hpa : parseT a.data.toList = pa at *
      generalize hpb : parseT b.data.toList = pb at *
      generalize hpc : parseT (a ++ (⟨#[32]⟩ : ByteArray) ++ b).data.toList = pc at *
      generalize hpd : parseT ((⟨#[40]⟩ : ByteArray) ++ a ++ (⟨#[41]⟩ : ByteArray)).data.toList = pd at *
      obtain ⟨la, ka, ea⟩ := pa
      obtain ⟨lb, kb, eb⟩ := pb
      obtain ⟨lc, kc, ec⟩ := pc
      obtain ⟨ld, kd, ed⟩ := pd
      exact lexRow_ok a b w h la lb lc ld ka kb kc kd ea eb ec ed hpa hpb hpc hpd ha0 hb0 h1 h2 qa qb h3 h4
    · obtain ⟨h1, h2, h3⟩ := two_bad ha0 hl hb0
      have hk : (parseT b.data.toList).2.1 ≤ 5000 := by
        unfold parseT
        rw [if_neg (by omega)]
        cases hr : rowN (2 * b.data.toList.length + 2) b.data.toList 0 0 with
        | bad p e => exact Nat.le_trans ((bad_le _ _ _ _ (Nat.zero_le _)).1 p e hr) (by omega)
        | ok x =>
          obtain ⟨ts, j⟩ := x
          have := (rowN_le _ _ _ _ (Nat.zero_le _) _ _ hr).2
          dsimp only
          split <;> dsimp only <;> omega
      rw [← e1] at h1 h2 h3
      rw [size_bytes] at h2
      generalize hpa : parseT a.data.toList = pa at *
      generalize hpb : parseT b.data.toList = pb at *
      generalize hpc : parseT (a ++ (⟨#[32]⟩ : ByteArray) ++ b).data.toList = pc at *
      generalize hpd : parseT ((⟨#[40]⟩ : ByteArray) ++ a ++ (⟨#[41]⟩ : ByteArray)).data.toList = pd at *
      obtain ⟨la, ka, ea⟩ := pa
      obtain ⟨lb, kb, eb⟩ := pb
      obtain ⟨lc, kc, ec⟩ := pc
      obtain ⟨ld, kd, ed⟩ := pd
      exact lexRow_bad a b w h la lb lc ld ka kb kc kd ea eb ec ed hpa hpb hpc hpd ha0 hb0 hk h1 h2 h3
  · generalize hpa : parseT a.data.toList = pa at *
    generalize hpb : parseT b.data.toList = pb at *
    generalize hpc : parseT (a ++ (⟨#[32]⟩ : ByteArray) ++ b).data.toList = pc at *
    generalize hpd : parseT ((⟨#[40]⟩ : ByteArray) ++ a ++ (⟨#[41]⟩ : ByteArray)).data.toList = pd at *
    obtain ⟨la, ka, ea⟩ := pa
    obtain ⟨lb, kb, eb⟩ := pb
    obtain ⟨lc, kc, ec⟩ := pc
    obtain ⟨ld, kd, ed⟩ := pd
    exact lexRow_none a b w h la lb lc ld ka kb kc kd ea eb ec ed hpa hpb hpc hpd ha0

end Go.Proofs.Ytocaickbfeaiaaa
