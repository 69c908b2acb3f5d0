/-
 EV: the parse seat: the functions of Go's library that are taken on their contract; the table of code.
-/
import Derived.Test.YtkkblmdgedmdfaaGreatDoorLexParseM
import Derived.Test.YtkkblmdgedmdfaaGreatDoorEvBldM
import Derived.Test.YtkkblmdgedmdfaaGreatDoorStrsM
import Derived.Lib.AtoiErrMem
namespace Go.Proofs.YtkkblmdgedmdfaaGreatDoor
set_option linter.unusedSimpArgs false
set_option linter.unusedVariables false
section
open Go.RowKit Go.Sort
theorem dec_eq (n : Nat) : Lib.decDigits n = dec n := by
 induction n using Nat.strongRecOn with
 | ind n ih =>
  rw [Lib.decDigits, dec]
  split
  · rfl
  · rename_i h
    rw [ih _ (by omega)]
theorem tab_pow10 {σ : Sto} {ι : List Nat} {Z : Nat → Nat → Prop} {w : World} (hM : Match σ ι Z w) : Lib.TabIs Tryz.prog w "internal/strconv.uint64pow10" .u64 Lib.pow10Tab := by
 obtain ⟨h1, h2, h3⟩ := hM.glob 5 _ rfl
 have hg : Tryz.prog.globalNamed "internal/strconv.uint64pow10" = some 5 := by kernel_rfl
 unfold Lib.TabIs World.var?
 rw [hg, Option.bind_some]
 generalize hl : ([.int .u64 1, .int .u64 10, .int .u64 100, .int .u64 1000, .int .u64 10000, .int .u64 100000, .int .u64 1000000, .int .u64 10000000, .int .u64 100000000, .int .u64 1000000000, .int .u64 10000000000, .int .u64 100000000000, .int .u64 1000000000000, .int .u64 10000000000000, .int .u64 100000000000000, .int .u64 1000000000000000, .int .u64 10000000000000000, .int .u64 100000000000000000, .int .u64 1000000000000000000, .int .u64 10000000000000000000] : List Value) = l at h1 h3
 have hl2 : (Lib.pow10Tab.map fun z => Value.int .u64 z) = l := by rw [← hl]; kernel_rfl
 rw [hl2]
 have hll : l.length = 20 := by rw [← hl]; rfl
 unfold cellsz at h3
 split at h3
 · rename_i c T fz hc
   rw [hc]
   simp only [Option.some.injEq]
   apply Array.ext
   · simpa using h3
   · intro i hi1 hi2
     have hi : i < l.length := by simpa using hi2
     generalize hp : (Value.pointer (some ⟨5, 0, none⟩)) = p at h1
     generalize hr : l.map AV.lit = row at h1
     generalize ho : (0 : Nat) = off at h1
     cases h1 with
     | eptr _ _ b o U g1 g2 =>
      have hb : b = 5 ∧ o = 0 := by
       injection hp with hp
       injection hp with hp
       injection hp with hp1 hp2
       omega
      obtain ⟨rfl, rfl⟩ := hb
      have hrow : row[i]? = some (.lit l[i]) := by rw [← hr, List.getElem?_map, List.getElem?_eq_getElem hi]; rfl
      have a1 := (g1 i _ hrow).2.2
      have a2 := g2 i _ hrow
      generalize hU : U i = x at a1 a2
      cases a2
      simp only [World.cell?, hc, Nat.zero_add] at a1
      have : c[i]? = some l[i] := by simpa using a1
      rw [Array.getElem?_eq_getElem hi1] at this
      injection this with this
 · omega
def primFmtU (args : List AV) (σ : Sto) : Option (ARes × Sto) :=
 match args with
 | [.lit (.int .u64 x), .lit (.int .i64 y)] => if (0 ≤ x ∧ x < 18446744073709551616) ∧ y = 10 then some (.ret (.lit (.string ⟨(dec x.toNat).toArray⟩)), σ) else none
 | _ => none
theorem primFmtU_sound : CallSound Tryz.prog fun f args σ => if f = 283 then primFmtU args σ else none := by
 intro f args σ r σ' hr ι Z w us hM hl hargs
 dsimp only at hr
 split at hr
 · rename_i e
   subst e
   unfold primFmtU at hr
   split at hr
   · rename_i x y
     split at hr
     · rename_i hc
       cases hr
       obtain ⟨⟨h0, h1⟩, rfl⟩ := hc
       obtain ⟨u, u2, rfl⟩ := two_args hl
       have hu := hargs 0 _ u rfl rfl
       have hu2 := hargs 1 _ u2 rfl rfl
       cases hu; cases hu2
       obtain ⟨x, rfl⟩ : ∃ n : Nat, x = n := ⟨x.toNat, by omega⟩
       refine ⟨Tryz.call283 _ _, (fmtU x (by omega) w (tab_pow10 hM)).mono ?_⟩
       rintro e w' ⟨rfl, k, os, rfl⟩
       have hb : Below w.heap.size w (grow (w.drewN k) os) := ⟨rfl, rfl, rfl, by show w.heap.size ≤ (w.heap ++ os).size; rw [Array.size_append]; omega, fun j hj => by show (w.heap ++ os)[j]? = w.heap[j]?; rw [Array.getElem?_append_left hj]⟩
       rw [dec_eq, Int.toNat_natCast]
       exact ⟨ι, Z, .ofBelow hM hb, hM.below hb, _, rfl, .lit _ rfl⟩
     · cases hr
   · cases hr
 · cases hr
def primParseU (args : List AV) (σ : Sto) : Option (ARes × Sto) :=
 match args with
 | [.lit (.string s), .lit (.int .i64 b), .lit (.int .i64 z)] => if (b = 10 ∧ z = 64) ∧ s.size ≤ 18 ∧ s.data.toList ≠ [] ∧ isDec s.data.toList = true then some (.ret (.tup [.lit (.int .u64 (valD s.data.toList)), .lit .nilIface]), σ) else none
 | _ => none
theorem parseUintM_ok : ∀ (l : List UInt8) (acc : Nat), isDec l = true → acc < 10 ^ (18 - l.length) → l.length ≤ 18 → Lib.parseUintM (2 ^ 64 - 1) acc l = .ok (l.foldl (fun a b => a * 10 + (b.toNat - 48)) acc)
 | [], acc, _, _, _ => rfl
 | c :: r, acc, h, ha, hl => by
  simp only [isDec, List.all_cons, Bool.and_eq_true, decide_eq_true_eq] at h
  have hl' : r.length + 1 ≤ 18 := by simpa using hl
  have e : 18 - r.length = (18 - (c :: r).length) + 1 := by simp; omega
  have hp : (10 : Nat) ^ (18 - (c :: r).length) ≤ 10 ^ 17 := Nat.pow_le_pow_right (by omega) (by simp)
  rw [Lib.parseUintM, if_pos h.1, if_neg (by omega), if_neg (by omega), List.foldl_cons]
  refine parseUintM_ok r _ (by simpa [isDec] using h.2) ?_ (by omega)
  rw [e, Nat.pow_succ]; omega
theorem parseUintB_ok {l : List UInt8} (h : isDec l = true) (h0 : l ≠ []) (hl : l.length ≤ 18) : Lib.parseUintB 64 l = .ok (valD l) := by
 unfold Lib.parseUintB
 rw [if_neg h0]
 exact parseUintM_ok l 0 h (Nat.pow_pos (by omega)) hl
theorem three_args {us : Array Value} {d e f : AV} (h : [d, e, f].length = us.size) : ∃ u v x, us = #[u, v, x] := ⟨us[0]'(by simp at h; omega), us[1]'(by simp at h; omega), us[2]'(by simp at h; omega), by
 apply Array.ext
 · simp at h; simp; omega
 · intro i h1 h2
   simp at h2
   rcases i with _ | _ | _ | i
   · rfl
   · rfl
   · rfl
   · omega⟩
theorem primParseU_sound : CallSound Tryz.prog fun f args σ => if f = 221 then primParseU args σ else none := by
 intro f args σ r σ' hr ι Z w us hM hl hargs
 dsimp only at hr
 split at hr
 · rename_i e
   subst e
   unfold primParseU at hr
   split at hr
   · rename_i s b z
     split at hr
     · rename_i hc
       cases hr
       obtain ⟨⟨rfl, rfl⟩, h1, h2, h3⟩ := hc
       obtain ⟨u, u2, u3, rfl⟩ := three_args hl
       have hu := hargs 0 _ u rfl rfl
       have hu2 := hargs 1 _ u2 rfl rfl
       have hu3 := hargs 2 _ u3 rfl rfl
       cases hu; cases hu2; cases hu3
       refine ⟨Tryz.call221 _ _, (Tryz.strconv_ParseUint_10_at64_ok s (by omega) _ (parseUintB_ok h3 h2 (by rw [Array.length_toList]; exact h1)) w).mono ?_⟩
       rintro e w' ⟨rfl, hw⟩
       have hb : Below w.heap.size w w' := by
        rcases hw with rfl | rfl
        · exact Below.refl _ _
        · exact Lib.bytesWorld_below _ _ _
       refine ⟨ι, Z, .ofBelow hM hb, hM.below hb, _, rfl, .tup _ _ rfl fun i d u hd hu => ?_⟩
       rcases i with _ | _ | i
       · simp at hd hu; subst hd; subst hu; exact .lit _ rfl
       · simp at hd hu; subst hd; subst hu; exact .lit _ rfl
       · simp at hd
     · cases hr
   · cases hr
 · cases hr
noncomputable def codeEV0 (f : FuncId) : Option Func :=
 match f with
 | 3 => some Tryz.f3
 | 8 => some Tryz.f8
 | 9 => some Tryz.f9
 | 10 => some Tryz.f10
 | 11 => some Tryz.f11
 | 18 => some Tryz.f18
 | 20 => some Tryz.f20
 | 27 => some Tryz.f27
 | 32 => some Tryz.f32
 | 37 => some Tryz.f37
 | 38 => some Tryz.f38
 | 39 => some Tryz.f39
 | 40 => some Tryz.f40
 | 41 => some Tryz.f41
 | 44 => some Tryz.f44
 | 46 => some Tryz.f46
 | 47 => some Tryz.f47
 | 43 => some Tryz.f43
 | 42 => some Tryz.f42
 | 48 => some Tryz.f48
 | 49 => some Tryz.f49
 | 50 => some Tryz.f50
 | 51 => some Tryz.f51
 | 52 => some Tryz.f52
 | 53 => some Tryz.f53
 | 55 => some Tryz.f55
 | _ => none
noncomputable def codeEV1 (f : FuncId) : Option Func :=
 match f with
 | 72 => some Tryz.f72
 | 73 => some Tryz.f73
 | 74 => some Tryz.f74
 | 75 => some Tryz.f75
 | 76 => some Tryz.f76
 | 85 => some Tryz.f85
 | 91 => some Tryz.f91
 | 92 => some Tryz.f92
 | 93 => some Tryz.f93
 | 94 => some Tryz.f94
 | 95 => some Tryz.f95
 | 96 => some Tryz.f96
 | 97 => some Tryz.f97
 | 98 => some Tryz.f98
 | 99 => some Tryz.f99
 | 100 => some Tryz.f100
 | 101 => some Tryz.f101
 | 102 => some Tryz.f102
 | 103 => some Tryz.f103
 | 104 => some Tryz.f104
 | 105 => some Tryz.f105
 | _ => none
noncomputable def codeEV2 (f : FuncId) : Option Func :=
 match f with
 | 121 => some Tryz.f121
 | 122 => some Tryz.f122
 | 123 => some Tryz.f123
 | 130 => some Tryz.f130
 | 133 => some Tryz.f133
 | 134 => some Tryz.f134
 | 135 => some Tryz.f135
 | 136 => some Tryz.f136
 | 137 => some Tryz.f137
 | 138 => some Tryz.f138
 | 139 => some Tryz.f139
 | 140 => some Tryz.f140
 | 163 => some Tryz.f163
 | 164 => some Tryz.f164
 | _ => none
noncomputable def codeEV3 (f : FuncId) : Option Func :=
 match f with
 | 175 => some Tryz.f175
 | 176 => some Tryz.f176
 | 177 => some Tryz.f177
 | 178 => some Tryz.f178
 | 179 => some Tryz.f179
 | 197 => some Tryz.f197
 | 198 => some Tryz.f198
 | 199 => some Tryz.f199
 | 200 => some Tryz.f200
 | 206 => some Tryz.f206
 | 207 => some Tryz.f207
 | 219 => some Tryz.f219
 | 220 => some Tryz.f220
 | 222 => some Tryz.f222
 | 223 => some Tryz.f223
 | _ => none
noncomputable def codeEV4 (f : FuncId) : Option Func :=
 match f with
 | 224 => some Tryz.f224
 | 225 => some Tryz.f225
 | 237 => some Tryz.f237
 | 240 => some Tryz.f240
 | 241 => some Tryz.f241
 | 242 => some Tryz.f242
 | _ => none
noncomputable def codeEV5 (f : FuncId) : Option Func :=
 match f with
 | _ => none
noncomputable def codeEV (f : FuncId) : Option Func :=
 match codeEV0 f with
 | some x => some x
 | none =>
 match codeEV1 f with
 | some x => some x
 | none =>
 match codeEV2 f with
 | some x => some x
 | none =>
 match codeEV3 f with
 | some x => some x
 | none =>
 match codeEV4 f with
 | some x => some x
 | none =>
 match codeEV5 f with
 | some x => some x
 | none => none
noncomputable def primEV (f : FuncId) : Option (List AV → Sto → Option (ARes × Sto)) :=
 match f with
 | 19 => some primParse
 | 283 => some primFmtU
 | 221 => some primParseU
 | 128 => some primCheck
 | 87 => some primString
 | 83 => some primGrow
 | _ => none
def msEV (f : FuncId) : List TypeId :=
 match f with
 | 242 => [345]
 | 85 => [182]
 | _ => []
noncomputable def EV : Env := { code := codeEV, prim := primEV, ms := msEV }
theorem codeEV0_ok (f : FuncId) (fn : Func) (h : codeEV0 f = some fn) : Tryz.prog.funcs[f]? = some fn ∧ ∀ args w, (callFunc f args).run Tryz.prog w = .ok (.enter f args) w := by
 unfold codeEV0 at h
 split at h
 · cases h; exact ⟨Tryz.func3, Tryz.call3⟩
 · cases h; exact ⟨Tryz.func8, Tryz.call8⟩
 · cases h; exact ⟨Tryz.func9, Tryz.call9⟩
 · cases h; exact ⟨Tryz.func10, Tryz.call10⟩
 · cases h; exact ⟨Tryz.func11, Tryz.call11⟩
 · cases h; exact ⟨Tryz.func18, Tryz.call18⟩
 · cases h; exact ⟨Tryz.func20, Tryz.call20⟩
 · cases h; exact ⟨Tryz.func27, Tryz.call27⟩
 · cases h; exact ⟨Tryz.func32, Tryz.call32⟩
 · cases h; exact ⟨Tryz.func37, Tryz.call37⟩
 · cases h; exact ⟨Tryz.func38, Tryz.call38⟩
 · cases h; exact ⟨Tryz.func39, Tryz.call39⟩
 · cases h; exact ⟨Tryz.func40, Tryz.call40⟩
 · cases h; exact ⟨Tryz.func41, Tryz.call41⟩
 · cases h; exact ⟨Tryz.func44, Tryz.call44⟩
 · cases h; exact ⟨Tryz.func46, Tryz.call46⟩
 · cases h; exact ⟨Tryz.func47, Tryz.call47⟩
 · cases h; exact ⟨Tryz.func43, Tryz.call43⟩
 · cases h; exact ⟨Tryz.func42, Tryz.call42⟩
 · cases h; exact ⟨Tryz.func48, Tryz.call48⟩
 · cases h; exact ⟨Tryz.func49, Tryz.call49⟩
 · cases h; exact ⟨Tryz.func50, Tryz.call50⟩
 · cases h; exact ⟨Tryz.func51, Tryz.call51⟩
 · cases h; exact ⟨Tryz.func52, Tryz.call52⟩
 · cases h; exact ⟨Tryz.func53, Tryz.call53⟩
 · cases h; exact ⟨Tryz.func55, Tryz.call55⟩
 · cases h
theorem codeEV1_ok (f : FuncId) (fn : Func) (h : codeEV1 f = some fn) : Tryz.prog.funcs[f]? = some fn ∧ ∀ args w, (callFunc f args).run Tryz.prog w = .ok (.enter f args) w := by
 unfold codeEV1 at h
 split at h
 · cases h; exact ⟨Tryz.func72, Tryz.call72⟩
 · cases h; exact ⟨Tryz.func73, Tryz.call73⟩
 · cases h; exact ⟨Tryz.func74, Tryz.call74⟩
 · cases h; exact ⟨Tryz.func75, Tryz.call75⟩
 · cases h; exact ⟨Tryz.func76, Tryz.call76⟩
 · cases h; exact ⟨Tryz.func85, Tryz.call85⟩
 · cases h; exact ⟨Tryz.func91, Tryz.call91⟩
 · cases h; exact ⟨Tryz.func92, Tryz.call92⟩
 · cases h; exact ⟨Tryz.func93, Tryz.call93⟩
 · cases h; exact ⟨Tryz.func94, Tryz.call94⟩
 · cases h; exact ⟨Tryz.func95, Tryz.call95⟩
 · cases h; exact ⟨Tryz.func96, Tryz.call96⟩
 · cases h; exact ⟨Tryz.func97, Tryz.call97⟩
 · cases h; exact ⟨Tryz.func98, Tryz.call98⟩
 · cases h; exact ⟨Tryz.func99, Tryz.call99⟩
 · cases h; exact ⟨Tryz.func100, Tryz.call100⟩
 · cases h; exact ⟨Tryz.func101, Tryz.call101⟩
 · cases h; exact ⟨Tryz.func102, Tryz.call102⟩
 · cases h; exact ⟨Tryz.func103, Tryz.call103⟩
 · cases h; exact ⟨Tryz.func104, Tryz.call104⟩
 · cases h; exact ⟨Tryz.func105, Tryz.call105⟩
 · cases h
theorem codeEV2_ok (f : FuncId) (fn : Func) (h : codeEV2 f = some fn) : Tryz.prog.funcs[f]? = some fn ∧ ∀ args w, (callFunc f args).run Tryz.prog w = .ok (.enter f args) w := by
 unfold codeEV2 at h
 split at h
 · cases h; exact ⟨Tryz.func121, Tryz.call121⟩
 · cases h; exact ⟨Tryz.func122, Tryz.call122⟩
 · cases h; exact ⟨Tryz.func123, Tryz.call123⟩
 · cases h; exact ⟨Tryz.func130, Tryz.call130⟩
 · cases h; exact ⟨Tryz.func133, Tryz.call133⟩
 · cases h; exact ⟨Tryz.func134, Tryz.call134⟩
 · cases h; exact ⟨Tryz.func135, Tryz.call135⟩
 · cases h; exact ⟨Tryz.func136, Tryz.call136⟩
 · cases h; exact ⟨Tryz.func137, Tryz.call137⟩
 · cases h; exact ⟨Tryz.func138, Tryz.call138⟩
 · cases h; exact ⟨Tryz.func139, Tryz.call139⟩
 · cases h; exact ⟨Tryz.func140, Tryz.call140⟩
 · cases h; exact ⟨Tryz.func163, Tryz.call163⟩
 · cases h; exact ⟨Tryz.func164, Tryz.call164⟩
 · cases h
theorem codeEV3_ok (f : FuncId) (fn : Func) (h : codeEV3 f = some fn) : Tryz.prog.funcs[f]? = some fn ∧ ∀ args w, (callFunc f args).run Tryz.prog w = .ok (.enter f args) w := by
 unfold codeEV3 at h
 split at h
 · cases h; exact ⟨Tryz.func175, Tryz.call175⟩
 · cases h; exact ⟨Tryz.func176, Tryz.call176⟩
 · cases h; exact ⟨Tryz.func177, Tryz.call177⟩
 · cases h; exact ⟨Tryz.func178, Tryz.call178⟩
 · cases h; exact ⟨Tryz.func179, Tryz.call179⟩
 · cases h; exact ⟨Tryz.func197, Tryz.call197⟩
 · cases h; exact ⟨Tryz.func198, Tryz.call198⟩
 · cases h; exact ⟨Tryz.func199, Tryz.call199⟩
 · cases h; exact ⟨Tryz.func200, Tryz.call200⟩
 · cases h; exact ⟨Tryz.func206, Tryz.call206⟩
 · cases h; exact ⟨Tryz.func207, Tryz.call207⟩
 · cases h; exact ⟨Tryz.func219, Tryz.call219⟩
 · cases h; exact ⟨Tryz.func220, Tryz.call220⟩
 · cases h; exact ⟨Tryz.func222, Tryz.call222⟩
 · cases h; exact ⟨Tryz.func223, Tryz.call223⟩
 · cases h
theorem codeEV4_ok (f : FuncId) (fn : Func) (h : codeEV4 f = some fn) : Tryz.prog.funcs[f]? = some fn ∧ ∀ args w, (callFunc f args).run Tryz.prog w = .ok (.enter f args) w := by
 unfold codeEV4 at h
 split at h
 · cases h; exact ⟨Tryz.func224, Tryz.call224⟩
 · cases h; exact ⟨Tryz.func225, Tryz.call225⟩
 · cases h; exact ⟨Tryz.func237, Tryz.call237⟩
 · cases h; exact ⟨Tryz.func240, Tryz.call240⟩
 · cases h; exact ⟨Tryz.func241, Tryz.call241⟩
 · cases h; exact ⟨Tryz.func242, Tryz.call242⟩
 · cases h
theorem codeEV5_ok (f : FuncId) (fn : Func) (h : codeEV5 f = some fn) : Tryz.prog.funcs[f]? = some fn ∧ ∀ args w, (callFunc f args).run Tryz.prog w = .ok (.enter f args) w := by
 unfold codeEV5 at h
 split at h
 · cases h
theorem codeEV_ok (f : FuncId) (fn : Func) (h : codeEV f = some fn) : Tryz.prog.funcs[f]? = some fn ∧ ∀ args w, (callFunc f args).run Tryz.prog w = .ok (.enter f args) w := by
 unfold codeEV at h
 split at h
 · rename_i x hx; cases h; exact codeEV0_ok f _ hx
 split at h
 · rename_i x hx; cases h; exact codeEV1_ok f _ hx
 split at h
 · rename_i x hx; cases h; exact codeEV2_ok f _ hx
 split at h
 · rename_i x hx; cases h; exact codeEV3_ok f _ hx
 split at h
 · rename_i x hx; cases h; exact codeEV4_ok f _ hx
 split at h
 · rename_i x hx; cases h; exact codeEV5_ok f _ hx
 cases h
set_option maxRecDepth 100000 in
theorem EV_ok : EnvOk Tryz.prog EV where
 code := codeEV_ok
 prim := fun f g h => by
  have h : primEV f = some g := h
  unfold primEV at h
  split at h
  · cases h; exact primParse_sound
  · cases h; exact primFmtU_sound
  · cases h; exact primParseU_sound
  · cases h; exact primCheck_sound
  · cases h; exact primString_sound
  · cases h; exact primGrow_sound
  · cases h
def lb (l : List UInt8) : List AV := l.map fun b => .lit (.int .u8 b.toNat)
theorem lb_append (a b : List UInt8) : lb (a ++ b) = lb a ++ lb b := by simp [lb]
theorem lb_length (l : List UInt8) : (lb l).length = l.length := by simp [lb]
theorem byteAV_lb (s : ByteArray) : byteAV s = lb s.data.toList := rfl
def BufAt (σ0 σ : Sto) (id : Nat) (v : AV) (l : List UInt8) : Prop := (l = [] ∧ v = .sl [] .full) ∨ ∃ g, v = .asl g 0 l.length 1 ∧ g ≠ id ∧ σ0.length ≤ g ∧ (σ[g]? = some (.cells (lb l) 5) ∨ σ[g]? = some (.buf (lb l) 5))
def BldAt (σ0 σ : Sto) (id : Nat) (l : List UInt8) : Prop := σ0.length ≤ id ∧ ∃ v, σ[id]? = some (.cells [.ptr id 0, v] 184) ∧ BufAt σ0 σ id v l
theorem app_str (σ0 σ : Sto) (id : Nat) (v : AV) (l : List UInt8) (s : ByteArray) (cs : List AV) (hid : σ[id]? = some (.cells cs 184)) (h0 : σ0.length ≤ id) (hb : BufAt σ0 σ id v l) (hext : Ext σ0 σ) (hlen : l.length + s.size ≤ 140737488355328) :
    ∃ (v' : AV) (σ' : Sto) (acc : Acc), Ext σ0 σ' ∧ BufAt σ0 σ' id v' (l ++ s.data.toList) ∧ σ'[id]? = some (.cells cs 184) ∧ v'.one = true ∧
     ∀ (tm : List AV) (ds : Option Tmp) (ty : TypeId) (po : String) (af : Array Edge) (gu : Option (Nat × Bool)) (x y : Operand), evx tm x = some v → evx tm y = some (.lit (.string s)) →
      evStep Tryz.prog [182] (evx tm) σ ⟨ds, .call ⟨.builtin .append, #[x, y], #[182, 9]⟩, ty, po, af, gu⟩ = some (.val v' σ' acc) := by
 have hss : s.data.toList.length = s.size := by rw [Array.length_toList]; rfl
 have hz : ((Tryz.prog.info? 5).bind fun x => x.zero) = some (.int .u8 0) := zeroOf_5
 have step : ∀ (tm : List AV) (ds : Option Tmp) (ty : TypeId) (po : String) (af : Array Edge) (gu : Option (Nat × Bool)) (x y : Operand), evStep Tryz.prog [182] (evx tm) σ ⟨ds, .call ⟨.builtin .append, #[x, y], #[182, 9]⟩, ty, po, af, gu⟩ = evAppendS Tryz.prog (evx tm) σ 182 9 x y := by
  intro tm ds ty po af gu x y
  unfold evStep
  rw [if_pos (by simp [mutOp])]
  simp [evMut]
 rcases hb with ⟨rfl, rfl⟩ | ⟨g, rfl, hg1, hg2, hg3⟩
 · by_cases hs0 : s.size = 0
   · have hnil : s.data.toList = [] := List.eq_nil_of_length_eq_zero (by omega)
     refine ⟨.sl [] .full, σ, .pure, hext, .inl ⟨by rw [hnil]; rfl, rfl⟩, hid, rfl, fun tm ds ty po af gu x y hx hy => ?_⟩
     rw [step]
     unfold evAppendS
     simp only [Tryz.underlying182, Tryz.underlying9, hx, hy, szOf_5, bytesOf_5, hz]
     simp [hs0]
   · have hs1 : s.size ≤ 140737488355328 := by omega
     refine ⟨.asl σ.length 0 s.size 1, σ ++ [.cells (byteAV s) 5], .grows none σ.length, hext.push _, .inr ⟨σ.length, by simp [hss], fun e => ?_, hext.len, .inl ?_⟩, ?_, rfl, fun tm ds ty po af gu x y hx hy => ?_⟩
     · have := (List.getElem?_eq_some_iff.1 hid).1; omega
     · rw [List.getElem?_append_right (Nat.le_refl _)]; simp [byteAV_lb]
     · rw [List.getElem?_append_left (List.getElem?_eq_some_iff.1 hid).1]; exact hid
     · rw [step]
       unfold evAppendS
       simp only [Tryz.underlying182, Tryz.underlying9, hx, hy, szOf_5, bytesOf_5, hz]
       simp [hs0, hs1]
 · have hs1 : s.size ≤ 140737488355328 := by omega
   by_cases hs0 : s.size = 0
   · have hnil : s.data.toList = [] := List.eq_nil_of_length_eq_zero (by omega)
     refine ⟨.asl g 0 l.length 1, σ, .pure, hext, .inr ⟨g, by rw [hnil, List.append_nil], hg1, hg2, by rw [hnil, List.append_nil]; exact hg3⟩, hid, rfl, fun tm ds ty po af gu x y hx hy => ?_⟩
     rw [step]
     unfold evAppendS
     simp only [Tryz.underlying182, Tryz.underlying9, hx, hy, szOf_5, bytesOf_5, hz]
     simp [hs0]
   · have hle : l.length + s.size = (l ++ s.data.toList).length := by rw [List.length_append, hss]
     rcases hg3 with hg3 | hg3
     · have lg := (List.getElem?_eq_some_iff.1 hg3).1
       refine ⟨.asl σ.length 0 (l.length + s.size) 1, σ.set g .dead ++ [.cells (lb l ++ byteAV s) 5], .grows (some g) σ.length, (hext.set hg2).push _, .inr ⟨σ.length, by rw [hle], fun e => ?_, hext.len, .inl ?_⟩, ?_, rfl, fun tm ds ty po af gu x y hx hy => ?_⟩
       · have := (List.getElem?_eq_some_iff.1 hid).1; omega
       · rw [List.getElem?_append_right (by simp)]; simp [byteAV_lb, lb_append]
       · rw [List.getElem?_append_left (by simp; exact (List.getElem?_eq_some_iff.1 hid).1), List.getElem?_set_ne hg1]; exact hid
       · rw [step]
         unfold evAppendS
         simp only [Tryz.underlying182, Tryz.underlying9, hx, hy, szOf_5, bytesOf_5, hz]
         simp [hs0, hs1, hlen, hg3, lb_length]
         rw [List.take_of_length_le (by rw [lb_length]; exact Nat.le_refl _)]
     · have lg := (List.getElem?_eq_some_iff.1 hg3).1
       refine ⟨.asl σ.length 0 (l.length + s.size) 1, σ.set g .dead ++ [.buf (lb l ++ byteAV s) 5], .grows (some g) σ.length, (hext.set hg2).push _, .inr ⟨σ.length, by rw [hle], fun e => ?_, hext.len, .inr ?_⟩, ?_, rfl, fun tm ds ty po af gu x y hx hy => ?_⟩
       · have := (List.getElem?_eq_some_iff.1 hid).1; omega
       · rw [List.getElem?_append_right (by simp)]; simp [byteAV_lb, lb_append]
       · rw [List.getElem?_append_left (by simp; exact (List.getElem?_eq_some_iff.1 hid).1), List.getElem?_set_ne hg1]; exact hid
       · rw [step]
         unfold evAppendS
         simp only [Tryz.underlying182, Tryz.underlying9, hx, hy, szOf_5, bytesOf_5, hz]
         simp [hs0, hs1, hlen, hg3, lb_length]
end
section
open Go.RowKit
set_option maxRecDepth 100000 in
set_option maxHeartbeats 1000000 in
theorem writeString_core {σ0 σ00 σ : Sto} {id : Nat} {l : List UInt8} (hchk : CallW Tryz.prog EV 128 [.ptr id 0] σ00 fun r σ' => r = .ret (.tup []) ∧ σ' = σ) (h : BldAt σ0 σ id l) (hext : Ext σ0 σ) (s : ByteArray) (hlen2 : l.length + s.size ≤ 140737488355328) :
    CallW Tryz.prog EV 85 [.ptr id 0, .lit (.string s)] σ00 fun r σ' => (∃ v, r = .ret v) ∧ BldAt σ0 σ' id (l ++ s.data.toList) ∧ Ext σ0 σ' := by
 obtain ⟨h0, v, hσ, hb⟩ := h
 have hil := (List.getElem?_eq_some_iff.1 hσ).1
 obtain ⟨v', σ', acc, e1, b1, hid', hone, hap⟩ := app_str σ0 σ id v l s _ hσ h0 hb hext hlen2
 have hil' := (List.getElem?_eq_some_iff.1 hid').1
 refine CallW.start (fn := Tryz.f85) (M := [182]) rfl rfl rfl rfl (by simp) fun tm hlen hs => ?_
 have g0 := hs 0 _ rfl
 have g1 := hs 1 _ rfl
 clear hs
 simp at hlen
 refine CW.hide fun R0 hR0 => ?_
 refine CW.seqK fun K hK => CW.region ?_
 simp [symB, List.length_set, andThen, hlen, g0, g1]
 refine hK _ _ ?_; clear hK K
 refine CW.seqK fun K hK => CW.region ?_
 simp (maxDischargeDepth := 8) [symB, List.length_set, andThen, hlen, g0, g1]
 refine hchk.mono ?_
 rintro r σ2 ⟨rfl, rfl⟩
 simp (maxDischargeDepth := 8) [symB, List.length_set, retK, andThen, hlen]
 refine hK _ _ ?_; clear hK K
 refine CW.seqK fun K hK => CW.region ?_
 have hc1 : AV.cells v' = [v'] := by cases v' <;> first | rfl | simp [AV.one] at hone
 have ht1 : AV.notTup v' = true := by cases v' <;> first | rfl | simp [AV.one] at hone
 have hst : ∀ (tm : List AV) (ty : TypeId) (po : String) (af : Array Edge) (gu : Option (Nat × Bool)) (x y : Operand), evx tm x = some (.ptr id 1) → evx tm y = some v' → evStep Tryz.prog [182] (evx tm) σ' ⟨none, .store 182 x y, ty, po, af, gu⟩ = some (.skip (σ'.set id (.cells [.ptr id 0, v'] 184)) (.writes id)) := by
  intro tm ty po af gu x y hx hy
  rw [es_store]
  unfold evStepU
  have hl : evLit Tryz.prog (evx tm) σ' ⟨none, .store 182 x y, ty, po, af, gu⟩ = none := by
   unfold evLit
   simp [Op.operands, hx, conc, conc2]
  rw [hl]
  simp [evPure, evMem, hx, hy, hid', hc1, ht1, putCells]
 simp (maxDischargeDepth := 8) [symB, List.length_set, andThen, hlen, g0, g1, hσ, hap, hst]
 refine hK _ _ ?_; clear hK K
 refine CW.seqK fun K hK => CW.region ?_
 simp (maxDischargeDepth := 8) [symB, List.length_set, andThen, hlen, g1]
 refine hK _ _ ?_; clear hK K
 refine CW.ret (hR0 _ _ _ ?_)
 refine ⟨_, by simp [resultsA, omap, res_tmp, slot_eq, slot_ne, hlen]; rfl, ⟨_, rfl⟩, ⟨h0, v', List.getElem?_set_self hil', ?_⟩, e1.set h0⟩
 rcases b1 with b1 | ⟨g, q1, q2, q3, q4⟩
 · exact .inl b1
 · refine .inr ⟨g, q1, q2, q3, ?_⟩
   rw [List.getElem?_set_ne (Ne.symm q2)]
   exact q4
theorem writeString0_ev {σ0 σ : Sto} {id : Nat} (h0 : σ0.length ≤ id) (hσ : σ[id]? = some (.cells [.lit (.pointer none), .sl [] .full] 184)) (hext : Ext σ0 σ) (s : ByteArray) (hlen2 : s.size ≤ 140737488355328) :
    CallW Tryz.prog EV 85 [.ptr id 0, .lit (.string s)] σ fun r σ' => (∃ v, r = .ret v) ∧ BldAt σ0 σ' id s.data.toList ∧ Ext σ0 σ' := by
 have hil := (List.getElem?_eq_some_iff.1 hσ).1
 refine (writeString_core (σ := σ.set id (.cells [.ptr id 0, .sl [] .full] 184)) (l := []) (CallW.prim (g := primCheck) rfl (σ' := σ.set id (.cells [.ptr id 0, .sl [] .full] 184)) (r := .ret (.tup [])) (by simp [primCheck, hσ]) ⟨rfl, rfl⟩) ⟨h0, _, List.getElem?_set_self hil, .inl ⟨rfl, rfl⟩⟩ (hext.set h0) s (by simpa using hlen2)).mono ?_
 rintro r σ' ⟨h1, h2, h3⟩
 exact ⟨h1, by simpa using h2, h3⟩
end
section
open Go.RowKit
def c64 (l : List Nat) : List AV := l.map fun (n : Nat) => AV.lit (.int .u64 (n : Int))
def d64 (l : List Nat) : List (List AV) := l.map fun (n : Nat) => [AV.lit (.int .u64 (n : Int))]
def d32 (l : List Nat) : List (List AV) := l.map fun (n : Nat) => [AV.lit (.int .u32 (n : Int))]
theorem c64_len (l : List Nat) : (c64 l).length = l.length := by simp [c64]
theorem d64_len (l : List Nat) : (d64 l).length = l.length := by simp [d64]
theorem d32_len (l : List Nat) : (d32 l).length = l.length := by simp [d32]
theorem c64_get {l : List Nat} {i : Nat} (h : i < l.length) : (c64 l)[i]? = some (.lit (.int .u64 l[i])) := by simp [c64, h]
theorem d64_get {l : List Nat} {i : Nat} (h : i < l.length) : (d64 l)[i]? = some [.lit (.int .u64 l[i])] := by simp [d64, h]
theorem d32_get {l : List Nat} {i : Nat} (h : i < l.length) : (d32 l)[i]? = some [.lit (.int .u32 l[i])] := by simp [d32, h]
theorem d64_head (l : List Nat) : (d64 l).head?.all (·.length == 1) = true := by cases l <;> rfl
theorem d32_head (l : List Nat) : (d32 l).head?.all (·.length == 1) = true := by cases l <;> rfl
theorem d64_append (a b : List Nat) : d64 (a ++ b) = d64 a ++ d64 b := by simp [d64]
theorem d32_append (a b : List Nat) : d32 (a ++ b) = d32 a ++ d32 b := by simp [d32]
theorem CW.reset {P : Program} {E : Env} {M : List TypeId} {c : Code} {tm : List AV} {σ : Sto} {R : AExit → List AV → Sto → Prop} (Q : List AV → Prop) (h : Q tm) (k : ∀ tm, Q tm → CW P E M c tm σ R) : CW P E M c tm σ R := k _ h
theorem LW.reset {P : Program} {E : Env} {M : List TypeId} {ops : Array Oper} {rest : List Oper} {tm : List AV} {σ : Sto} {R : AExit → List AV → Sto → Prop} (Q : List AV → Prop) (h : Q tm) (k : ∀ tm, Q tm → LW P E M ops rest tm σ R) : LW P E M ops rest tm σ R := k _ h
theorem DW.reset {P : Program} {E : Env} {M : List TypeId} {ops : Array Oper} {rest : List Oper} {accs : List Acc} {tm : List AV} {σ : Sto} {R : AExit → List AV → Sto → Prop} (Q : List AV → Prop) (h : Q tm) (k : ∀ tm, Q tm → DW P E M ops rest accs tm σ R) : DW P E M ops rest accs tm σ R := k _ h
def atD (l : List Nat) (k : Int) : Nat := if 0 ≤ k ∧ k < l.length then l.getD k.toNat 0 else 0
theorem atD_nat (l : List Nat) (k : Nat) : atD l k = l.getD k 0 := by
 unfold atD
 split
 · simp
 · rename_i h
   rw [List.getD_eq_getElem?_getD, List.getElem?_eq_none (by omega)]; rfl
set_option maxRecDepth 100000 in
theorem at_sl (l : List Nat) (tok : Tok) (k : Int) (σ : Sto) : CallW Tryz.prog EV 240 [.sl (d64 l) tok, .lit (.int .i64 k)] σ fun r σ' => r = .ret (.lit (.int .u64 (atD l k))) ∧ σ' = σ := by
 refine CallW.start (fn := Tryz.f240) (M := []) rfl rfl rfl rfl (by simp) fun tm hlen hs => ?_
 have h0 := hs 0 _ rfl
 have h1 := hs 1 _ rfl
 clear hs
 simp at hlen
 refine CW.hide fun R0 hR0 => ?_
 refine CW.seqK fun K hK => CW.region ?_
 simp (maxDischargeDepth := 16) [symB, List.length_set, andThen, hlen, h0, h1]
 refine hK _ _ ?_; clear hK K
 refine CW.seqK fun K0 hK0 => ?_
 by_cases hk : 0 ≤ k
 · by_cases hk2 : k < l.length
   · obtain ⟨k, rfl⟩ : ∃ m : Nat, k = m := ⟨k.toNat, by omega⟩
     have hi : k < l.length := by omega
     have hg := d64_get hi
     refine CW.seqK fun K hK => CW.region ?_
     simp (maxDischargeDepth := 16) [symB, List.length_set, andThen, hlen, h0, h1, hk, d64_len, hk2]
     refine hK _ _ ?_; clear hK K
     refine CW.cond (t := true) (by simp (maxDischargeDepth := 16) [evx_tmp, slot_eq, slot_ne, hlen]) ?_
     refine CW.seqK fun K hK => CW.region ?_
     simp (maxDischargeDepth := 16) [symB, List.length_set, andThen, hlen, h0, h1, hk, d64_len, hk2, hg]
     refine hK _ _ ?_; clear hK K
     refine CW.ret (hR0 _ _ _ ⟨.lit (.int .u64 (atD l k)), ?_, rfl, rfl⟩)
     have e : atD l k = l[k] := by rw [atD_nat, List.getD_eq_getElem?_getD, List.getElem?_eq_getElem hi]; rfl
     simp (maxDischargeDepth := 16) [resultsA, omap, res_tmp, slot_eq, slot_ne, hlen, e]
   · refine CW.seqK fun K hK => CW.region ?_
     simp (maxDischargeDepth := 16) [symB, List.length_set, andThen, hlen, h0, h1, hk, d64_len, hk2]
     refine hK _ _ ?_; clear hK K
     refine CW.cond (t := false) (by simp (maxDischargeDepth := 16) [evx_tmp, slot_eq, slot_ne, hlen]) ?_
     refine CW.skip (hK0 _ _ ?_)
     refine CW.seqK fun K hK => CW.region ?_
     simp (maxDischargeDepth := 16) [symB, List.length_set, andThen, hlen]
     refine hK _ _ ?_; clear hK K
     refine CW.ret (hR0 _ _ _ ⟨.lit (.int .u64 (atD l k)), ?_, rfl, rfl⟩)
     have e : atD l k = 0 := by unfold atD; rw [if_neg (by omega)]
     simp (maxDischargeDepth := 16) [resultsA, omap, res_tmp, slot_eq, slot_ne, hlen, e]
 · refine CW.seqK fun K hK => CW.region ?_
   simp (maxDischargeDepth := 16) [symB, List.length_set, andThen, hlen, h0, h1, hk]
   refine hK _ _ ?_; clear hK K
   refine CW.cond (t := false) (by simp (maxDischargeDepth := 16) [evx_tmp, slot_eq, slot_ne, hlen]) ?_
   refine CW.skip (hK0 _ _ ?_)
   refine CW.seqK fun K hK => CW.region ?_
   simp (maxDischargeDepth := 16) [symB, List.length_set, andThen, hlen]
   refine hK _ _ ?_; clear hK K
   refine CW.ret (hR0 _ _ _ ⟨.lit (.int .u64 (atD l k)), ?_, rfl, rfl⟩)
   have e : atD l k = 0 := by unfold atD; rw [if_neg (by omega)]
   simp (maxDischargeDepth := 16) [resultsA, omap, res_tmp, slot_eq, slot_ne, hlen, e]
set_option maxRecDepth 100000 in
theorem at_asl (l : List Nat) (id T : Nat) (k : Int) (σ : Sto) (ho : σ[id]? = some (.cells (c64 l) T)) : CallW Tryz.prog EV 240 [.asl id 0 l.length 1, .lit (.int .i64 k)] σ fun r σ' => r = .ret (.lit (.int .u64 (atD l k))) ∧ σ' = σ := by
 refine CallW.start (fn := Tryz.f240) (M := []) rfl rfl rfl rfl (by simp) fun tm hlen hs => ?_
 have h0 := hs 0 _ rfl
 have h1 := hs 1 _ rfl
 clear hs
 simp at hlen
 refine CW.hide fun R0 hR0 => ?_
 refine CW.seqK fun K hK => CW.region ?_
 simp (maxDischargeDepth := 16) [symB, List.length_set, andThen, hlen, h0, h1]
 refine hK _ _ ?_; clear hK K
 refine CW.seqK fun K0 hK0 => ?_
 by_cases hk : 0 ≤ k
 · by_cases hk2 : k < l.length
   · obtain ⟨k, rfl⟩ : ∃ m : Nat, k = m := ⟨k.toNat, by omega⟩
     have hi : k < l.length := by omega
     have hg := c64_get hi
     refine CW.seqK fun K hK => CW.region ?_
     simp (maxDischargeDepth := 16) [symB, List.length_set, andThen, hlen, h0, h1, hk, hk2]
     refine hK _ _ ?_; clear hK K
     refine CW.cond (t := true) (by simp (maxDischargeDepth := 16) [evx_tmp, slot_eq, slot_ne, hlen]) ?_
     refine CW.seqK fun K hK => CW.region ?_
     simp (maxDischargeDepth := 16) [symB, List.length_set, andThen, hlen, h0, h1, hk, hk2, hg, ho]
     refine hK _ _ ?_; clear hK K
     refine CW.ret (hR0 _ _ _ ⟨.lit (.int .u64 (atD l k)), ?_, rfl, rfl⟩)
     have e : atD l k = l[k] := by rw [atD_nat, List.getD_eq_getElem?_getD, List.getElem?_eq_getElem hi]; rfl
     simp (maxDischargeDepth := 16) [resultsA, omap, res_tmp, slot_eq, slot_ne, hlen, e]
   · refine CW.seqK fun K hK => CW.region ?_
     simp (maxDischargeDepth := 16) [symB, List.length_set, andThen, hlen, h0, h1, hk, hk2]
     refine hK _ _ ?_; clear hK K
     refine CW.cond (t := false) (by simp (maxDischargeDepth := 16) [evx_tmp, slot_eq, slot_ne, hlen]) ?_
     refine CW.skip (hK0 _ _ ?_)
     refine CW.seqK fun K hK => CW.region ?_
     simp (maxDischargeDepth := 16) [symB, List.length_set, andThen, hlen]
     refine hK _ _ ?_; clear hK K
     refine CW.ret (hR0 _ _ _ ⟨.lit (.int .u64 (atD l k)), ?_, rfl, rfl⟩)
     have e : atD l k = 0 := by unfold atD; rw [if_neg (by omega)]
     simp (maxDischargeDepth := 16) [resultsA, omap, res_tmp, slot_eq, slot_ne, hlen, e]
 · refine CW.seqK fun K hK => CW.region ?_
   simp (maxDischargeDepth := 16) [symB, List.length_set, andThen, hlen, h0, h1, hk]
   refine hK _ _ ?_; clear hK K
   refine CW.cond (t := false) (by simp (maxDischargeDepth := 16) [evx_tmp, slot_eq, slot_ne, hlen]) ?_
   refine CW.skip (hK0 _ _ ?_)
   refine CW.seqK fun K hK => CW.region ?_
   simp (maxDischargeDepth := 16) [symB, List.length_set, andThen, hlen]
   refine hK _ _ ?_; clear hK K
   refine CW.ret (hR0 _ _ _ ⟨.lit (.int .u64 (atD l k)), ?_, rfl, rfl⟩)
   have e : atD l k = 0 := by unfold atD; rw [if_neg (by omega)]
   simp (maxDischargeDepth := 16) [resultsA, omap, res_tmp, slot_eq, slot_ne, hlen, e]
set_option maxRecDepth 100000 in
theorem top_sl (l : List Nat) (tok : Tok) (σ : Sto) (hl : l.length ≤ 1000000000000) : CallW Tryz.prog EV 241 [.sl (d64 l) tok] σ fun r σ' => r = .ret (.lit (.int .u64 (atD l ((l.length : Int) - 1)))) ∧ σ' = σ := by
 refine CallW.start (fn := Tryz.f241) (M := []) rfl rfl rfl rfl (by simp) fun tm hlen hs => ?_
 have h0 := hs 0 _ rfl
 clear hs
 simp at hlen
 refine CW.hide fun R0 hR0 => ?_
 refine CW.seqK fun K hK => CW.region ?_
 simp (maxDischargeDepth := 16) [symB, List.length_set, andThen, hlen, h0]
 refine hK _ _ ?_; clear hK K
 have hw : IntKind.i64.wrap ((l.length : Int) - 1) = (l.length : Int) - 1 := IntWalk.i64_in _ ⟨by omega, by omega⟩
 refine CW.seqK fun K hK => CW.region ?_
 simp (maxDischargeDepth := 16) [symB, List.length_set, andThen, hlen, h0, d64_len, hw]
 refine (at_sl l tok _ σ).mono ?_
 rintro r σ2 ⟨rfl, rfl⟩
 simp (maxDischargeDepth := 16) [symB, List.length_set, andThen, hlen, retK]
 refine hK _ _ ?_
 refine CW.ret (hR0 _ _ _ ⟨.lit (.int .u64 (atD l ((l.length : Int) - 1))), ?_, rfl, rfl⟩)
 simp (maxDischargeDepth := 16) [resultsA, omap, res_tmp, slot_eq, slot_ne, hlen]
def TokF (σ0 σ : Sto) (m : Nat) (e k : Nat) (t : Tok) : Prop := TokAt σ0 σ m e t ∨ (m = 0 ∧ ∃ id, t = .fresh id k ∧ σ0.length ≤ id ∧ σ[id]? = some (.tok 0 e))
theorem TokF.ext {σ0 a b : Sto} {m e k : Nat} {t : Tok} (h : TokF σ0 a m e k t) (g : Ext a b) : TokF σ0 b m e k t := by
 rcases h with h | ⟨h0, id, h1, h2, h3⟩
 · exact .inl (h.ext g)
 · exact .inr ⟨h0, id, h1, h2, g.get h3⟩
theorem append_atF {P : Program} {M : List TypeId} {σ0 σ : Sto} {es fs : List (List AV)} {tok tk : Tok} {t e k by_ : Nat} {z : Value} (ht : P.underlying t = some (.slice e)) (hk : szOf P e = some (k + 1)) (hb : bytesOf P e = some by_) (hz : ((P.info? e).bind fun x => x.zero) = some z) (hzk : z.cells.size = k + 1)
    (htok : TokF σ0 σ (es.length * (k + 1)) e (k + 1) tok) (hext : Ext σ0 σ) (h1 : es.head?.all (·.length == k + 1) = true) (h2 : fs.head?.all (·.length == k + 1) = true) (hf : fs.length ≠ 0) (hby : (es.length + fs.length) * by_ ≤ 140737488355328) (hle : es.length + fs.length ≤ 140737488355328) (hMt : M.contains t = false := by rfl) :
    ∃ t' σ' acc, Ext σ0 σ' ∧ TokAt σ0 σ' ((es.length + fs.length) * (k + 1)) e t' ∧ ∀ (tm : List AV) (ds : Option Tmp) (ty : TypeId) (po : String) (af : Array Edge) (gu : Option (Nat × Bool)) (x y : Operand), evx tm x = some (.sl es tok) → evx tm y = some (.sl fs tk) →
     evStep P M (evx tm) σ ⟨ds, .call ⟨.builtin .append, #[x, y], #[t, t]⟩, ty, po, af, gu⟩ = some (.val (.sl (es ++ stripRows fs) t') σ' acc) := by
 rcases htok with htok | ⟨h0, id, rfl, hid, hσ⟩
 · exact append_at ht hk hb hz hzk htok hext h1 h2 hf hby hle hMt
 · have hes : es = [] := by
    rcases Nat.mul_eq_zero.1 h0 with h | h
    · exact List.length_eq_zero_iff.1 h
    · omega
   subst hes
   have hz' : ((P.info? e).bind (·.zero)).map (·.cells.size) = some (k + 1) := by rw [hz]; simp [hzk]
   refine ⟨.own σ.length, _, .any, (hext.set hid).push _, TokAt.next hext, fun tm ds ty po af gu x y hx hy => ?_⟩
   have hlit : evLit P (evx tm) σ ⟨ds, .call ⟨.builtin .append, #[x, y], #[t, t]⟩, ty, po, af, gu⟩ = none := by
    unfold evLit
    simp [Op.operands, Call.operands, hx, conc, conc2]
   unfold evStep
   rw [if_neg (by simp only [mutOp, hMt]; exact Bool.false_ne_true), hlit]
   simp only [evPure, evMem]
   unfold evAppend
   simp only [ht, hx, hy, hk, hb, hz', if_true]
   rw [if_pos ⟨trivial, h1, h2, hby, hle⟩, if_neg hf]
   simp only [hσ]
   rw [if_pos ⟨⟨by simp, trivial⟩, trivial, trivial⟩]
theorem spill_len (c : Nat) : (spill c).length ≤ c := by
 induction c using Nat.strongRecOn with
 | ind c ih =>
  unfold spill
  split
  · simp
  · rename_i h
    have hd : c / B9 < c := Nat.div_lt_self (by omega) (by decide)
    have := ih _ hd
    simp only [List.length_cons]; omega
theorem carry_len : ∀ (l : List Nat) (c : Nat), (∀ x ∈ l, x < 9223372036854775808) → c < 17179869184 → (carry l c).length < l.length + 17179869184
 | [], c, _, hc => by have := spill_len c; unfold carry; simp; omega
 | x :: l, c, h, hc => by
  have hx := h x (by simp)
  have := carry_len l ((x + c) / B9) (fun y hy => h y (by simp [hy])) (by unfold B9; omega)
  unfold carry
  simp only [List.length_cons]; omega
theorem drop0_snoc (a : List Nat) (x : Nat) : drop0 (a ++ [x]) = if x = 0 then drop0 a else a ++ [x] := by
 induction a with
 | nil => simp [drop0]
 | cons y a ih =>
  rw [List.cons_append, drop0_cons, ih, drop0_cons]
  by_cases hx : x = 0
  · simp [hx]
  · simp [hx]
end
end Go.Proofs.YtkkblmdgedmdfaaGreatDoor
