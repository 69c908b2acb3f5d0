/-
  EV: the value seat: the functions of Go's library that are taken on their contract; the table of code.
-/
import Derived.Test.YtcjjmejmpdhikaaGreatDoorEvPrim
import Derived.Test.YtcjjmejmpdhikaaGreatDoorEvGrow2
import Derived.Test.YtcjjmejmpdhikaaGreatDoorFmtU
import Derived.Test.YtcjjmejmpdhikaaGreatDoorNum
import Derived.Lib.AtoiErrMem
namespace Go.Proofs.YtcjjmejmpdhikaaGreatDoor
set_option linter.unusedSimpArgs false
set_option linter.unusedVariables false
open Go.RowKit Go.Sort

theorem dec_eq (n : Nat) : Lib.decDigits n = dec n := by
  induction n using Nat.strongRecOn with
  | ind n ih =>
    rw [Lib.decDigits, dec]
    split
    · rfl
    · rename_i h
      rw [ih _ (by omega)]

theorem tab_pow10 {σ : Sto} {ι : List Nat} {Z : Nat → Nat → Prop} {w : World} (hM : Match σ ι Z w) : Lib.TabIs Tryz.prog w "internal/strconv.uint64pow10" .u64 Lib.pow10Tab := by
  obtain ⟨h1, h2, h3⟩ := hM.glob 1 _ rfl
  have hg : Tryz.prog.globalNamed "internal/strconv.uint64pow10" = some 1 := by kernel_rfl
  unfold Lib.TabIs World.var?
  rw [hg, Option.bind_some]
  generalize hl : ([.int .u64 1, .int .u64 10, .int .u64 100, .int .u64 1000, .int .u64 10000, .int .u64 100000, .int .u64 1000000, .int .u64 10000000, .int .u64 100000000, .int .u64 1000000000, .int .u64 10000000000, .int .u64 100000000000, .int .u64 1000000000000, .int .u64 10000000000000, .int .u64 100000000000000, .int .u64 1000000000000000, .int .u64 10000000000000000, .int .u64 100000000000000000, .int .u64 1000000000000000000, .int .u64 10000000000000000000] : List Value) = l at h1 h3
  have hl2 : (Lib.pow10Tab.map fun z => Value.int .u64 z) = l := by rw [← hl]; kernel_rfl
  rw [hl2]
  have hll : l.length = 20 := by rw [← hl]; rfl
  unfold cellsz at h3
  split at h3
  · rename_i c T fz hc
    rw [hc]
    simp only [Option.some.injEq]
    apply Array.ext
    · simpa using h3
    · intro i hi1 hi2
      have hi : i < l.length := by simpa using hi2
      generalize hp : (Value.pointer (some ⟨1, 0, none⟩)) = p at h1
      generalize hr : l.map AV.lit = row at h1
      generalize ho : (0 : Nat) = off at h1
      cases h1 with
      | eptr _ _ b o U g1 g2 =>
        have hb : b = 1 ∧ o = 0 := by
          injection hp with hp
          injection hp with hp
          injection hp with hp1 hp2
          omega
        obtain ⟨rfl, rfl⟩ := hb
        have hrow : row[i]? = some (.lit l[i]) := by rw [← hr, List.getElem?_map, List.getElem?_eq_getElem hi]; rfl
        have a1 := (g1 i _ hrow).2.2
        have a2 := g2 i _ hrow
        generalize hU : U i = x at a1 a2
        cases a2
        simp only [World.cell?, hc, Nat.zero_add] at a1
        have : c[i]? = some l[i] := by simpa using a1
        rw [Array.getElem?_eq_getElem hi1] at this
        injection this with this
  · omega

def primFmtU (args : List AV) (σ : Sto) : Option (ARes × Sto) :=
  match args with
  | [.lit (.int .u64 x), .lit (.int .i64 y)] => if (0 ≤ x ∧ x < 18446744073709551616) ∧ y = 10 then some (.ret (.lit (.string ⟨(dec x.toNat).toArray⟩)), σ) else none
  | _ => none
theorem primFmtU_sound : CallSound Tryz.prog fun f args σ => if f = 79 then primFmtU args σ else none := by
  intro f args σ r σ' hr ι Z w us hM hl hargs
  dsimp only at hr
  split at hr
  · rename_i e
    subst e
    unfold primFmtU at hr
    split at hr
    · rename_i x y
      split at hr
      · rename_i hc
        cases hr
        obtain ⟨⟨h0, h1⟩, rfl⟩ := hc
        obtain ⟨u, u2, rfl⟩ := two_args hl
        have hu := hargs 0 _ u rfl rfl
        have hu2 := hargs 1 _ u2 rfl rfl
        cases hu; cases hu2
        obtain ⟨x, rfl⟩ : ∃ n : Nat, x = n := ⟨x.toNat, by omega⟩
        refine ⟨Tryz.call79 _ _, (fmtU x (by omega) w (tab_pow10 hM)).mono ?_⟩
        rintro e w' ⟨rfl, k, os, rfl⟩
        have hb : Below w.heap.size w (grow (w.drewN k) os) := ⟨rfl, rfl, rfl, by show w.heap.size ≤ (w.heap ++ os).size; rw [Array.size_append]; omega, fun j hj => by show (w.heap ++ os)[j]? = w.heap[j]?; rw [Array.getElem?_append_left hj]⟩
        rw [dec_eq, Int.toNat_natCast]
        exact ⟨ι, Z, .ofBelow hM hb, hM.below hb, _, rfl, .lit _ rfl⟩
      · cases hr
    · cases hr
  · cases hr

def primParseU (args : List AV) (σ : Sto) : Option (ARes × Sto) :=
  match args with
  | [.lit (.string s), .lit (.int .i64 b), .lit (.int .i64 z)] => if (b = 10 ∧ z = 64) ∧ s.size ≤ 18 ∧ s.data.toList ≠ [] ∧ isDec s.data.toList = true then some (.ret (.tup [.lit (.int .u64 (valD s.data.toList)), .lit .nilIface]), σ) else none
  | _ => none

theorem parseUintM_ok : ∀ (l : List UInt8) (acc : Nat), isDec l = true → acc < 10 ^ (18 - l.length) → l.length ≤ 18 → Lib.parseUintM (2 ^ 64 - 1) acc l = .ok (l.foldl (fun a b => a * 10 + (b.toNat - 48)) acc)
  | [], acc, _, _, _ => rfl
  | c :: r, acc, h, ha, hl => by
    simp only [isDec, List.all_cons, Bool.and_eq_true, decide_eq_true_eq] at h
    have hl' : r.length + 1 ≤ 18 := by simpa using hl
    have e : 18 - r.length = (18 - (c :: r).length) + 1 := by simp; omega
    have hp : (10 : Nat) ^ (18 - (c :: r).length) ≤ 10 ^ 17 := Nat.pow_le_pow_right (by omega) (by simp)
    rw [Lib.parseUintM, if_pos h.1, if_neg (by omega), if_neg (by omega), List.foldl_cons]
    refine parseUintM_ok r _ (by simpa [isDec] using h.2) ?_ (by omega)
    rw [e, Nat.pow_succ]; omega
theorem parseUintB_ok {l : List UInt8} (h : isDec l = true) (h0 : l ≠ []) (hl : l.length ≤ 18) : Lib.parseUintB 64 l = .ok (valD l) := by
  unfold Lib.parseUintB
  rw [if_neg h0]
  exact parseUintM_ok l 0 h (Nat.pow_pos (by omega)) hl

theorem three_args {us : Array Value} {d e f : AV} (h : [d, e, f].length = us.size) : ∃ u v x, us = #[u, v, x] := ⟨us[0]'(by simp at h; omega), us[1]'(by simp at h; omega), us[2]'(by simp at h; omega), by
  apply Array.ext
  · simp at h; simp; omega
  · intro i h1 h2
    simp at h2
    rcases i with _ | _ | _ | i
    · rfl
    · rfl
    · rfl
    · omega⟩

theorem primParseU_sound : CallSound Tryz.prog fun f args σ => if f = 129 then primParseU args σ else none := by
  intro f args σ r σ' hr ι Z w us hM hl hargs
  dsimp only at hr
  split at hr
  · rename_i e
    subst e
    unfold primParseU at hr
    split at hr
    · rename_i s b z
      split at hr
      · rename_i hc
        cases hr
        obtain ⟨⟨rfl, rfl⟩, h1, h2, h3⟩ := hc
        obtain ⟨u, u2, u3, rfl⟩ := three_args hl
        have hu := hargs 0 _ u rfl rfl
        have hu2 := hargs 1 _ u2 rfl rfl
        have hu3 := hargs 2 _ u3 rfl rfl
        cases hu; cases hu2; cases hu3
        refine ⟨Tryz.call129 _ _, (Tryz.strconv_ParseUint_10_at64_ok s (by omega) _ (parseUintB_ok h3 h2 (by rw [Array.length_toList]; exact h1)) w).mono ?_⟩
        rintro e w' ⟨rfl, hw⟩
        have hb : Below w.heap.size w w' := by
          rcases hw with rfl | rfl
          · exact Below.refl _ _
          · exact Lib.bytesWorld_below _ _ _
        refine ⟨ι, Z, .ofBelow hM hb, hM.below hb, _, rfl, .tup _ _ rfl fun i d u hd hu => ?_⟩
        rcases i with _ | _ | i
        · simp at hd hu; subst hd; subst hu; exact .lit _ rfl
        · simp at hd hu; subst hd; subst hu; exact .lit _ rfl
        · simp at hd
      · cases hr
    · cases hr
  · cases hr

noncomputable def codeEV (f : FuncId) : Option Func :=
  match f with
  | 5 => some Tryz.f5
  | 4 => some Tryz.f4
  | 3 => some Tryz.f3
  | 6 => some Tryz.f6
  | 8 => some Tryz.f8
  | 14 => some Tryz.f14
  | 15 => some Tryz.f15
  | 13 => some Tryz.f13
  | 12 => some Tryz.f12
  | 9 => some Tryz.f9
  | 10 => some Tryz.f10
  | 11 => some Tryz.f11
  | 7 => some Tryz.f7
  | 16 => some Tryz.f16
  | 17 => some Tryz.f17
  | 29 => some Tryz.f29
  | 30 => some Tryz.f30
  | 31 => some Tryz.f31
  | 25 => some Tryz.f25
  | 26 => some Tryz.f26
  | 27 => some Tryz.f27
  | 24 => some Tryz.f24
  | 23 => some Tryz.f23
  | 18 => some Tryz.f18
  | 19 => some Tryz.f19
  | 20 => some Tryz.f20
  | 21 => some Tryz.f21
  | 22 => some Tryz.f22
  | 32 => some Tryz.f32
  | 33 => some Tryz.f33
  | 57 => some Tryz.f57
  | 58 => some Tryz.f58
  | 59 => some Tryz.f59
  | 47 => some Tryz.f47
  | 48 => some Tryz.f48
  | 49 => some Tryz.f49
  | 51 => some Tryz.f51
  | 42 => some Tryz.f42
  | 43 => some Tryz.f43
  | 44 => some Tryz.f44
  | 45 => some Tryz.f45
  | 46 => some Tryz.f46
  | 34 => some Tryz.f34
  | 35 => some Tryz.f35
  | 36 => some Tryz.f36
  | 37 => some Tryz.f37
  | 38 => some Tryz.f38
  | 39 => some Tryz.f39
  | 40 => some Tryz.f40
  | 41 => some Tryz.f41
  | 60 => some Tryz.f60
  | 88 => some Tryz.f88
  | 90 => some Tryz.f90
  | 89 => some Tryz.f89
  | 78 => some Tryz.f78
  | 80 => some Tryz.f80
  | 81 => some Tryz.f81
  | 82 => some Tryz.f82
  | 73 => some Tryz.f73
  | 75 => some Tryz.f75
  | 74 => some Tryz.f74
  | 77 => some Tryz.f77
  | 76 => some Tryz.f76
  | 61 => some Tryz.f61
  | 62 => some Tryz.f62
  | 63 => some Tryz.f63
  | 64 => some Tryz.f64
  | 65 => some Tryz.f65
  | 66 => some Tryz.f66
  | 67 => some Tryz.f67
  | 68 => some Tryz.f68
  | 69 => some Tryz.f69
  | 70 => some Tryz.f70
  | 71 => some Tryz.f71
  | 72 => some Tryz.f72
  | 93 => some Tryz.f93
  | 94 => some Tryz.f94
  | 111 => some Tryz.f111
  | 112 => some Tryz.f112
  | 92 => some Tryz.f92
  | 91 => some Tryz.f91
  | 113 => some Tryz.f113
  | 103 => some Tryz.f103
  | 105 => some Tryz.f105
  | 106 => some Tryz.f106
  | 107 => some Tryz.f107
  | 102 => some Tryz.f102
  | 95 => some Tryz.f95
  | 96 => some Tryz.f96
  | 97 => some Tryz.f97
  | 98 => some Tryz.f98
  | 99 => some Tryz.f99
  | 100 => some Tryz.f100
  | 101 => some Tryz.f101
  | 114 => some Tryz.f114
  | 127 => some Tryz.f127
  | 128 => some Tryz.f128
  | 123 => some Tryz.f123
  | 124 => some Tryz.f124
  | 125 => some Tryz.f125
  | 116 => some Tryz.f116
  | 115 => some Tryz.f115
  | 117 => some Tryz.f117
  | 118 => some Tryz.f118
  | _ => none
noncomputable def primEV (f : FuncId) : Option (List AV → Sto → Option (ARes × Sto)) :=
  match f with
  | 28 => some primParse
  | 79 => some primFmtU
  | 129 => some primParseU
  | 83 => some primCheck
  | 52 => some primString
  | 50 => some primGrow
  | _ => none
def msEV (f : FuncId) : List TypeId :=
  match f with
  | 78 => [137]
  | 51 => [95]
  | _ => []
noncomputable def EV : Env := { code := codeEV, prim := primEV, ms := msEV }
theorem codeEV_ok (f : FuncId) (fn : Func) (h : codeEV f = some fn) : Tryz.prog.funcs[f]? = some fn ∧ ∀ args w, (callFunc f args).run Tryz.prog w = .ok (.enter f args) w := by
  unfold codeEV at h
  split at h
  · cases h; exact ⟨Tryz.func5, Tryz.call5⟩
  · cases h; exact ⟨Tryz.func4, Tryz.call4⟩
  · cases h; exact ⟨Tryz.func3, Tryz.call3⟩
  · cases h; exact ⟨Tryz.func6, Tryz.call6⟩
  · cases h; exact ⟨Tryz.func8, Tryz.call8⟩
  · cases h; exact ⟨Tryz.func14, Tryz.call14⟩
  · cases h; exact ⟨Tryz.func15, Tryz.call15⟩
  · cases h; exact ⟨Tryz.func13, Tryz.call13⟩
  · cases h; exact ⟨Tryz.func12, Tryz.call12⟩
  · cases h; exact ⟨Tryz.func9, Tryz.call9⟩
  · cases h; exact ⟨Tryz.func10, Tryz.call10⟩
  · cases h; exact ⟨Tryz.func11, Tryz.call11⟩
  · cases h; exact ⟨Tryz.func7, Tryz.call7⟩
  · cases h; exact ⟨Tryz.func16, Tryz.call16⟩
  · cases h; exact ⟨Tryz.func17, Tryz.call17⟩
  · cases h; exact ⟨Tryz.func29, Tryz.call29⟩
  · cases h; exact ⟨Tryz.func30, Tryz.call30⟩
  · cases h; exact ⟨Tryz.func31, Tryz.call31⟩
  · cases h; exact ⟨Tryz.func25, Tryz.call25⟩
  · cases h; exact ⟨Tryz.func26, Tryz.call26⟩
  · cases h; exact ⟨Tryz.func27, Tryz.call27⟩
  · cases h; exact ⟨Tryz.func24, Tryz.call24⟩
  · cases h; exact ⟨Tryz.func23, Tryz.call23⟩
  · cases h; exact ⟨Tryz.func18, Tryz.call18⟩
  · cases h; exact ⟨Tryz.func19, Tryz.call19⟩
  · cases h; exact ⟨Tryz.func20, Tryz.call20⟩
  · cases h; exact ⟨Tryz.func21, Tryz.call21⟩
  · cases h; exact ⟨Tryz.func22, Tryz.call22⟩
  · cases h; exact ⟨Tryz.func32, Tryz.call32⟩
  · cases h; exact ⟨Tryz.func33, Tryz.call33⟩
  · cases h; exact ⟨Tryz.func57, Tryz.call57⟩
  · cases h; exact ⟨Tryz.func58, Tryz.call58⟩
  · cases h; exact ⟨Tryz.func59, Tryz.call59⟩
  · cases h; exact ⟨Tryz.func47, Tryz.call47⟩
  · cases h; exact ⟨Tryz.func48, Tryz.call48⟩
  · cases h; exact ⟨Tryz.func49, Tryz.call49⟩
  · cases h; exact ⟨Tryz.func51, Tryz.call51⟩
  · cases h; exact ⟨Tryz.func42, Tryz.call42⟩
  · cases h; exact ⟨Tryz.func43, Tryz.call43⟩
  · cases h; exact ⟨Tryz.func44, Tryz.call44⟩
  · cases h; exact ⟨Tryz.func45, Tryz.call45⟩
  · cases h; exact ⟨Tryz.func46, Tryz.call46⟩
  · cases h; exact ⟨Tryz.func34, Tryz.call34⟩
  · cases h; exact ⟨Tryz.func35, Tryz.call35⟩
  · cases h; exact ⟨Tryz.func36, Tryz.call36⟩
  · cases h; exact ⟨Tryz.func37, Tryz.call37⟩
  · cases h; exact ⟨Tryz.func38, Tryz.call38⟩
  · cases h; exact ⟨Tryz.func39, Tryz.call39⟩
  · cases h; exact ⟨Tryz.func40, Tryz.call40⟩
  · cases h; exact ⟨Tryz.func41, Tryz.call41⟩
  · cases h; exact ⟨Tryz.func60, Tryz.call60⟩
  · cases h; exact ⟨Tryz.func88, Tryz.call88⟩
  · cases h; exact ⟨Tryz.func90, Tryz.call90⟩
  · cases h; exact ⟨Tryz.func89, Tryz.call89⟩
  · cases h; exact ⟨Tryz.func78, Tryz.call78⟩
  · cases h; exact ⟨Tryz.func80, Tryz.call80⟩
  · cases h; exact ⟨Tryz.func81, Tryz.call81⟩
  · cases h; exact ⟨Tryz.func82, Tryz.call82⟩
  · cases h; exact ⟨Tryz.func73, Tryz.call73⟩
  · cases h; exact ⟨Tryz.func75, Tryz.call75⟩
  · cases h; exact ⟨Tryz.func74, Tryz.call74⟩
  · cases h; exact ⟨Tryz.func77, Tryz.call77⟩
  · cases h; exact ⟨Tryz.func76, Tryz.call76⟩
  · cases h; exact ⟨Tryz.func61, Tryz.call61⟩
  · cases h; exact ⟨Tryz.func62, Tryz.call62⟩
  · cases h; exact ⟨Tryz.func63, Tryz.call63⟩
  · cases h; exact ⟨Tryz.func64, Tryz.call64⟩
  · cases h; exact ⟨Tryz.func65, Tryz.call65⟩
  · cases h; exact ⟨Tryz.func66, Tryz.call66⟩
  · cases h; exact ⟨Tryz.func67, Tryz.call67⟩
  · cases h; exact ⟨Tryz.func68, Tryz.call68⟩
  · cases h; exact ⟨Tryz.func69, Tryz.call69⟩
  · cases h; exact ⟨Tryz.func70, Tryz.call70⟩
  · cases h; exact ⟨Tryz.func71, Tryz.call71⟩
  · cases h; exact ⟨Tryz.func72, Tryz.call72⟩
  · cases h; exact ⟨Tryz.func93, Tryz.call93⟩
  · cases h; exact ⟨Tryz.func94, Tryz.call94⟩
  · cases h; exact ⟨Tryz.func111, Tryz.call111⟩
  · cases h; exact ⟨Tryz.func112, Tryz.call112⟩
  · cases h; exact ⟨Tryz.func92, Tryz.call92⟩
  · cases h; exact ⟨Tryz.func91, Tryz.call91⟩
  · cases h; exact ⟨Tryz.func113, Tryz.call113⟩
  · cases h; exact ⟨Tryz.func103, Tryz.call103⟩
  · cases h; exact ⟨Tryz.func105, Tryz.call105⟩
  · cases h; exact ⟨Tryz.func106, Tryz.call106⟩
  · cases h; exact ⟨Tryz.func107, Tryz.call107⟩
  · cases h; exact ⟨Tryz.func102, Tryz.call102⟩
  · cases h; exact ⟨Tryz.func95, Tryz.call95⟩
  · cases h; exact ⟨Tryz.func96, Tryz.call96⟩
  · cases h; exact ⟨Tryz.func97, Tryz.call97⟩
  · cases h; exact ⟨Tryz.func98, Tryz.call98⟩
  · cases h; exact ⟨Tryz.func99, Tryz.call99⟩
  · cases h; exact ⟨Tryz.func100, Tryz.call100⟩
  · cases h; exact ⟨Tryz.func101, Tryz.call101⟩
  · cases h; exact ⟨Tryz.func114, Tryz.call114⟩
  · cases h; exact ⟨Tryz.func127, Tryz.call127⟩
  · cases h; exact ⟨Tryz.func128, Tryz.call128⟩
  · cases h; exact ⟨Tryz.func123, Tryz.call123⟩
  · cases h; exact ⟨Tryz.func124, Tryz.call124⟩
  · cases h; exact ⟨Tryz.func125, Tryz.call125⟩
  · cases h; exact ⟨Tryz.func116, Tryz.call116⟩
  · cases h; exact ⟨Tryz.func115, Tryz.call115⟩
  · cases h; exact ⟨Tryz.func117, Tryz.call117⟩
  · cases h; exact ⟨Tryz.func118, Tryz.call118⟩
  · cases h

set_option maxRecDepth 100000 in
theorem EV_ok : EnvOk Tryz.prog EV where
  code := codeEV_ok
  prim := fun f g h => by
    have h : primEV f = some g := h
    unfold primEV at h
    split at h
    · cases h; exact primParse_sound
    · cases h; exact primFmtU_sound
    · cases h; exact primParseU_sound
    · cases h; exact primCheck_sound
    · cases h; exact primString_sound
    · cases h; exact primGrow_sound
    · cases h

def lb (l : List UInt8) : List AV := l.map fun b => .lit (.int .u8 b.toNat)
theorem lb_append (a b : List UInt8) : lb (a ++ b) = lb a ++ lb b := by simp [lb]
theorem lb_length (l : List UInt8) : (lb l).length = l.length := by simp [lb]
theorem byteAV_lb (s : ByteArray) : byteAV s = lb s.data.toList := rfl
theorem bytesAV_lb : ∀ l : List UInt8, bytesAV (lb l) = some l
  | [] => rfl
  | b :: l => by
    have hb : (0 : Int) ≤ (b.toNat : Int) ∧ (b.toNat : Int) < 256 := ⟨by omega, by have := b.toNat_lt; omega⟩
    show (if 0 ≤ (b.toNat : Int) ∧ (b.toNat : Int) < 256 then (bytesAV (lb l)).map (UInt8.ofNat (b.toNat : Int).toNat :: ·) else none) = _
    rw [if_pos hb, bytesAV_lb l]
    simp

def BufAt (σ0 σ : Sto) (id : Nat) (v : AV) (l : List UInt8) : Prop := (l = [] ∧ v = .sl [] .full) ∨ ∃ g, v = .asl g 0 l.length 1 ∧ g ≠ id ∧ σ0.length ≤ g ∧ (σ[g]? = some (.cells (lb l) 5) ∨ σ[g]? = some (.buf (lb l) 5))
def BldAt (σ0 σ : Sto) (id : Nat) (l : List UInt8) : Prop := σ0.length ≤ id ∧ ∃ v, σ[id]? = some (.cells [.ptr id 0, v] 97) ∧ BufAt σ0 σ id v l

/-- a text behind what a buffer holds -/
theorem app_str (σ0 σ : Sto) (id : Nat) (v : AV) (l : List UInt8) (s : ByteArray) (cs : List AV) (hid : σ[id]? = some (.cells cs 97)) (h0 : σ0.length ≤ id) (hb : BufAt σ0 σ id v l) (hext : Ext σ0 σ) (hlen : l.length + s.size ≤ 140737488355328) :
    ∃ (v' : AV) (σ' : Sto) (acc : Acc), Ext σ0 σ' ∧ BufAt σ0 σ' id v' (l ++ s.data.toList) ∧ σ'[id]? = some (.cells cs 97) ∧ v'.one = true ∧
      ∀ (tm : List AV) (ds : Option Tmp) (ty : TypeId) (po : String) (af : Array Edge) (gu : Option (Nat × Bool)) (x y : Operand), evx tm x = some v → evx tm y = some (.lit (.string s)) →
        evStep Tryz.prog [95] (evx tm) σ ⟨ds, .call ⟨.builtin .append, #[x, y], #[95, 9]⟩, ty, po, af, gu⟩ = some (.val v' σ' acc) := by
  have hss : s.data.toList.length = s.size := by rw [Array.length_toList]; rfl
  have hz : ((Tryz.prog.info? 5).bind fun x => x.zero) = some (.int .u8 0) := zeroOf_5
  have step : ∀ (tm : List AV) (ds : Option Tmp) (ty : TypeId) (po : String) (af : Array Edge) (gu : Option (Nat × Bool)) (x y : Operand), evStep Tryz.prog [95] (evx tm) σ ⟨ds, .call ⟨.builtin .append, #[x, y], #[95, 9]⟩, ty, po, af, gu⟩ = evAppendS Tryz.prog (evx tm) σ 95 9 x y := by
    intro tm ds ty po af gu x y
    unfold evStep
    rw [if_pos (by simp [mutOp])]
    simp [evMut]
  rcases hb with ⟨rfl, rfl⟩ | ⟨g, rfl, hg1, hg2, hg3⟩
  · by_cases hs0 : s.size = 0
    · have hnil : s.data.toList = [] := List.eq_nil_of_length_eq_zero (by omega)
      refine ⟨.sl [] .full, σ, .pure, hext, .inl ⟨by rw [hnil]; rfl, rfl⟩, hid, rfl, fun tm ds ty po af gu x y hx hy => ?_⟩
      rw [step]
      unfold evAppendS
      simp only [Tryz.underlying95, Tryz.underlying9, hx, hy, szOf_5, bytesOf_5, hz]
      simp [hs0]
    · have hs1 : s.size ≤ 140737488355328 := by omega
      refine ⟨.asl σ.length 0 s.size 1, σ ++ [.cells (byteAV s) 5], .grows none σ.length, hext.push _, .inr ⟨σ.length, by simp [hss], fun e => ?_, hext.len, .inl ?_⟩, ?_, rfl, fun tm ds ty po af gu x y hx hy => ?_⟩
      · have := (List.getElem?_eq_some_iff.1 hid).1; omega
      · rw [List.getElem?_append_right (Nat.le_refl _)]; simp [byteAV_lb]
      · rw [List.getElem?_append_left (List.getElem?_eq_some_iff.1 hid).1]; exact hid
      · rw [step]
        unfold evAppendS
        simp only [Tryz.underlying95, Tryz.underlying9, hx, hy, szOf_5, bytesOf_5, hz]
        simp [hs0, hs1]
  · have hs1 : s.size ≤ 140737488355328 := by omega
    by_cases hs0 : s.size = 0
    · have hnil : s.data.toList = [] := List.eq_nil_of_length_eq_zero (by omega)
      refine ⟨.asl g 0 l.length 1, σ, .pure, hext, .inr ⟨g, by rw [hnil, List.append_nil], hg1, hg2, by rw [hnil, List.append_nil]; exact hg3⟩, hid, rfl, fun tm ds ty po af gu x y hx hy => ?_⟩
      rw [step]
      unfold evAppendS
      simp only [Tryz.underlying95, Tryz.underlying9, hx, hy, szOf_5, bytesOf_5, hz]
      simp [hs0]
    · have hle : l.length + s.size = (l ++ s.data.toList).length := by rw [List.length_append, hss]
      rcases hg3 with hg3 | hg3
      · have lg := (List.getElem?_eq_some_iff.1 hg3).1
        refine ⟨.asl σ.length 0 (l.length + s.size) 1, σ.set g .dead ++ [.cells (lb l ++ byteAV s) 5], .grows (some g) σ.length, (hext.set hg2).push _, .inr ⟨σ.length, by rw [hle], fun e => ?_, hext.len, .inl ?_⟩, ?_, rfl, fun tm ds ty po af gu x y hx hy => ?_⟩
        · have := (List.getElem?_eq_some_iff.1 hid).1; omega
        · rw [List.getElem?_append_right (by simp)]; simp [byteAV_lb, lb_append]
        · rw [List.getElem?_append_left (by simp; exact (List.getElem?_eq_some_iff.1 hid).1), List.getElem?_set_ne hg1]; exact hid
        · rw [step]
          unfold evAppendS
          simp only [Tryz.underlying95, Tryz.underlying9, hx, hy, szOf_5, bytesOf_5, hz]
          simp [hs0, hs1, hlen, hg3, lb_length]
          rw [List.take_of_length_le (by rw [lb_length]; exact Nat.le_refl _)]
      · have lg := (List.getElem?_eq_some_iff.1 hg3).1
        refine ⟨.asl σ.length 0 (l.length + s.size) 1, σ.set g .dead ++ [.buf (lb l ++ byteAV s) 5], .grows (some g) σ.length, (hext.set hg2).push _, .inr ⟨σ.length, by rw [hle], fun e => ?_, hext.len, .inr ?_⟩, ?_, rfl, fun tm ds ty po af gu x y hx hy => ?_⟩
        · have := (List.getElem?_eq_some_iff.1 hid).1; omega
        · rw [List.getElem?_append_right (by simp)]; simp [byteAV_lb, lb_append]
        · rw [List.getElem?_append_left (by simp; exact (List.getElem?_eq_some_iff.1 hid).1), List.getElem?_set_ne hg1]; exact hid
        · rw [step]
          unfold evAppendS
          simp only [Tryz.underlying95, Tryz.underlying9, hx, hy, szOf_5, bytesOf_5, hz]
          simp [hs0, hs1, hlen, hg3, lb_length]

end Go.Proofs.YtcjjmejmpdhikaaGreatDoor
