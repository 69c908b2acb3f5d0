/-
  DERIVED: THE SHELF's CONTRACTS AT THIS DUMP, IN PLAIN WORDS (tools/lay-plain.mjs out of 'TrydShelf.lean', which tools/lay-shelf.mjs wrote): THE SAME DECLARATIONS UNDER THE SAME NAMES: 'import', 'namespace', 'open', 'def', 'theorem' AND NOTHING ELSE: no command of the shelf's: FOR A HAND-IN. Each laying: the table of numbers ('.._ren') and one theorem, a field a fact of the dump's own or the kernel's comparison; each contract: ONE APPLICATION.
-/
import Derived.Shelf.Strings.Search3
import Derived.Shelf.Strings.Count
import Derived.Shelf.Strings.Prefix
import Derived.Shelf.Bits.Mul64
import Derived.Test.YtocaickbfeaiaaaDoorProg
import Derived.Test.YtocaickbfeaiaaaDoorEvGrow2
import Derived.Test.YtocaickbfeaiaaaDoorLexSpec
namespace Go.Proofs
open Go.Shelf
def Tryd.lays212_ren : Go.Shelf.Ren := ⟨fun | 212 => 20 | 263 => 41 | 264 => 42 | n => n, fun | 46 => 53 | 51 => 87 | 146 => 88 | 53 => 90 | 148 => 91 | n => n, fun | n => n⟩
theorem Tryd.lays212 : Go.Proofs.Lays.n212 Tryd.prog Tryd.lays212_ren := {
  mixed := by kernel_rfl
  f212 := Tryd.func20.trans (congrArg some (by kernel_rfl))
  f263 := Tryd.func41.trans (congrArg some (by kernel_rfl))
  f264 := Tryd.func42.trans (congrArg some (by kernel_rfl))
  t46 := Tryd.underlying53
  a46 := Tryd.isAgg53
  z46 := Tryd.sizeOf53
  v46 := Tryd.zeroValue53
  t51 := Tryd.underlying87
  a51 := Tryd.isAgg87
  z51 := Tryd.sizeOf87
  v51 := Tryd.zeroValue87
  t53 := Tryd.underlying90
  a53 := Tryd.isAgg90
  z53 := Tryd.sizeOf90
  v53 := Tryd.zeroValue90
  t146 := Tryd.underlying88
  a146 := Tryd.isAgg88
  z146 := Tryd.sizeOf88
  v146 := Tryd.zeroValue88
  t148 := Tryd.underlying91
  a148 := Tryd.isAgg91
  z148 := Tryd.sizeOf91
  v148 := Tryd.zeroValue91 }
def Tryd.lays264_ren : Go.Shelf.Ren := ⟨fun | 264 => 42 | n => n, fun | 53 => 90 | 46 => 53 | n => n, fun | n => n⟩
theorem Tryd.lays264 : Go.Proofs.Lays.n264 Tryd.prog Tryd.lays264_ren := {
  mixed := by kernel_rfl
  f264 := Tryd.func42.trans (congrArg some (by kernel_rfl))
  t46 := Tryd.underlying53
  a46 := Tryd.isAgg53
  z46 := Tryd.sizeOf53
  v46 := Tryd.zeroValue53
  t53 := Tryd.underlying90
  a53 := Tryd.isAgg90
  z53 := Tryd.sizeOf90
  v53 := Tryd.zeroValue90 }
def Tryd.lays143_ren : Go.Shelf.Ren := ⟨fun | 143 => 16 | 219 => 39 | 217 => 50 | 225 => 51 | 224 => 52 | 267 => 53 | 266 => 55 | 314 => 56 | n => n, fun | 9 => 9 | 3 => 3 | 4 => 4 | 5 => 5 | 46 => 53 | 146 => 88 | 51 => 87 | n => n, fun | 1 => 0 | n => n⟩
theorem Tryd.lays143 : Go.Proofs.Lays.n143 Tryd.prog Tryd.lays143_ren := {
  mixed := by kernel_rfl
  f143 := Tryd.func16.trans (congrArg some (by kernel_rfl))
  f217 := Tryd.func50.trans (congrArg some (by kernel_rfl))
  f219 := Tryd.func39.trans (congrArg some (by kernel_rfl))
  f224 := Tryd.func52.trans (congrArg some (by kernel_rfl))
  f225 := Tryd.func51.trans (congrArg some (by kernel_rfl))
  f266 := Tryd.func55.trans (congrArg some (by kernel_rfl))
  f267 := Tryd.func53.trans (congrArg some (by kernel_rfl))
  f314 := Tryd.func56.trans (congrArg some (by kernel_rfl))
  t3 := Tryd.underlying3
  a3 := Tryd.isAgg3
  z3 := Tryd.sizeOf3
  v3 := Tryd.zeroValue3
  t4 := Tryd.underlying4
  a4 := Tryd.isAgg4
  z4 := Tryd.sizeOf4
  v4 := Tryd.zeroValue4
  t5 := Tryd.underlying5
  a5 := Tryd.isAgg5
  z5 := Tryd.sizeOf5
  v5 := Tryd.zeroValue5
  t9 := Tryd.underlying9
  a9 := Tryd.isAgg9
  z9 := Tryd.sizeOf9
  v9 := Tryd.zeroValue9
  t46 := Tryd.underlying53
  a46 := Tryd.isAgg53
  z46 := Tryd.sizeOf53
  v46 := Tryd.zeroValue53
  t51 := Tryd.underlying87
  a51 := Tryd.isAgg87
  z51 := Tryd.sizeOf87
  v51 := Tryd.zeroValue87
  t146 := Tryd.underlying88
  a146 := Tryd.isAgg88
  z146 := Tryd.sizeOf88
  v146 := Tryd.zeroValue88
  g1 := by kernel_rfl }
open Go.RowKit Go.Lib in
/-- strings.Index: "Index returns the index of the first instance of substr in s, or -1 if substr is not present in s.": AT A substr OF ONE BYTE c: IT RETURNS 'Lib.indexByte s c'; the world is as it was. (LAID: no walk: one application.) -/
theorem Tryd.strings_Index_one (s : ByteArray) (c : UInt8) (w : World) :
    Calls Tryd.prog 16 #[.string s, .string ⟨#[c]⟩] w fun e w' => e = .returned (.int .i64 (Lib.indexByte s.data.toList c)) ∧ w' = w := Any.strings_Index_one Tryd.lays143 s c w
def Tryd.lays138_ren : Go.Shelf.Ren := ⟨fun | 138 => 14 | 195 => 35 | 218 => 36 | 143 => 16 | 219 => 39 | 217 => 50 | 225 => 51 | 224 => 52 | 267 => 53 | 266 => 55 | 314 => 56 | n => n, fun | 9 => 9 | 3 => 3 | 4 => 4 | 5 => 5 | 0 => 0 | 46 => 53 | 146 => 88 | 51 => 87 | n => n, fun | 1 => 0 | n => n⟩
theorem Tryd.lays138 : Go.Proofs.Lays.n138 Tryd.prog Tryd.lays138_ren := {
  mixed := by kernel_rfl
  f138 := Tryd.func14.trans (congrArg some (by kernel_rfl))
  f143 := Tryd.func16.trans (congrArg some (by kernel_rfl))
  f195 := Tryd.func35.trans (congrArg some (by kernel_rfl))
  f217 := Tryd.func50.trans (congrArg some (by kernel_rfl))
  f218 := Tryd.func36.trans (congrArg some (by kernel_rfl))
  f219 := Tryd.func39.trans (congrArg some (by kernel_rfl))
  f224 := Tryd.func52.trans (congrArg some (by kernel_rfl))
  f225 := Tryd.func51.trans (congrArg some (by kernel_rfl))
  f266 := Tryd.func55.trans (congrArg some (by kernel_rfl))
  f267 := Tryd.func53.trans (congrArg some (by kernel_rfl))
  f314 := Tryd.func56.trans (congrArg some (by kernel_rfl))
  t0 := Tryd.underlying0
  a0 := Tryd.isAgg0
  z0 := Tryd.sizeOf0
  v0 := Tryd.zeroValue0
  t3 := Tryd.underlying3
  a3 := Tryd.isAgg3
  z3 := Tryd.sizeOf3
  v3 := Tryd.zeroValue3
  t4 := Tryd.underlying4
  a4 := Tryd.isAgg4
  z4 := Tryd.sizeOf4
  v4 := Tryd.zeroValue4
  t5 := Tryd.underlying5
  a5 := Tryd.isAgg5
  z5 := Tryd.sizeOf5
  v5 := Tryd.zeroValue5
  t9 := Tryd.underlying9
  a9 := Tryd.isAgg9
  z9 := Tryd.sizeOf9
  v9 := Tryd.zeroValue9
  t46 := Tryd.underlying53
  a46 := Tryd.isAgg53
  z46 := Tryd.sizeOf53
  v46 := Tryd.zeroValue53
  t51 := Tryd.underlying87
  a51 := Tryd.isAgg87
  z51 := Tryd.sizeOf87
  v51 := Tryd.zeroValue87
  t146 := Tryd.underlying88
  a146 := Tryd.isAgg88
  z146 := Tryd.sizeOf88
  v146 := Tryd.zeroValue88
  g1 := by kernel_rfl }
open Go.RowKit Go.Lib in
/-- strings.Count AT A substr OF ONE BYTE ('hp'): "Count counts the number of non-overlapping instances of substr in s.": IT RETURNS 'Lib.countByte s (that byte)'; the world is as it was. ✋ NO CONTRACT HERE YET at an empty substr (utf8.RuneCountInString) or at a longer one (a loop over strings.Index). (LAID: no walk: one application.) -/
theorem Tryd.strings_Count_one (s : ByteArray) (c : UInt8) (w : World) :
    Calls Tryd.prog 14 #[.string s, .string ⟨#[c]⟩] w fun e w' => e = .returned (.int .i64 (Lib.countByte s.data.toList c)) ∧ w' = w := Any.strings_Count_one Tryd.lays138 s c w
def Tryd.lays99_ren : Go.Shelf.Ren := ⟨fun | 99 => 21 | 206 => 43 | n => n, fun | 9 => 9 | 4 => 4 | 3 => 3 | n => n, fun | n => n⟩
theorem Tryd.lays99 : Go.Proofs.Lays.n99 Tryd.prog Tryd.lays99_ren := {
  mixed := by kernel_rfl
  f99 := Tryd.func21.trans (congrArg some (by kernel_rfl))
  f206 := Tryd.func43.trans (congrArg some (by kernel_rfl))
  t3 := Tryd.underlying3
  a3 := Tryd.isAgg3
  z3 := Tryd.sizeOf3
  v3 := Tryd.zeroValue3
  t4 := Tryd.underlying4
  a4 := Tryd.isAgg4
  z4 := Tryd.sizeOf4
  v4 := Tryd.zeroValue4
  t9 := Tryd.underlying9
  a9 := Tryd.isAgg9
  z9 := Tryd.sizeOf9
  v9 := Tryd.zeroValue9 }
open Go.RowKit Go.Lib in
/-- strings.HasPrefix: "HasPrefix reports whether the string s begins with prefix.": IT RETURNS 'Lib.hasPrefix s prefix'; the world is as it was. (LAID: no walk: one application.) -/
theorem Tryd.strings_HasPrefix (s p : ByteArray) (w : World) :
    Calls Tryd.prog 21 #[.string s, .string p] w fun e w' => e = .returned (.bool (Lib.hasPrefix s.data.toList p.data.toList)) ∧ w' = w := Any.strings_HasPrefix Tryd.lays99 s p w
open Go.RowKit Go.Lib in
theorem Tryd.bits_Mul64 (x y : Nat) (hx : x < 18446744073709551616) (hy : y < 18446744073709551616) (w : World) :
    Calls Tryd.prog 42 #[.int .u64 x, .int .u64 y] w fun e w' => e = .returned (.tuple #[.int .u64 ((x * y / 18446744073709551616 : Nat) : Int), .int .u64 ((x * y % 18446744073709551616 : Nat) : Int)]) ∧ w' = w := Any.bits_Mul64 Tryd.lays264 x y hx hy w
open Go.RowKit Go.Lib in
/-- math/bits.Mul: "Mul returns the full-width product of x and y": on a machine of 64 bits: Mul64's. (LAID: no walk: one application.) -/
theorem Tryd.bits_Mul (x y : Nat) (hx : x < 18446744073709551616) (hy : y < 18446744073709551616) (w : World) :
    Calls Tryd.prog 20 #[.int .u64 x, .int .u64 y] w fun e w' => e = .returned (.tuple #[.int .u64 ((x * y / 18446744073709551616 : Nat) : Int), .int .u64 ((x * y % 18446744073709551616 : Nat) : Int)]) ∧ w' = w := Any.bits_Mul Tryd.lays212 x y hx hy w
end Go.Proofs

namespace Go.Proofs.YtocaickbfeaiaaaDoor
set_option linter.unusedSimpArgs false
set_option linter.unusedVariables false
open Go.RowKit

def primIndex (args : List AV) (σ : Sto) : Option (ARes × Sto) :=
  match args with
  | [.lit (.string s), .lit (.string p)] => (match p.data.toList with | [c] => some (.ret (.lit (.int .i64 (Lib.indexByte s.data.toList c))), σ) | _ => none)
  | _ => none
def primCount (args : List AV) (σ : Sto) : Option (ARes × Sto) :=
  match args with
  | [.lit (.string s), .lit (.string p)] => (match p.data.toList with | [c] => some (.ret (.lit (.int .i64 (Lib.countByte s.data.toList c))), σ) | _ => none)
  | _ => none
def primMul (args : List AV) (σ : Sto) : Option (ARes × Sto) :=
  match args with
  | [.lit (.int .u64 x), .lit (.int .u64 y)] =>
    if 0 ≤ x ∧ x < 18446744073709551616 ∧ 0 ≤ y ∧ y < 18446744073709551616 then
      some (.ret (.tup [.lit (.int .u64 ((x.toNat * y.toNat / 18446744073709551616 : Nat) : Int)), .lit (.int .u64 ((x.toNat * y.toNat % 18446744073709551616 : Nat) : Int))]), σ)
    else none
  | _ => none

theorem str_one {p : ByteArray} {c : UInt8} (h : p.data.toList = [c]) : p = ⟨#[c]⟩ := bytes_ext (by rw [h])

theorem primIndex_sound : CallSound Tryd.prog fun f args σ => if f = 16 then primIndex args σ else none := by
  intro f args σ r σ' hr ι Z w us hM hl hargs
  dsimp only at hr
  split at hr
  · rename_i e
    subst e
    unfold primIndex at hr
    split at hr
    · rename_i s p
      split at hr
      · rename_i c hp
        cases hr
        obtain ⟨u, u2, rfl⟩ := two_args hl
        have hu := hargs 0 _ u rfl rfl
        have hu2 := hargs 1 _ u2 rfl rfl
        cases hu; cases hu2
        rw [str_one hp]
        refine ⟨Tryd.call16 _ _, (Tryd.strings_Index_one s c w).mono ?_⟩
        rintro e w' ⟨rfl, rfl⟩
        exact ⟨ι, Z, .refl _ _ _, hM, _, rfl, .lit _ rfl⟩
      · cases hr
    · cases hr
  · cases hr

theorem primCount_sound : CallSound Tryd.prog fun f args σ => if f = 14 then primCount args σ else none := by
  intro f args σ r σ' hr ι Z w us hM hl hargs
  dsimp only at hr
  split at hr
  · rename_i e
    subst e
    unfold primCount at hr
    split at hr
    · rename_i s p
      split at hr
      · rename_i c hp
        cases hr
        obtain ⟨u, u2, rfl⟩ := two_args hl
        have hu := hargs 0 _ u rfl rfl
        have hu2 := hargs 1 _ u2 rfl rfl
        cases hu; cases hu2
        rw [str_one hp]
        refine ⟨Tryd.call14 _ _, (Tryd.strings_Count_one s c w).mono ?_⟩
        rintro e w' ⟨rfl, rfl⟩
        exact ⟨ι, Z, .refl _ _ _, hM, _, rfl, .lit _ rfl⟩
      · cases hr
    · cases hr
  · cases hr

theorem primMul_sound : CallSound Tryd.prog fun f args σ => if f = 20 then primMul args σ else none := by
  intro f args σ r σ' hr ι Z w us hM hl hargs
  dsimp only at hr
  split at hr
  · rename_i e
    subst e
    unfold primMul at hr
    split at hr
    · rename_i x y
      split at hr
      · rename_i hc
        obtain ⟨h1, h2, h3, h4⟩ := hc
        cases hr
        obtain ⟨m, rfl⟩ : ∃ m : Nat, x = m := ⟨x.toNat, by omega⟩
        obtain ⟨n, rfl⟩ : ∃ m : Nat, y = m := ⟨y.toNat, by omega⟩
        obtain ⟨u, u2, rfl⟩ := two_args hl
        have hu := hargs 0 _ u rfl rfl
        have hu2 := hargs 1 _ u2 rfl rfl
        cases hu; cases hu2
        refine ⟨Tryd.call20 _ _, (Tryd.bits_Mul m n (by omega) (by omega) w).mono ?_⟩
        rintro e w' ⟨rfl, rfl⟩
        refine ⟨ι, Z, .refl _ _ _, hM, _, rfl, .tup _ _ rfl fun i d u hd hu => ?_⟩
        rcases i with _ | _ | i
        · simp at hd hu; subst hd; subst hu; exact .lit _ rfl
        · simp at hd hu; subst hd; subst hu; exact .lit _ rfl
        · simp at hd
      · cases hr
    · cases hr
  · cases hr

noncomputable def codeS (f : FuncId) : Option Func :=
  match f with
  | 6 => some Tryd.f6
  | 5 => some Tryd.f5
  | 17 => some Tryd.f17
  | 22 => some Tryd.f22
  | _ => none
def primS (f : FuncId) : Option (List AV → Sto → Option (ARes × Sto)) :=
  match f with
  | 37 => some primCheck
  | 19 => some primString
  | 15 => some primGrow
  | 16 => some primIndex
  | 14 => some primCount
  | 20 => some primMul
  | _ => none
def msS (f : FuncId) : List TypeId :=
  match f with
  | 17 => [25]
  | _ => []
noncomputable def ES : Env := { code := codeS, prim := primS, ms := msS }

theorem ES_ok : EnvOk Tryd.prog ES where
  code := fun f fn h => by
    have h : codeS f = some fn := h
    unfold codeS at h
    split at h
    · cases h; exact ⟨Tryd.func6, Tryd.call6⟩
    · cases h; exact ⟨Tryd.func5, Tryd.call5⟩
    · cases h; exact ⟨Tryd.func17, Tryd.call17⟩
    · cases h; exact ⟨Tryd.func22, Tryd.call22⟩
    · cases h
  prim := fun f g h => by
    have h : primS f = some g := h
    unfold primS at h
    split at h
    · cases h; exact primCheck_sound
    · cases h; exact primString_sound
    · cases h; exact primGrow_sound
    · cases h; exact primIndex_sound
    · cases h; exact primCount_sound
    · cases h; exact primMul_sound
    · cases h

/-! A builder of the call's own: what it holds. -/
def lb (l : List UInt8) : List AV := l.map fun b => .lit (.int .u8 b.toNat)
theorem lb_append (a b : List UInt8) : lb (a ++ b) = lb a ++ lb b := by simp [lb]
theorem lb_length (l : List UInt8) : (lb l).length = l.length := by simp [lb]
theorem byteAV_lb (s : ByteArray) : byteAV s = lb s.data.toList := rfl
theorem bytesAV_lb : ∀ l : List UInt8, bytesAV (lb l) = some l
  | [] => rfl
  | b :: l => by
    have hb : (0 : Int) ≤ (b.toNat : Int) ∧ (b.toNat : Int) < 256 := ⟨by omega, by have := b.toNat_lt; omega⟩
    show (if 0 ≤ (b.toNat : Int) ∧ (b.toNat : Int) < 256 then (bytesAV (lb l)).map (UInt8.ofNat (b.toNat : Int).toNat :: ·) else none) = _
    rw [if_pos hb, bytesAV_lb l]
    simp

def BufAt (σ0 σ : Sto) (id : Nat) (v : AV) (l : List UInt8) : Prop := (l = [] ∧ v = .sl [] .full) ∨ ∃ g, v = .asl g 0 l.length 1 ∧ g ≠ id ∧ σ0.length ≤ g ∧ (σ[g]? = some (.cells (lb l) 5) ∨ σ[g]? = some (.buf (lb l) 5))
def BldAt (σ0 σ : Sto) (id : Nat) (l : List UInt8) : Prop := σ0.length ≤ id ∧ ∃ v, σ[id]? = some (.cells [.ptr id 0, v] 44) ∧ BufAt σ0 σ id v l

/-- a text behind what a buffer holds -/
theorem app_str (σ0 σ : Sto) (id : Nat) (v : AV) (l : List UInt8) (s : ByteArray) (cs : List AV) (hid : σ[id]? = some (.cells cs 44)) (h0 : σ0.length ≤ id) (hb : BufAt σ0 σ id v l) (hext : Ext σ0 σ) (hlen : l.length + s.size ≤ 140737488355328) :
    ∃ (v' : AV) (σ' : Sto) (acc : Acc), Ext σ0 σ' ∧ BufAt σ0 σ' id v' (l ++ s.data.toList) ∧ σ'[id]? = some (.cells cs 44) ∧ v'.one = true ∧
      ∀ (tm : List AV) (ds : Option Tmp) (ty : TypeId) (po : String) (af : Array Edge) (gu : Option (Nat × Bool)) (x y : Operand), evx tm x = some v → evx tm y = some (.lit (.string s)) →
        evStep Tryd.prog [25] (evx tm) σ ⟨ds, .call ⟨.builtin .append, #[x, y], #[25, 9]⟩, ty, po, af, gu⟩ = some (.val v' σ' acc) := by
  have hss : s.data.toList.length = s.size := by rw [Array.length_toList]; rfl
  have hz : ((Tryd.prog.info? 5).bind fun x => x.zero) = some (.int .u8 0) := zeroOf_5
  have step : ∀ (tm : List AV) (ds : Option Tmp) (ty : TypeId) (po : String) (af : Array Edge) (gu : Option (Nat × Bool)) (x y : Operand), evStep Tryd.prog [25] (evx tm) σ ⟨ds, .call ⟨.builtin .append, #[x, y], #[25, 9]⟩, ty, po, af, gu⟩ = evAppendS Tryd.prog (evx tm) σ 25 9 x y := by
    intro tm ds ty po af gu x y
    unfold evStep
    rw [if_pos (by simp [mutOp])]
    simp [evMut]
  rcases hb with ⟨rfl, rfl⟩ | ⟨g, rfl, hg1, hg2, hg3⟩
  · by_cases hs0 : s.size = 0
    · have hnil : s.data.toList = [] := List.eq_nil_of_length_eq_zero (by omega)
      refine ⟨.sl [] .full, σ, .pure, hext, .inl ⟨by rw [hnil]; rfl, rfl⟩, hid, rfl, fun tm ds ty po af gu x y hx hy => ?_⟩
      rw [step]
      unfold evAppendS
      simp only [Tryd.underlying25, Tryd.underlying9, hx, hy, szOf_5, bytesOf_5, hz]
      simp [hs0]
    · have hs1 : s.size ≤ 140737488355328 := by omega
      refine ⟨.asl σ.length 0 s.size 1, σ ++ [.cells (byteAV s) 5], .grows none σ.length, hext.push _, .inr ⟨σ.length, by simp [hss], fun e => ?_, hext.len, .inl ?_⟩, ?_, rfl, fun tm ds ty po af gu x y hx hy => ?_⟩
      · have := (List.getElem?_eq_some_iff.1 hid).1; omega
      · rw [List.getElem?_append_right (Nat.le_refl _)]; simp [byteAV_lb]
      · rw [List.getElem?_append_left (List.getElem?_eq_some_iff.1 hid).1]; exact hid
      · rw [step]
        unfold evAppendS
        simp only [Tryd.underlying25, Tryd.underlying9, hx, hy, szOf_5, bytesOf_5, hz]
        simp [hs0, hs1]
  · have hs1 : s.size ≤ 140737488355328 := by omega
    by_cases hs0 : s.size = 0
    · have hnil : s.data.toList = [] := List.eq_nil_of_length_eq_zero (by omega)
      refine ⟨.asl g 0 l.length 1, σ, .pure, hext, .inr ⟨g, by rw [hnil, List.append_nil], hg1, hg2, by rw [hnil, List.append_nil]; exact hg3⟩, hid, rfl, fun tm ds ty po af gu x y hx hy => ?_⟩
      rw [step]
      unfold evAppendS
      simp only [Tryd.underlying25, Tryd.underlying9, hx, hy, szOf_5, bytesOf_5, hz]
      simp [hs0]
    · have hle : l.length + s.size = (l ++ s.data.toList).length := by rw [List.length_append, hss]
      rcases hg3 with hg3 | hg3
      · have lg := (List.getElem?_eq_some_iff.1 hg3).1
        refine ⟨.asl σ.length 0 (l.length + s.size) 1, σ.set g .dead ++ [.cells (lb l ++ byteAV s) 5], .grows (some g) σ.length, (hext.set hg2).push _, .inr ⟨σ.length, by rw [hle], fun e => ?_, hext.len, .inl ?_⟩, ?_, rfl, fun tm ds ty po af gu x y hx hy => ?_⟩
        · have := (List.getElem?_eq_some_iff.1 hid).1; omega
        · rw [List.getElem?_append_right (by simp)]; simp [byteAV_lb, lb_append]
        · rw [List.getElem?_append_left (by simp; exact (List.getElem?_eq_some_iff.1 hid).1), List.getElem?_set_ne hg1]; exact hid
        · rw [step]
          unfold evAppendS
          simp only [Tryd.underlying25, Tryd.underlying9, hx, hy, szOf_5, bytesOf_5, hz]
          simp [hs0, hs1, hlen, hg3, lb_length]
          rw [List.take_of_length_le (by rw [lb_length]; exact Nat.le_refl _)]
      · have lg := (List.getElem?_eq_some_iff.1 hg3).1
        refine ⟨.asl σ.length 0 (l.length + s.size) 1, σ.set g .dead ++ [.buf (lb l ++ byteAV s) 5], .grows (some g) σ.length, (hext.set hg2).push _, .inr ⟨σ.length, by rw [hle], fun e => ?_, hext.len, .inr ?_⟩, ?_, rfl, fun tm ds ty po af gu x y hx hy => ?_⟩
        · have := (List.getElem?_eq_some_iff.1 hid).1; omega
        · rw [List.getElem?_append_right (by simp)]; simp [byteAV_lb, lb_append]
        · rw [List.getElem?_append_left (by simp; exact (List.getElem?_eq_some_iff.1 hid).1), List.getElem?_set_ne hg1]; exact hid
        · rw [step]
          unfold evAppendS
          simp only [Tryd.underlying25, Tryd.underlying9, hx, hy, szOf_5, bytesOf_5, hz]
          simp [hs0, hs1, hlen, hg3, lb_length]

end Go.Proofs.YtocaickbfeaiaaaDoor
