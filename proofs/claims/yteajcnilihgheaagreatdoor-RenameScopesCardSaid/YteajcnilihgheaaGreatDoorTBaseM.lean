/-
 EV: functions of Go's library taken on their contracts: strconv.Itoa, strings.LastIndexByte, strings.Trim; objects that stay (X). (Itoa and ExtX as in tplT.)
-/
import Derived.Test.YteajcnilihgheaaGreatDoorEvDeferM
import Derived.Test.YteajcnilihgheaaGreatDoorRw6M
import Derived.Lib.RowBridge
import Derived.Lib.SlTrimSet
import Derived.Lib.LastIndexByte
namespace Go.Proofs.YteajcnilihgheaaGreatDoor
set_option linter.unusedSimpArgs false
set_option linter.unusedVariables false
section
open Go.RowKit Go.Sort
section
variable {P : Program} {ι : List Nat} {Z : Nat → Nat → Prop} {w : World}
theorem Evo.ofBelow {σ : Sto} (h : Match σ ι Z w) {w' : World} (hb : Below w.heap.size w w') : Evo ι Z w ι Z w' where
 pre := fun _ _ h => h
 img := fun id _ h _ => ⟨id, h⟩
 zmono := fun _ _ h => h
 zsame := fun b j e => World.cell?_of_block (hb.block b (h.zlt b j e))
 csz := fun b hl => by unfold cellsz; rw [hb.block b hl]
 size := hb.size
 keep := fun b hl _ => hb.block b hl
 os := hb.os
 tape := hb.tape
 output := hb.output
 znew := fun _ _ h _ => .inl h
theorem Match.below {σ : Sto} (h : Match σ ι Z w) {w' : World} (hb : Below w.heap.size w w') : Match σ ι Z w' := by
 refine h.go (Evo.ofBelow h hb) h.len (fun id o b ho hb' hl => .inr ⟨ho, hb.block b ((h.obj id o b ho hb').lt hl), fun _ hj => hj⟩) h.inj fun b j hj => Nat.lt_of_lt_of_le (h.zlt b j hj) hb.size
end
theorem tab_pow10 {σ : Sto} {ι : List Nat} {Z : Nat → Nat → Prop} {w : World} (hM : Match σ ι Z w) : Lib.TabIs Tryz.prog w "internal/strconv.uint64pow10" .u64 Lib.pow10Tab := by
 obtain ⟨h1, h2, h3⟩ := hM.glob 1 _ rfl
 have hg : Tryz.prog.globalNamed "internal/strconv.uint64pow10" = some 1 := by kernel_rfl
 unfold Lib.TabIs World.var?
 rw [hg, Option.bind_some]
 generalize hl : ([.int .u64 1, .int .u64 10, .int .u64 100, .int .u64 1000, .int .u64 10000, .int .u64 100000, .int .u64 1000000, .int .u64 10000000, .int .u64 100000000, .int .u64 1000000000, .int .u64 10000000000, .int .u64 100000000000, .int .u64 1000000000000, .int .u64 10000000000000, .int .u64 100000000000000, .int .u64 1000000000000000, .int .u64 10000000000000000, .int .u64 100000000000000000, .int .u64 1000000000000000000, .int .u64 10000000000000000000] : List Value) = l at h1 h3
 have hl2 : (Lib.pow10Tab.map fun z => Value.int .u64 z) = l := by rw [← hl]; kernel_rfl
 rw [hl2]
 have hll : l.length = 20 := by rw [← hl]; rfl
 unfold cellsz at h3
 split at h3
 · rename_i c T fz hc
   rw [hc]
   simp only [Option.some.injEq]
   apply Array.ext
   · simpa using h3
   · intro i hi1 hi2
     have hi : i < l.length := by simpa using hi2
     generalize hp : (Value.pointer (some ⟨1, 0, none⟩)) = p at h1
     generalize hr : l.map AV.lit = row at h1
     generalize ho : (0 : Nat) = off at h1
     cases h1 with
     | eptr _ _ b o U g1 g2 =>
      have hb : b = 1 ∧ o = 0 := by
       injection hp with hp
       injection hp with hp
       injection hp with hp1 hp2
       omega
      obtain ⟨rfl, rfl⟩ := hb
      have hrow : row[i]? = some (.lit l[i]) := by rw [← hr, List.getElem?_map, List.getElem?_eq_getElem hi]; rfl
      have a1 := (g1 i _ hrow).2.2
      have a2 := g2 i _ hrow
      generalize hU : U i = x at a1 a2
      cases a2
      simp only [World.cell?, hc, Nat.zero_add] at a1
      have : c[i]? = some l[i] := by simpa using a1
      rw [Array.getElem?_eq_getElem hi1] at this
      injection this with this
 · omega
theorem one_arg {us : Array Value} {d : AV} (h : [d].length = us.size) : ∃ v, us = #[v] := ⟨us[0]'(by simp at h; omega), by
 apply Array.ext
 · simp at h; simp; omega
 · intro i h1 h2; simp at h2; subst h2; rfl⟩
def primItoa (args : List AV) (σ : Sto) : Option (ARes × Sto) :=
 match args with
 | [.lit (.int .i64 x)] => if -9223372036854775808 ≤ x ∧ x ≤ 9223372036854775807 then some (.ret (.lit (.string ⟨(Lib.itoa x).toArray⟩)), σ) else none
 | _ => none
theorem primItoa_sound : CallSound Tryz.prog fun f args σ => if f = 93 then primItoa args σ else none := by
 intro f args σ r σ' hr ι Z w us hM hl hargs
 dsimp only at hr
 split at hr
 · rename_i e
   subst e
   unfold primItoa at hr
   split at hr
   · rename_i x
     split at hr
     · rename_i hc
       cases hr
       obtain ⟨h0, h1⟩ := hc
       obtain ⟨u, rfl⟩ := one_arg hl
       have hu := hargs 0 _ u rfl rfl
       cases hu
       refine ⟨Tryz.call93 _ _, (Tryz.strconv_Itoa x h0 h1 w (tab_pow10 hM)).mono ?_⟩
       rintro e w' ⟨rfl, k, os, rfl⟩
       have hb : Below w.heap.size w (grow (w.drewN k) os) := ⟨rfl, rfl, rfl, by show w.heap.size ≤ (w.heap ++ os).size; rw [Array.size_append]; omega, fun j hj => by show (w.heap ++ os)[j]? = w.heap[j]?; rw [Array.getElem?_append_left hj]⟩
       exact ⟨ι, Z, .ofBelow hM hb, hM.below hb, _, rfl, .lit _ rfl⟩
     · cases hr
   · cases hr
 · cases hr
theorem prim_base {S : Sp} {N : Nat} {f : FuncId} {g : List AV → Sto → Option (ARes × Sto)} (h : S.sp f = none) (hb : S.base f = some g) : (S.E N).prim f = some g := by
 show (match S.sp f with | some s => some (relPrim (s.S N)) | none => S.base f) = _
 rw [h]; exact hb
structure ExtX (X : Nat → Prop) (σ σ' : Sto) : Prop where
 len : σ.length ≤ σ'.length
 keep : ∀ p, X p → σ'[p]? = σ[p]?
theorem ExtX.refl {X : Nat → Prop} (σ : Sto) : ExtX X σ σ := ⟨Nat.le_refl _, fun _ _ => rfl⟩
theorem ExtX.trans {X : Nat → Prop} {a b c : Sto} (h : ExtX X a b) (k : ExtX X b c) : ExtX X a c := ⟨Nat.le_trans h.len k.len, fun p hp => (k.keep p hp).trans (h.keep p hp)⟩
theorem ExtX.set {X : Nat → Prop} {σ σ' : Sto} (h : ExtX X σ σ') {g : Nat} {o : AObj} (hg : ¬ X g) : ExtX X σ (σ'.set g o) := ⟨by simpa using h.len, fun p hp => by rw [List.getElem?_set_ne (fun e => hg (by rw [e]; exact hp))]; exact h.keep p hp⟩
theorem ExtX.push {X : Nat → Prop} {σ σ' : Sto} (h : ExtX X σ σ') (hX : ∀ p, X p → p < σ'.length) (l : Sto) : ExtX X σ (σ' ++ l) := ⟨by have := h.len; simp; omega, fun p hp => by rw [List.getElem?_append_left (hX p hp)]; exact h.keep p hp⟩
abbrev digs : List UInt8 := [48, 49, 50, 51, 52, 53, 54, 55, 56, 57]
def primLast (args : List AV) (σ : Sto) : Option (ARes × Sto) :=
 match args with
 | [.lit (.string s), .lit (.int .u8 c)] => if s.size < 4611686018427387904 then some (.ret (.lit (.int .i64 (Lib.lastIndexByte s c))), σ) else none
 | _ => none
def primTrim (args : List AV) (σ : Sto) : Option (ARes × Sto) :=
 match args with
 | [.lit (.string s), .lit (.string c)] => if s.size < 4611686018427387904 ∧ c.data.toList = digs then some (.ret (.lit (.string ⟨(Lib.trimS s.data.toList digs).toArray⟩)), σ) else none
 | _ => none
theorem two_lits {us : Array Value} {v1 v2 : Value} (hl : ([AV.lit v1, .lit v2] : List AV).length = us.size) {ι : List Nat} {Z : Nat → Nat → Prop} {w : World} (h : ∀ (i : Nat) (a : AV) (u : Value), ([AV.lit v1, .lit v2] : List AV)[i]? = some a → us[i]? = some u → VR ι Z w a u) : us = #[v1, v2] := by
 obtain ⟨u1, u2, rfl⟩ : ∃ u1 u2, us = #[u1, u2] := by
  rcases us with ⟨l⟩
  rcases l with _ | ⟨a, _ | ⟨b, _ | ⟨c, l⟩⟩⟩
  · simp at hl
  · simp at hl
  · exact ⟨a, b, rfl⟩
  · simp at hl
 have h1 := h 0 _ u1 rfl rfl
 have h2 := h 1 _ u2 rfl rfl
 cases h1
 cases h2
 rfl
theorem primLast_sound : CallSound Tryz.prog fun f args σ => if f = 123 then primLast args σ else none := by
 intro f args σ r σ' hr ι Z w us hM hl hargs
 dsimp only at hr
 split at hr
 · rename_i e
   subst e
   unfold primLast at hr
   split at hr
   · rename_i s c
     split at hr
     · rename_i hc
       cases hr
       obtain rfl := two_lits hl hargs
       refine ⟨Tryz.call123 _ _, (Tryz.strings_LastIndexByte s c hc w).mono ?_⟩
       rintro e w' ⟨rfl, rfl⟩
       have hb : Below w'.heap.size w' w' := ⟨rfl, rfl, rfl, Nat.le_refl _, fun j hj => rfl⟩
       exact ⟨ι, Z, .ofBelow hM hb, hM.below hb, _, rfl, .lit _ rfl⟩
     · cases hr
   · cases hr
 · cases hr
theorem primTrim_sound : CallSound Tryz.prog fun f args σ => if f = 124 then primTrim args σ else none := by
 intro f args σ r σ' hr ι Z w us hM hl hargs
 dsimp only at hr
 split at hr
 · rename_i e
   subst e
   unfold primTrim at hr
   split at hr
   · rename_i s c
     split at hr
     · rename_i hc
       cases hr
       obtain rfl := two_lits hl hargs
       obtain ⟨h0, h1⟩ := hc
       have hcs : c.size = 10 := by show c.data.size = 10; rw [← Array.length_toList, h1]; rfl
       have hu := Any.strings_Trim_laid Tryz.lays160 (by kernel_rfl) s c w (by omega) (by omega) (by rw [h1]; exact ascii_of_all (by decide))
       rw [h1] at hu
       refine ⟨Tryz.call124 _ _, hu.mono ?_⟩
       rintro e w' ⟨rfl, hb⟩
       exact ⟨ι, Z, .ofBelow hM hb, hM.below hb, _, rfl, .lit _ rfl⟩
     · cases hr
   · cases hr
 · cases hr
end
section
open Go.RowKit
def txtW : List ByteArray → Nat
 | [] => 0
 | x :: l => 1 + x.size + txtW l
theorem txtW_len (l : List ByteArray) : l.length ≤ txtW l := by induction l with | nil => exact Nat.le_refl _ | cons x l ih => simp only [List.length_cons, txtW]; omega
def rgW (k : Int) (dg : List Int) : Nat := if (0 ≤ k ∧ k < 256) ∧ ∀ d ∈ dg, 0 ≤ d ∧ d < 4294967296 then 0 else 10000000000000
mutual
def Trm.w : Trm → Nat
 | .mk k nm ng dg ks => 1 + nm.size + dg.length + trmW ks + rgW k dg
def trmW : List Trm → Nat
 | [] => 0
 | x :: l => x.w + trmW l
end
open Go.Sort
end
section
open Go.RowKit
mutual
def Ty.w : Ty → Nat
 | .mk fn st rf ps rs => 1 + st.size + rf.w + prmW ps + tyW rs
def tyW : List Ty → Nat
 | [] => 0
 | x :: l => x.w + tyW l
def Prm.w : Prm → Nat
 | .mk nm ty => 1 + nm.size + ty.w
def prmW : List Prm → Nat
 | [] => 0
 | x :: l => x.w + prmW l
end
def Atm.w : Atm → Nat
 | .mk k nm ng dg tr => 1 + nm.size + dg.length
def atmW : List Atm → Nat
 | [] => 0
 | x :: l => x.w + atmW l
mutual
def Exp.w : Exp → Nat
 | .mk k nm ty rh am ar bd => 1 + nm.size + tyW ty + rhsW rh + am.w + armW ar + expW bd
def expW : List Exp → Nat
 | [] => 0
 | x :: l => x.w + expW l
def Rhs.w : Rhs → Nat
 | .mk k nm ats ps rs bd ts => 1 + nm.size + atmW ats + prmW ps + tyW rs + expW bd + trmW ts
def rhsW : List Rhs → Nat
 | [] => 0
 | x :: l => x.w + rhsW l
def Arm.w : Arm → Nat
 | .mk cn ns bd => 1 + cn.size + txtW ns + expW bd
def armW : List Arm → Nat
 | [] => 0
 | x :: l => x.w + armW l
end
theorem prim_none {S : Sp} {N : Nat} {f : FuncId} (h : S.sp f = none) (hb : S.base f = none) : (S.E N).prim f = none := by
 show (match S.sp f with | some s => some (relPrim (s.S N)) | none => S.base f) = _
 rw [h]; exact hb
abbrev strB (l : List UInt8) : ByteArray := ⟨l.toArray⟩
end
section
open Go.RowKit
variable {S : Sp} {N : Nat}
def ownK (k : Int) : Bool := decide (k = 2) || decide (k = 3) || decide (k = 4)
def Exp.kd : Exp → Int
 | .mk k _ _ _ _ _ _ => k
abbrev ownF : FS := smF (fun e : Exp => [.agg e.cs]) (fun e => .lit (.bool (ownK e.kd))) (fun _ => True) (fun _ => 0) 0
def ownN (k : Int) : Nat := if ownK k then 1 else 0
mutual
def Exp.cr : Exp → Nat
 | .mk k nm ty rh am ar bd => ownN k + rhsCt rh + armCt ar + (bd.length + expCr bd)
def expCr : List Exp → Nat
 | [] => 0
 | x :: l => x.cr + expCr l
def Rhs.ct : Rhs → Nat
 | .mk k nm ats ps rs bd ts => ats.length + (bd.length + expCr bd)
def rhsCt : List Rhs → Nat
 | [] => 0
 | x :: l => x.ct + rhsCt l
def Arm.ct : Arm → Nat
 | .mk cn ns bd => bd.length + expCr bd
def armCt : List Arm → Nat
 | [] => 0
 | x :: l => x.ct + armCt l
end
end
section
open Go.RowKit
variable {S : Sp} {N : Nat}
def strK (es : List (Value × AV)) : Prop := ∀ p ∈ es, ∃ s, p.1 = .string s
theorem keyEq_str {a b : ByteArray} : keyEq (.string a) (.string b) = decide (a = b) := by
 show (a.data.toList == b.data.toList) = _
 by_cases h : a = b
 · subst h; simp
 · rw [decide_eq_false h]
   exact beq_eq_false_iff_ne.2 fun e => h (by cases a; cases b; simpa using e)
theorem strK.put {es : List (Value × AV)} (h : strK es) (k : ByteArray) (v : AV) : strK (mapPut (.string k) v es) := by
 induction es with
 | nil => intro p hp; simp only [mapPut, List.mem_singleton] at hp; subst hp; exact ⟨k, rfl⟩
 | cons q l ih =>
  obtain ⟨q1, q2⟩ := q
  rw [mapPut]
  split
  · intro p hp
    rcases List.mem_cons.1 hp with rfl | hp
    · exact ⟨k, rfl⟩
    · exact h p (List.mem_cons_of_mem _ hp)
  · intro p hp
    rcases List.mem_cons.1 hp with rfl | hp
    · exact h _ List.mem_cons_self
    · exact ih (fun p hp => h p (List.mem_cons_of_mem _ hp)) p hp
theorem mapGet_put {es : List (Value × AV)} (h : strK es) (k s : ByteArray) (v : AV) : mapGet (.string s) (mapPut (.string k) v es) = if s = k then some v else mapGet (.string s) es := by
 induction es with
 | nil => simp only [mapPut, mapGet, keyEq_str]; by_cases e : s = k <;> simp [e, eq_comm]
 | cons q l ih =>
  obtain ⟨q1, q2⟩ := q
  obtain ⟨q, rfl⟩ := h _ List.mem_cons_self
  have ih := ih fun p hp => h p (List.mem_cons_of_mem _ hp)
  rw [mapPut, keyEq_str]
  by_cases e : k = q
  · subst e
    simp only [decide_true, if_true, mapGet, keyEq_str]
    by_cases e2 : s = k
    · subst e2; simp
    · simp [e2]
  · simp only [e, decide_false, Bool.false_eq_true, if_false, mapGet, keyEq_str, ih]
    by_cases e2 : s = q
    · subst e2
      have : ¬ s = k := fun h => e h.symm
      simp [this]
    · simp [e2]
def keysB : List (Value × AV) → List ByteArray
 | [] => []
 | (.string s, _) :: l => s :: keysB l
 | _ :: l => keysB l
structure LAt (X : Nat → Prop) (σ : Sto) (lid bid nid : Nat) (c : ByteArray → Int) (F : ByteArray → Prop) : Prop where
 l : σ[lid]? = some (.cells [.mp bid, .mp nid] 153)
 b : ∃ es, σ[bid]? = some (.map .str es) ∧ strK es ∧ ∀ s, (mapGet (.string s) es).getD (intV 0) = intV (c s)
 n : ∃ es, σ[nid]? = some (.map .str es) ∧ strK es ∧ (∀ p ∈ es, p.2 = .lit (.bool true)) ∧ (∀ s, (mapGet (.string s) es).isSome = true ↔ F s) ∧ (keysB es).Nodup
 hX : ∀ p, X p → p < σ.length ∧ p ≠ bid ∧ p ≠ nid
 xl : X lid
 ne : bid ≠ nid
theorem LAt.nb {X : Nat → Prop} {σ : Sto} {lid bid nid : Nat} {c : ByteArray → Int} {F : ByteArray → Prop} (h : LAt X σ lid bid nid c F) : bid ≠ nid ∧ lid ≠ bid ∧ lid ≠ nid ∧ lid < σ.length ∧ bid < σ.length ∧ nid < σ.length := by
 obtain ⟨es, h1, h2, h3⟩ := h.b
 obtain ⟨ns, g1, g2⟩ := h.n
 exact ⟨h.ne, (h.hX lid h.xl).2.1, (h.hX lid h.xl).2.2, (h.hX lid h.xl).1, (List.getElem?_eq_some_iff.1 h1).1, (List.getElem?_eq_some_iff.1 g1).1⟩
theorem LAt.app {X : Nat → Prop} {σ : Sto} {lid bid nid : Nat} {c : ByteArray → Int} {F : ByteArray → Prop} (h : LAt X σ lid bid nid c F) (l : Sto) : LAt X (σ ++ l) lid bid nid c F := by
 obtain ⟨es, h1, h2⟩ := h.b
 obtain ⟨ns, g1, g2⟩ := h.n
 exact ⟨(st_old (List.getElem?_eq_some_iff.1 h.l).1).trans h.l, ⟨es, (st_old (List.getElem?_eq_some_iff.1 h1).1).trans h1, h2⟩, ⟨ns, (st_old (List.getElem?_eq_some_iff.1 g1).1).trans g1, g2⟩, fun p hp => ⟨by have := (h.hX p hp).1; simp; omega, (h.hX p hp).2⟩, h.xl, h.ne⟩
theorem LAt.more {X Y : Nat → Prop} {σ : Sto} {lid bid nid : Nat} {c : ByteArray → Int} {F : ByteArray → Prop} (h : LAt X σ lid bid nid c F) (hY : ∀ p, Y p → p < σ.length ∧ p ≠ bid ∧ p ≠ nid) (hl : Y lid) : LAt Y σ lid bid nid c F := ⟨h.l, h.b, h.n, hY, hl, h.ne⟩
theorem LAt.set {X : Nat → Prop} {σ : Sto} {lid bid nid : Nat} {c c' : ByteArray → Int} {F F' : ByteArray → Prop} (h : LAt X σ lid bid nid c F) (hc : ∀ s, c s = c' s) (hF : ∀ s, F s ↔ F' s) : LAt X σ lid bid nid c' F' := by
 obtain ⟨es, h1, h2, h3⟩ := h.b
 obtain ⟨ns, g1, g2, g3, g4, g5⟩ := h.n
 exact ⟨h.l, ⟨es, h1, h2, fun s => by rw [← hc s]; exact h3 s⟩, ⟨ns, g1, g2, g3, fun s => (g4 s).trans (hF s), g5⟩, h.hX, h.xl, h.ne⟩
def LPost (X : Nat → Prop) (σ : Sto) (lid bid nid : Nat) (c : ByteArray → Int) (F : ByteArray → Prop) (r : ARes) (σ' : Sto) : Prop := r = .ret (.tup []) ∧ LAt X σ' lid bid nid c F ∧ ExtX X σ σ'
structure LkH (S : Sp) : Prop where
 code : S.code = codeP Tryz.prog
 s1 : S.sp 126 = none
 b1 : S.base 126 = none
 m1 : S.ms 126 = []
 s2 : S.sp 100 = none
 b2 : S.base 100 = none
 m2 : S.ms 100 = []
 s3 : S.sp 105 = none
 b3 : S.base 105 = none
 m3 : S.ms 105 = []
 s4 : S.sp 102 = none
 b4 : S.base 102 = none
 m4 : S.ms 102 = []
 s5 : S.sp 101 = none
 b5 : S.base 101 = none
 m5 : S.ms 101 = []
 s6 : S.sp 103 = none
 b6 : S.base 103 = none
 m6 : S.ms 103 = []
 s7 : S.sp 68 = none
 b7 : S.base 68 = none
 m7 : S.ms 68 = []
 s8 : S.sp 127 = none
 b8 : S.base 127 = none
 m8 : S.ms 127 = []
 s9 : S.sp 129 = none
 b9 : S.base 129 = none
 m9 : S.ms 129 = []
 s10 : S.sp 104 = none
 b10 : S.base 104 = none
 m10 : S.ms 104 = []
 s11 : S.sp 106 = none
 b11 : S.base 106 = none
 m11 : S.ms 106 = []
 s12 : S.sp 107 = none
 b12 : S.base 107 = none
 m12 : S.ms 107 = []
 ow : S.sp 37 = some ownF
variable {X : Nat → Prop} {σ : Sto} {lid bid nid : Nat} {c : ByteArray → Int} {F : ByteArray → Prop}
def frA : Atm → ByteArray → Prop
 | .mk k nm _ _ _, s => k = 1 ∧ s = nm
def Then (S : Sp) (N : Nat) (X : Nat → Prop) (σ0 : Sto) (lid bid nid : Nat) (tf : FuncId) (tc : List AV) (m : Nat) (G : ByteArray → Prop) : Prop :=
 ∀ (Y : Nat → Prop) (σ1 : Sto) (c : ByteArray → Int) (F : ByteArray → Prop), (∀ p, X p → Y p) → LAt Y σ1 lid bid nid c F → (∀ s, 0 ≤ c s ∧ c s + m ≤ 1000000000000000) → ExtX X σ0 σ1 →
  CallW Tryz.prog (S.E N) tf tc σ1 (LPost Y σ1 lid bid nid c fun s => F s ∨ (c s = 0 ∧ G s))
end
section
open Go.RowKit
variable {S : Sp} {N : Nat}
def sortB (l : List ByteArray) : List (List UInt8) := (l.map fun s => s.data.toList).mergeSort fun x y => decide (x ≤ y)
theorem or_and_step {A C P Q : Prop} : ((A ∨ (C ∧ P)) ∨ (C ∧ Q)) ↔ (A ∨ (C ∧ (P ∨ Q))) := by
 constructor
 · rintro ((h | ⟨h, h'⟩) | ⟨h, h'⟩)
   · exact .inl h
   · exact .inr ⟨h, .inl h'⟩
   · exact .inr ⟨h, .inr h'⟩
 · rintro (h | ⟨h, h' | h'⟩)
   · exact .inl (.inl h)
   · exact .inl (.inr ⟨h, h'⟩)
   · exact .inr ⟨h, h'⟩
theorem LAt.box {X : Nat → Prop} {σ : Sto} {lid bid nid : Nat} {c : ByteArray → Int} {F : ByteArray → Prop} (h : LAt X σ lid bid nid c F) (o : AObj) : LAt (fun p => X p ∨ p = σ.length) (σ ++ [o]) lid bid nid c F :=
 (h.app [o]).more (fun p hp => by
  obtain ⟨_, _, _, l0, l1, l2⟩ := h.nb
  rcases hp with hp | hp
  · have := h.hX p hp; exact ⟨by simp; omega, this.2⟩
  · subst hp; exact ⟨by simp, by omega, by omega⟩) (.inl h.xl)
variable {X : Nat → Prop} {σ : Sto} {lid bid nid : Nat} {c : ByteArray → Int} {F : ByteArray → Prop}
end
section
open Go.RowKit
variable {S : Sp} {N : Nat}
def Prm.tyOf : Prm → Ty
 | .mk _ ty => ty
variable {X : Nat → Prop} {σ : Sto} {lid bid nid : Nat} {c : ByteArray → Int} {F : ByteArray → Prop}
end
section
open Go.RowKit
variable {S : Sp} {N : Nat}
structure ESt (X : Nat → Prop) (σ0 : Sto) (lid bid nid : Nat) (c : ByteArray → Int) (F G : ByteArray → Prop) (σ : Sto) : Prop where
 a : LAt X σ lid bid nid c (fun s => F s ∨ (c s = 0 ∧ G s))
 x : ExtX X σ0 σ
theorem ESt.step {X : Nat → Prop} {σ0 : Sto} {lid bid nid : Nat} {c : ByteArray → Int} {F G G' : ByteArray → Prop} {σ σ' : Sto} {r : ARes} (h : ESt X σ0 lid bid nid c F G σ) (hp : LPost X σ lid bid nid c (fun s => (F s ∨ (c s = 0 ∧ G s)) ∨ (c s = 0 ∧ G' s)) r σ') : r = .ret (.tup []) ∧ ESt X σ0 lid bid nid c F (fun s => G s ∨ G' s) σ' :=
 ⟨hp.1, hp.2.1.set (fun _ => rfl) fun s => or_and_step, h.x.trans hp.2.2⟩
variable {X : Nat → Prop} {σ : Sto} {lid bid nid : Nat} {c : ByteArray → Int} {F : ByteArray → Prop}
end
section
open Go.RowKit
mutual
def bY : Ty → List ByteArray
 | .mk fn st rf ps rs => if fn then bPs ps ++ bYs rs else []
def bP : Prm → List ByteArray
 | .mk nm ty => nm :: bY ty
def bPs : List Prm → List ByteArray
 | [] => []
 | p :: ps => bP p ++ bPs ps
def bYs : List Ty → List ByteArray
 | [] => []
 | t :: ts => bY t ++ bYs ts
end
mutual
def bE : Exp → List ByteArray
 | .mk k nm ty rh am ar bd => (if k = 1 then [nm] else []) ++ bYs ty ++ bRs rh ++ bEs bd ++ bMs ar
def bEs : List Exp → List ByteArray
 | [] => []
 | x :: xs => bE x ++ bEs xs
def bR : Rhs → List ByteArray
 | .mk k nm ats ps rs bd ts => bPs ps ++ bYs rs ++ bEs bd
def bRs : List Rhs → List ByteArray
 | [] => []
 | x :: xs => bR x ++ bRs xs
def bM : Arm → List ByteArray
 | .mk cn ns bd => ns ++ bEs bd
def bMs : List Arm → List ByteArray
 | [] => []
 | x :: xs => bM x ++ bMs xs
end
variable {F : NF}
def Anew (u : List ByteArray) (u' b b0 : List ByteArray) : Prop := u' = u ++ b ∧ b.length = b0.length ∧ b.Nodup ∧ ∀ x ∈ b, x ∉ u
theorem Anew.nil (u : List ByteArray) : Anew u u [] [] := ⟨by simp, rfl, by simp, by simp⟩
theorem Anew.trans {u u1 u2 a a0 b b0 : List ByteArray} (h : Anew u u1 a a0) (k : Anew u1 u2 b b0) : Anew u u2 (a ++ b) (a0 ++ b0) := by
 obtain ⟨rfl, h2, h3, h4⟩ := h
 obtain ⟨rfl, k2, k3, k4⟩ := k
 refine ⟨by rw [List.append_assoc], by rw [List.length_append, List.length_append, h2, k2], ?_, ?_⟩
 · rw [List.nodup_append]
   exact ⟨h3, k3, fun x hx y hy e => k4 y hy (by rw [← e, List.mem_append]; exact .inr hx)⟩
 · intro x hx
   rcases List.mem_append.1 hx with hx | hx
   · exact h4 x hx
   · exact fun hu => k4 x hx (List.mem_append.2 (.inl hu))
theorem Anew.one (u : List ByteArray) (s : ByteArray) : Anew u (u ++ [F.f u s]) [F.f u s] [s] := ⟨rfl, rfl, by simp, fun x hx => by rw [List.mem_singleton.1 hx]; exact F.no u s⟩
mutual
theorem anew_Y (l : Bnd) (u : List ByteArray) : ∀ t : Ty, Anew u (renY F l u t).2 (bY (renY F l u t).1) (bY t)
 | .mk fn st rf ps rs => by
  cases fn with
  | false => simp only [renY, bY, Bool.false_eq_true, if_false]; exact Anew.nil u
  | true => simp only [renY, bY, if_true]; exact (anew_Ps l u ps).trans (anew_Ys _ _ rs)
theorem anew_P (l : Bnd) (u : List ByteArray) : ∀ t : Prm, Anew u (renP F l u t).2 (bP (renP F l u t).1) (bP t)
 | .mk nm ty => by
  simp only [renP, bP]
  exact (Anew.one u nm).trans (anew_Y l _ ty)
theorem anew_Ps (l : Bnd) (u : List ByteArray) : ∀ t : List Prm, Anew u (renPs F l u t).2.2 (bPs (renPs F l u t).1) (bPs t)
 | [] => by simp only [renPs, bPs]; exact Anew.nil u
 | p :: ps => by
  simp only [renPs, bPs]
  exact (anew_P l u p).trans (anew_Ps _ _ ps)
theorem anew_Ys (l : Bnd) (u : List ByteArray) : ∀ t : List Ty, Anew u (renYs F l u t).2 (bYs (renYs F l u t).1) (bYs t)
 | [] => by simp only [renYs, bYs]; exact Anew.nil u
 | p :: ps => by
  simp only [renYs, bYs]
  exact (anew_Y l u p).trans (anew_Ys _ _ ps)
end
theorem anew_Ns (l : Bnd) (u : List ByteArray) : ∀ t : List ByteArray, Anew u (renNs F l u t).2.2 (renNs F l u t).1 t
 | [] => by simp only [renNs]; exact Anew.nil u
 | n :: ns => by
  simp only [renNs]
  exact (Anew.one u n).trans (anew_Ns _ _ ns)
theorem anew_let (l : Bnd) (u : List ByteArray) (k : Int) (nm : ByteArray) : Anew u (letN F l u k nm).2.2 (if k = 1 then [(letN F l u k nm).1] else []) (if k = 1 then [nm] else []) := by
 unfold letN
 by_cases h : k = 1
 · simp only [h, if_true]; exact Anew.one u nm
 · simp only [h, if_false]; exact Anew.nil u
mutual
theorem anew_E (l : Bnd) (u : List ByteArray) : ∀ t : Exp, Anew u (renE F l u t).2 (bE (renE F l u t).1) (bE t)
 | .mk k nm ty rh am ar bd => by
  simp only [renE, bE]
  exact ((((anew_let l u k nm).trans (anew_Ys _ _ ty)).trans (anew_Rs _ _ rh)).trans (anew_Es _ _ bd)).trans (anew_Ms _ _ ar)
theorem anew_Es (l : Bnd) (u : List ByteArray) : ∀ t : List Exp, Anew u (renEs F l u t).2 (bEs (renEs F l u t).1) (bEs t)
 | [] => by simp only [renEs, bEs]; exact Anew.nil u
 | p :: ps => by
  simp only [renEs, bEs]
  exact (anew_E l u p).trans (anew_Es _ _ ps)
theorem anew_R (l : Bnd) (u : List ByteArray) : ∀ t : Rhs, Anew u (renR F l u t).2 (bR (renR F l u t).1) (bR t)
 | .mk k nm ats ps rs bd ts => by
  simp only [renR, bR]
  exact ((anew_Ps l u ps).trans (anew_Ys _ _ rs)).trans (anew_Es _ _ bd)
theorem anew_Rs (l : Bnd) (u : List ByteArray) : ∀ t : List Rhs, Anew u (renRs F l u t).2 (bRs (renRs F l u t).1) (bRs t)
 | [] => by simp only [renRs, bRs]; exact Anew.nil u
 | p :: ps => by
  simp only [renRs, bRs]
  exact (anew_R l u p).trans (anew_Rs _ _ ps)
theorem anew_M (l : Bnd) (u : List ByteArray) : ∀ t : Arm, Anew u (renM F l u t).2 (bM (renM F l u t).1) (bM t)
 | .mk cn ns bd => by
  simp only [renM, bM]
  exact (anew_Ns l u ns).trans (anew_Es _ _ bd)
theorem anew_Ms (l : Bnd) (u : List ByteArray) : ∀ t : List Arm, Anew u (renMs F l u t).2 (bMs (renMs F l u t).1) (bMs t)
 | [] => by simp only [renMs, bMs]; exact Anew.nil u
 | p :: ps => by
  simp only [renMs, bMs]
  exact (anew_M l u p).trans (anew_Ms _ _ ps)
end
def Cov (l : Bnd) (u : List ByteArray) (G : ByteArray → Prop) : Prop := ∀ x, G x → nowB l x ∈ u
def NV (l : Bnd) : Prop := ∀ p ∈ l, p.2 ≠ vB
theorem Anew.sub {u u' b b0 : List ByteArray} (h : Anew u u' b b0) : ∀ x ∈ u, x ∈ u' := fun x hx => by rw [h.1, List.mem_append]; exact .inl hx
theorem NV.now {l : Bnd} (h : NV l) {x : ByteArray} (hx : x ≠ vB) : nowB l x ≠ vB := by
 induction l with
 | nil => exact hx
 | cons p l ih =>
  rw [nowB]
  split
  · exact h p (by simp)
  · exact ih fun q hq => h q (by simp [hq])
theorem NV.cons {l : Bnd} (h : NV l) (o : ByteArray) (u : List ByteArray) (s : ByteArray) : NV ((o, F.f u s) :: l) := fun p hp => by
 rcases List.mem_cons.1 hp with rfl | hp
 · exact F.nv u s
 · exact h p hp
theorem now_cons {l : Bnd} {o n x : ByteArray} : nowB ((o, n) :: l) x = if o = x then n else nowB l x := rfl
theorem bind_free {l : Bnd} {u : List ByteArray} {o n : ByteArray} {G G' : ByteArray → Prop} (hn : n ∉ u) (hc : Cov l u fun x => x ≠ o ∧ G x) (h : ∀ s, G' s ↔ ∃ x, G x ∧ nowB ((o, n) :: l) x = s) (s : ByteArray) : (s ≠ n ∧ G' s) ↔ ∃ x, (x ≠ o ∧ G x) ∧ nowB l x = s := by
 rw [h]
 constructor
 · rintro ⟨h1, x, h2, h3⟩
   rw [now_cons] at h3
   split at h3
   · exact absurd h3.symm h1
   · rename_i hx
     exact ⟨x, ⟨fun e => hx e.symm, h2⟩, h3⟩
 · rintro ⟨x, ⟨h1, h2⟩, h3⟩
   refine ⟨fun e => hn ?_, x, h2, ?_⟩
   · rw [← e, ← h3]; exact hc x ⟨h1, h2⟩
   · rw [now_cons, if_neg (fun e => h1 e.symm)]; exact h3
theorem renP_nm (l : Bnd) (u : List ByteArray) (p : Prm) : (renP F l u p).1.nmOf = F.f u p.nmOf := by obtain ⟨nm, ty⟩ := p; rfl
end
section
open Go.RowKit
section
variable (F : NF)
def renF (u : List ByteArray) : Fun → Fun × List ByteArray
 | .mk nm ps rs bd =>
  let a := renPs F [] u ps
  let b := renY F a.2.1 a.2.2 rs
  let c := renE F a.2.1 b.2 bd
  (.mk nm a.1 b.1 c.1, c.2)
end
def bF : Fun → List ByteArray
 | .mk nm ps rs bd => bPs ps ++ bY rs ++ bE bd
def Fun.nmOf : Fun → ByteArray
 | .mk nm _ _ _ => nm
variable {F : NF}
theorem anew_F (u : List ByteArray) : ∀ f : Fun, Anew u (renF F u f).2 (bF (renF F u f).1) (bF f)
 | .mk nm ps rs bd => by
  simp only [renF, bF]
  exact ((anew_Ps [] u ps).trans (anew_Y _ _ rs)).trans (anew_E _ _ bd)
def lamE : Fun → Exp
 | .mk nm ps rs bd => .mk 0 ⟨#[]⟩ [] [.mk 4 ⟨#[]⟩ [] ps [rs] [bd] []] (.mk 0 ⟨#[]⟩ false [] false) [] []
end
section
open Go.RowKit
def isD (b : UInt8) : Bool := 48 ≤ b.toNat && b.toNat ≤ 57
theorem decD_all (n : Nat) : ∀ b ∈ Lib.decDigits n, isD b = true := by
 induction n using Nat.strongRecOn with
 | ind n ih =>
  rw [Lib.decDigits]
  split
  · rename_i h
    intro b hb
    simp only [List.mem_singleton] at hb
    subst hb
    unfold isD
    have : (UInt8.ofNat (48 + n)).toNat = 48 + n := by simp [UInt8.toNat_ofNat']; omega
    rw [this]; simp; omega
  · rename_i h
    intro b hb
    rw [List.mem_append] at hb
    rcases hb with hb | hb
    · exact ih _ (by omega) b hb
    · simp only [List.mem_singleton] at hb
      subst hb
      unfold isD
      have : (UInt8.ofNat (48 + n % 10)).toNat = 48 + n % 10 := by simp [UInt8.toNat_ofNat']; omega
      rw [this]; simp; omega
def valB (l : List UInt8) : Nat := l.foldl (fun a b => 10 * a + (b.toNat - 48)) 0
theorem valB_dec (n : Nat) : valB (Lib.decDigits n) = n := by
 induction n using Nat.strongRecOn with
 | ind n ih =>
  rw [Lib.decDigits]
  split
  · rename_i h
    have : (UInt8.ofNat (48 + n)).toNat = 48 + n := by simp [UInt8.toNat_ofNat']; omega
    simp only [valB, List.foldl_cons, List.foldl_nil]
    rw [this]; omega
  · rename_i h
    have h1 := ih (n / 10) (by omega)
    unfold valB at h1 ⊢
    have : (UInt8.ofNat (48 + n % 10)).toNat = 48 + n % 10 := by simp [UInt8.toNat_ofNat']; omega
    rw [List.foldl_append, h1]
    simp only [List.foldl_cons, List.foldl_nil]
    rw [this]; omega
theorem decD_ne (n : Nat) : Lib.decDigits n ≠ [] := by
 rw [Lib.decDigits]; split <;> simp
theorem dec_split {x y : Nat} {c d : UInt8} {r s : List UInt8} (hc : isD c = false) (hd : isD d = false) (h : Lib.decDigits x ++ c :: r = Lib.decDigits y ++ d :: s) : x = y ∧ c :: r = d :: s := by
 have h1 : ∀ (x : Nat) (c : UInt8) (r : List UInt8), isD c = false → (Lib.decDigits x ++ c :: r).takeWhile isD = Lib.decDigits x := fun x c r hc => by
  rw [List.takeWhile_append_of_pos (decD_all x), List.takeWhile_cons_of_neg (by rw [hc]; simp), List.append_nil]
 have e := congrArg (List.takeWhile isD) h
 rw [h1 x c r hc, h1 y d s hd] at e
 have e2 : x = y := by rw [← valB_dec x, e, valB_dec]
 subst e2
 exact ⟨rfl, List.append_cancel_left h⟩
end
section
open Go.RowKit
theorem dec_inj {x y : Nat} (h : Lib.decDigits x = Lib.decDigits y) : x = y :=
 (dec_split (c := 32) (d := 32) (r := []) (s := []) (by decide) (by decide) (by rw [h])).1
def nameN (b : List UInt8) (n : Nat) : ByteArray := ⟨(b ++ Lib.decDigits n).toArray⟩
theorem nameN_inj {b : List UInt8} {n m : Nat} (h : nameN b n = nameN b m) : n = m := by
 unfold nameN at h
 have h2 := congrArg (fun x : ByteArray => x.data.toList) h
 simp only [List.toList_toArray] at h2
 exact dec_inj (List.append_cancel_left h2)
def decM (s : ByteArray) (u : List ByteArray) : Bool := u.any fun x => decide (x = s)
theorem decM_iff {s : ByteArray} {u : List ByteArray} : decM s u = true ↔ s ∈ u := by
 unfold decM
 rw [List.any_eq_true]
 constructor
 · rintro ⟨x, h1, h2⟩; rw [← of_decide_eq_true h2]; exact h1
 · intro h; exact ⟨s, h, by simp⟩
def srch (u : List ByteArray) (b : List UInt8) : Nat → Nat → Nat
 | 0, k => k
 | m + 1, k => if decM (nameN b k) u = true then srch u b m (k + 1) else k
theorem srch_ge (u : List ByteArray) (b : List UInt8) : ∀ m k, k ≤ srch u b m k
 | 0, k => Nat.le_refl _
 | m + 1, k => by
  rw [srch]
  split
  · exact Nat.le_trans (Nat.le_succ k) (srch_ge u b m (k + 1))
  · exact Nat.le_refl _
theorem srch_lt (u : List ByteArray) (b : List UInt8) : ∀ m k j, k ≤ j → j < srch u b m k → nameN b j ∈ u
 | 0, k, j, h1, h2 => by rw [srch] at h2; omega
 | m + 1, k, j, h1, h2 => by
  rw [srch] at h2
  split at h2
  · rename_i h
    rw [decM_iff] at h
    rcases Nat.eq_or_lt_of_le h1 with rfl | h3
    · exact h
    · exact srch_lt u b m (k + 1) j h3 h2
  · omega
theorem srch_no (u : List ByteArray) (b : List UInt8) : ∀ m k, nameN b (srch u b m k) ∈ u → ∀ j, k ≤ j → j < k + m → nameN b j ∈ u
 | 0, k, h, j, h1, h2 => by omega
 | m + 1, k, h, j, h1, h2 => by
  rw [srch] at h
  split at h
  · rename_i hk
    rw [decM_iff] at hk
    rcases Nat.eq_or_lt_of_le h1 with rfl | h3
    · exact hk
    · exact srch_no u b m (k + 1) h j h3 (by omega)
  · rename_i hk
    rw [decM_iff] at hk
    exact absurd h hk
theorem sub_len {α : Type} : ∀ (k l : List α), k.Nodup → (∀ x ∈ k, x ∈ l) → k.length ≤ l.length
 | [], l, _, _ => Nat.zero_le _
 | x :: k, l, h, hs => by
  rw [List.nodup_cons] at h
  obtain ⟨a, b, rfl⟩ := List.append_of_mem (hs x (by simp))
  have := sub_len k (a ++ b) h.2 fun y hy => by
   have h2 := hs y (by simp [hy])
   simp only [List.mem_append, List.mem_cons] at h2 ⊢
   rcases h2 with h2 | rfl | h2
   · exact .inl h2
   · exact absurd hy h.1
   · exact .inr h2
  simp only [List.length_append, List.length_cons] at this ⊢
  omega
theorem range_nodup (b : List UInt8) (n : Nat) : ((List.range n).map fun i => nameN b (i + 1)).Nodup := by
 rw [List.nodup_iff_pairwise_ne, List.pairwise_map]
 refine List.Pairwise.imp ?_ (List.nodup_iff_pairwise_ne.1 List.nodup_range)
 intro i j hij h
 have := nameN_inj h
 exact hij (by omega)
def leastN (u : List ByteArray) (b : List UInt8) : Nat := srch u b (u.length + 1) 1
theorem leastN_no (u : List ByteArray) (b : List UInt8) : nameN b (leastN u b) ∉ u := fun h => by
 have h1 := srch_no u b (u.length + 1) 1 h
 have := sub_len _ u (range_nodup b (u.length + 1)) fun x hx => by
  obtain ⟨i, hi, rfl⟩ := List.mem_map.1 hx
  exact h1 (i + 1) (by omega) (by have := List.mem_range.1 hi; omega)
 rw [List.length_map, List.length_range] at this
 omega
theorem leastN_lt (u : List ByteArray) (b : List UInt8) (j : Nat) (h1 : 1 ≤ j) (h2 : j < leastN u b) : nameN b j ∈ u := srch_lt u b _ 1 j h1 h2
theorem leastN_pos (u : List ByteArray) (b : List UInt8) : 1 ≤ leastN u b := srch_ge u b _ 1
theorem leastN_le (u : List ByteArray) (b : List UInt8) : leastN u b ≤ u.length + 1 := by
 have h1 := leastN_lt u b
 have hp := leastN_pos u b
 have := sub_len ((List.range (leastN u b - 1)).map fun i => nameN b (i + 1)) u (range_nodup b _) fun x hx => by
  obtain ⟨i, hi, rfl⟩ := List.mem_map.1 hx
  exact h1 (i + 1) (by omega) (by have := List.mem_range.1 hi; omega)
 rw [List.length_map, List.length_range] at this
 omega
theorem leastN_eq {u : List ByteArray} {b : List UInt8} {n : Nat} (h1 : 1 ≤ n) (h2 : nameN b n ∉ u) (h3 : ∀ j, 1 ≤ j → j < n → nameN b j ∈ u) : leastN u b = n := by
 rcases Nat.lt_trichotomy (leastN u b) n with h | h | h
 · exact absurd (h3 _ (leastN_pos u b) h) (leastN_no u b)
 · exact h
 · exact absurd (leastN_lt u b n h1 h) h2
def stemL (s : List UInt8) : List UInt8 :=
 let d := (s.reverse.dropWhile isD).reverse
 let t := if d.length < s.length ∧ d.getLast? = some 95 then d.dropLast else s
 t.take 30
def beginL (s : ByteArray) : List UInt8 := stemL s.data.toList ++ [95]
def freshB (u : List ByteArray) (s : ByteArray) : ByteArray := nameN (beginL s) (leastN u (beginL s))
def NFp : NF := ⟨freshB, fun u s => leastN_no u (beginL s), fun u s h => by
 have h2 : (freshB u s).data.toList.length = 1 := by rw [h]; rfl
 have h3 := decD_ne (leastN u (beginL s))
 have h4 : (Lib.decDigits (leastN u (beginL s))).length ≠ 0 := fun e => h3 (List.eq_nil_of_length_eq_zero e)
 simp only [freshB, nameN, beginL, List.toList_toArray, List.length_append, List.length_cons, List.length_nil] at h2
 simp only [beginL] at h4
 omega⟩
end
section
open Go.RowKit
theorem isD_digs (x : UInt8) : ([48, 49, 50, 51, 52, 53, 54, 55, 56, 57] : List UInt8).contains x = isD x := by
 have h : ∀ n, n < 256 → ([48, 49, 50, 51, 52, 53, 54, 55, 56, 57] : List UInt8).contains (UInt8.ofNat n) = isD (UInt8.ofNat n) := by decide +kernel
 have := h x.toNat x.toNat_lt
 rwa [UInt8.ofNat_toNat] at this
theorem dropWhile_nil {p : UInt8 → Bool} : ∀ {l : List UInt8}, l.dropWhile p = [] → ∀ x ∈ l, p x = true
 | [], _, x, h => absurd h (by simp)
 | y :: l, h, x, hx => by
  rw [List.dropWhile_cons] at h
  split at h
  · rename_i hy
    rcases List.mem_cons.1 hx with rfl | hx
    · exact hy
    · exact dropWhile_nil h x hx
  · cases h
theorem dropWhile_all {p : UInt8 → Bool} : ∀ {l : List UInt8}, (∀ x ∈ l, p x = true) → l.dropWhile p = []
 | [], _ => rfl
 | y :: l, h => by
  rw [List.dropWhile_cons, if_pos (h y (List.mem_cons_self ..))]
  exact dropWhile_all fun x hx => h x (List.mem_cons_of_mem _ hx)
theorem dropWhile_head {p : UInt8 → Bool} : ∀ {l r : List UInt8} {y : UInt8}, l.dropWhile p = y :: r → p y = false
 | [], r, y, h => by cases h
 | z :: l, r, y, h => by
  rw [List.dropWhile_cons] at h
  split at h
  · exact dropWhile_head h
  · rename_i hz
    injection h with h1 h2
    subst h1
    simpa using hz
theorem trim_nil {b : List UInt8} : Lib.trimS b [48, 49, 50, 51, 52, 53, 54, 55, 56, 57] = [] ↔ ∀ x ∈ b, isD x = true := by
 unfold Lib.trimS Lib.trimLeftS Lib.trimRightS
 have e : (fun x => ([48, 49, 50, 51, 52, 53, 54, 55, 56, 57] : List UInt8).contains x) = isD := funext isD_digs
 rw [e]
 constructor
 · intro h x hx
   have h1 := dropWhile_nil h
   cases hd : b.reverse.dropWhile isD with
   | nil => exact dropWhile_nil hd x (by simpa using hx)
   | cons y r =>
    have h2 := dropWhile_head hd
    have h3 := h1 y (by rw [hd]; simp)
    rw [h2] at h3; cases h3
 · intro h
   rw [dropWhile_all (l := b.reverse) (fun x hx => h x (by simpa using hx))]
   rfl
theorem stem_none {l : List UInt8} (h : (95 : UInt8) ∉ l) : stemL l = l.take 30 := by
 unfold stemL
 dsimp only
 rw [if_neg]
 rintro ⟨_, h2⟩
 refine h ?_
 have h3 := List.mem_of_getLast? h2
 rw [List.mem_reverse] at h3
 have h4 := (List.dropWhile_suffix isD (l := l.reverse)).subset h3
 simpa using h4
theorem stem_at {a b : List UInt8} (hb : (95 : UInt8) ∉ b) : stemL (a ++ 95 :: b) = (if b ≠ [] ∧ ∀ x ∈ b, isD x = true then a else a ++ 95 :: b).take 30 := by
 have hr : (a ++ 95 :: b).reverse = b.reverse ++ 95 :: a.reverse := by simp
 have h95 : isD 95 = false := by decide
 unfold stemL
 dsimp only
 rw [hr, List.dropWhile_append]
 by_cases hall : ∀ x ∈ b, isD x = true
 · have hd : b.reverse.dropWhile isD = [] := dropWhile_all fun x hx => hall x (by simpa using hx)
   rw [hd]
   have hd2 : (95 :: a.reverse).dropWhile isD = 95 :: a.reverse := by rw [List.dropWhile_cons, h95]; rfl
   simp only [List.isEmpty_nil, if_true, hd2]
   have e : (95 :: a.reverse).reverse = a ++ [95] := by simp
   simp only [e]
   cases b with
   | nil => rw [if_neg (by simp), if_neg (by simp)]
   | cons y b => rw [if_pos (by simp), if_pos ⟨by simp, hall⟩, List.dropLast_concat]
 · rw [if_neg (c := b ≠ [] ∧ ∀ x ∈ b, isD x = true) (fun h => hall h.2)]
   cases hd : b.reverse.dropWhile isD with
   | nil => exact absurd (fun x hx => dropWhile_nil hd x (by simpa using hx)) hall
   | cons y r =>
    simp only [List.isEmpty_cons, Bool.false_eq_true, if_false]
    rw [if_neg]
    rintro ⟨_, h2⟩
    have h3 : (y :: r ++ 95 :: a.reverse).reverse = (a ++ 95 :: r.reverse) ++ [y] := by simp
    rw [h3, List.getLast?_concat] at h2
    injection h2 with h2
    subst h2
    refine hb ?_
    have h4 := (List.dropWhile_suffix isD (l := b.reverse)).subset (by rw [hd]; exact List.mem_cons_self ..)
    simpa using h4
theorem stem_found (s : ByteArray) : (Lib.lastIndexByte s 95 = -1 ∧ stemL s.data.toList = s.data.toList.take 30) ∨
    ∃ i : Nat, i < s.size ∧ Lib.lastIndexByte s 95 = i ∧
     stemL s.data.toList = (if i + 1 < s.size ∧ Lib.trimS (s.data.toList.drop (i + 1)) [48, 49, 50, 51, 52, 53, 54, 55, 56, 57] = [] then s.data.toList.take i else s.data.toList).take 30 := by
 have hsz : s.data.toList.length = s.size := by rw [Array.length_toList]; rfl
 have hat : ∀ j, j < s.size → s.data[j]! = s.data.toList[j]! := fun j hj => by rw [getElem!_pos s.data j hj, getElem!_pos s.data.toList j (by omega)]; simp
 rcases Lib.lastIndexByte_spec s 95 with ⟨h1, h2⟩ | ⟨i, hi, h1, h2, h3⟩
 · refine .inl ⟨h1, stem_none fun h => ?_⟩
   obtain ⟨j, hj, e⟩ := List.mem_iff_getElem.1 h
   refine h2 j (by omega) ?_
   rw [hat j (by omega), List.getElem!_eq_getElem?_getD, List.getElem?_eq_getElem hj, e]
   rfl
 · refine .inr ⟨i, hi, h1, ?_⟩
   have hil : i < s.data.toList.length := by omega
   have hx : s.data.toList[i] = 95 := by
    rw [hat i hi, List.getElem!_eq_getElem?_getD, List.getElem?_eq_getElem hil] at h2
    have h2 : ((s.data.toList[i].toNat : Nat) : Int) = 95 := h2
    apply UInt8.toNat_inj.1
    show _ = 95
    omega
   have hs : s.data.toList = s.data.toList.take i ++ 95 :: s.data.toList.drop (i + 1) := by
    rw [← hx, ← List.drop_eq_getElem_cons hil, List.take_append_drop]
   have hb : (95 : UInt8) ∉ s.data.toList.drop (i + 1) := fun h => by
    obtain ⟨j, hj, e⟩ := List.mem_iff_getElem.1 h
    rw [List.getElem_drop] at e
    rw [List.length_drop] at hj
    refine h3 (i + 1 + j) (by omega) (by omega) ?_
    rw [hat _ (by omega), List.getElem!_eq_getElem?_getD, List.getElem?_eq_getElem (by omega), e]
    rfl
   have hne : s.data.toList.drop (i + 1) ≠ [] ↔ i + 1 < s.size := by
    rw [ne_eq, List.drop_eq_nil_iff, hsz]; omega
   refine (congrArg stemL hs).trans ?_
   rw [stem_at hb, ← hs]
   simp only [hne, trim_nil]
end
end Go.Proofs.YteajcnilihgheaaGreatDoor
