/-
 LEX, AS PLAIN FUNCTIONS: what the program's parser, and the document's, compute. No program here.
-/
import Derived.Test.YtmmgjaheffbpaaaGreatDoorRepQ
import Derived.Lib.Strings
import Derived.Shelf.Small.Strs
import Derived.Test.YtmmgjaheffbpaaaGreatDoorProg
namespace Go.Proofs.YtmmgjaheffbpaaaGreatDoor
set_option linter.unusedSimpArgs false
set_option linter.unusedVariables false
inductive Tr where
 | mk (word : List UInt8) (kids : List Tr) (row : Bool) (at_ : Int)
def Tr.word : Tr → List UInt8 | .mk x _ _ _ => x
def Tr.kids : Tr → List Tr | .mk _ x _ _ => x
def Tr.row : Tr → Bool | .mk _ _ x _ => x
def Tr.at_ : Tr → Int | .mk _ _ _ x => x
mutual
def encTr : Tr → List D
 | .mk x k r a => [.leaf (.string ⟨x.toArray⟩), .sl (encTrs k), .leaf (.bool r), .leaf (.int .i64 a)]
def encTrs : List Tr → List (List D)
 | [] => []
 | t :: l => encTr t :: encTrs l
end
theorem encTrs_map (l : List Tr) : encTrs l = l.map encTr := by
 induction l with
 | nil => rfl
 | cons t l ih => simp [encTrs, ih]
theorem encTr_length (t : Tr) : (encTr t).length = 4 := by cases t; rfl
def blk (b : UInt8) : Bool := b == 32 || b == 10
def sgn (b : UInt8) : Bool := (decide (97 ≤ b) && decide (b ≤ 122)) || (decide (48 ≤ b) && decide (b ≤ 57)) || [95, 45, 46, 43, 42, 47, 61, 60, 62].contains b
def skipTo (p : UInt8 → Bool) (l : List UInt8) (i : Nat) : Nat := i + ((l.drop i).takeWhile p).length
inductive Res (α : Type) where
 | ok (a : α)
 | bad (at_ : Nat) (e : Int)
mutual
def rowN : Nat → List UInt8 → Nat → Nat → Res (List Tr × Nat)
 | 0, _, i, _ => .ok ([], i)
 | n + 1, l, i, o =>
  match l[skipTo blk l i]? with
  | none => .ok ([], skipTo blk l i)
  | some c => if c = 41 then .ok ([], skipTo blk l i) else
   match treeN n l (skipTo blk l i) o with
   | .bad p e => .bad p e
   | .ok (t, k) => match rowN n l k o with
    | .bad p e => .bad p e
    | .ok (ts, m) => .ok (t :: ts, m)
def treeN : Nat → List UInt8 → Nat → Nat → Res (Tr × Nat)
 | 0, _, i, _ => .bad i 20
 | n + 1, l, i, o =>
  if l[i]? = some 40 then
   if o < 400 then
    match rowN n l (i + 1) (o + 1) with
    | .bad p e => .bad p e
    | .ok (ts, j) => if j < l.length then .ok (.mk [] ts true i, j + 1) else .bad j 20
   else .bad i 3
  else if skipTo sgn l i = i then .bad i 20
  else .ok (.mk ((l.drop i).takeWhile sgn) [] false i, skipTo sgn l i)
end
def parseT (l : List UInt8) : List Tr × Nat × Int :=
 if 262144 < l.length then ([], 0, 3) else
 match rowN (2 * l.length + 2) l 0 0 with
 | .bad p e => ([], p, e)
 | .ok (ts, j) => if j < l.length then ([], j, 20) else (ts, 0, 0)
theorem skipTo_ge (p : UInt8 → Bool) (l : List UInt8) (i : Nat) : i ≤ skipTo p l i := by unfold skipTo; omega
theorem skipTo_le (p : UInt8 → Bool) (l : List UInt8) (i : Nat) (h : i ≤ l.length) : skipTo p l i ≤ l.length := by
 unfold skipTo
 have : ((l.drop i).takeWhile p).length ≤ (l.drop i).length := (List.takeWhile_sublist p).length_le
 simp at this
 omega
theorem skipTo_yes (p : UInt8 → Bool) (l : List UInt8) (i : Nat) (h : i < l.length) (hp : p l[i] = true) : skipTo p l (i + 1) = skipTo p l i := by
 unfold skipTo
 rw [List.drop_eq_getElem_cons h, List.takeWhile_cons, if_pos hp]
 simp
 omega
theorem skipTo_no (p : UInt8 → Bool) (l : List UInt8) (i : Nat) (h : i < l.length) (hp : p l[i] = false) : skipTo p l i = i := by
 unfold skipTo
 rw [List.drop_eq_getElem_cons h, List.takeWhile_cons, if_neg (by simp [hp])]
 simp
theorem skipTo_end (p : UInt8 → Bool) (l : List UInt8) (i : Nat) (h : l.length ≤ i) : skipTo p l i = i := by
 unfold skipTo
 rw [List.drop_eq_nil_of_le h]
 simp
theorem takeWhile_take (p : UInt8 → Bool) (l : List UInt8) : l.take (l.takeWhile p).length = l.takeWhile p := by
 induction l with
 | nil => rfl
 | cons a l ih =>
  rw [List.takeWhile_cons]
  split
  · simp [ih]
  · simp
theorem bytes_ext {a b : ByteArray} (h : a.data.toList = b.data.toList) : a = b := by
 cases a; cases b; congr; exact Array.toList_inj.1 h
theorem extract_word (p : UInt8 → Bool) (s : ByteArray) (i : Nat) : s.extract i (skipTo p s.data.toList i) = ⟨((s.data.toList.drop i).takeWhile p).toArray⟩ := by
 refine bytes_ext ?_
 rw [Lib.extract_data]
 simp only [skipTo, Nat.add_sub_cancel_left]
 exact takeWhile_take p _
mutual
theorem rowN_le : ∀ (n : Nat) (l : List UInt8) (i o : Nat), i ≤ l.length → ∀ ts j, rowN n l i o = .ok (ts, j) → i ≤ j ∧ j ≤ l.length
 | 0, l, i, o, hi, ts, j, h => by
  simp only [rowN, Res.ok.injEq, Prod.mk.injEq] at h
  omega
 | n + 1, l, i, o, hi, ts, j, h => by
  have h1 := skipTo_ge blk l i
  have h2 := skipTo_le blk l i hi
  rw [rowN] at h
  split at h
  · simp only [Res.ok.injEq, Prod.mk.injEq] at h; omega
  · split at h
    · simp only [Res.ok.injEq, Prod.mk.injEq] at h; omega
    · split at h
      · cases h
      · rename_i t k ht
        have h3 := treeN_le n l _ o h2 t k ht
        split at h
        · cases h
        · rename_i ts' m hr
          have h4 := rowN_le n l k o h3.2 ts' m hr
          simp only [Res.ok.injEq, Prod.mk.injEq] at h
          omega
theorem treeN_le : ∀ (n : Nat) (l : List UInt8) (i o : Nat), i ≤ l.length → ∀ t j, treeN n l i o = .ok (t, j) → i ≤ j ∧ j ≤ l.length
 | 0, l, i, o, hi, t, j, h => by simp [treeN] at h
 | n + 1, l, i, o, hi, t, j, h => by
  have h1 := skipTo_ge sgn l i
  have h2 := skipTo_le sgn l i hi
  rw [treeN] at h
  split at h
  · rename_i hc
    have hlt : i < l.length := (List.getElem?_eq_some_iff.1 hc).1
    split at h
    · split at h
      · cases h
      · rename_i ts k hr
        have h3 := rowN_le n l (i + 1) (o + 1) (by omega) ts k hr
        split at h
        · simp only [Res.ok.injEq, Prod.mk.injEq] at h; omega
        · cases h
    · cases h
  · split at h
    · cases h
    · simp only [Res.ok.injEq, Prod.mk.injEq] at h; omega
end
theorem treeN_lt : ∀ (n : Nat) (l : List UInt8) (i o : Nat), i ≤ l.length → ∀ t j, treeN n l i o = .ok (t, j) → i < j
 | 0, l, i, o, hi, t, j, h => by simp [treeN] at h
 | n + 1, l, i, o, hi, t, j, h => by
  rw [treeN] at h
  split at h
  · rename_i hc
    have hlt : i < l.length := (List.getElem?_eq_some_iff.1 hc).1
    split at h
    · split at h
      · cases h
      · rename_i ts k hr
        have h3 := rowN_le n l (i + 1) (o + 1) (by omega) ts k hr
        split at h
        · simp only [Res.ok.injEq, Prod.mk.injEq] at h; omega
        · cases h
    · cases h
  · split at h
    · cases h
    · simp only [Res.ok.injEq, Prod.mk.injEq] at h
      have := skipTo_ge sgn l i
      omega
def shapeT : List Tr → List Tr → Bool
 | [], [] => true
 | .mk x k r _ :: l, .mk y k' r' _ :: m => (x == y) && (r == r') && shapeT k k' && shapeT l m
 | _, _ => false
def deepT : List Tr → Nat
 | [] => 0
 | .mk _ k r _ :: l => if r then max (1 + deepT k) (deepT l) else deepT l
theorem shapeT_len : ∀ (a b : List Tr), shapeT a b = true → a.length = b.length
 | [], [], _ => rfl
 | .mk x k r _ :: l, .mk y k' r' _ :: m, h => by
  simp only [shapeT, Bool.and_eq_true] at h
  simp [shapeT_len l m h.2]
 | [], _ :: _, h => by simp [shapeT] at h
 | _ :: _, [], h => by simp [shapeT] at h
theorem encTrs_length (l : List Tr) : (encTrs l).length = l.length := by rw [encTrs_map, List.length_map]
theorem encTrs_append (l m : List Tr) : encTrs (l ++ m) = encTrs l ++ encTrs m := by simp [encTrs_map]
def pre (ts : List Tr) : Res (List Tr × Nat) → Res (List Tr × Nat)
 | .bad p e => .bad p e
 | .ok (us, m) => .ok (ts ++ us, m)
theorem pre_nil (r : Res (List Tr × Nat)) : pre [] r = r := by cases r <;> rfl
end Go.Proofs.YtmmgjaheffbpaaaGreatDoor
namespace Go.Proofs
open Go.Shelf
def Tryz.lays137_ren : Go.Shelf.Ren := ⟨fun | 137 => 121 | 217 => 131 | 266 => 136 | n => n, fun | 9 => 9 | 5 => 5 | 3 => 3 | n => n, fun | n => n⟩
theorem Tryz.lays137 : Go.Proofs.Lays.n137 Tryz.prog Tryz.lays137_ren := {
 mixed := by kernel_rfl
 f137 := Tryz.func121.trans (congrArg some (by kernel_rfl))
 f217 := Tryz.func131.trans (congrArg some (by kernel_rfl))
 f266 := Tryz.func136.trans (congrArg some (by kernel_rfl))
 t3 := Tryz.underlying3
 a3 := Tryz.isAgg3
 z3 := Tryz.sizeOf3
 v3 := Tryz.zeroValue3
 t5 := Tryz.underlying5
 a5 := Tryz.isAgg5
 z5 := Tryz.sizeOf5
 v5 := Tryz.zeroValue5
 t9 := Tryz.underlying9
 a9 := Tryz.isAgg9
 z9 := Tryz.sizeOf9
 v9 := Tryz.zeroValue9 }
theorem Tryz.strings_IndexByte (s : ByteArray) (c : Int) (w : World) :
    Calls Tryz.prog 121 #[.string s, .int .u8 c] w fun e w' => e = .returned (.int .i64 (Lib.indexByte s.data.toList c.toNat.toUInt8)) ∧ w' = w := Any.strings_IndexByte Tryz.lays137 s c w
end Go.Proofs
