/-
 EV: the tables in package-level variables that the statement's row lists, as the seat has them: the powers of ten.
-/
import Derived.Below
import Derived.OneCell
import Derived.Deep.Draws
import Derived.Orders
import Derived.Scope
import Derived.Deep.LoopGhost
import Derived.Defers
namespace Go.Proofs.YtmmgjaheffbpaaaGreatDoor
set_option linter.unusedSimpArgs false
set_option linter.unusedVariables false
set_option linter.unusedSectionVars false
section
def globRow (g : Nat) : Option (List Value) :=
 match g with
 | 1 => some [.int .u64 1, .int .u64 10, .int .u64 100, .int .u64 1000, .int .u64 10000, .int .u64 100000, .int .u64 1000000, .int .u64 10000000, .int .u64 100000000, .int .u64 1000000000, .int .u64 10000000000, .int .u64 100000000000, .int .u64 1000000000000, .int .u64 10000000000000, .int .u64 100000000000000, .int .u64 1000000000000000, .int .u64 10000000000000000, .int .u64 100000000000000000, .int .u64 1000000000000000000, .int .u64 10000000000000000000]
 | _ => none
inductive RV where
 | lit (v : Value)
 | sl (es : List (List RV))
def markB (i : Nat) : ByteArray := ⟨#[35, 1, 0, 0, 47, UInt8.ofNat i, 0, 0]⟩
def roomTab (g : Nat) : List (List RV) :=
 match g with
 | 0 => (List.range 12).map fun i => [.lit (.int .u32 ((8000024 + i : Nat) : Int))]
 | 1 => (List.range 12).map fun i => [.lit (.int .u8 0), .lit (.bool false), .sl [], .lit (.bool false), .lit (.string (markB i)), .sl []]
 | _ => []
end
section
inductive Tok where
 | no
 | full
 | own (t : Nat)
 | fresh (t k : Nat)
inductive AV where
 | lit (v : Value)
 | ptr (id off : Nat)
 | eptr (row : List AV) (off : Nat)
 | sl (es : List (List AV)) (tok : Tok)
 | asl (id off n k : Nat)
 | mp (id : Nat)
 | fn (f : Fn) (first cap : List AV)
 | ifc (t : TypeId) (v : AV)
 | agg (cs : List AV)
 | tup (vs : List AV)
 | rsl (es : List (List AV)) (g : Nat)
 deriving Inhabited
mutual
def RV.av : RV → AV
 | .lit v => .lit v
 | .sl es => .sl (avRR es) .no
def avR : List RV → List AV
 | [] => []
 | x :: l => x.av :: avR l
def avRR : List (List RV) → List (List AV)
 | [] => []
 | x :: l => avR x :: avRR l
end
def roomRows (g : Nat) : List (List AV) := avRR (roomTab g)
inductive KK where
 | str
 | bool
 | int (k : IntKind)
 deriving DecidableEq
def kkOf : TypeDesc → Option KK
 | .string => some .str
 | .bool => some .bool
 | .int k => some (.int k)
 | _ => none
def KK.fits : KK → Value → Bool
 | .str, .string _ => true
 | .bool, .bool _ => true
 | .int k, .int k' _ => decide (k = k')
 | _, _ => false
def keyEq : Value → Value → Bool
 | .string a, .string b => a.data.toList == b.data.toList
 | .bool a, .bool b => a == b
 | .int _ a, .int _ b => a == b
 | _, _ => false
def mapGet (key : Value) : List (Value × AV) → Option AV
 | [] => none
 | (k, v) :: l => if keyEq key k then some v else mapGet key l
def mapPut (key : Value) (v : AV) : List (Value × AV) → List (Value × AV)
 | [] => [(key, v)]
 | (k, u) :: l => if keyEq key k then (key, v) :: l else (k, u) :: mapPut key v l
inductive AObj where
 | cells (cs : List AV) (T : TypeId)
 | tok (m : Nat) (e : TypeId)
 | buf (cs : List AV) (T : TypeId)
 | map (q : KK) (es : List (Value × AV))
 | dead
abbrev Sto := List AObj
def omap {α β : Type} (f : α → Option β) : List α → Option (List β)
 | [] => some []
 | a :: l =>
  match f a, omap f l with
  | some b, some bs => some (b :: bs)
  | _, _ => none
theorem omap_len {α β : Type} {f : α → Option β} : ∀ {l : List α} {m : List β}, omap f l = some m → m.length = l.length
 | [], m, h => by simp [omap] at h; subst h; rfl
 | a :: l, m, h => by
  rw [omap] at h
  split at h
  · rename_i b bs h1 h2
    simp at h; subst h
    simp [omap_len h2]
  · simp at h
theorem omap_get {α β : Type} {f : α → Option β} : ∀ {l : List α} {m : List β}, omap f l = some m → ∀ (i : Nat) (b : β), m[i]? = some b → ∃ a, l[i]? = some a ∧ f a = some b
 | [], m, h, i, b, hb => by simp [omap] at h; subst h; simp at hb
 | a :: l, m, h, i, b, hb => by
  rw [omap] at h
  split at h
  · rename_i c bs h1 h2
    simp at h; subst h
    cases i with
    | zero => simp at hb; subst hb; exact ⟨a, by simp, h1⟩
    | succ i => simpa using omap_get h2 i b (by simpa using hb)
  · simp at h
def scal : Value → Bool
 | .bool _ | .int _ _ | .string _ | .pointer none | .map none | .nilFunc | .nilIface => true
 | _ => false
def AV.one : AV → Bool
 | .agg _ | .tup _ => false
 | _ => true
def AV.cells : AV → List AV
 | .agg cs => cs
 | v => [v]
def AV.notTup : AV → Bool
 | .tup _ => false
 | _ => true
def abs1 : Value → Option AV
 | .slice none 0 0 => some (.sl [] .full)
 | .func f fs cs => if fs.size = 0 ∧ cs.size = 0 then some (.fn f [] []) else none
 | v => if scal v then some (.lit v) else none
def abs2 : Value → Option AV
 | .agg cs => (omap abs1 cs.toList).map .agg
 | v => abs1 v
def absV : Value → Option AV
 | .tuple cs => (omap abs2 cs.toList).map .tup
 | .iface t v => (abs2 v).map (.ifc t)
 | v => abs2 v
def lit? : AV → Option Value
 | .lit v => some v
 | _ => none
def conc2 : AV → Option Value
 | .lit v => some v
 | .agg cs => (omap lit? cs).map fun l => .agg l.toArray
 | _ => none
def conc : AV → Option Value
 | .tup vs => (omap conc2 vs).map fun l => .tuple l.toArray
 | .ifc t v => (conc2 v).map (.iface t)
 | v => conc2 v
def pureRun {α : Type} (P : Program) : Sem α → Option (α ⊕ Value)
 | .pure a => some (.inl a)
 | .program k => pureRun P (k P)
 | .halt (.panic v) => some (.inr v)
 | _ => none
theorem pureRun_ok {α : Type} {P : Program} : ∀ {m : Sem α} {a : α}, pureRun P m = some (.inl a) → ∀ w, m.run P w = .ok a w
 | .pure _, _, h, w => by simp [pureRun] at h; subst h; rfl
 | .program k, _, h, w => by rw [pureRun] at h; simpa [Sem.run] using pureRun_ok (m := k P) h w
 | .halt x, _, h, w => by cases x <;> simp [pureRun] at h
 | .load .., _, h, _ | .store .., _, h, _ | .new .., _, h, _ | .shape .., _, h, _ | .freeze .., _, h, _ | .frozen .., _, h, _ | .getObj .., _, h, _ | .setObj .., _, h, _ | .choose .., _, h, _ | .sys .., _, h, _ | .mark .., _, h, _ => by simp [pureRun] at h
theorem pureRun_panic {α : Type} {P : Program} : ∀ {m : Sem α} {v : Value}, pureRun P m = some (.inr v) → ∀ w, m.run P w = .halt (.panic v) w
 | .pure _, _, h, w => by simp [pureRun] at h
 | .program k, _, h, w => by rw [pureRun] at h; simpa [Sem.run] using pureRun_panic (m := k P) h w
 | .halt x, _, h, w => by cases x <;> simp [pureRun] at h; subst h; rfl
 | .load .., _, h, _ | .store .., _, h, _ | .new .., _, h, _ | .shape .., _, h, _ | .freeze .., _, h, _ | .frozen .., _, h, _ | .getObj .., _, h, _ | .setObj .., _, h, _ | .choose .., _, h, _ | .sys .., _, h, _ | .mark .., _, h, _ => by simp [pureRun] at h
def szOf (P : Program) (t : TypeId) : Option Nat := (P.info? t).map (·.size)
def bytesOf (P : Program) (t : TypeId) : Option Nat := (P.info? t).map (·.bytes)
def aggT (P : Program) (t : TypeId) : Option Bool := (P.underlying t).map fun | .struct _ | .array _ _ => true | _ => false
def partA (P : Program) (t : TypeId) (cs : List AV) (off : Nat) : Option AV :=
 match aggT P t, szOf P t with
 | some true, some n => if off + n ≤ cs.length then some (.agg ((cs.drop off).take n)) else none
 | some false, some _ => cs[off]?
 | _, _ => none
def putCells (cs : List AV) (off : Nat) : List AV → List AV
 | [] => cs
 | v :: vs => putCells (cs.set off v) (off + 1) vs
def fillA (place : Nat → Option (Nat × Nat)) (cells : List AV) : List (Nat × AV) → Option (List AV)
 | [] => some cells
 | (i, v) :: rest =>
  match place i with
  | none => none
  | some (off, size) => if v.cells.length ≠ size ∨ off + v.cells.length > cells.length ∨ v.notTup = false then none else fillA place (putCells cells off v.cells) rest
def chunks (k : Nat) : Nat → List AV → List (List AV)
 | 0, _ => []
 | n + 1, cs => cs.take k :: chunks k n (cs.drop k)
def evx (tm : List AV) : Operand → Option AV
 | .tmp t => some (tm.getD t (.tup []))
 | .const v => absV v
 | .global g => (globRow g).map fun l => .eptr (l.map .lit) 0
 | .func f => some (.fn (.func f) [] [])
def litInt : AV → Option Int
 | .lit (.int _ n) => some n
 | _ => none
inductive Acc where
 | pure
 | reads (id : Nat)
 | writes (id : Nat)
 | news (id : Nat)
 | grows (kill : Option Nat) (new : Nat)
 | calls (n : Nat) (K : Nat → Bool)
 | lcalls (K : Nat → Bool)
 | any
inductive AStep where
 | val (v : AV) (σ : Sto) (acc : Acc)
 | skip (σ : Sto) (acc : Acc)
 | pan (v : AV)
 | enter (f : FuncId) (args : List AV)
def parts? (ρ : Operand → Option AV) (ps : Array (Nat × Operand)) : Option (List (Nat × AV)) := omap (fun (p : Nat × Operand) => (ρ p.2).map (p.1, ·)) ps.toList
def evLit (P : Program) (ρ : Operand → Option AV) (σ : Sto) (o : Oper) : Option AStep :=
 match o.op with
 | .select .. => none
 | _ =>
 if o.op.operands.all fun x => ((ρ x).bind conc).isSome then
  match pureRun P (execOp (fun x => ((ρ x).bind conc).getD undef) o) with
  | some (.inl (.value u)) => (absV u).map fun d => .val d σ .pure
  | some (.inr v) => (absV v).map .pan
  | _ => none
 else none
def binL (op : BinOp) (a b : Value) : Option Value :=
 match a, b with
 | .int k m, .int k' n =>
  if k = k' then
   (match op with
   | .add => some (.int k (k.wrap (m + n)))
   | .sub => some (.int k (k.wrap (m - n)))
   | .mul => some (.int k (k.wrap (m * n)))
   | .quo => if n = 0 then none else some (.int k (k.wrap (m.tdiv n)))
   | .rem => if n = 0 then none else some (.int k (m.tmod n))
   | .eql => some (.bool (m == n))
   | .neq => some (.bool (m != n))
   | .lss => some (.bool (m < n))
   | .leq => some (.bool (m ≤ n))
   | .gtr => some (.bool (m > n))
   | .geq => some (.bool (m ≥ n))
   | _ => none)
  else none
 | .string s, .string t =>
  (match op with
  | .add => if s.size + t.size ≤ 140737488355328 then some (.string (s ++ t)) else none
  | .eql => some (.bool (s.toList == t.toList))
  | .neq => some (.bool !(s.toList == t.toList))
  | _ => none)
 | _, _ => none
def sliceTok (tok : Tok) (h l : Int) (n : Nat) : Tok :=
 match tok with
 | .full => if h = n then .full else .no
 | .own t => if h = n ∧ l = 0 then .own t else .no
 | .no => .no
 | .fresh _ _ => .no
def bytesAV : List AV → Option (List UInt8)
 | [] => some []
 | .lit (.int .u8 x) :: l => if 0 ≤ x ∧ x < 256 then (bytesAV l).map (UInt8.ofNat x.toNat :: ·) else none
 | _ => none
def evPure (P : Program) (ρ : Operand → Option AV) (o : Oper) : Option AV :=
 match o.op with
 | .move x | .assign x => ρ x
 | .pick c a b => match ρ c with | some (.lit (.bool t)) => if t then ρ a else ρ b | _ => none
 | .build t ps =>
  match (P.info? t).bind (·.zero), P.underlying t, parts? ρ ps with
  | some z, some (.struct fields), some l =>
   match abs2 z, omap (fun (f : Field) => (szOf P f.type).map (f.offset, ·)) fields.toList with
   | some d, some places => if d.notTup then (fillA (places[·]?) d.cells l).map .agg else none
   | _, _ => none
  | _, _, _ => none
 | .nilCheck x =>
  match ρ x with
  | some (.ptr i o) => some (.ptr i o)
  | some (.eptr r o) => some (.eptr r o)
  | some (.fn (.func f) a b) => some (.fn (.func f) a b)
  | _ => none
 | .makeInterface t x =>
  match P.underlying t with
  | some (.interface _) => none
  | some _ => (ρ x).map (.ifc t)
  | none => none
 | .makeFunc f first cap => match omap ρ first.toList, omap ρ cap.toList with | some a, some b => some (.fn f a b) | _, _ => none
 | .fieldAddr s x f =>
  match P.underlying s with
  | some (.struct fields) =>
   match fields[f]? with
   | some fd =>
    match szOf P fd.type with
    | some (_ + 1) => match ρ x with | some (.ptr i o) => some (.ptr i (o + fd.offset)) | some (.eptr r o) => some (.eptr r (o + fd.offset)) | _ => none
    | _ => none
   | none => none
  | _ => none
 | .field t x f =>
  match P.underlying t with
  | some (.struct fields) => match fields[f]?, ρ x with | some fd, some (.agg cs) => partA P fd.type cs fd.offset | _, _ => none
  | _ => none
 | .indexAddr t x i =>
  match P.underlying t, ρ x, (ρ i).bind litInt with
  | some (.slice e), some (.sl es _), some n =>
   match szOf P e with
   | some (k + 1) => if 0 ≤ n then match es[n.toNat]? with | some r => if r.length = k + 1 then some (.eptr r 0) else none | none => none else none
   | _ => none
  | some (.slice e), some (.asl id off m k), some n =>
   match szOf P e with
   | some (k' + 1) => if k = k' + 1 ∧ 0 ≤ n ∧ n < m then some (.ptr id (off + n.toNat * k)) else none
   | _ => none
  | some (.slice e), some (.rsl es _), some n =>
   match szOf P e with
   | some (k + 1) => if 0 ≤ n then match es[n.toNat]? with | some r => if r.length = k + 1 then some (.eptr r 0) else none | none => none else none
   | _ => none
  | _, _, _ => none
 | .slice t x lo hi mx =>
  match P.underlying t, ρ x with
  | some (.slice e), some (.asl id off m k) =>
   match szOf P e, (match lo with | none => some 0 | some y => (ρ y).bind litInt), (match hi with | none => some (m : Int) | some y => (ρ y).bind litInt), mx with
   | some (k' + 1), some l, some h, none => if k = k' + 1 ∧ 0 ≤ l ∧ l ≤ h ∧ h ≤ m ∧ (l = 0 ∨ l < m) then some (.asl id (off + l.toNat * k) (h.toNat - l.toNat) k) else none
   | _, _, _, _ => none
  | some (.slice e), some (.sl es tok) =>
   match szOf P e, (match lo with | none => some 0 | some y => (ρ y).bind litInt), (match hi with | none => some (es.length : Int) | some y => (ρ y).bind litInt), mx with
   | some (k + 1), some l, some h, none =>
    if 0 ≤ l ∧ l ≤ h ∧ h ≤ es.length ∧ (es.head?.all (·.length == k + 1)) then
     some (.sl ((es.take h.toNat).drop l.toNat) (sliceTok tok h l es.length))
    else none
   | _, _, _, _ => none
  | some .string, some (.lit (.string s)) =>
   match (match lo with | none => some 0 | some y => (ρ y).bind litInt), (match hi with | none => some (s.size : Int) | some y => (ρ y).bind litInt), mx with
   | some l, some h, none => if 0 ≤ l ∧ l ≤ h ∧ h ≤ s.size then some (.lit (.string (s.extract l.toNat h.toNat))) else none
   | _, _, _ => none
  | some (.slice e), some (.rsl es g) =>
   match szOf P e, lo, (match hi with | none => none | some y => (ρ y).bind litInt), mx with
   | some (k + 1), none, some h, none =>
    if h = (((es ++ roomRows g).length : Nat) : Int) ∧ ((es ++ roomRows g).head?.all (·.length == k + 1)) = true then some (.sl (es ++ roomRows g) .no) else none
   | _, _, _, _ => none
  | _, _ => none
 | .binOp op t x y _ =>
  match ρ x, ρ y with
  | some (.lit (.bool a)), some (.lit (.bool b)) => (match P.underlying t, op with | some .bool, .eql => some (.lit (.bool (a == b))) | some .bool, .neq => some (.lit (.bool (a != b))) | _, _ => none)
  | some (.lit a), some (.lit b) => (binL op a b).map .lit
  | _, _ => none
 | .unOp op _ x => match op, ρ x with | .not, some (.lit (.bool b)) => some (.lit (.bool !b)) | _, _ => none
 | .index t x i =>
  match P.underlying t, ρ x, (ρ i).bind litInt with
  | some .string, some (.lit (.string s)), some n => if 0 ≤ n then s[n.toNat]?.map fun b => .lit (.int .u8 b.toNat) else none
  | _, _, _ => none
 | .extract x i => match ρ x with | some (.tup vs) => vs[i]? | _ => none
 | .call c =>
  match c.callee, c.args.toList, c.argTypes.toList with
  | .builtin .len, [x], [t] =>
   (match P.underlying t, ρ x with
   | some (.slice _), some (.sl es _) => some (.lit (.int .i64 es.length))
   | some (.slice _), some (.asl _ _ m _) => some (.lit (.int .i64 m))
   | some .string, some (.lit (.string s)) => some (.lit (.int .i64 s.size))
   | some (.slice _), some (.rsl es _) => some (.lit (.int .i64 es.length))
   | _, _ => none)
  | _, _, _ => none
 | .load t x => match ρ x with | some (.eptr r o) => partA P t r o | _ => none
 | .buildSlice t len ps =>
  match P.underlying t, parts? ρ ps with
  | some (.slice e), some l =>
   match szOf P e, (P.info? e).bind (·.zero) with
   | some (k + 1), some z =>
    match abs2 z with
    | some d =>
     if len * (k + 1) ≤ 2 ^ 24 ∧ d.cells.length = k + 1 ∧ d.notTup then
      (fillA (fun i => some (i * (k + 1), k + 1)) (List.replicate len d.cells).flatten l).map fun cs => .sl (chunks (k + 1) len cs) .full
     else none
    | none => none
   | _, _ => none
  | _, _ => none
 | .convert t u x =>
  match P.underlying t, P.underlying u, ρ x with
  | some _, some (.int k), some (.lit (.int _ n)) => some (.lit (.int k (k.wrap n)))
  | some (.slice e), some .string, some (.sl es _) =>
   match P.underlying e, bytesAV es.flatten with
   | some (.int .u8), some l => if es.length = l.length ∧ 0 < es.length ∧ (es.head?.all (·.length == 1)) then some (.lit (.string ⟨l.toArray⟩)) else none
   | _, _ => none
  | _, _, _ => none
 | _ => none
def AV.strip : AV → AV
 | .sl es _ => .sl es .no
 | v => v
def stripRows (es : List (List AV)) : List (List AV) := es.map (·.map AV.strip)
def evAppend (P : Program) (ρ : Operand → Option AV) (σ : Sto) (t : TypeId) (x y : Operand) : Option AStep :=
 match P.underlying t, ρ x, ρ y with
 | some (.slice e), some (.sl es tok), some (.sl fs _) =>
  (match szOf P e, bytesOf P e, ((P.info? e).bind (·.zero)).map (·.cells.size) with
  | some (k + 1), some by_, some zn =>
   if zn = k + 1 ∧ (es.head?.all (·.length == k + 1)) ∧ (fs.head?.all (·.length == k + 1)) ∧ (es.length + fs.length) * by_ ≤ 140737488355328 ∧ es.length + fs.length ≤ 140737488355328 then
    if fs.length = 0 then some (.val (.sl es tok) σ .pure) else
    (match tok with
    | .no => none
    | .full => some (.val (.sl (es ++ stripRows fs) (.own σ.length)) (σ ++ [.tok ((es.length + fs.length) * (k + 1)) e]) (.news σ.length))
    | .own i =>
     (match σ[i]? with
     | some (.tok m e') => if m = es.length * (k + 1) ∧ e' = e then some (.val (.sl (es ++ stripRows fs) (.own σ.length)) (σ.set i .dead ++ [.tok ((es.length + fs.length) * (k + 1)) e]) .any) else none
     | _ => none)
    | .fresh i k' =>
     (match σ[i]? with
     | some (.tok m e') => if (m = es.length * (k + 1) ∧ e' = e) ∧ es = [] ∧ k' = k + 1 then some (.val (.sl (es ++ stripRows fs) (.own σ.length)) (σ.set i .dead ++ [.tok ((es.length + fs.length) * (k + 1)) e]) .any) else none
     | _ => none))
   else none
  | _, _, _ => none)
 | _, _, _ => none
def evPut (P : Program) (ρ : Operand → Option AV) (σ : Sto) (t : TypeId) (m k x : Operand) : Option AStep :=
 match P.underlying t, ρ m, (ρ k).bind lit?, ρ x with
 | some (.map kt _), some (.mp id), some key, some v =>
  (match (P.underlying kt).bind kkOf, σ[id]? with
  | some q, some (.map q' es) => if q = q' ∧ q.fits key = true ∧ v.notTup = true then some (.skip (σ.set id (.map q' (mapPut key v es))) (.writes id)) else none
  | _, _ => none)
 | _, _, _, _ => none
def lookA (ok : Bool) (z : AV) (r : Option AV) : AV := if ok then .tup [r.getD z, .lit (.bool r.isSome)] else r.getD z
def evGet (P : Program) (ρ : Operand → Option AV) (σ : Sto) (t : TypeId) (m k : Operand) (ok : Bool) : Option AStep :=
 match P.underlying t, ρ m, (ρ k).bind lit? with
 | some (.map kt e), some (.mp id), some key =>
  (match (P.underlying kt).bind kkOf, ((P.info? e).bind (·.zero)).bind abs2, σ[id]? with
  | some q, some z, some (.map q' es) => if q = q' ∧ q.fits key = true then some (.val (lookA ok z (mapGet key es)) σ (.reads id)) else none
  | _, _, _ => none)
 | _, _, _ => none
def evMk (P : Program) (σ : Sto) (t : TypeId) (rs : Option Operand) : Option AStep :=
 match rs, P.underlying t with
 | none, some (.map kt _) => ((P.underlying kt).bind kkOf).map fun q => .val (.mp σ.length) (σ ++ [.map q []]) (.news σ.length)
 | _, _ => none
def evLenM (P : Program) (ρ : Operand → Option AV) (σ : Sto) (t : TypeId) (x : Operand) : Option AStep :=
 match P.underlying t, ρ x with
 | some (.map _ _), some (.mp id) => (match σ[id]? with | some (.map _ es) => some (.val (.lit (.int .i64 es.length)) σ (.reads id)) | _ => none)
 | _, _ => none
def evMem (P : Program) (ρ : Operand → Option AV) (σ : Sto) (o : Oper) : Option AStep :=
 match o.op with
 | .alloc e =>
  match (P.info? e).bind (·.zero) with
  | some z => match abs2 z with | some d => if d.notTup then some (.val (.ptr σ.length 0) (σ ++ [.cells d.cells e]) (.news σ.length)) else none | none => none
  | none => none
 | .box e x => match ρ x with | some d => if d.notTup then some (.val (.ptr σ.length 0) (σ ++ [.cells d.cells e]) (.news σ.length)) else none | none => none
 | .load t x => match ρ x with | some (.ptr id off) => (match σ[id]? with | some (.cells cs _) => (partA P t cs off).map fun v => .val v σ (.reads id) | _ => none) | _ => none
 | .store t x y =>
  match ρ x, ρ y, szOf P t with
  | some (.ptr id off), some v, some n =>
   match σ[id]? with
   | some (.cells cs T) => if v.cells.length = n ∧ off + n ≤ cs.length ∧ v.notTup then some (.skip (σ.set id (.cells (putCells cs off v.cells) T)) (.writes id)) else none
   | _ => none
  | _, _, _ => none
 | .call c =>
  match c.callee with
  | .builtin .append =>
   (match c.args.toList, c.argTypes.toList with
   | [x, y], [t, u] => if t = u then evAppend P ρ σ t x y else none
   | _, _ => none)
  | .builtin .len =>
   (match c.args.toList, c.argTypes.toList with
   | [x], [t] => evLenM P ρ σ t x
   | _, _ => none)
  | .value f =>
   (match ρ f, omap ρ c.args.toList with
   | some (.fn (.func g) first cap), some l => some (.enter g (first ++ l ++ cap))
   | _, _ => none)
  | _ => none
 | .panic x => match ρ x with | some (.ifc t v) => some (.pan (.ifc t v)) | _ => none
 | .makeMap t rs => evMk P σ t rs
 | .insert t m k x | .mapUpdate t m k x => evPut P ρ σ t m k x
 | .lookup t m k ok => evGet P ρ σ t m k ok
 | _ => none
def rowsA (σ : Sto) (k : Nat) : AV → Option (List (List AV))
 | .sl es _ => if es.head?.all (·.length == k) then some es else none
 | .asl id off n k' => if k' = k then (match σ[id]? with | some (.cells cs _) => if off + n * k ≤ cs.length then some (chunks k n (cs.drop off)) else none | _ => none) else none
 | _ => none
def evAppendM (P : Program) (ρ : Operand → Option AV) (σ : Sto) (t : TypeId) (x y : Operand) : Option AStep :=
 match P.underlying t, ρ x, ρ y with
 | some (.slice e), some a, some b =>
  (match szOf P e, bytesOf P e, ((P.info? e).bind (·.zero)).map (·.cells.size) with
  | some (k + 1), some by_, some zn =>
   (match rowsA σ (k + 1) a, rowsA σ (k + 1) b with
   | some es, some fs =>
    if zn = k + 1 ∧ (es.length + fs.length) * by_ ≤ 140737488355328 ∧ es.length + fs.length ≤ 140737488355328 ∧ fs.length ≠ 0 then
     (match a with
     | .sl [] .full => some (.val (.asl σ.length 0 fs.length (k + 1)) (σ ++ [.cells fs.flatten e]) (.grows none σ.length))
     | .asl id 0 n _ =>
      (match σ[id]? with
      | some (.cells _ T) => if T = e ∧ n = es.length then some (.val (.asl σ.length 0 (es.length + fs.length) (k + 1)) (σ.set id .dead ++ [.cells (es ++ fs).flatten e]) (.grows (some id) σ.length)) else none
      | _ => none)
     | _ => none)
    else none
   | _, _ => none)
  | _, _, _ => none)
 | _, _, _ => none
def byteAV (s : ByteArray) : List AV := s.data.toList.map fun b => .lit (.int .u8 b.toNat)
def evAppendS (P : Program) (ρ : Operand → Option AV) (σ : Sto) (t u : TypeId) (x y : Operand) : Option AStep :=
 match P.underlying t, P.underlying u, ρ x, ρ y with
 | some (.slice e), some .string, some a, some (.lit (.string s)) =>
  (match szOf P e, bytesOf P e, (P.info? e).bind (·.zero) with
  | some 1, some 1, some (.int .u8 0) =>
   if s.size ≤ 140737488355328 then
    (match a with
    | .sl [] .full => if s.size = 0 then some (.val a σ .pure) else some (.val (.asl σ.length 0 s.size 1) (σ ++ [.cells (byteAV s) e]) (.grows none σ.length))
    | .asl id 0 n 1 =>
     if s.size = 0 then some (.val a σ .pure) else
     if n + s.size ≤ 140737488355328 then
      (match σ[id]? with
      | some (.cells cs T) => if T = e ∧ n ≤ cs.length then some (.val (.asl σ.length 0 (n + s.size) 1) (σ.set id .dead ++ [.cells (cs.take n ++ byteAV s) e]) (.grows (some id) σ.length)) else none
      | some (.buf cs T) => if T = e ∧ n = cs.length then some (.val (.asl σ.length 0 (n + s.size) 1) (σ.set id .dead ++ [.buf (cs ++ byteAV s) e]) (.grows (some id) σ.length)) else none
      | _ => none)
     else none
    | _ => none)
   else none
  | _, _, _ => none)
 | _, _, _, _ => none
def isZero : Operand → Bool
 | .const (.int _ n) => n == 0
 | _ => false
def evMake (P : Program) (ρ : Operand → Option AV) (σ : Sto) (t : TypeId) (x y : Operand) : Option AStep :=
 match P.underlying t, ρ x, ρ y with
 | some (.slice e), some (.lit (.int _ l)), some (.lit (.int _ c)) =>
  (match szOf P e, bytesOf P e, (P.info? e).bind (·.zero) with
  | some (k + 1), some by_, some z =>
   (match abs2 z with
   | some d => if (0 ≤ l ∧ l ≤ c ∧ (by_ : Int) * c ≤ 140737488355328 ∧ c ≤ 140737488355328) ∧ d.cells.length = k + 1 ∧ d.notTup then (if isZero x ∧ l = 0 then some (.val (.sl [] (.fresh σ.length (k + 1))) (σ ++ [.tok 0 e]) (.news σ.length)) else some (.val (.asl σ.length 0 l.toNat (k + 1)) (σ ++ [.cells (List.replicate l.toNat d.cells).flatten e]) (.news σ.length))) else none
   | none => none)
  | _, _, _ => none)
 | _, _, _ => none
def mutOp (M : List TypeId) (o : Oper) : Bool :=
 match o.op with
 | .buildSlice t _ _ => M.contains t
 | .makeSlice t l _ => isZero l || M.contains t
 | .call c => (match c.callee, c.argTypes.toList with | .builtin .append, [t, _] => M.contains t | _, _ => false)
 | _ => false
def evMut (P : Program) (ρ : Operand → Option AV) (σ : Sto) (o : Oper) : Option AStep :=
 match o.op with
 | .buildSlice t len ps =>
  match P.underlying t, parts? ρ ps with
  | some (.slice e), some l =>
   match szOf P e, (P.info? e).bind (·.zero) with
   | some (k + 1), some z =>
    match abs2 z with
    | some d =>
     if len * (k + 1) ≤ 2 ^ 24 ∧ d.cells.length = k + 1 ∧ d.notTup then
      (fillA (fun i => some (i * (k + 1), k + 1)) (List.replicate len d.cells).flatten l).map fun cs => .val (.asl σ.length 0 len (k + 1)) (σ ++ [.cells cs e]) (.news σ.length)
     else none
    | none => none
   | _, _ => none
  | _, _ => none
 | .makeSlice t l c => evMake P ρ σ t l c
 | .call c =>
  match c.callee with
  | .builtin .append =>
   (match c.args.toList, c.argTypes.toList with
   | [x, y], [t, u] => if t = u then evAppendM P ρ σ t x y else evAppendS P ρ σ t u x y
   | _, _ => none)
  | _ => none
 | _ => none
def evStep (P : Program) (M : List TypeId) (ρ : Operand → Option AV) (σ : Sto) (o : Oper) : Option AStep :=
 if mutOp M o then evMut P ρ σ o else
 match evPure P ρ o with
 | some v => some (.val v σ .pure)
 | none =>
  match evLit P ρ σ o with
  | some s => some s
  | none => evMem P ρ σ o
inductive ARes where
 | ret (v : AV)
 | pan (v : AV)
inductive AExit where
 | normal
 | exit (id : Nat)
 | ret
 | pan (v : AV)
def putA (tm : List AV) : Option Tmp → AV → List AV
 | some d, v => tm.set d v
 | none, _ => tm
def yieldedA (ops : Array Oper) (tm : List AV) (j : Nat) : Option Bool :=
 match ((ops[j]?).bind (·.dst)).bind (tm[·]?) with
 | some (.lit (.bool b)) => some b
 | _ => none
abbrev CallF := FuncId → List AV → Sto → Option (ARes × Sto)
noncomputable def extB (σ σ' : Sto) : Bool := @decide (∃ g, σ' = σ ++ g) (Classical.propDecidable _)
theorem extB_of {σ σ' : Sto} (h : ∃ g, σ' = σ ++ g) : extB σ σ' = true := by unfold extB; exact @decide_eq_true _ (Classical.propDecidable _) h
theorem extB_to {σ σ' : Sto} (h : extB σ σ' = true) : ∃ g, σ' = σ ++ g := by unfold extB at h; exact @of_decide_eq_true _ (Classical.propDecidable _) h
noncomputable def keptB (σ σ' : Sto) (a : Nat) : Bool := @decide (σ'[a]? = σ[a]?) (Classical.propDecidable _)
theorem keptB_of {σ σ' : Sto} {a : Nat} (h : σ'[a]? = σ[a]?) : keptB σ σ' a = true := by unfold keptB; exact @decide_eq_true _ (Classical.propDecidable _) h
theorem keptB_to {σ σ' : Sto} {a : Nat} (h : keptB σ σ' a = true) : σ'[a]? = σ[a]? := by unfold keptB at h; exact @of_decide_eq_true _ (Classical.propDecidable _) h
theorem kept_to {σ σ' : Sto} {a : Nat} (h : (extB σ σ' || keptB σ σ' a) = true) (hl : a < σ.length) : σ'[a]? = σ[a]? := by
 rw [Bool.or_eq_true] at h
 rcases h with h | h
 · obtain ⟨g, rfl⟩ := extB_to h
   exact List.getElem?_append_left hl
 · exact keptB_to h
noncomputable def locB (call : CallF) (f : FuncId) (args : List AV) (σ : Sto) (r : ARes) (σ' : Sto) : Bool := @decide (σ'.length = σ.length ∧ ∀ l, call f args (σ ++ l) = some (r, σ' ++ l)) (Classical.propDecidable _)
noncomputable def accC (call : CallF) (f : FuncId) (args : List AV) (σ : Sto) (r : ARes) (σ' : Sto) : Acc := if locB call f args σ r σ' then .lcalls (keptB σ σ') else .calls σ.length fun a => extB σ σ' || keptB σ σ' a
noncomputable def evOp (P : Program) (M : List TypeId) (call : CallF) (ops : Array Oper) (o : Oper) (tm : List AV) (σ : Sto) : Option ((AV ⊕ (List AV × Acc)) × Sto) :=
 if Region.wanted o (yieldedA ops tm) then
  match evStep P M (evx tm) σ o with
  | some (.val v σ' acc) => some (.inr (putA tm o.dst v, acc), σ')
  | some (.skip σ' acc) => some (.inr (putA tm o.dst (.tup []), acc), σ')
  | some (.pan v) => some (.inl v, σ)
  | some (.enter f args) =>
   match call f args σ with
   | some (.ret v, σ') => some (.inr (putA tm o.dst v, accC call f args σ (.ret v) σ'), σ')
   | some (.pan v, σ') => some (.inl v, σ')
   | none => none
  | none => none
 else some (.inr (putA tm o.dst (.tup []), .pure), σ)
noncomputable def evOps (P : Program) (M : List TypeId) (call : CallF) (ops : Array Oper) : List Nat → List AV → Sto → Option (AExit × List AV × Sto)
 | [], tm, σ => some (.normal, tm, σ)
 | i :: rest, tm, σ =>
  match ops[i]? with
  | none => evOps P M call ops rest tm σ
  | some o =>
   match evOp P M call ops o tm σ with
   | some (.inr (tm', _), σ') => evOps P M call ops rest tm' σ'
   | some (.inl v, σ') => some (.pan v, tm, σ')
   | none => none
def resA (P : Program) (tm : List AV) (σ : Sto) : ResultVar → Option AV
 | .tmp t => some (tm.getD t (.tup []))
 | .cell a t => match tm.getD a (.tup []) with | .ptr id off => (match σ[id]? with | some (.cells cs _) => partA P t cs off | _ => none) | _ => none
def zA (P : Program) (fn : Func) (tm : List AV) (σ : Sto) : Option AV :=
 match omap (resA P tm σ) fn.results.toList with
 | some [v] => some v
 | some vs => some (.tup vs)
 | none => none
def clash : Acc → Acc → Bool
 | .pure, _ | _, .pure => false
 | .reads _, .reads _ => false
 | .reads a, .grows k n | .grows k n, .reads a => k == some a || a == n
 | .reads a, .calls _ K => !K a
 | .calls n K, .reads a => !(K a && decide (a < n))
 | .reads a, .lcalls K | .lcalls K, .reads a => !K a
 | .lcalls _, .news _ => false
 | .reads a, .writes b | .writes a, .reads b | .writes a, .writes b | .reads a, .news b | .news a, .reads b | .writes a, .news b | .news a, .writes b => a == b
 | _, _ => true
def maskOf (o : Oper) (acc : List Nat) : Nat := o.after.toList.foldl (fun s e => if Region.binds .any e then s ||| 2 ^ e.on ||| acc.getD e.on 0 else s) 0
def masks : List Oper → List Nat → List Nat
 | [], acc => acc
 | o :: rest, acc => masks rest (acc ++ [maskOf o acc])
def edgesOk : List Oper → Nat → Bool
 | [], _ => true
 | o :: rest, i => o.after.toList.all (fun e => !Region.binds .any e || decide (e.on < i)) && edgesOk rest (i + 1)
noncomputable def evD (P : Program) (M : List TypeId) (call : CallF) (ops : Array Oper) : List Nat → List AV → Sto → Option (List Acc × Option AV × List AV × Sto)
 | [], tm, σ => some ([], none, tm, σ)
 | i :: rest, tm, σ =>
  match ops[i]? with
  | none => none
  | some o =>
   match evOp P M call ops o tm σ with
   | some (.inr (tm', acc), σ') =>
    match evD P M call ops rest tm' σ' with
    | some (accs, r) => some (acc :: accs, r)
    | none => none
   | some (.inl v, σ') => some ([], some v, tm, σ')
   | none => none
def freeAt (ops : Array Oper) (ms : List Nat) (accs : List Acc) (k i : Nat) : Bool :=
 (ms.getD i 0).testBit k ||
 (match ops[k]?, ops[i]? with
  | some x, some y => Oper.apart ops x y && Oper.apart ops y x && !clash (accs.getD k .any) (accs.getD i .any)
  | _, _ => false)
def drawOk (ops : Array Oper) (accs : List Acc) : Bool :=
 let ms := masks ops.toList []
 (List.range accs.length).all fun i => (List.range i).all fun k => freeAt ops ms accs k i
def panicOk (ops : Array Oper) (p : Nat) : Bool :=
 let ms := masks ops.toList []
 (List.range p).all (fun k => (ms.getD p 0).testBit k) && (List.range ops.size).all fun j => decide (j ≤ p) || (ms.getD j 0).testBit p
noncomputable def evRegion (P : Program) (M : List TypeId) (call : CallF) (ops : Array Oper) (draw : Bool) (tm : List AV) (σ : Sto) : Option (AExit × List AV × Sto) :=
 if draw then
  match evD P M call ops (List.range ops.size) tm σ with
  | some (accs, none, tm', σ') => if edgesOk ops.toList 0 && drawOk ops accs then some (.normal, tm', σ') else none
  | some (accs, some v, tm', σ') => if edgesOk ops.toList 0 && drawOk ops accs && panicOk ops accs.length then some (.pan v, tm', σ') else none
  | none => none
 else evOps P M call ops (List.range ops.size) tm σ
noncomputable def evCode (P : Program) (M : List TypeId) (call : CallF) : Nat → Code → List AV → Sto → Option (AExit × List AV × Sto)
 | 0, _, _, _ => none
 | n + 1, c, tm, σ =>
  match c with
  | .skip | .label _ => some (.normal, tm, σ)
  | .ret => some (.ret, tm, σ)
  | .exit id => some (.exit id, tm, σ)
  | .seq a b =>
   match evCode P M call n a tm σ with
   | some (.normal, tm', σ') => evCode P M call n b tm' σ'
   | r => r
  | .cond c a b =>
   match evx tm c with
   | some (.lit (.bool t)) => evCode P M call n (if t then a else b) tm σ
   | _ => none
  | .block id a =>
   match evCode P M call n a tm σ with
   | some (.exit id', tm', σ') => if id' = id then some (.normal, tm', σ') else some (.exit id', tm', σ')
   | r => r
  | .loop a =>
   match evCode P M call n a tm σ with
   | some (.normal, tm', σ') => evCode P M call n (.loop a) tm' σ'
   | r => r
  | .scope a => evCode P M call n a tm σ
  | .region _ ops draw => evRegion P M call ops draw tm σ
  | _ => none
structure Env where
 code : FuncId → Option Func
 prim : FuncId → Option (List AV → Sto → Option (ARes × Sto))
 ms : FuncId → List TypeId := fun _ => []
noncomputable def evCall (P : Program) (E : Env) : Nat → CallF
 | 0, _, _, _ => none
 | n + 1, f, args, σ =>
  match E.prim f with
  | some g => g args σ
  | none =>
   match E.code f with
   | none => none
   | some fn =>
    match fn.body with
    | none => none
    | some c =>
     match evCode P (E.ms f) (evCall P E n) (n + 1) c (args ++ List.replicate (fn.ntmps - args.length) (.tup [])) σ with
     | some (.normal, tm, σ') | some (.ret, tm, σ') => (zA P fn tm σ').map fun v => (.ret v, σ')
     | some (.pan v, _, σ') => some (.pan v, σ')
     | _ => none
end
end Go.Proofs.YtmmgjaheffbpaaaGreatDoor
