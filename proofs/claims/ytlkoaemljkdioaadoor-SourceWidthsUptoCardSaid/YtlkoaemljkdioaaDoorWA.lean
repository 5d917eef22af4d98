/- An abstract machine on values without addresses, and how it stands to the model's machine. -/
import Derived.WalkKit
import Derived.Below
import Derived.Maps.AppendAt
import Derived.Laws.StructEq
section
/- The abstract machine: values without addresses; places; operations that leave memory as it is. No program in sight. -/
namespace Go.Ew

/-- A cell's content. bot: unknown. sl, ref, clo: what is never written again. vec: an own slice (in own memory alone). -/
inductive PV where
  | bot
  | v (x : Value)
  | sl (k : Nat) (es : List (List PV))
  | ref (cs : List PV)
  | clo (f : FuncId) (cap : List PV)
  | vec (k : Nat) (es : List (List PV))
  /-- a slice of no elements and no room -/
  | zc
  /-- a map that is written no more: keys, contents -/
  | mp (ks : List Value) (vs : List PV)
  deriving Inhabited

/-- Steps (element, its cells, the cell) below a root's cell; the innermost first. -/
abbrev Path := List (Nat × Nat × Nat)

/-- What a closure captured: a value that stays, or a root of the call's own. -/
inductive Cap where
  | p (x : PV)
  | r (o : Nat)
  deriving Inhabited

/-- One cell. ptr: the address of a place; view: the slice whose header lies at that place; pre: its first n elements. -/
inductive CV where
  | c (p : PV)
  | ptr (o off : Nat) (π : Path)
  | view (o off : Nat) (π : Path)
  | pre (o off : Nat) (π : Path) (n : Nat)
  | clo (f : FuncId) (cap : List Cap)
  /-- a map of the call's own -/
  | mp (o : Nat)
  deriving Inhabited
abbrev CV.bot : CV := .c .bot

inductive UV where
  | one (c : CV)
  | agg (cs : List CV)
  deriving Inhabited

/-- w: known if all of these hold; else nothing was laid. -/
inductive TV where
  | bot
  | u (x : UV)
  | tup (xs : List UV)
  | w (g : List Bool) (x : UV)
  deriving Inhabited

/-- A root: nothing; an object; a slice of the call's own that lies in no cell. -/
inductive MC where
  | no
  | obj (cs : List CV)
  | reg (p : PV)
  | map (ks : List Value) (cs : List CV)
  deriving Inhabited

def look : List (Nat × MC) → Nat → MC
  | [], _ => .no
  | (k, m) :: r, o => if k = o then m else look r o
def lay : List (Nat × MC) → Nat → MC → List (Nat × MC)
  | [], o, m => [(o, m)]
  | (k, x) :: r, o, m => if k = o then (o, m) :: r else (k, x) :: lay r o m
theorem look_lay_same (l : List (Nat × MC)) (o : Nat) (m : MC) : look (lay l o m) o = m := by
  induction l with
  | nil => simp [lay, look]
  | cons x r ih =>
    obtain ⟨k, y⟩ := x
    by_cases h : k = o
    · simp [lay, look, h]
    · simp [lay, look, h, ih]
theorem look_lay_other (l : List (Nat × MC)) (o : Nat) (m : MC) (i : Nat) (h : i ≠ o) : look (lay l o m) i = look l i := by
  induction l with
  | nil => simp [lay, look, Ne.symm h]
  | cons x r ih =>
    obtain ⟨k, y⟩ := x
    by_cases hk : k = o
    · subst hk; simp [lay, look, Ne.symm h]
    · by_cases hi : k = i
      · subst hi; simp [lay, look, hk]
      · simp [lay, look, hk, hi, ih]

structure St where
  tmps : List TV
  mem : List (Nat × MC)

structure TI where
  zero : List Value
  bytes : Nat
  isA : Bool
structure Tab where
  ti : TypeId → Option TI
  stc : TypeId → Option (List (Nat × TypeId))
  elem : TypeId → Option TypeId
  arr : TypeId → Option (Nat × TypeId)
  glob : Nat → Option (List PV)
  /-- a map's kind of keys (none: texts) and its elements' zero -/
  mapT : TypeId → Option (Option IntKind × Value)
def Tab.fld (T : Tab) (s : TypeId) (f : Nat) : Option (Nat × TypeId) :=
  match T.stc s with
  | some l => l[f]?
  | none => none
/-- Where a part of a literal goes, and how many cells it has. -/
def Tab.place (T : Tab) (t : TypeId) (f : Nat) : Option (Nat × Nat) :=
  match T.stc t with
  | some l => match l[f]? with
    | some (off, ft) => match T.ti ft with
      | some j => some (off, j.zero.length)
      | none => none
    | none => none
  | none => match T.arr t with
    | some (_, e) => match T.ti e with
      | some j => some (f * j.zero.length, j.zero.length)
      | none => none
    | none => none

abbrev TV.p (x : PV) : TV := .u (.one (.c x))
abbrev TV.val (x : Value) : TV := .u (.one (.c (.v x)))
abbrev TV.a (x : CV) : TV := .u (.one x)

def ofConst : Value → TV
  | .agg cs => if cs.toList.all (·.oneCell') then .u (.agg (cs.toList.map fun x => .c (.v x))) else .bot
  | .tuple vs => if vs.size = 0 then .tup [] else .bot
  | x => .val x

def St.get (σ : St) (t : Nat) : TV := σ.tmps.getD t .bot
def St.put (σ : St) (d : Option Tmp) (x : TV) : St :=
  match d with
  | some d => { σ with tmps := σ.tmps.set d x }
  | none => σ

/-! ### Places -/
def PV.elem : Nat × Nat × Nat → PV → Option PV
  | (i, k, f), .vec k' es => if k = k' then
      match es[i]? with
      | some row => row[f]?
      | none => none
    else none
  | _, _ => none
def PV.down : Path → PV → Option PV
  | [], p => some p
  | s :: π, p => match PV.down π p with
    | some q => q.elem s
    | none => none
def cellAt : MC → Nat → Option PV
  | .obj cs, off => match cs[off]? with
    | some (.c p) => some p
    | _ => none
  | .reg p, off => if off = 0 then some p else none
  | _, _ => none
def at_ (mem : List (Nat × MC)) (o off : Nat) (π : Path) : Option PV :=
  match cellAt (look mem o) off with
  | some p => PV.down π p
  | none => none

/-! ### Guards -/
/-- Each of these holds where all of those do. -/
def imp (gl : List Bool) : List Bool → Bool
  | [] => true
  | b :: g => (b || gl.any fun c => c == b) && imp gl g
def TV.acc (gl : List Bool) : TV → TV
  | .w g x => if imp gl g = true then .u x else .bot
  | t => t
def opd (T : Tab) (σ : St) : Operand → TV
  | .tmp t => σ.get t
  | .const x => ofConst x
  | .global g => match T.glob g with
    | some cs => .p (.ref cs)
    | none => .bot
  | .func f => .p (.clo f [])
def opg (T : Tab) (gl : List Bool) (σ : St) (x : Operand) : TV := (opd T σ x).acc gl
/-- What an operation under a guard gives. -/
def St.putG (σ : St) (gl : List Bool) (d : Option Tmp) (x : TV) : St :=
  match gl with
  | [] => σ.put d x
  | b :: g => match x with
    | .u y => σ.put d (.w (b :: g) y)
    | _ => σ.put d .bot

/-! ### Parts of values -/
def UV.cells : UV → List CV
  | .one c => [c]
  | .agg cs => cs
def TV.cells : TV → Option (List CV)
  | .u x => some x.cells
  | _ => none
def mk (isA : Bool) (cs : List CV) : TV := if isA then .u (.agg cs) else .u (.one (cs.headD .bot))
/-- A frozen slice's elements, of n cells each. -/
def CV.els (n : Nat) : CV → Option (List (List PV))
  | .c (.sl k es) => if k = n then some es else none
  | .c (.v (.slice none 0 0)) => some []
  | .c .zc => some []
  | _ => none
def TV.els (n : Nat) : TV → Option (List (List PV))
  | .u (.one c) => c.els n
  | _ => none
def TV.flat : TV → Option Value
  | .u (.one (.c (.v x))) => some x
  | _ => none
def TV.int : TV → Option Int
  | .u (.one (.c (.v (.int _ n)))) => some n
  | _ => none
def TV.bool : TV → Option Bool
  | .u (.one (.c (.v (.bool b)))) => some b
  | _ => none
/-- An own slice: its place and how many elements of n cells. -/
def viewOf (mem : List (Nat × MC)) (n : Nat) : TV → Option (Nat × Nat × Path × Nat)
  | .u (.one (.view o off π)) => match at_ mem o off π with
    | some (.vec k es) => if k = n then some (o, off, π, es.length) else none
    | _ => none
  | .u (.one (.pre o off π m)) => match at_ mem o off π with
    | some (.vec k es) => if k = n ∧ m ≤ es.length then some (o, off, π, m) else none
    | _ => none
  | _ => none
def PV.nv : PV → Bool
  | .vec _ _ => false
  | _ => true
def CV.nv : CV → Bool
  | .c p => p.nv
  | _ => true
/-- What a read of cells gives: own slices as views. -/
def peekG (o : Nat) : Nat → List CV → List CV
  | _, [] => []
  | off, c :: cs => (match c with
    | .c (.vec _ _) => .view o off []
    | c => c) :: peekG o (off + 1) cs
def peekC (o off : Nat) (cs : List CV) : List CV := if cs.all CV.nv then cs else peekG o off cs
def peekH (o off i k : Nat) (π : Path) : Nat → List PV → List CV
  | _, [] => []
  | f, p :: ps => (match p with
    | .vec _ _ => .view o off ((i, k, f) :: π)
    | p => .c p) :: peekH o off i k π (f + 1) ps
def peekP (o off i k : Nat) (π : Path) (f : Nat) (ps : List PV) : List CV := if ps.all PV.nv then ps.map .c else peekH o off i k π f ps

/-! ### Arithmetic -/
/-- What a computation gives that asks the program alone. -/
def pureIn {α : Type} (P : Program) : Sem α → Option α
  | .pure a => some a
  | .program k => pureIn P (k P)
  | _ => none
theorem pureIn_run {α : Type} {P : Program} {s : Sem α} {x : α} (h : pureIn P s = some x) (w : World) : s.run P w = .ok x w := by
  induction s with
  | pure a => simp only [pureIn] at h; cases h; rfl
  | program k ih => simp only [pureIn] at h; simp only [Sem.run]; exact ih P h
  | _ => simp [pureIn] at h

def binA (op : BinOp) : Value → Value → Option Value
  | .int k a, .int k' b => match op with
    | .shl => if 0 ≤ b then some (.int k (k.wrap (a * 2 ^ min b.toNat k.bits))) else none
    | .shr => if 0 ≤ b then some (.int k (a.fdiv (2 ^ min b.toNat k.bits))) else none
    | .add => if k = k' then some (.int k (k.wrap (a + b))) else none
    | .sub => if k = k' then some (.int k (k.wrap (a - b))) else none
    | .mul => if k = k' then some (.int k (k.wrap (a * b))) else none
    | .quo => if k = k' ∧ b ≠ 0 then some (.int k (k.wrap (a.tdiv b))) else none
    | .rem => if k = k' ∧ b ≠ 0 then some (.int k (a.tmod b)) else none
    | .and => if k = k' then some (.int k (k.wrap (BitVec.ofInt k.bits a &&& BitVec.ofInt k.bits b).toNat)) else none
    | .or => if k = k' then some (.int k (k.wrap (BitVec.ofInt k.bits a ||| BitVec.ofInt k.bits b).toNat)) else none
    | .xor => if k = k' then some (.int k (k.wrap (BitVec.ofInt k.bits a ^^^ BitVec.ofInt k.bits b).toNat)) else none
    | .andNot => if k = k' then some (.int k (k.wrap (BitVec.ofInt k.bits a &&& ~~~BitVec.ofInt k.bits b).toNat)) else none
    | .eql => if k = k' then some (.bool (decide (a = b))) else none
    | .neq => if k = k' then some (.bool (!decide (a = b))) else none
    | .lss => if k = k' then some (.bool (decide (a < b))) else none
    | .leq => if k = k' then some (.bool (decide (a ≤ b))) else none
    | .gtr => if k = k' then some (.bool (decide (b < a))) else none
    | .geq => if k = k' then some (.bool (decide (b ≤ a))) else none
  | .string a, .string b => match op with
    | .add => if ((a.size + b.size : Nat) : Int) ≤ IntKind.i64.max then some (.string (a ++ b)) else none
    | .eql => some (.bool (decide (a.toList = b.toList)))
    | .neq => some (.bool (!decide (a.toList = b.toList)))
    | _ => none
  | _, _ => none
def unA (op : UnOp) : Value → Option Value
  | .bool b => match op with
    | .not => some (.bool (!b))
    | _ => none
  | .int k n => match op with
    | .neg => some (.int k (k.wrap (0 - n)))
    | .xor => some (.int k (k.wrap (BitVec.ofInt k.bits (if k.signed then -1 else k.max) ^^^ BitVec.ofInt k.bits n).toNat))
    | _ => none
  | _ => none
/-- An int becomes one of another kind. -/
def convA (P : Program) (d : TypeId) : Value → Option Value
  | .int _ n => match P.underlying d with
    | some (.int k) => some (.int k (k.wrap n))
    | _ => none
  | _ => none
/-! ### Maps -/
def kindD : Option IntKind → TypeDesc
  | none => .string
  | some k => .int k
def keyOK : Option IntKind → Value → Bool
  | none, .string _ => true
  | some k, .int j _ => decide (j = k)
  | _, _ => false
def keysOf (kd : Option IntKind) : List Value → Bool
  | [] => true
  | k :: ks => keyOK kd k && keysOf kd ks
def eqKey : Value → Value → Bool
  | .string a, .string b => decide (a.toList = b.toList)
  | .int _ a, .int _ b => decide (a = b)
  | _, _ => false
/-- Which of the keys it is. -/
def findK (x : Value) : List Value → Option Nat
  | [] => none
  | k :: ks => if eqKey x k = true then some 0 else (findK x ks).map (· + 1)
def lookC (z : Value) (cs : List CV) : Option Nat → CV
  | some i => cs.getD i .bot
  | none => .c (.v z)
def insK (x : Value) (ks : List Value) : Option Nat → List Value
  | some _ => ks
  | none => ks ++ [x]
def insC (c : CV) (cs : List CV) : Option Nat → List CV
  | some i => cs.set i c
  | none => cs ++ [c]
def mapOf (mem : List (Nat × MC)) : TV → Option (List Value × List CV)
  | .u (.one (.mp o)) => match look mem o with
    | .map ks cs => some (ks, cs)
    | _ => none
  | .u (.one (.c (.mp ks vs))) => some (ks, vs.map .c)
  | .u (.one (.c (.v (.map none)))) => some ([], [])
  | _ => none
def TV.isMap : TV → Bool
  | .u (.one (.mp _)) => true
  | _ => false
def lookupOp (T : Tab) (σ : St) (t : TypeId) (x k : TV) (commaOk : Bool) : Option TV :=
  match T.mapT t with
  | none => none
  | some (kd, z) => match mapOf σ.mem x, k.flat with
    | some (ks, cs), some kv => if keyOK kd kv = true ∧ keysOf kd ks = true then
        if commaOk then some (.tup [.one (lookC z cs (findK kv ks)), .one (.c (.v (.bool (findK kv ks).isSome)))])
        else some (.a (lookC z cs (findK kv ks)))
      else none
    | _, _ => none
def mapLenOp (T : Tab) (σ : St) (t : TypeId) (x : TV) : Option TV :=
  match T.mapT t, mapOf σ.mem x with
  | some _, some (ks, _) => some (.val (.int .i64 (ks.length : Int)))
  | _, _ => none
/-- 's[i]' of a text. -/
def idxA (P : Program) (t : TypeId) : Value → Value → Option Value
  | .string s, .int _ i => match P.underlying t with
    | some .string => if 0 ≤ i then
        match s[i.toNat]? with
        | some b => some (.int .u8 (b.toNat : Int))
        | none => none
      else none
    | _ => none
  | _, _ => none
def strLen (P : Program) (t : TypeId) : Value → Option Value
  | .string s => match P.underlying t with
    | some .string => some (.int .i64 (s.size : Int))
    | _ => none
  | _ => none
def maxA : Value → Value → Option Value
  | .int k x, .int _ y => some (.int k (if y > x then y else x))
  | _, _ => none
def minA : Value → Value → Option Value
  | .int k x, .int _ y => some (.int k (if y < x then y else x))
  | _, _ => none
def one1 (f : Value → Option Value) (x : TV) : Option TV :=
  match x.flat with
  | some u => match f u with
    | some r => some (.val r)
    | none => none
  | none => none
def one2 (f : Value → Value → Option Value) (x y : TV) : Option TV :=
  match x.flat, y.flat with
  | some u, some v => match f u v with
    | some r => some (.val r)
    | none => none
  | _, _ => none
def orElse (x : Option TV) (y : Option TV) : Option TV :=
  match x with
  | some r => some r
  | none => y

/-! ### Quiet operations -/
/-- The operands' values where all are known to the bit. -/
def flatArgs (T : Tab) (gl : List Bool) (σ : St) (o : Oper) : Bool :=
  o.op.operands.all fun x => ((opg T gl σ x).flat).isSome
def flatOf (T : Tab) (gl : List Bool) (σ : St) (x : Operand) : Value := ((opg T gl σ x).flat).getD undef
def flatOp (P : Program) (T : Tab) (gl : List Bool) (σ : St) (o : Oper) : Option TV :=
  match o.op with
  | .select _ _ => none
  | .alloc _ | .box _ _ | .buildSlice _ _ _ => none
  | _ => if flatArgs T gl σ o then
      match pureIn P (execOp (flatOf T gl σ) o) with
      | some (.value x) => if x.oneCell' then some (.val x) else none
      | _ => none
    else none

/-- A read of n cells. -/
def readAt (mem : List (Nat × MC)) (n : Nat) (isA : Bool) (o off : Nat) : Path → Option TV
  | [] => match look mem o with
    | .obj cs => if off + n ≤ cs.length then some (mk isA (peekC o off ((cs.drop off).take n))) else none
    | _ => none
  | (i, k, f) :: π => match at_ mem o off π with
    | some (.vec k' es) => if k = k' then
        match es[i]? with
        | some row => if f + n ≤ row.length then some (mk isA (peekP o off i k π f ((row.drop f).take n))) else none
        | none => none
      else none
    | _ => none
def loadOp (T : Tab) (σ : St) (t : TypeId) (p : TV) : Option TV :=
  match T.ti t with
  | none => none
  | some i => match p with
    | .u (.one (.c (.ref cs))) => if i.zero.length ≤ cs.length then some (mk i.isA ((cs.take i.zero.length).map .c)) else none
    | .u (.one (.ptr o off π)) => readAt σ.mem i.zero.length i.isA o off π
    | _ => none
def bump (off' : Nat) : Nat → Path → Nat × Path
  | off, [] => (off + off', [])
  | off, (i, k, f) :: π => (off, (i, k, f + off') :: π)
def fieldAddrOp (T : Tab) (s : TypeId) (x : TV) (f : Nat) : Option TV :=
  match T.fld s f with
  | none => none
  | some (off', _) => match x with
    | .u (.one (.c (.ref cs))) => some (.p (.ref (cs.drop off')))
    | .u (.one (.ptr o off π)) => some (.a (.ptr o (bump off' off π).1 (bump off' off π).2))
    | _ => none
def fieldOp (T : Tab) (s : TypeId) (x : TV) (f : Nat) : Option TV :=
  match T.fld s f with
  | none => none
  | some (off, ft) => match T.ti ft, x with
    | some i, .u (.agg cs) => if off + i.zero.length ≤ cs.length then some (mk i.isA ((cs.drop off).take i.zero.length)) else none
    | _, _ => none
def indexAddrOp (T : Tab) (σ : St) (t : TypeId) (x ix : TV) : Option TV :=
  match T.elem t with
  | none => none
  | some e => match T.ti e with
    | none => none
    | some i => match x.els i.zero.length, ix.int with
      | some es, some n => if 0 ≤ n then
          match es[n.toNat]? with
          | some cs => some (.p (.ref cs))
          | none => none
        else none
      | none, some n => match viewOf σ.mem i.zero.length x with
        | some (o, off, π, m) => if 0 ≤ n ∧ n < (m : Int) then some (.a (.ptr o off ((n.toNat, i.zero.length, 0) :: π))) else none
        | none => none
      | _, _ => none
def extractOp (x : TV) (n : Nat) : Option TV :=
  match x with
  | .tup xs => match xs[n]? with
    | some y => some (.u y)
    | none => none
  | _ => none
def nilCheckOp (x : TV) : Option TV :=
  match x with
  | .u (.one (.ptr o off π)) => some (.a (.ptr o off π))
  | .u (.one (.c (.ref cs))) => some (.p (.ref cs))
  | .u (.one (.c (.clo f cap))) => some (.p (.clo f cap))
  | .u (.one (.clo f cap)) => some (.a (.clo f cap))
  | _ => none
def lenOp (T : Tab) (σ : St) (t : TypeId) (x : TV) : Option TV :=
  match T.elem t with
  | none => none
  | some e => match T.ti e with
    | none => none
    | some i => match x.els i.zero.length with
      | some es => some (.val (.int .i64 (es.length : Int)))
      | none => match viewOf σ.mem i.zero.length x with
        | some (_, _, _, m) => some (.val (.int .i64 (m : Int)))
        | none => none
def boundOf (d : Int) : Option TV → Option Int
  | none => some d
  | some x => x.int
/-- 'x[lo:hi]': of a frozen slice any part; of an own one a front. -/
def sliceOp (T : Tab) (σ : St) (t : TypeId) (x : TV) (lo hi : Option TV) : Option TV :=
  match T.elem t with
  | none => none
  | some e => match T.ti e with
    | none => none
    | some i => match x.els i.zero.length with
      | some es => match boundOf 0 lo, boundOf es.length hi with
        | some l, some h => if 0 ≤ l ∧ l ≤ h ∧ h ≤ es.length then some (.p (.sl i.zero.length ((es.take h.toNat).drop l.toNat))) else none
        | _, _ => none
      | none => match viewOf σ.mem i.zero.length x with
        | some (o, off, π, m) => match boundOf 0 lo, boundOf m hi with
          | some l, some h => if l = 0 ∧ 0 ≤ h ∧ h ≤ m then some (.a (.pre o off π h.toNat)) else none
          | _, _ => none
        | none => none
def fillCells (T : Tab) (gl : List Bool) (σ : St) (place : Nat → Option (Nat × Nat)) : List (Nat × Operand) → List CV → Option (List CV)
  | [], cs => some cs
  | (i, x) :: rest, cs => match place i, (opg T gl σ x).cells with
    | some (off, n), some ys => if ys.length = n ∧ off + n ≤ cs.length then fillCells T gl σ place rest (cs.take off ++ ys ++ cs.drop (off + n)) else none
    | _, _ => none
def buildOp (T : Tab) (gl : List Bool) (σ : St) (t : TypeId) (parts : List (Nat × Operand)) : Option TV :=
  match T.ti t with
  | none => none
  | some i => if (T.stc t).isSome || (T.arr t).isSome then
      match fillCells T gl σ (T.place t) parts (i.zero.map fun z => .c (.v z)) with
      | some cs => some (.u (.agg cs))
      | none => none
    else none
/-- One or the other. -/
def pickOp (T : Tab) (gl : List Bool) (σ : St) (c a b : Operand) : Option TV :=
  match (opg T gl σ c).bool with
  | none => none
  | some g => match (opg T (gl ++ [g]) σ a).bool, (opg T (gl ++ [!g]) σ b).bool with
    | some x, some y => some (.val (.bool (bif g then x else y)))
    | _, _ => bif g then some (opg T gl σ a) else some (opg T gl σ b)
/-- Whether two cells of a basic type are equal. -/
def eqV (P : Program) (t : TypeId) : Value → Value → Option Bool
  | .bool a, .bool b => match P.underlying t with
    | some .bool => some (decide (a = b))
    | _ => none
  | .int k a, .int k' b => match P.underlying t with
    | some (.int _) => if k = k' then some (decide (a = b)) else none
    | _ => none
  | .string a, .string b => match P.underlying t with
    | some .string => some (decide (a.toList = b.toList))
    | _ => none
  | _, _ => none
def CV.flat : CV → Option Value
  | .c (.v x) => some x
  | _ => none
/-- Two structs of basic cells: field by field. -/
def eqFs (P : Program) : List Field → List CV → List CV → Nat → Option Bool
  | [], [], [], _ => some true
  | f :: fs, c :: cs, d :: ds, i => match c.flat, d.flat with
    | some x, some y => if f.offset = i ∧ (f.name == "_") = false ∧ pureIn P (isAgg f.type) = some false then
        match eqV P f.type x y, eqFs P fs cs ds (i + 1) with
        | some a, some b => some (a && b)
        | _, _ => none
      else none
    | _, _ => none
  | _, _, _, _ => none
def eqAgg (P : Program) (op : BinOp) (t : TypeId) (x y : TV) : Option TV :=
  match x, y with
  | .u (.agg cs), .u (.agg ds) => if P.stoodInHeld t = false ∧ P.eqGuardType P.depth t = false then
      match P.underlying t with
      | some (.struct fields) => match eqFs P fields.toList cs ds 0 with
        | some b => match op with
          | .eql => some (.val (.bool b))
          | .neq => some (.val (.bool (!b)))
          | _ => none
        | none => none
      | _ => none
    else none
  | _, _ => none
/-- An operation that leaves memory as it is. -/
def quiet (P : Program) (T : Tab) (gl : List Bool) (σ : St) (o : Oper) : Option TV :=
  match o.op with
  | .move x | .assign x => some (opg T gl σ x)
  | .pick c a b => pickOp T gl σ c a b
  | .load t a => loadOp T σ t (opg T gl σ a)
  | .fieldAddr s x f => fieldAddrOp T s (opg T gl σ x) f
  | .field s x f => fieldOp T s (opg T gl σ x) f
  | .indexAddr t x ix => indexAddrOp T σ t (opg T gl σ x) (opg T gl σ ix)
  | .extract x n => extractOp (opg T gl σ x) n
  | .nilCheck x => nilCheckOp (opg T gl σ x)
  | .build t parts => buildOp T gl σ t parts.toList
  | .slice t x lo hi none => orElse (sliceOp T σ t (opg T gl σ x) (lo.map (opg T gl σ)) (hi.map (opg T gl σ))) (flatOp P T gl σ o)
  | .binOp op t x y _ => orElse (orElse (one2 (binA op) (opg T gl σ x) (opg T gl σ y)) (eqAgg P op t (opg T gl σ x) (opg T gl σ y))) (flatOp P T gl σ o)
  | .unOp op _ x => one1 (unA op) (opg T gl σ x)
  | .convert s d x => orElse (one1 (fun v => if (P.underlying s).isSome then convA P d v else none) (opg T gl σ x)) (flatOp P T gl σ o)
  | .index t x i => orElse (one2 (idxA P t) (opg T gl σ x) (opg T gl σ i)) (flatOp P T gl σ o)
  | .call { callee := .builtin .len, args, argTypes } => match args.toList, argTypes.toList with
    | [x], [t] => orElse (orElse (lenOp T σ t (opg T gl σ x)) (one1 (strLen P t) (opg T gl σ x))) (mapLenOp T σ t (opg T gl σ x))
    | _, _ => none
  | .call { callee := .builtin .max, args, .. } => match args.toList with
    | [x, y] => one2 maxA (opg T gl σ x) (opg T gl σ y)
    | [x, y, z] => match one2 maxA (opg T gl σ x) (opg T gl σ y) with
      | some r => one2 maxA r (opg T gl σ z)
      | none => none
    | _ => none
  | .call { callee := .builtin .min, args, .. } => match args.toList with
    | [x, y] => one2 minA (opg T gl σ x) (opg T gl σ y)
    | _ => none
  | .makeInterface _ _ => flatOp P T gl σ o
  | .lookup t x k ok => lookupOp T σ t (opg T gl σ x) (opg T gl σ k) ok
  | _ => none
end Go.Ew
end
section
/- How the abstract machine's values lie in memory. -/
namespace Go.Ew

theorem add_add (a : Addr) (i j : Nat) : (a.add i).add j = a.add (i + j) := by
  unfold Addr.add
  by_cases h1 : i = 0 <;> by_cases h2 : j = 0 <;> simp [h1, h2, Nat.add_assoc]
theorem add_plain (g o j : Nat) : (⟨g, o, none⟩ : Addr).add j = ⟨g, o + j, none⟩ := by unfold Addr.add; split <;> simp_all
theorem add_block (a : Addr) (j : Nat) : (a.add j).block = a.block := by unfold Addr.add; split <;> rfl

inductive PRel (W : World) (S : Addr → Prop) : PV → Value → Prop
  | bot (x : Value) (h : x.oneCell' = true) : PRel W S .bot x
  | v (x : Value) (h : x.oneCell' = true) : PRel W S (.v x) x
  | sl (k : Nat) (es : List (List PV)) (A : Option Addr) (c : Nat) (val : Nat → Nat → Value) (hl : es.length ≤ c) (hA : es ≠ [] → ∃ ad, A = some ad)
      (hk : ∀ e ∈ es, e.length = k)
      (hc : ∀ (ad : Addr) (i : Nat) (e : List PV) (j : Nat) (p : PV), A = some ad → es[i]? = some e → e[j]? = some p → S (ad.add (i * k + j)) ∧ W.cell? (ad.add (i * k + j)) = some (val i j))
      (hr : ∀ (i : Nat) (e : List PV) (j : Nat) (p : PV), es[i]? = some e → e[j]? = some p → PRel W S p (val i j)) : PRel W S (.sl k es) (.slice A es.length c)
  | ref (cs : List PV) (ad : Addr) (val : Nat → Value)
      (hc : ∀ (j : Nat) (p : PV), cs[j]? = some p → S (ad.add j) ∧ W.cell? (ad.add j) = some (val j))
      (hr : ∀ (j : Nat) (p : PV), cs[j]? = some p → PRel W S p (val j)) : PRel W S (.ref cs) (.pointer (some ad))
  | clo (f : FuncId) (cap : List PV) (vs : Array Value) (hl : cap.length = vs.size)
      (hr : ∀ (i : Nat) (p : PV) (x : Value), cap[i]? = some p → vs[i]? = some x → PRel W S p x) : PRel W S (.clo f cap) (.func (.func f) #[] vs)
  | zc (A : Option Addr) : PRel W S .zc (.slice A 0 0)
  | mp (ks : List Value) (vs : List PV) (r : Nat) (es : Array MapEntry) (hS : S ⟨r, 0, none⟩) (hh : W.heap[r]? = some (.map es es.size)) (hk : es.toList.map (·.key) = ks) (hl : vs.length = es.size)
      (hb : ∀ (i : Nat) (e : MapEntry), es[i]? = some e → e.born = i ∧ e.val.oneCell' = true)
      (hr : ∀ (i : Nat) (p : PV) (e : MapEntry), vs[i]? = some p → es[i]? = some e → PRel W S p e.val) : PRel W S (.mp ks vs) (.map (some r))

theorem PRel.one {W : World} {S : Addr → Prop} {p : PV} {x : Value} (h : PRel W S p x) : x.oneCell' = true := by
  cases h with
  | bot h => assumption
  | v h => assumption
  | _ => rfl
theorem PRel.mono {W W' : World} {S S' : Addr → Prop} (hW : ∀ a, S a → W'.heap[a.block]? = W.heap[a.block]?) (hS : ∀ a, S a → S' a) {p : PV} {x : Value} (h : PRel W S p x) : PRel W' S' p x := by
  induction h with
  | bot x h => exact .bot x h
  | v x h => exact .v x h
  | sl k es A c val hl hA hk hc _ ih =>
    refine .sl k es A c val hl hA hk (fun ad i e j p ha he hp => ?_) (fun i e j p he hp => ih i e j p he hp)
    obtain ⟨h1, h2⟩ := hc ad i e j p ha he hp
    exact ⟨hS _ h1, (World.cell?_of_block (hW _ h1)).trans h2⟩
  | ref cs ad val hc _ ih =>
    refine .ref cs ad val (fun j p hp => ?_) (fun j p hp => ih j p hp)
    obtain ⟨h1, h2⟩ := hc j p hp
    exact ⟨hS _ h1, (World.cell?_of_block (hW _ h1)).trans h2⟩
  | clo f cap vs hl _ ih => exact .clo f cap vs hl (fun i p x hp hx => ih i p x hp hx)
  | zc A => exact .zc A
  | mp ks vs r es h1 h2 hk hl hb _ ih => exact .mp ks vs r es (hS _ h1) ((hW _ h1).trans h2) hk hl hb (fun i p e hp he => ih i p e hp he)
theorem PRel.nv {W : World} {S : Addr → Prop} {p : PV} {x : Value} (h : PRel W S p x) : p.nv = true := by cases h <;> rfl

/-- Ghost: where a root's block lies; which header an own slice has. -/
structure Gh where
  base : Nat → Nat
  hd : Nat → Nat → Path → Value
def blkD : Value → Nat
  | .slice (some a) _ _ => a.block
  | _ => 0
def Gh.addr (γ : Gh) (o off : Nat) : Path → Addr
  | [] => ⟨γ.base o, off, none⟩
  | (i, k, f) :: π => ⟨blkD (γ.hd o off π), i * k + f, none⟩

def CapRel (W : World) (S : Addr → Prop) (γ : Gh) : Cap → Value → Prop
  | .p x, v => PRel W S x v
  | .r o, v => v = .pointer (some ⟨γ.base o, 0, none⟩)
/-- A cell that is no own slice's header. -/
def CRel (W : World) (S : Addr → Prop) (γ : Gh) : CV → Value → Prop
  | .c p, v => PRel W S p v
  | .ptr o off π, v => v = .pointer (some (γ.addr o off π))
  | .view o off π, v => v = γ.hd o off π ∧ v.oneCell' = true
  | .pre o off π n, v => ∃ A m c, γ.hd o off π = .slice A m c ∧ n ≤ m ∧ v = .slice A n c
  | .clo f cap, v => ∃ vs, v = .func (.func f) #[] vs ∧ cap.length = vs.size ∧ ∀ (i : Nat) (x : Cap) (u : Value), cap[i]? = some x → vs[i]? = some u → CapRel W S γ x u
  | .mp o, v => v = .map (some (γ.base o))
def CsRel (W : World) (S : Addr → Prop) (γ : Gh) (cs : List CV) (vs : List Value) : Prop :=
  cs.length = vs.length ∧ ∀ (i : Nat) (c : CV) (v : Value), cs[i]? = some c → vs[i]? = some v → CRel W S γ c v
def URel (W : World) (S : Addr → Prop) (γ : Gh) : UV → Value → Prop
  | .one c, v => CRel W S γ c v
  | .agg cs, v => ∃ vs : Array Value, v = .agg vs ∧ CsRel W S γ cs vs.toList
def TRel (W : World) (S : Addr → Prop) (γ : Gh) : TV → Value → Prop
  | .bot, _ => True
  | .u x, v => URel W S γ x v
  | .tup xs, v => ∃ vs : Array Value, v = .tuple vs ∧ xs.length = vs.size ∧ ∀ (i : Nat) (x : UV) (y : Value), xs[i]? = some x → vs[i]? = some y → URel W S γ x y
  | .w g x, v => (g.all id = true → URel W S γ x v) ∧ (g.all id = false → v = undef)
/-- A place's cell. -/
def CellOK (W : World) (S : Addr → Prop) (γ : Gh) (o off : Nat) (π : Path) : PV → Value → Prop
  | .vec _ _, u => u = γ.hd o off π ∧ u.oneCell' = true
  | p, u => PRel W S p u
def RootOK (W : World) (S : Addr → Prop) (γ : Gh) (o off : Nat) : CV → Value → Prop
  | .c p, u => CellOK W S γ o off [] p u
  | c, u => CRel W S γ c u

section
variable {W W' : World} {S S' : Addr → Prop} {γ : Gh}
theorem CRel.one {c : CV} {v : Value} (h : CRel W S γ c v) : v.oneCell' = true := by
  cases c with
  | c p => exact PRel.one h
  | ptr o off π => have : v = _ := h; subst this; rfl
  | view o off π => exact h.2
  | pre o off π n => obtain ⟨A, m, c, _, _, rfl⟩ := h; rfl
  | clo f cap => obtain ⟨vs, rfl, _⟩ := h; rfl
  | mp o => have : v = _ := h; subst this; rfl
theorem CellOK.one {o off : Nat} {π : Path} {p : PV} {u : Value} (h : CellOK W S γ o off π p u) : u.oneCell' = true := by
  cases p with
  | vec k es => exact h.2
  | _ => exact PRel.one h
theorem CellOK.of {o off : Nat} {π : Path} {p : PV} {u : Value} (h : PRel W S p u) : CellOK W S γ o off π p u := by
  have := h.nv
  cases p <;> first | exact h | simp [PV.nv] at this
theorem CellOK.to {o off : Nat} {π : Path} {p : PV} {u : Value} (h : CellOK W S γ o off π p u) (hn : p.nv = true) : PRel W S p u := by
  cases p <;> first | exact h | simp [PV.nv] at hn
theorem RootOK.one {o off : Nat} {c : CV} {u : Value} (h : RootOK W S γ o off c u) : u.oneCell' = true := by
  cases c with
  | c p => exact CellOK.one h
  | _ => simp only [RootOK] at h; exact CRel.one h
theorem RootOK.of {o off : Nat} {c : CV} {u : Value} (h : CRel W S γ c u) : RootOK W S γ o off c u := by
  cases c with
  | c p => exact CellOK.of h
  | _ => exact h
theorem CapRel.mono (hW : ∀ a, S a → W'.heap[a.block]? = W.heap[a.block]?) (hS : ∀ a, S a → S' a) {c : Cap} {v : Value} (h : CapRel W S γ c v) : CapRel W' S' γ c v := by
  cases c with
  | p x => exact PRel.mono hW hS h
  | r o => exact h
theorem CRel.mono (hW : ∀ a, S a → W'.heap[a.block]? = W.heap[a.block]?) (hS : ∀ a, S a → S' a) {c : CV} {v : Value} (h : CRel W S γ c v) : CRel W' S' γ c v := by
  cases c with
  | c p => exact PRel.mono hW hS h
  | clo f cap => obtain ⟨vs, h1, h2, h3⟩ := h; exact ⟨vs, h1, h2, fun i x u hx hu => (h3 i x u hx hu).mono hW hS⟩
  | _ => exact h
theorem CsRel.mono (hW : ∀ a, S a → W'.heap[a.block]? = W.heap[a.block]?) (hS : ∀ a, S a → S' a) {cs : List CV} {vs : List Value} (h : CsRel W S γ cs vs) : CsRel W' S' γ cs vs :=
  ⟨h.1, fun i c v hc hv => (h.2 i c v hc hv).mono hW hS⟩
theorem URel.mono (hW : ∀ a, S a → W'.heap[a.block]? = W.heap[a.block]?) (hS : ∀ a, S a → S' a) {x : UV} {v : Value} (h : URel W S γ x v) : URel W' S' γ x v := by
  cases x with
  | one c => exact CRel.mono hW hS h
  | agg cs => obtain ⟨vs, rfl, hs⟩ := h; exact ⟨vs, rfl, hs.mono hW hS⟩
theorem TRel.mono (hW : ∀ a, S a → W'.heap[a.block]? = W.heap[a.block]?) (hS : ∀ a, S a → S' a) {x : TV} {v : Value} (h : TRel W S γ x v) : TRel W' S' γ x v := by
  cases x with
  | bot => trivial
  | u x => exact URel.mono hW hS h
  | tup xs => obtain ⟨vs, rfl, hl, hr⟩ := h; exact ⟨vs, rfl, hl, fun i x y hx hy => (hr i x y hx hy).mono hW hS⟩
  | w g x => exact ⟨fun hg => URel.mono hW hS (h.1 hg), h.2⟩
theorem CellOK.mono {o off : Nat} {π : Path} (hW : ∀ a, S a → W'.heap[a.block]? = W.heap[a.block]?) (hS : ∀ a, S a → S' a) {p : PV} {v : Value} (h : CellOK W S γ o off π p v) : CellOK W' S' γ o off π p v := by
  cases p with
  | vec k es => exact h
  | _ => exact PRel.mono hW hS h
theorem RootOK.mono {o off : Nat} (hW : ∀ a, S a → W'.heap[a.block]? = W.heap[a.block]?) (hS : ∀ a, S a → S' a) {c : CV} {v : Value} (h : RootOK W S γ o off c v) : RootOK W' S' γ o off c v := by
  cases c with
  | c p => exact CellOK.mono hW hS h
  | _ => simp only [RootOK] at h ⊢; exact CRel.mono hW hS h

theorem CsRel.nil : CsRel W S γ [] [] := ⟨rfl, fun i c v h => by simp at h⟩
theorem CsRel.cons {c : CV} {cs : List CV} {v : Value} {vs : List Value} (h : CRel W S γ c v) (hs : CsRel W S γ cs vs) : CsRel W S γ (c :: cs) (v :: vs) := by
  refine ⟨by simp [hs.1], fun i c' v' hc hv => ?_⟩
  cases i with
  | zero => simp at hc hv; subst hc hv; exact h
  | succ i => exact hs.2 i c' v' (by simpa using hc) (by simpa using hv)
theorem CsRel.cons_inv {c : CV} {cs : List CV} {vs : List Value} (h : CsRel W S γ (c :: cs) vs) : ∃ v vs', vs = v :: vs' ∧ CRel W S γ c v ∧ CsRel W S γ cs vs' := by
  cases vs with
  | nil => exact absurd h.1 (by simp)
  | cons v vs' => exact ⟨v, vs', rfl, h.2 0 c v rfl rfl, by have := h.1; simpa using this, fun i c' v' hc hv => h.2 (i + 1) c' v' (by simpa using hc) (by simpa using hv)⟩
theorem CsRel.drop {cs : List CV} {vs : List Value} (h : CsRel W S γ cs vs) (n : Nat) : CsRel W S γ (cs.drop n) (vs.drop n) :=
  ⟨by simp [h.1], fun i c v hc hv => h.2 (n + i) c v (by simpa using hc) (by simpa using hv)⟩
theorem CsRel.take {cs : List CV} {vs : List Value} (h : CsRel W S γ cs vs) (n : Nat) : CsRel W S γ (cs.take n) (vs.take n) := by
  refine ⟨by simp [h.1], fun i c v hc hv => ?_⟩
  rw [List.getElem?_take] at hc hv
  split at hc
  · rename_i hi; rw [if_pos hi] at hv; exact h.2 i c v hc hv
  · cases hc
theorem CsRel.append {cs ds : List CV} {vs us : List Value} (h : CsRel W S γ cs vs) (k : CsRel W S γ ds us) : CsRel W S γ (cs ++ ds) (vs ++ us) := by
  refine ⟨by simp [h.1, k.1], fun i c v hc hv => ?_⟩
  rcases Nat.lt_or_ge i cs.length with hi | hi
  · rw [List.getElem?_append_left hi] at hc
    rw [List.getElem?_append_left (h.1 ▸ hi)] at hv
    exact h.2 i c v hc hv
  · rw [List.getElem?_append_right hi] at hc
    rw [List.getElem?_append_right (h.1 ▸ hi), ← h.1] at hv
    exact k.2 _ c v hc hv
theorem CsRel.ones {cs : List CV} {vs : List Value} (h : CsRel W S γ cs vs) : ∀ u ∈ vs, u.oneCell' = true := by
  intro u hu
  obtain ⟨i, hi⟩ := List.mem_iff_getElem?.1 hu
  have hl : i < cs.length := by
    rw [h.1]
    exact (List.getElem?_eq_some_iff.1 hi).1
  exact (h.2 i cs[i] u (List.getElem?_eq_getElem hl) hi).one
theorem CsRel.consts {zs : List Value} (h : ∀ u ∈ zs, u.oneCell' = true) : CsRel W S γ (zs.map fun z => .c (.v z)) zs := by
  refine ⟨by simp, fun i c v hc hv => ?_⟩
  rw [List.getElem?_map, hv] at hc
  simp at hc
  subst hc
  exact PRel.v v (h v (List.mem_of_getElem? hv))
/-- A value's cells. -/
theorem URel.cells {x : UV} {v : Value} (h : URel W S γ x v) : CsRel W S γ x.cells v.cells.toList := by
  cases x with
  | one c =>
    have h1 := CRel.one h
    have hc : v.cells = #[v] := by cases v <;> first | rfl | simp [Value.oneCell'] at h1
    rw [hc]
    exact CsRel.cons h CsRel.nil
  | agg cs =>
    obtain ⟨vs, rfl, hs⟩ := h
    exact hs
theorem nil_rel (n : Nat) : PRel W S (.sl n []) (.slice none 0 0) := .sl n [] none 0 (fun _ _ => undef) (Nat.le_refl _) (fun h => absurd rfl h) (by simp) (by simp) (by simp)
theorem CRel.els {n : Nat} {c : CV} {v : Value} {es : List (List PV)} (h : CRel W S γ c v) (he : c.els n = some es) : PRel W S (.sl n es) v := by
  unfold CV.els at he
  split at he
  · split at he
    · rename_i hk; subst hk; injection he with he; subst he; exact h
    · cases he
  · injection he with he
    subst he
    cases h with
    | v h => exact nil_rel n
  · injection he with he
    subst he
    cases h with
    | zc A => exact .sl n [] A 0 (fun _ _ => undef) (Nat.le_refl _) (fun h => absurd rfl h) (by simp) (by simp) (by simp)
  · cases he
theorem TRel.els {n : Nat} {x : TV} {v : Value} {es : List (List PV)} (h : TRel W S γ x v) (he : x.els n = some es) : PRel W S (.sl n es) v := by
  unfold TV.els at he
  split at he
  · exact CRel.els h he
  · cases he
theorem TRel.flat {x : TV} {v u : Value} (h : TRel W S γ x v) (he : x.flat = some u) : v = u := by
  unfold TV.flat at he
  split at he
  · injection he with he
    subst he
    cases h with
    | v h => rfl
  · cases he
theorem TRel.int {x : TV} {v : Value} {n : Int} (h : TRel W S γ x v) (he : x.int = some n) : ∃ k, v = .int k n := by
  unfold TV.int at he
  split at he
  · injection he with he
    subst he
    cases h with
    | v h => exact ⟨_, rfl⟩
  · cases he
theorem TRel.bool {x : TV} {v : Value} {b : Bool} (h : TRel W S γ x v) (he : x.bool = some b) : v = .bool b := by
  unfold TV.bool at he
  split at he
  · injection he with he
    subst he
    cases h with
    | v h => rfl
  · cases he
theorem TRel.tcells {x : TV} {v : Value} {cs : List CV} (h : TRel W S γ x v) (he : x.cells = some cs) : CsRel W S γ cs v.cells.toList := by
  cases x with
  | u x => simp only [TV.cells, Option.some.injEq] at he; subst he; exact URel.cells h
  | _ => simp [TV.cells] at he
theorem imp_all {gl g : List Bool} (h : imp gl g = true) (hg : gl.all id = true) : g.all id = true := by
  induction g with
  | nil => rfl
  | cons b g ih =>
    simp only [imp, Bool.and_eq_true, Bool.or_eq_true, List.any_eq_true, beq_iff_eq] at h
    simp only [List.all_cons, Bool.and_eq_true, ih h.2, and_true]
    rcases h.1 with h1 | ⟨c, hc, rfl⟩
    · exact h1
    · exact List.all_eq_true.1 hg c hc
theorem TRel.acc {x : TV} {v : Value} {gl : List Bool} (hg : gl.all id = true) (h : TRel W S γ x v) : TRel W S γ (x.acc gl) v := by
  cases x with
  | w g x =>
    simp only [TV.acc]
    split
    · rename_i hi; exact h.1 (imp_all hi hg)
    · trivial
  | _ => exact h
theorem ofConst_rel (x : Value) : TRel W S γ (ofConst x) x := by
  cases x with
  | agg cs =>
    simp only [ofConst]
    split
    · rename_i h
      exact ⟨cs, rfl, CsRel.consts (fun u hu => by simpa using List.all_eq_true.1 h u hu)⟩
    · trivial
  | tuple vs =>
    simp only [ofConst]
    split
    · rename_i h
      exact ⟨vs, rfl, by simp [h], fun i x y hx => by simp at hx⟩
    · trivial
  | _ => exact PRel.v _ rfl
theorem undef_rel : TRel W S γ (.tup []) undef := ⟨#[], rfl, rfl, fun i x y h => by simp at h⟩
theorem mk_rel {isA : Bool} {cs : List CV} {vs : List Value} (h : CsRel W S γ cs vs) (h1 : isA = false → vs.length = 1) : TRel W S γ (mk isA cs) (if isA then .agg vs.toArray else vs.headD undef) := by
  cases isA with
  | true => exact ⟨vs.toArray, rfl, h⟩
  | false =>
    match vs, h1 rfl with
    | [v], _ =>
      have hl := h.1
      match cs, hl with
      | [c], _ => exact h.2 0 c v rfl rfl
end
end Go.Ew
end
section
/- The abstract machine's state beside the real one. -/
namespace Go.Ew

structure TabOK (P : Program) (T : Tab) : Prop where
  ti : ∀ t i, T.ti t = some i → ∃ info z, P.info? t = some info ∧ info.size = i.zero.length ∧ info.bytes = i.bytes ∧ info.zero = some z ∧ z.cells.toList = i.zero ∧
    (∀ u ∈ i.zero, u.oneCell' = true) ∧ 0 < i.zero.length ∧ (∀ w, (isAgg t).run P w = .ok i.isA w) ∧ (i.isA = false → i.zero.length = 1)
  stc : ∀ t l, T.stc t = some l → ∃ (fields : Array Field), P.underlying t = some (.struct fields) ∧ fields.toList.map (fun f => (f.offset, f.type)) = l ∧ ∀ p ∈ l, (T.ti p.2).isSome = true
  arr : ∀ t n e, T.arr t = some (n, e) → P.underlying t = some (.array n e) ∧ (T.ti e).isSome = true
  elem : ∀ t e, T.elem t = some e → P.underlying t = some (.slice e)
  mapT : ∀ t kd z, T.mapT t = some (kd, z) → ∃ kt e info, P.underlying t = some (.map kt e) ∧ P.underlying kt = some (kindD kd) ∧ P.info? e = some info ∧ info.zero = some z ∧ z.oneCell' = true

theorem TabOK.fld {P : Program} {T : Tab} (hT : TabOK P T) (s : TypeId) (f off : Nat) (ft : TypeId) (h : T.fld s f = some (off, ft)) :
    ∃ (fields : Array Field) (fd : Field), P.underlying s = some (.struct fields) ∧ fields[f]? = some fd ∧ fd.offset = off ∧ fd.type = ft ∧ (T.ti ft).isSome = true := by
  unfold Tab.fld at h
  split at h
  · rename_i l hl
    obtain ⟨fields, hu, hm, hs⟩ := hT.stc s l hl
    subst hm
    have hs' := hs _ (List.mem_of_getElem? h)
    rw [List.getElem?_map] at h
    obtain ⟨fd, hfd, he⟩ := Option.map_eq_some_iff.1 h
    simp only [Prod.mk.injEq] at he
    exact ⟨fields, fd, hu, by simpa using hfd, he.1, he.2, hs'⟩
  · cases h

inductive Node where
  | root (o : Nat)
  | at_ (o off : Nat) (π : Path)
  deriving DecidableEq

/-- Which block a thing of the call's own has. -/
def Owns (γ : Gh) (mem : List (Nat × MC)) : Node → Nat → Prop
  | .root o, b => ((∃ cs, look mem o = .obj cs) ∨ ∃ ks cs, look mem o = .map ks cs) ∧ γ.base o = b
  | .at_ o off π, b => (∃ k es, at_ mem o off π = some (.vec k es)) ∧ ∃ n c, 0 < c ∧ γ.hd o off π = .slice (some ⟨b, 0, none⟩) n c
/-- An object's block. -/
def ObjOK (W : World) (S : Addr → Prop) (γ : Gh) (o : Nat) (cs : List CV) : Prop :=
  ∃ (C : Array Value) (t : TypeId), W.heap[γ.base o]? = some (.cells C t (0, 0)) ∧ C.size = cs.length ∧ ∀ (off : Nat) (c : CV) (u : Value), cs[off]? = some c → C[off]? = some u → RootOK W S γ o off c u
/-- A map's block. -/
def MapOK (W : World) (S : Addr → Prop) (γ : Gh) (o : Nat) (ks : List Value) (cs : List CV) : Prop :=
  ∃ es : Array MapEntry, W.heap[γ.base o]? = some (.map es es.size) ∧ es.toList.map (·.key) = ks ∧ cs.length = es.size ∧ (∀ (i : Nat) (e : MapEntry), es[i]? = some e → e.born = i ∧ e.val.oneCell' = true) ∧
    ∀ (i : Nat) (c : CV) (e : MapEntry), cs[i]? = some c → es[i]? = some e → CRel W S γ c e.val
/-- An own slice's row: element by element. -/
def RowOK (W : World) (S : Addr → Prop) (γ : Gh) (o off : Nat) (π : Path) (k : Nat) (es : List (List PV)) (b cap : Nat) : Prop :=
  ∃ (cur : Array Value) (t : TypeId), W.heap[b]? = some (.cells cur t (0, 0)) ∧ cur.size = cap * k ∧
    ∀ (i : Nat) (row : List PV) (f : Nat) (x : PV) (u : Value), es[i]? = some row → row[f]? = some x → cur[i * k + f]? = some u → CellOK W S γ o off ((i, k, f) :: π) x u
def VecOK (W : World) (S : Addr → Prop) (γ : Gh) (o off : Nat) (π : Path) (k : Nat) (es : List (List PV)) : Prop :=
  0 < k ∧ (∀ row ∈ es, row.length = k) ∧
  ((es = [] ∧ ∃ A, γ.hd o off π = .slice A 0 0) ∨
   ∃ b cap, γ.hd o off π = .slice (some ⟨b, 0, none⟩) es.length cap ∧ 0 < cap ∧ es.length ≤ cap ∧ cap ≤ maxLen ∧ RowOK W S γ o off π k es b cap)
/-- What is the call's own. -/
structure MemOK (W0 : World) (M : Nat → Prop) (S : Addr → Prop) (γ : Gh) (mem : List (Nat × MC)) (W : World) : Prop where
  objs : ∀ (o : Nat) (cs : List CV), look mem o = .obj cs → ObjOK W S γ o cs
  maps : ∀ (o : Nat) (ks : List Value) (cs : List CV), look mem o = .map ks cs → MapOK W S γ o ks cs
  vecs : ∀ (o off : Nat) (π : Path) (k : Nat) (es : List (List PV)), at_ mem o off π = some (.vec k es) → VecOK W S γ o off π k es
  regs : ∀ (o : Nat) (p : PV), look mem o = .reg p → ∃ k es, p = .vec k es
  own : ∀ (n : Node) (b : Nat), Owns γ mem n b → (W0.heap.size ≤ b ∨ M b) ∧ ∀ a, S a → a.block ≠ b
  inj : ∀ (n n' : Node) (b : Nat), Owns γ mem n b → Owns γ mem n' b → n = n'

structure Core (T : Tab) (W0 : World) (M : Nat → Prop) (S0 S : Addr → Prop) (γ : Gh) (mem : List (Nat × MC)) (W : World) : Prop where
  os : W.os = W0.os
  tape : W.tape = W0.tape
  output : W.output = W0.output
  size : W0.heap.size ≤ W.heap.size
  frame : ∀ k, k < W0.heap.size → ¬ M k → W.heap[k]? = W0.heap[k]?
  s0 : ∀ x, S0 x → S x
  s0c : ∀ x, S0 x → W.heap[x.block]? = W0.heap[x.block]?
  sfit : ∀ x, S x → x.block < W.heap.size
  glob : ∀ g cs, T.glob g = some cs → PRel W S (.ref cs) (.pointer (some ⟨g, 0, none⟩))
  snew : ∀ x, S x → S0 x ∨ W0.heap.size ≤ x.block ∨ M x.block
  mem : MemOK W0 M S γ mem W
structure Rel (T : Tab) (W0 : World) (M : Nat → Prop) (S0 S : Addr → Prop) (γ : Gh) (σ : St) (a : Act) (W : World) : Prop where
  core : Core T W0 M S0 S γ σ.mem W
  defers : a.defers = []
  len : σ.tmps.length = a.tmps.size
  tmps : ∀ (i : Nat) (x : TV) (v : Value), σ.tmps[i]? = some x → a.tmps[i]? = some v → TRel W S γ x v

section
variable {P : Program} {T : Tab} {W0 : World} {M : Nat → Prop} {S0 S : Addr → Prop} {γ : Gh} {σ : St} {a : Act} {W : World} {mem : List (Nat × MC)}

theorem Rel.opd (hR : Rel T W0 M S0 S γ σ a W) (x : Operand) : TRel W S γ (opd T σ x) (a.eval x) := by
  cases x with
  | tmp t =>
    show TRel _ _ _ (σ.tmps.getD t .bot) (a.tmps.getD t undef)
    rw [List.getD_eq_getElem?_getD]
    cases h : σ.tmps[t]? with
    | none => trivial
    | some y =>
      have hlt : t < a.tmps.size := by
        have h1 := (List.getElem?_eq_some_iff.1 h).1
        have h2 := hR.len
        exact h2 ▸ h1
      have := hR.tmps t y a.tmps[t] h (Array.getElem?_eq_getElem hlt)
      simpa [Array.getD, hlt] using this
  | const v => exact ofConst_rel v
  | global g =>
    show TRel _ _ _ (match T.glob g with | some cs => _ | none => _) _
    cases h : T.glob g with
    | none => trivial
    | some cs => exact hR.core.glob g cs h
  | func f => exact PRel.clo f [] #[] rfl (by simp)
theorem Rel.opg (hR : Rel T W0 M S0 S γ σ a W) {gl : List Bool} (hg : gl.all id = true) (x : Operand) : TRel W S γ (opg T gl σ x) (a.eval x) := (hR.opd x).acc hg

theorem run_load_cells {cs : List Value} {ad : Addr} (h : ∀ (j : Nat) (u : Value), cs[j]? = some u → W.cell? (ad.add j) = some u) : (loadCells ad cs.length).run P W = .ok cs.toArray W :=
  run_loadCells_list W ad cs h
/-- A variable read: its cells, or its one cell. -/
theorem run_loadVar (hT : TabOK P T) {t : TypeId} {i : TI} (hi : T.ti t = some i) {cs : List Value} {ad : Addr} (hl : cs.length = i.zero.length) (h : ∀ (j : Nat) (u : Value), cs[j]? = some u → W.cell? (ad.add j) = some u) :
    (loadVar t ad).run P W = .ok (if i.isA then .agg cs.toArray else cs.headD undef) W := by
  obtain ⟨info, z, hP, hsz, _, _, _, _, _, hagg, h1⟩ := hT.ti t i hi
  unfold loadVar
  rw [Sem.run_bind, hagg]
  simp only [Result.andThen_ok]
  cases hA : i.isA with
  | true =>
    simp only [if_true]
    rw [Sem.run_bind]
    have : (sizeOf t).run P W = .ok i.zero.length W := by simp [sizeOf, typeInfo, hP, hsz]
    rw [this]
    simp only [Result.andThen_ok]
    rw [Sem.run_bind, ← hl, run_load_cells h]
    rfl
  | false =>
    have h2 := h1 hA
    match cs, hl.trans h2 with
    | [c], _ =>
      have := h 0 c rfl
      have ha : ad.add 0 = ad := by unfold Addr.add; simp
      rw [ha] at this
      simp [load, Sem.run, this]

theorem ref_cells {cs : List PV} {v : Value} (h : PRel W S (.ref cs) v) : ∃ (ad : Addr) (vs : List Value), v = .pointer (some ad) ∧ vs.length = cs.length ∧
    (∀ (j : Nat) (u : Value), vs[j]? = some u → W.cell? (ad.add j) = some u) ∧ (∀ (j : Nat) (p : PV) (u : Value), cs[j]? = some p → vs[j]? = some u → PRel W S p u) ∧ (∀ j : Nat, j < cs.length → S (ad.add j)) := by
  cases h with
  | ref _ ad val hc hr =>
    refine ⟨ad, (List.range cs.length).map val, rfl, by simp, fun j u hu => ?_, fun j p u hp hu => ?_, fun j hj => (hc j _ (List.getElem?_eq_getElem hj)).1⟩
    · have hlt : j < cs.length := by have := (List.getElem?_eq_some_iff.1 hu).1; simpa using this
      simp [hlt] at hu
      subst hu
      exact (hc j _ (List.getElem?_eq_getElem hlt)).2
    · have hlt := (List.getElem?_eq_some_iff.1 hp).1
      simp [hlt] at hu
      subst hu
      exact hr j p hp
theorem ref_mk {cs : List PV} {ad : Addr} {vs : List Value} (hl : vs.length = cs.length) (hc : ∀ (j : Nat) (u : Value), vs[j]? = some u → W.cell? (ad.add j) = some u)
    (hr : ∀ (j : Nat) (p : PV) (u : Value), cs[j]? = some p → vs[j]? = some u → PRel W S p u) (hS : ∀ j : Nat, j < cs.length → S (ad.add j)) : PRel W S (.ref cs) (.pointer (some ad)) := by
  refine .ref cs ad (fun j => vs.getD j undef) (fun j p hp => ?_) (fun j p hp => ?_)
  · have hlt := (List.getElem?_eq_some_iff.1 hp).1
    refine ⟨hS j hlt, hc j _ ?_⟩
    rw [List.getElem?_eq_getElem (by omega), List.getD_eq_getElem?_getD, List.getElem?_eq_getElem (by omega)]
    rfl
  · have hlt := (List.getElem?_eq_some_iff.1 hp).1
    refine hr j p _ hp ?_
    rw [List.getElem?_eq_getElem (by omega), List.getD_eq_getElem?_getD, List.getElem?_eq_getElem (by omega)]
    rfl

def TV.isPtr : TV → Bool
  | .u (.one (.ptr _ _ _)) => true
  | _ => false
/-- A world in which what stays is as here. -/
def Agr (S : Addr → Prop) (b : Bool) (W w : World) : Prop := (∀ x, S x → w.heap[x.block]? = W.heap[x.block]?) ∧ (b = true → w = W)
theorem Agr.self (S : Addr → Prop) (b : Bool) (W : World) : Agr S b W W := ⟨fun _ _ => rfl, fun _ => rfl⟩

/-! ### Reading own memory -/
/-- Cells beside their contents, from a place on. -/
def Cells (W : World) (S : Addr → Prop) (γ : Gh) (o off i k : Nat) (π : Path) (f : Nat) (ps : List PV) (vs : List Value) : Prop :=
  ps.length = vs.length ∧ ∀ (j : Nat) (p : PV) (u : Value), ps[j]? = some p → vs[j]? = some u → CellOK W S γ o off ((i, k, f + j) :: π) p u
theorem peekH_rel {o off i k : Nat} {π : Path} : ∀ {f : Nat} {ps : List PV} {vs : List Value}, Cells W S γ o off i k π f ps vs → CsRel W S γ (peekH o off i k π f ps) vs
  | f, [], vs, h => by
    cases vs with
    | nil => exact CsRel.nil
    | cons v vs => exact absurd h.1 (by simp)
  | f, p :: ps, vs, h => by
    cases vs with
    | nil => exact absurd h.1 (by simp)
    | cons v vs =>
      have h0 := h.2 0 p v rfl rfl
      have ht : Cells W S γ o off i k π (f + 1) ps vs := ⟨by have := h.1; simpa using this, fun j q u hq hu => by have := h.2 (j + 1) q u (by simpa using hq) (by simpa using hu); rwa [show f + (j + 1) = f + 1 + j by omega] at this⟩
      simp only [peekH]
      refine CsRel.cons ?_ (peekH_rel ht)
      cases p with
      | vec k es => exact h0
      | _ => exact h0
theorem peekP_rel {o off i k : Nat} {π : Path} {f : Nat} {ps : List PV} {vs : List Value} (h : Cells W S γ o off i k π f ps vs) : CsRel W S γ (peekP o off i k π f ps) vs := by
  unfold peekP
  split
  · rename_i hn
    refine ⟨by simp [h.1], fun j c v hc hv => ?_⟩
    rw [List.getElem?_map] at hc
    obtain ⟨p, hp, rfl⟩ := Option.map_eq_some_iff.1 hc
    exact (h.2 j p v hp hv).to (List.all_eq_true.1 hn p (List.mem_of_getElem? hp))
  · exact peekH_rel h
def RCells (W : World) (S : Addr → Prop) (γ : Gh) (o off : Nat) (cs : List CV) (vs : List Value) : Prop :=
  cs.length = vs.length ∧ ∀ (j : Nat) (c : CV) (u : Value), cs[j]? = some c → vs[j]? = some u → RootOK W S γ o (off + j) c u
theorem peekG_rel {o : Nat} : ∀ {off : Nat} {cs : List CV} {vs : List Value}, RCells W S γ o off cs vs → CsRel W S γ (peekG o off cs) vs
  | off, [], vs, h => by
    cases vs with
    | nil => exact CsRel.nil
    | cons v vs => exact absurd h.1 (by simp)
  | off, c :: cs, vs, h => by
    cases vs with
    | nil => exact absurd h.1 (by simp)
    | cons v vs =>
      have h0 := h.2 0 c v rfl rfl
      have ht : RCells W S γ o (off + 1) cs vs := ⟨by have := h.1; simpa using this, fun j q u hq hu => by have := h.2 (j + 1) q u (by simpa using hq) (by simpa using hu); rwa [show off + (j + 1) = off + 1 + j by omega] at this⟩
      simp only [peekG]
      refine CsRel.cons ?_ (peekG_rel ht)
      cases c with
      | c p => cases p <;> exact h0
      | _ => exact h0
theorem peekC_rel {o off : Nat} {cs : List CV} {vs : List Value} (h : RCells W S γ o off cs vs) : CsRel W S γ (peekC o off cs) vs := by
  unfold peekC
  split
  · rename_i hn
    refine ⟨h.1, fun j c v hc hv => ?_⟩
    have h1 := h.2 j c v hc hv
    have h2 := List.all_eq_true.1 hn c (List.mem_of_getElem? hc)
    cases c with
    | c p => exact CellOK.to h1 h2
    | _ => exact h1
  · exact peekG_rel h

theorem addr_plain (γ : Gh) (o off : Nat) (π : Path) : ∃ b n, γ.addr o off π = ⟨b, n, none⟩ := by
  cases π with
  | nil => exact ⟨_, _, rfl⟩
  | cons s π => obtain ⟨i, k, f⟩ := s; exact ⟨_, _, rfl⟩
theorem addr_bump (γ : Gh) (o off n : Nat) (π : Path) : γ.addr o (bump n off π).1 (bump n off π).2 = (γ.addr o off π).add n := by
  cases π with
  | nil => simp only [bump, Gh.addr]; rw [add_plain]
  | cons s π =>
    obtain ⟨i, k, f⟩ := s
    simp only [bump, Gh.addr]
    rw [add_plain, Nat.add_assoc]

theorem readAt_ok (hM : MemOK W0 M S γ mem W) {n : Nat} {isA : Bool} {o off : Nat} {π : Path} {x : TV} (h1 : isA = false → n = 1) (h : readAt mem n isA o off π = some x) :
    ∃ vs : List Value, vs.length = n ∧ (∀ (j : Nat) (u : Value), vs[j]? = some u → W.cell? ((γ.addr o off π).add j) = some u) ∧ TRel W S γ x (if isA then .agg vs.toArray else vs.headD undef) := by
  cases π with
  | nil =>
    simp only [readAt] at h
    split at h
    · rename_i cs hm
      split at h
      · rename_i hle
        injection h with h; subst h
        obtain ⟨C, t, hh, hs, hr⟩ := hM.objs o cs hm
        have hl : ((C.toList.drop off).take n).length = n := by simp; omega
        refine ⟨(C.toList.drop off).take n, hl, fun j u hu => ?_, mk_rel (peekC_rel ⟨by rw [hl]; simp; omega, fun j c u hc hu => ?_⟩) (fun hA => by rw [hl]; exact h1 hA)⟩
        · rw [List.getElem?_take] at hu
          split at hu
          · rw [List.getElem?_drop] at hu
            simp only [Gh.addr]
            rw [add_plain]
            simp [World.cell?, hh]
            simpa using hu
          · cases hu
        · rw [List.getElem?_take] at hc hu
          split at hc
          · rename_i hj
            rw [if_pos hj] at hu
            rw [List.getElem?_drop] at hc hu
            exact hr _ c u hc (by simpa using hu)
          · cases hc
      · cases h
    · cases h
  | cons s π =>
    obtain ⟨i, k, f⟩ := s
    simp only [readAt] at h
    split at h
    · rename_i k' es hat
      split at h
      · rename_i hk
        subst hk
        split at h
        · rename_i row hrow
          split at h
          · rename_i hle
            injection h with h; subst h
            obtain ⟨hk0, hlen, hv⟩ := hM.vecs o off π k es hat
            have hne : es ≠ [] := by rintro rfl; simp at hrow
            rcases hv with ⟨h2, _⟩ | ⟨b, cap, hhd, hc0, hle2, hmx, cur, t, hh, hcs, hr⟩
            · exact absurd h2 hne
            have hrl := hlen row (List.mem_of_getElem? hrow)
            have hi : i < es.length := (List.getElem?_eq_some_iff.1 hrow).1
            have hb : i * k + k ≤ cur.size := by
              rw [hcs]
              have : (i + 1) * k ≤ cap * k := Nat.mul_le_mul_right _ (by omega)
              rw [Nat.add_mul, Nat.one_mul] at this
              exact this
            have hl : ((cur.toList.drop (i * k + f)).take n).length = n := by simp; omega
            refine ⟨(cur.toList.drop (i * k + f)).take n, hl, fun j u hu => ?_, mk_rel (peekP_rel ⟨by rw [hl]; simp; omega, fun j p u hp hu => ?_⟩) (fun hA => by rw [hl]; exact h1 hA)⟩
            · rw [List.getElem?_take] at hu
              split at hu
              · rw [List.getElem?_drop] at hu
                simp only [Gh.addr, hhd, blkD]
                rw [add_plain]
                simp [World.cell?, hh]
                simpa using hu
              · cases hu
            · rw [List.getElem?_take] at hp hu
              split at hp
              · rename_i hj
                rw [if_pos hj] at hu
                rw [List.getElem?_drop] at hp hu
                exact hr i row (f + j) p u hrow hp (by rw [← Nat.add_assoc]; simpa using hu)
              · cases hp
          · cases h
        · cases h
      · cases h
    · cases h

theorem load_ok (hT : TabOK P T) (hC : Core T W0 M S0 S γ mem W) {t : TypeId} {p x : TV} {v : Value} (hp : TRel W S γ p v) (h : loadOp T ⟨[], mem⟩ t p = some x) :
    ∃ r, (∀ w, Agr S p.isPtr W w → (Instr.loadAt t v).run P w = .ok r w) ∧ TRel W S γ x r := by
  unfold loadOp at h
  split at h
  · cases h
  · rename_i i hi
    have h1 := (hT.ti t i hi)
    obtain ⟨info, z, hP, hsz, _, _, _, _, _, hagg, h1⟩ := h1
    split at h
    · rename_i cs
      split at h
      · rename_i hle
        injection h with h
        subst h
        obtain ⟨ad, vs, rfl, hl, hc, hr, hS⟩ := ref_cells hp
        refine ⟨_, fun w hw => ?_, mk_rel (vs := vs.take i.zero.length) ⟨by simp [hl], fun j c u hj hu => ?_⟩ (fun hA => by have := h1 hA; simp [hl]; omega)⟩
        · simp only [Instr.loadAt, Instr.sureAddr, Sem.run_bind, Sem.run_pure, Result.andThen_ok]
          exact run_loadVar hT hi (by simp [hl]; omega) (fun j u hu => by
            rw [List.getElem?_take] at hu
            split at hu
            · rw [World.cell?_of_block (hw.1 _ (hS j (by rw [← hl]; exact (List.getElem?_eq_some_iff.1 hu).1)))]; exact hc j u hu
            · cases hu)
        · rw [List.getElem?_map] at hj
          obtain ⟨p, hp1, rfl⟩ := Option.map_eq_some_iff.1 hj
          rw [List.getElem?_take] at hp1 hu
          split at hp1
          · rename_i hlt; rw [if_pos hlt] at hu; exact hr j p u hp1 hu
          · cases hp1
      · cases h
    · rename_i o off π
      obtain ⟨vs, hl, hc, hr⟩ := readAt_ok hC.mem (fun hA => h1 hA) h
      have hp' : v = .pointer (some (γ.addr o off π)) := hp
      subst hp'
      refine ⟨_, fun w hw => ?_, hr⟩
      have hww := hw.2 rfl
      subst hww
      simp only [Instr.loadAt, Instr.sureAddr, Sem.run_bind, Sem.run_pure, Result.andThen_ok]
      exact run_loadVar hT hi hl hc
    · cases h
end
end Go.Ew
end
section
/- Operations that leave memory as it is: each does what the abstract machine says. -/
namespace Go.Ew

section
variable {P : Program} {T : Tab} {W0 : World} {M : Nat → Prop} {S0 S : Addr → Prop} {γ : Gh} {σ : St} {a : Act} {W : World} {gl : List Bool}
theorem run_und {t : TypeId} {d : TypeDesc} (h : P.underlying t = some d) (w : World) : (underlying t).run P w = .ok d w := by
  simp [underlying, program, Sem.run, h]
theorem run_siz {t : TypeId} {i : TypeInfo} (h : P.info? t = some i) (w : World) : (sizeOf t).run P w = .ok i.size w := by
  simp [sizeOf, typeInfo, h]

theorem fieldAddr_ok (hT : TabOK P T) {s : TypeId} {x r : TV} {f : Nat} {v : Value} (hx : TRel W S γ x v) (h : fieldAddrOp T s x f = some r) :
    ∃ u, (∀ w, (Instr.fieldAt s v f).run P w = .ok u w) ∧ TRel W S γ r u := by
  unfold fieldAddrOp at h
  split at h
  · cases h
  · rename_i off ft hf
    obtain ⟨fields, fd, hu, hfd, ho, hft, hsome⟩ := hT.fld s f off ft hf
    obtain ⟨i, hi⟩ := Option.isSome_iff_exists.1 hsome
    obtain ⟨info, z, hP, hsz, _, _, _, _, hpos, _⟩ := hT.ti ft i hi
    have hne : ¬ info.size = 0 := by omega
    subst ho hft
    split at h
    · rename_i cs
      injection h with h
      subst h
      obtain ⟨ad, vs, rfl, hl, hc, hr, hS⟩ := ref_cells hx
      refine ⟨.pointer (some (ad.add fd.offset)), ?_, ?_⟩
      · simp [Instr.fieldAt, run_und hu, hfd, Instr.sureAddr, fieldPlace, run_siz hP, hne]
      · refine ref_mk (vs := vs.drop fd.offset) (by simp [hl]) (fun j u hu => ?_) (fun j p u hp hu => ?_) (fun j hj => ?_)
        · rw [add_add]; exact hc _ u (by simpa using hu)
        · exact hr _ p u (by simpa using hp) (by simpa using hu)
        · rw [add_add]; exact hS _ (by simp at hj; omega)
    · rename_i o b π
      injection h with h
      subst h
      have hv : v = .pointer (some (γ.addr o b π)) := hx
      subst hv
      obtain ⟨b0, n0, hp⟩ := addr_plain γ o b π
      refine ⟨.pointer (some ((γ.addr o b π).add fd.offset)), ?_, ?_⟩
      · rw [hp]; simp [Instr.fieldAt, run_und hu, hfd, Instr.sureAddr, fieldPlace, run_siz hP, hne]
      · rw [← addr_bump]; rfl
    · cases h

theorem run_part (hT : TabOK P T) {ft : TypeId} {i : TI} (hi : T.ti ft = some i) {cs : List CV} {vs : Array Value} (hcs : CsRel W S γ cs vs.toList) {off : Nat} (hle : off + i.zero.length ≤ cs.length) :
    ∃ u, (∀ w, (part ft vs off).run P w = .ok u w) ∧ TRel W S γ (mk i.isA ((cs.drop off).take i.zero.length)) u := by
  obtain ⟨info, z, hP, hsz, _, _, _, _, hpos, hagg, h1⟩ := hT.ti ft i hi
  have hl := hcs.1
  simp at hl
  have hseg := (hcs.drop off).take i.zero.length
  refine ⟨_, fun w => ?_, mk_rel hseg (fun hA => by have := h1 hA; simp; omega)⟩
  unfold part
  rw [Sem.run_bind, hagg]
  simp only [Result.andThen_ok]
  cases hA : i.isA with
  | true =>
    simp only [if_true, Sem.run_bind, run_siz hP, Result.andThen_ok, Sem.run_pure, hsz]
    congr 2
    apply Array.ext'
    simp
  | false =>
    have h2 := h1 hA
    have hlt : off < vs.size := by omega
    simp [Array.getElem?_eq_getElem hlt, h2, List.head?_take, List.head?_drop, List.headD_eq_head?_getD]

theorem field_ok (hT : TabOK P T) {s : TypeId} {x r : TV} {f : Nat} {v : Value} (hx : TRel W S γ x v) (h : fieldOp T s x f = some r) :
    ∃ u, (∀ w, (Instr.field s v f).run P w = .ok u w) ∧ TRel W S γ r u := by
  unfold fieldOp at h
  split at h
  · cases h
  · rename_i off ft hf
    obtain ⟨fields, fd, hu, hfd, ho, hft, hsome⟩ := hT.fld s f off ft hf
    subst ho hft
    split at h
    · rename_i i cs hi
      split at h
      · rename_i hle
        injection h with h
        subst h
        obtain ⟨vs, rfl, hcs⟩ := hx
        obtain ⟨u, hru, hur⟩ := run_part hT hi hcs hle
        refine ⟨u, ?_, hur⟩
        simp [Instr.field, run_und hu, hfd, asAgg, hru]
      · cases h
    · cases h

theorem sl_inv {k : Nat} {es : List (List PV)} {v : Value} (h : PRel W S (.sl k es) v) : ∃ A c, v = .slice A es.length c ∧ es.length ≤ c ∧ (es ≠ [] → ∃ ad, A = some ad) ∧
    ∀ (i : Nat) (e : List PV), es[i]? = some e → ∃ ad, A = some ad ∧ PRel W S (.ref e) (.pointer (some (ad.add (i * k)))) := by
  cases h with
  | sl _ _ A c val hl hA hk hc hr =>
    refine ⟨A, c, rfl, hl, hA, fun i e he => ?_⟩
    obtain ⟨ad, rfl⟩ := hA (by rintro rfl; simp at he)
    refine ⟨ad, rfl, .ref e _ (fun j => val i j) (fun j p hp => ?_) (fun j p hp => hr i e j p he hp)⟩
    rw [add_add]
    exact hc ad i e j p rfl he hp


/-- An own slice's value. -/
theorem view_inv (hM : MemOK W0 M S γ σ.mem W) {x : TV} {v : Value} {n o off m : Nat} {π : Path} (hx : TRel W S γ x v) (h : viewOf σ.mem n x = some (o, off, π, m)) :
    ∃ A c m', v = .slice A m c ∧ m ≤ c ∧ m ≤ m' ∧ γ.hd o off π = .slice A m' c ∧ (0 < m → A = some ⟨blkD (γ.hd o off π), 0, none⟩) := by
  unfold viewOf at h
  split at h
  · rename_i o' off' π'
    split at h
    · rename_i k es hat
      split at h
      · rename_i hk
        simp only [Option.some.injEq, Prod.mk.injEq] at h
        obtain ⟨rfl, rfl, rfl, rfl⟩ := h
        obtain ⟨h0, _, hv⟩ := hM.vecs _ _ _ _ _ hat
        have hx1 : v = γ.hd o' off' π' := hx.1
        rcases hv with ⟨rfl, A, hA⟩ | ⟨b, cap, hhd, hc0, hle, _, _⟩
        · exact ⟨A, 0, 0, by rw [hx1, hA]; rfl, by simp, by simp, hA, by simp⟩
        · exact ⟨some ⟨b, 0, none⟩, cap, es.length, by rw [hx1, hhd], hle, Nat.le_refl _, hhd, fun _ => by rw [hhd]; rfl⟩
      · cases h
    · cases h
  · rename_i o' off' π' m'
    split at h
    · rename_i k es hat
      split at h
      · rename_i hk
        simp only [Option.some.injEq, Prod.mk.injEq] at h
        obtain ⟨rfl, rfl, rfl, rfl⟩ := h
        obtain ⟨h0, _, hv⟩ := hM.vecs _ _ _ _ _ hat
        obtain ⟨A, m0, c, hhd, hle, rfl⟩ := hx
        rcases hv with ⟨rfl, A', hA⟩ | ⟨b, cap, hhd', hc0, hle', _, _⟩
        · rw [hA] at hhd
          injection hhd with h1 h2 h3
          subst h1 h2 h3
          exact ⟨A', 0, 0, rfl, hle, hle, hA, fun h => by omega⟩
        · rw [hhd'] at hhd
          injection hhd with h1 h2 h3
          subst h1 h2 h3
          exact ⟨_, cap, es.length, rfl, by omega, hle, hhd', fun _ => by rw [hhd']; rfl⟩
      · cases h
    · cases h
  · cases h

theorem indexAddr_ok (hT : TabOK P T) (hM : MemOK W0 M S γ σ.mem W) {t : TypeId} {x ix r : TV} {v vi : Value} (hx : TRel W S γ x v) (hix : TRel W S γ ix vi) (h : indexAddrOp T σ t x ix = some r) :
    ∃ u, (∀ w, (Instr.indexAt t v vi).run P w = .ok u w) ∧ TRel W S γ r u := by
  unfold indexAddrOp at h
  split at h
  · cases h
  rename_i e he
  split at h
  · cases h
  rename_i i hi
  obtain ⟨info, z, hP, hsz, _⟩ := hT.ti e i hi
  split at h
  · rename_i es n hes hn
    split at h
    · rename_i h0
      split at h
      · rename_i cs hcs
        injection h with h
        subst h
        obtain ⟨k, rfl⟩ := hix.int hn
        obtain ⟨A, c, rfl, hle, hA, hel⟩ := sl_inv (hx.els hes)
        obtain ⟨ad, rfl, hr⟩ := hel n.toNat cs hcs
        have hlt : n.toNat < es.length := (List.getElem?_eq_some_iff.1 hcs).1
        have hlt' : n < (es.length : Int) := by omega
        refine ⟨.pointer (some (ad.add (n.toNat * info.size))), ?_, ?_⟩
        · simp [Instr.indexAt, asIntOf, run_und (hT.elem t e he), h0, hlt', run_siz hP]
        · rw [hsz]; exact hr
      · cases h
    · cases h
  · rename_i n hno hn
    split at h
    · rename_i o off π m hv
      split at h
      · rename_i hb
        injection h with h
        subst h
        obtain ⟨k, rfl⟩ := hix.int hn
        obtain ⟨A, c, m', rfl, hmc, hmm, hhd, hA⟩ := view_inv hM hx hv
        have hA := hA (by omega)
        subst hA
        refine ⟨.pointer (some ((⟨blkD (γ.hd o off π), 0, none⟩ : Addr).add (n.toNat * info.size))), ?_, ?_⟩
        · simp [Instr.indexAt, asIntOf, run_und (hT.elem t e he), hb.1, hb.2, run_siz hP]
        · show _ = _
          simp only [Gh.addr]
          rw [add_plain, hsz]
          simp
      · cases h
    · cases h
  · cases h
theorem extract_ok {x r : TV} {n : Nat} {v : Value} (hx : TRel W S γ x v) (h : extractOp x n = some r) :
    ∃ u, (∀ w, (Instr.extract v n).run P w = .ok u w) ∧ TRel W S γ r u := by
  unfold extractOp at h
  split at h
  · rename_i xs
    split at h
    · rename_i y hy
      injection h with h
      subst h
      obtain ⟨vs, rfl, hl, hr⟩ := hx
      have hlt : n < vs.size := by
        have h1 := (List.getElem?_eq_some_iff.1 hy).1
        exact hl ▸ h1
      refine ⟨vs[n], by simp [Instr.extract, Array.getElem?_eq_getElem hlt], hr n y vs[n] hy (Array.getElem?_eq_getElem hlt)⟩
    · cases h
  · cases h

def loSem (m : Nat) : Option Value → Sem Nat
  | some v => Instr.sliceBound v m .sliceB
  | none => pure 0
def hiSem (len c : Nat) : Option Value → Sem Nat
  | some v => Instr.sliceBound v c .sliceAcap
  | none => pure len
theorem run_bounds {len c l h : Nat} {vl vh : Option Value} (hh : (hiSem len c vh).run P W = .ok h W) (hl : (loSem h vl).run P W = .ok l W) : (Instr.sliceBounds true len c vl vh none).run P W = .ok (l, h, c) W := by
  cases vl <;> cases vh <;> simp [loSem, hiSem] at hh hl <;> simp [Instr.sliceBounds, hh, hl]

/-- A bound that may be missing. -/
def BRel (W : World) (S : Addr → Prop) (γ : Gh) : Option TV → Option Value → Prop
  | none, v => v = none
  | some x, v => ∃ u, v = some u ∧ TRel W S γ x u
theorem lo_run {lo : Option TV} {vl : Option Value} {l : Int} (h : BRel W S γ lo vl) (hl : boundOf 0 lo = some l) (h0 : 0 ≤ l) (m : Nat) (hm : l ≤ m) (w : World) : (loSem m vl).run P w = .ok l.toNat w := by
  cases lo with
  | none => simp [boundOf] at hl; subst hl; cases h; rfl
  | some x =>
    obtain ⟨u, rfl, hu⟩ := h
    obtain ⟨k, rfl⟩ := hu.int hl
    simp [loSem, Instr.sliceBound, asIntOf, h0, hm]
theorem hi_run {hi : Option TV} {vh : Option Value} {l : Int} {len c : Nat} (h : BRel W S γ hi vh) (hl : boundOf len hi = some l) (h0 : 0 ≤ l) (hm : l ≤ c) (w : World) : (hiSem len c vh).run P w = .ok l.toNat w := by
  cases hi with
  | none => simp [boundOf] at hl; subst hl; cases h; simp [hiSem]
  | some x =>
    obtain ⟨u, rfl, hu⟩ := h
    obtain ⟨k, rfl⟩ := hu.int hl
    simp [hiSem, Instr.sliceBound, asIntOf, h0, hm]

theorem slice_ok (hT : TabOK P T) (hM : MemOK W0 M S γ σ.mem W) {t : TypeId} {x r : TV} {lo hi : Option TV} {v : Value} {vl vh : Option Value} (hx : TRel W S γ x v)
    (hlo : BRel W S γ lo vl) (hhi : BRel W S γ hi vh) (h : sliceOp T σ t x lo hi = some r) : ∃ u, (∀ w, (Instr.sliceAt t v vl vh none).run P w = .ok u w) ∧ TRel W S γ r u := by
  unfold sliceOp at h
  split at h
  · cases h
  rename_i e he
  split at h
  · cases h
  rename_i i hi'
  obtain ⟨info, z, hP, hsz, _⟩ := hT.ti e i hi'
  split at h
  · rename_i es hes
    split at h
    · rename_i l hh hl hh'
      split at h
      · rename_i hb
        injection h with h
        subst h
        obtain ⟨hb0, hb1, hb2⟩ := hb
        obtain ⟨info, z, hP, hsz, _⟩ := hT.ti e i hi'
        obtain ⟨A, c, rfl, hle, hA, hel⟩ := sl_inv (hx.els hes)
        have hH := hi_run (P := P) (c := c) hhi hh' (by omega) (by omega)
        have hL := lo_run (P := P) hlo hl hb0 hh.toNat (by omega)
        obtain ⟨L, rfl⟩ := Int.eq_ofNat_of_zero_le hb0
        obtain ⟨H, rfl⟩ := Int.eq_ofNat_of_zero_le (Int.le_trans hb0 hb1)
        simp only [Int.toNat_natCast] at hH hL ⊢
        have hLH : L ≤ H := by omega
        have hHe : H ≤ es.length := by omega
        refine ⟨.slice (if c = L then A else A.map (·.add (L * info.size))) (H - L) (c - L), ?_, ?_⟩
        · simp [Instr.sliceAt, Instr.slice, run_und (hT.elem t e he), run_bounds (hH _) (hL _), run_siz hP]
        · have hlen : ((es.take H).drop L).length = H - L := by simp; omega
          show PRel W S (.sl _ _) _
          rw [← hlen]
          cases hx.els hes with
          | sl _ _ _ _ val hl0 hA0 hk hc hr =>
            have hget : ∀ (i : Nat) (e' : List PV), ((es.take H).drop L)[i]? = some e' → es[L + i]? = some e' := by
              intro i e' h'
              simp only [List.getElem?_drop, List.getElem?_take] at h'
              split at h'
              · exact h'
              · cases h'
            refine .sl _ _ _ _ (fun i j => val (L + i) j) (by rw [hlen]; omega) (fun hne => ?_) (fun e1 h1 => hk e1 (List.mem_of_mem_take (List.mem_of_mem_drop h1))) (fun ad i e' j p ha he' hp => ?_) (fun i e' j p he' hp => hr (L + i) e' j p (hget i e' he') hp)
            · obtain ⟨ad, rfl⟩ := hA (by rintro rfl; simp at hne)
              split
              · exact ⟨_, rfl⟩
              · exact ⟨_, rfl⟩
            · have hin := hget i e' he'
              have hlt : L + i < es.length := (List.getElem?_eq_some_iff.1 hin).1
              rw [if_neg (by omega)] at ha
              obtain ⟨ad0, rfl⟩ := hA (by rintro rfl; simp at hlt)
              simp at ha
              subst ha
              rw [add_add, hsz]
              have := hc ad0 (L + i) e' j p rfl hin hp
              rwa [Nat.add_mul, Nat.add_assoc] at this
      · cases h
    · cases h
  · rename_i hno
    split at h
    · rename_i o off π m hv
      split at h
      · rename_i l hh hl hh'
        split at h
        · rename_i hb
          injection h with h
          subst h
          obtain ⟨rfl, hb1, hb2⟩ := hb
          obtain ⟨A, c, m', rfl, hmc, hmm, hhd, hA⟩ := view_inv hM hx hv
          have hH := hi_run (P := P) (c := c) hhi hh' (by omega) (by omega)
          have hL := lo_run (P := P) hlo hl (Int.le_refl _) hh.toNat (by omega)
          obtain ⟨H, rfl⟩ := Int.eq_ofNat_of_zero_le hb1
          simp only [Int.toNat_natCast, Int.toNat_zero] at hH hL ⊢
          refine ⟨.slice A H c, ?_, A, m', c, hhd, by omega, rfl⟩
          cases A with
          | none => simp [Instr.sliceAt, Instr.slice, run_und (hT.elem t e he), run_bounds (hH _) (hL _), run_siz hP]
          | some ad => simp [Instr.sliceAt, Instr.slice, run_und (hT.elem t e he), run_bounds (hH _) (hL _), run_siz hP, Addr.add]
        · cases h
      · cases h
    · cases h
theorem seg (l : List Value) (v : Value) (vs : List Value) (p : Nat) (h : p < l.length) : (l.set p v).take (p + 1) ++ vs ++ (l.set p v).drop (p + 1 + vs.length) = l.take p ++ v :: vs ++ l.drop (p + (vs.length + 1)) := by
  have h1 : (l.set p v).take (p + 1) = l.take p ++ [v] := by
    rw [List.take_succ_eq_append_getElem (by simpa using h), List.take_set, List.getElem_set_self, List.set_eq_of_length_le (by simp; omega)]
  have h2 : (l.set p v).drop (p + 1 + vs.length) = l.drop (p + (vs.length + 1)) := by
    rw [List.drop_set, if_pos (by omega), show p + 1 + vs.length = p + (vs.length + 1) by omega]
  rw [h1, h2]
  simp

theorem foldl_place (off : Nat) : ∀ (vs : List Value) (k : Nat) (cs : Array Value), off + k + vs.length ≤ cs.size →
    ((vs.zipIdx k).foldl (fun (cs : Array Value) (x : Value × Nat) => cs.setIfInBounds (off + x.2) x.1) cs).toList = cs.toList.take (off + k) ++ vs ++ cs.toList.drop (off + k + vs.length)
  | [], k, cs, _ => by simp
  | v :: vs, k, cs, h => by
    simp only [List.length_cons] at h
    have ih := foldl_place off vs (k + 1) (cs.setIfInBounds (off + k) v) (by simp; omega)
    simp only [List.zipIdx_cons, List.foldl_cons, List.length_cons]
    rw [ih, Array.toList_setIfInBounds]
    have hlt : off + k < cs.toList.length := by simp only [Array.length_toList]; omega
    exact seg cs.toList v vs (off + k) hlt

theorem place_cells (off : Nat) (u : Array Value) (cs : Array Value) (h : off + u.size ≤ cs.size) :
    (u.zipIdx.foldl (fun (cs : Array Value) (x : Value × Nat) => cs.setIfInBounds (off + x.2) x.1) cs).toList = cs.toList.take off ++ u.toList ++ cs.toList.drop (off + u.size) := by
  have := foldl_place off u.toList 0 cs (by simpa using h)
  rw [← Array.foldl_toList]
  simpa using this

theorem fill_ok (hR : Rel T W0 M S0 S γ σ a W) (hg : gl.all id = true) (place : Nat → Option (Nat × Nat)) : ∀ (parts : List (Nat × Operand)) (cs rs : List CV) (vs : Array Value), CsRel W S γ cs vs.toList →
    fillCells T gl σ place parts cs = some rs → ∃ us : Array Value, Instr.fill place vs (parts.map fun (i, x) => (i, a.eval x)) = some us ∧ CsRel W S γ rs us.toList
  | [], cs, rs, vs, hcs, h => by
    simp only [fillCells, Option.some.injEq] at h
    subst h
    exact ⟨vs, rfl, hcs⟩
  | (i, x) :: rest, cs, rs, vs, hcs, h => by
    unfold fillCells at h
    split at h
    · rename_i off n ys hp hy
      split at h
      · rename_i hc
        have hx := (hR.opg hg x).tcells hy
        have hl := hcs.1
        have hxl := hx.1
        simp only [Array.length_toList] at hl hxl
        have hle : off + (a.eval x).cells.size ≤ vs.size := by omega
        have h2 := place_cells off (a.eval x).cells vs hle
        have hnew : CsRel W S γ (cs.take off ++ ys ++ cs.drop (off + n)) ((a.eval x).cells.zipIdx.foldl (fun (cs : Array Value) (x : Value × Nat) => cs.setIfInBounds (off + x.2) x.1) vs).toList := by
          rw [h2, ← hxl, hc.1]
          exact ((hcs.take off).append hx).append (hcs.drop _)
        obtain ⟨us, hf, hr⟩ := fill_ok hR hg place rest _ rs _ hnew h
        refine ⟨us, ?_, hr⟩
        simp only [List.map_cons, Instr.fill, hp]
        rw [if_neg (by simp; omega)]
        exact hf
      · cases h
    · cases h

theorem place_struct (hT : TabOK P T) : ∀ (fs : List Field), (∀ p ∈ fs.map (fun f => (f.offset, f.type)), (T.ti p.2).isSome = true) →
    ∃ pl : List (Nat × Nat), fs.mapM (fun f => (P.info? f.type).map fun i => (f.offset, i.size)) = some pl ∧ ∀ j : Nat, pl[j]? = match ((fs.map fun f => ((f.offset, f.type) : Nat × TypeId))[j]? : Option (Nat × TypeId)) with | some (off, ft) => (match T.ti ft with | some k => some (off, k.zero.length) | none => none) | none => none
  | [], _ => ⟨[], by simp, fun j => by simp⟩
  | f :: fs, h => by
    obtain ⟨pl, h1, h2⟩ := place_struct hT fs (fun p hp => h p (List.mem_cons_of_mem _ hp))
    obtain ⟨i, hi⟩ := Option.isSome_iff_exists.1 (h (f.offset, f.type) (by simp))
    obtain ⟨info, z, hP, hsz, _⟩ := hT.ti _ i hi
    refine ⟨(f.offset, info.size) :: pl, by simp [List.mapM_cons, hP, h1], fun j => ?_⟩
    cases j with
    | zero => simp only [List.getElem?_cons_zero, List.map_cons]; simp only at hi; rw [hi]; simp [hsz]
    | succ j => simpa using h2 j

theorem built_ok (hT : TabOK P T) {t : TypeId} {i : TI} (hi : T.ti t = some i) {parts : List (Nat × Value)} {us : Array Value} (hp : ((T.stc t).isSome || (T.arr t).isSome) = true) (h : Instr.fill (T.place t) i.zero.toArray parts = some us) : P.built t parts = some us := by
  obtain ⟨info, z, hP, hsz, _, hz, hzc, _⟩ := hT.ti t i hi
  have hzc' : z.cells = i.zero.toArray := by rw [← hzc]
  unfold Program.built
  cases hs : T.stc t with
  | some l =>
    obtain ⟨fields, hu, hm, hsome⟩ := hT.stc t l hs
    subst hm
    obtain ⟨pl, h1, h2⟩ := place_struct hT fields.toList hsome
    simp only [hP, hu, hz, h1, hzc']
    have : (fun x : Nat => pl.toArray[x]?) = T.place t := by
      funext j
      rw [List.getElem?_toArray, h2 j]
      unfold Tab.place
      rw [hs]
      all_goals rfl
    rw [this]; exact h
  | none =>
    cases ha : T.arr t with
    | none => simp [hs, ha] at hp
    | some ne =>
      obtain ⟨n, e⟩ := ne
      obtain ⟨hu, hsome⟩ := hT.arr t n e ha
      obtain ⟨j, hj⟩ := Option.isSome_iff_exists.1 hsome
      obtain ⟨ie, _, hPe, hsze, _⟩ := hT.ti e j hj
      simp only [hP, hu, hz, hPe, hzc']
      have : (fun x : Nat => some (x * ie.size, ie.size)) = T.place t := by
        funext x
        unfold Tab.place
        rw [hs, ha]
        simp [hj, hsze]
      rw [this]; exact h

theorem build_ok (hT : TabOK P T) (hR : Rel T W0 M S0 S γ σ a W) (hg : gl.all id = true) {t : TypeId} {parts : Array (Nat × Operand)} {r : TV} (h : buildOp T gl σ t parts.toList = some r) :
    ∃ u, (∀ w, (Instr.build t (parts.map fun (i, x) => (i, a.eval x))).run P w = .ok u w) ∧ TRel W S γ r u := by
  unfold buildOp at h
  split at h
  · cases h
  rename_i i hi
  split at h
  · rename_i hp
    split at h
    · rename_i cs hf
      injection h with h
      subst h
      obtain ⟨_, _, _, _, _, _, _, hones, _⟩ := hT.ti t i hi
      obtain ⟨us, h1, h2⟩ := fill_ok hR hg (T.place t) parts.toList _ _ i.zero.toArray (by simpa using CsRel.consts hones) hf
      refine ⟨.agg us, ?_, us, rfl, h2⟩
      exact fun w => run_build w t _ us (built_ok hT hi hp (by simpa using h1))
    · cases h
  · cases h

theorem flat_ok (hR : Rel T W0 M S0 S γ σ a W) (hg : gl.all id = true) {o : Oper} {r : TV} (h : flatOp P T gl σ o = some r) : ∃ u, (∀ w, (execOp a.eval o).run P w = .ok (.value u) w) ∧ TRel W S γ r u := by
  have key : ∀ (hs : ∀ cs b, o.op ≠ .select cs b), (if flatArgs T gl σ o then
      match pureIn P (execOp (flatOf T gl σ) o) with
      | some (.value x) => if x.oneCell' then some (TV.val x) else none
      | _ => none
    else none) = some r → ∃ u, (∀ w, (execOp a.eval o).run P w = .ok (.value u) w) ∧ TRel W S γ r u := by
    intro hs h
    split at h
    · rename_i hf
      split at h
      · rename_i x hx
        split at h
        · rename_i h1
          injection h with h
          subst h
          refine ⟨x, fun w => ?_, PRel.v x h1⟩
          have : execOp a.eval o = execOp (flatOf T gl σ) o := execOp_congr o hs fun y hy => by
            unfold flatArgs at hf
            have := Array.all_eq_true.1 hf
            obtain ⟨j, hj, rfl⟩ := Array.mem_iff_getElem.1 hy
            obtain ⟨u, hu⟩ := Option.isSome_iff_exists.1 (this j hj)
            rw [(hR.opg hg _).flat hu, flatOf, hu]
            rfl
          rw [this]
          exact pureIn_run hx w
        · cases h
      · cases h
    · cases h
  unfold flatOp at h
  split at h
  · cases h
  · cases h
  · cases h
  · cases h
  · rename_i h1 h2 h3 h4
    exact key (fun cs b e => h1 cs b e) h

theorem nilCheck_ok {x : Operand} {o : Oper} (ho : o.op = .nilCheck x) {r tx : TV} (hx : TRel W S γ tx (a.eval x)) (h : nilCheckOp tx = some r) :
    ∃ u, (∀ w, (execOp a.eval o).run P w = .ok (.value u) w) ∧ TRel W S γ r u := by
  unfold nilCheckOp at h
  split at h
  · injection h with h
    subst h
    have hv : a.eval x = .pointer (some _) := hx
    refine ⟨_, fun w => ?_, hx⟩
    simp only [execOp, ho, hv]
    rfl
  · injection h with h
    subst h
    obtain ⟨ad, vs, hv, _⟩ := ref_cells hx
    refine ⟨_, fun w => ?_, hx⟩
    simp only [execOp, ho, hv]
    rfl
  · injection h with h
    subst h
    refine ⟨_, fun w => ?_, hx⟩
    have hx' : PRel W S (.clo _ _) (a.eval x) := hx
    generalize hv : a.eval x = v at hx'
    cases hx' with
    | clo f cap vs hl hr =>
      simp only [execOp, ho, hv]
      rfl
  · injection h with h
    subst h
    refine ⟨_, fun w => ?_, hx⟩
    obtain ⟨vs, hv, _⟩ := hx
    simp only [execOp, ho, hv]
    rfl
  · cases h
theorem lift_value {s : Sem Value} {v : Value} (h : s.run P W = .ok v W) : (do let x ← s; pure (Next.value x) : Sem Next).run P W = .ok (.value v) W := by
  simp [h]

theorem bin_ok {op : BinOp} {u v r : Value} (h : binA op u v = some r) (t : TypeId) (x y : Operand) (w : World) : (do eqGuard op t x y u v; binOp op t u v : Sem Value).run P w = .ok r w ∧ r.oneCell' = true := by
  cases u <;> cases v <;> simp only [binA] at h <;> try (cases h; done)
  · rename_i k a k' b
    cases op <;> simp only [Option.ite_none_right_eq_some, Option.some.injEq] at h <;> first
      | (obtain ⟨⟨rfl, h0⟩, rfl⟩ := h; refine ⟨?_, rfl⟩; simp [eqGuard, binOp, Op.intDiv, h0])
      | (obtain ⟨h0, rfl⟩ := h; refine ⟨?_, rfl⟩; have : ¬ b < 0 := by omega
         simp [eqGuard, binOp, Op.shift, this]; done)
      | (obtain ⟨rfl, rfl⟩ := h; refine ⟨?_, rfl⟩; simp [eqGuard, binOp, Op.intArith, Op.intBits, Op.intCmp]; done)
      | (obtain ⟨rfl, rfl⟩ := h; refine ⟨?_, rfl⟩; simp [eqGuard, binOp, Op.intCmp, bne]; (first | rfl | (by_cases hab : a = b <;> simp [hab])))
  · rename_i a b
    cases op <;> simp only [Option.ite_none_right_eq_some, Option.some.injEq] at h <;> first
      | (cases h; done)
      | (obtain ⟨h0, rfl⟩ := h; refine ⟨?_, rfl⟩
         have h0' : ¬ (((a.size + b.size : Nat) : Int) > IntKind.i64.max) := by omega
         simp only [eqGuard, binOp, Op.stringOp, if_neg h0']; simp)
      | (subst h; refine ⟨?_, rfl⟩; simp [eqGuard, binOp, Op.stringOp]; (first | rfl | (by_cases hab : a.toList = b.toList <;> simp [hab])))

theorem un_ok {op : UnOp} {u r : Value} (h : unA op u = some r) (w : World) : (Op.unary op u).run P w = .ok r w ∧ r.oneCell' = true := by
  cases u <;> simp only [unA] at h <;> try (cases h; done)
  · cases op <;> simp at h
    subst h
    exact ⟨by simp [Op.unary], rfl⟩
  · cases op <;> simp at h <;> subst h
    · exact ⟨by simp [Op.unary, Op.intArith], rfl⟩
    · exact ⟨by simp [Op.unary, Op.intBits], rfl⟩

theorem conv_ok {s d : TypeId} {u r : Value} (hs : ∃ x, P.underlying s = some x) (h : convA P d u = some r) (w : World) : (convert s d u).run P w = .ok r w ∧ r.oneCell' = true := by
  obtain ⟨x, hs⟩ := hs
  cases u <;> simp only [convA] at h <;> try (cases h; done)
  split at h
  · rename_i k hk
    injection h with h; subst h
    refine ⟨?_, rfl⟩
    simp [convert, run_und hs, run_und hk, Conv.intToInt]
  · cases h

theorem idx_ok {t : TypeId} {u v r : Value} (h : idxA P t u v = some r) (w : World) : (Instr.index t u v).run P w = .ok r w ∧ r.oneCell' = true := by
  cases u <;> cases v <;> simp only [idxA] at h <;> try (cases h; done)
  split at h
  · rename_i hu
    split at h
    · rename_i h0
      split at h
      · rename_i b hb
        injection h with h; subst h
        refine ⟨?_, rfl⟩
        simp [Instr.index, asIntOf, run_und hu, h0, hb]
      · cases h
    · cases h
  · cases h

theorem one1_ok {f : Value → Option Value} {x r : TV} {v : Value} (hx : TRel W S γ x v) (h : one1 f x = some r) : ∃ u, f v = some u ∧ r = .val u := by
  unfold one1 at h
  split at h
  · rename_i u0 hu
    have := hx.flat hu
    subst this
    split at h
    · rename_i r' hr
      injection h with h; subst h
      exact ⟨r', hr, rfl⟩
    · cases h
  · cases h
theorem one2_ok {f : Value → Value → Option Value} {x y r : TV} {v z : Value} (hx : TRel W S γ x v) (hy : TRel W S γ y z) (h : one2 f x y = some r) : ∃ u, f v z = some u ∧ r = .val u := by
  unfold one2 at h
  split at h
  · rename_i u0 u1 hu hv
    have h1 := hx.flat hu
    have h2 := hy.flat hv
    subst h1 h2
    split at h
    · rename_i r' hr
      injection h with h; subst h
      exact ⟨r', hr, rfl⟩
    · cases h
  · cases h
theorem orElse_some {x y : Option TV} {r : TV} (h : orElse x y = some r) : x = some r ∨ y = some r := by
  cases x with
  | some z => exact .inl h
  | none => exact .inr h

end
end Go.Ew
end
