/- An interpreter of Go functions over a heap with block numbers of its own; the evaluator's definitions, without conditions. -/
import Derived.Calls
import Derived.Below
import Derived.KernelRfl
namespace Go.Ab
open Go

/-- A block: a row of cells (may it not be written? how many cells has an element of the slices that stand in it; 0: these have all their capacity), a map with its entries in order and its clock, or one that is no more. -/
inductive AObj where
  | cells (ro : Bool) (z : Nat) (cs : List Value)
  | map (es : List (Value × Value × Nat)) (clock : Nat)
  | dead

/-- A heap: blocks below 'base' are not written. -/
structure AH where
  base : Nat
  bs : List AObj

def AH.get (σ : AH) (b : Nat) : Option AObj := σ.bs[b]?
def AH.size (σ : AH) : Nat := σ.bs.length
def AH.push (σ : AH) (o : AObj) : AH := ⟨σ.base, σ.bs ++ [o]⟩
def AH.put (σ : AH) (b : Nat) (o : AObj) : AH := ⟨σ.base, σ.bs.set b o⟩
def AH.withBase (σ : AH) (n : Nat) : AH := ⟨n, σ.bs⟩

abbrev Tmps := Nat → Value
def upd (t : Tmps) (d : Nat) (v : Value) : Tmps := fun j => if j = d then v else t j
def start (args : List Value) : Tmps := fun j => args.getD j undef

/-- What says nothing: whatever stands there. -/
def erased : Value := .tuple #[.nilFunc]
def isTuple : Value → Bool
  | .tuple _ => true
  | _ => false
def isCell : Value → Bool
  | .tuple _ | .agg _ => false
  | _ => true
def prim : Value → Bool
  | .bool _ | .int .. | .float .. | .string _ | .pointer none | .slice none 0 0 | .map none | .nilFunc | .nilIface => true
  | _ => false
def closedV : Value → Bool
  | .agg cs => cs.toList.all prim
  | .tuple cs => cs.toList.isEmpty
  | v => prim v
def opv (t : Tmps) : Operand → Value
  | .tmp j => t j
  | .const v => if closedV v then v else erased
  | .global _ => erased
  | .func f => .func (.func f) #[] #[]

/-- A slice of n elements whose cells stand still for good: they are told with it. -/
def fz (n : Nat) (cs : Array Value) : Value := .func (.yield n) #[] cs
/-- A pointer to cells that stand still for good. -/
def pfz (cs : Array Value) : Value := .func (.method "p") #[] cs

/-- A slice without elements and without room for any. -/
def emp : Value := .func (.yield 0) #[.bool true] #[]
def isEmp : Value → Bool
  | .func (.yield _) ms _ => ms.size == 1
  | _ => false

/-! ### memory -/
def AH.alloc (σ : AH) (cs : List Value) : Value × AH := (.pointer (some ⟨σ.size, 0, none⟩), σ.push (.cells false 0 cs))
def AH.cell (σ : AH) (b o : Nat) : Option Value :=
  match σ.get b with
  | some (.cells _ _ cs) => cs[o]?
  | _ => none
def AH.row (σ : AH) (b o n : Nat) : Option (List Value) :=
  match σ.get b with
  | some (.cells _ _ cs) => if o + n ≤ cs.length then some ((cs.drop o).take n) else none
  | _ => none
def spliceAt (cs : List Value) (o : Nat) (vs : List Value) : List Value := cs.take o ++ vs ++ cs.drop (o + vs.length)
def AH.setRow (σ : AH) (b o : Nat) (vs : List Value) : Option AH :=
  match σ.get b with
  | some (.cells false z cs) => if σ.base ≤ b ∧ o + vs.length ≤ cs.length then some (σ.put b (.cells false z (spliceAt cs o vs))) else none
  | _ => none
def isAggT (P : Program) (t : TypeId) : Option Bool :=
  match P.underlying t with
  | some (.struct _) | some (.array _ _) => some true
  | some _ => some false
  | none => none
def zeroOf (P : Program) (t : TypeId) : Option Value :=
  match (P.info? t).bind (·.zero) with
  | some z => if closedV z then some z else none
  | none => none
def szOf (P : Program) (t : TypeId) : Option Nat := (P.info? t).map (·.size)
def ptrOf : Value → Option (Nat × Nat)
  | .pointer (some ⟨b, o, none⟩) => some (b, o)
  | _ => none
def fcells : Value → Option (Array Value)
  | .func (.method "p") _ cs => some cs
  | _ => none
def aPart (P : Program) (t : TypeId) (cs : Array Value) (off : Nat) : Option Value :=
  match isAggT P t, szOf P t with
  | some true, some n => if off + n ≤ cs.size then some (.agg (cs.extract off (off + n))) else none
  | some false, _ => cs[off]?
  | _, _ => none
def aLoad (P : Program) (t : TypeId) (a : Value) (σ : AH) : Option Value :=
  match fcells a with
  | some cs => aPart P t cs 0
  | none =>
  match ptrOf a, isAggT P t, szOf P t with
  | some (b, o), some true, some n => (σ.row b o n).map fun l => .agg l.toArray
  | some (b, o), some false, _ => σ.cell b o
  | _, _, _ => none
def cellsOfV (v : Value) : List Value := v.cells.toList
def aStore (P : Program) (t : TypeId) (a v : Value) (σ : AH) : Option AH :=
  match ptrOf a, szOf P t with
  | some (b, o), some n => if isTuple v = false ∧ (cellsOfV v).length = n ∧ (cellsOfV v).all isCell = true then σ.setRow b o (cellsOfV v) else none
  | _, _ => none

/-! ### operations without memory -/
def aBits (op : BinOp) (k : IntKind) (x y : Int) : Option Value :=
  let a := BitVec.ofInt k.bits x
  let b := BitVec.ofInt k.bits y
  match op with
  | .and => some (.int k (k.wrap (a &&& b).toNat))
  | .or => some (.int k (k.wrap (a ||| b).toNat))
  | .xor => some (.int k (k.wrap (a ^^^ b).toNat))
  | .andNot => some (.int k (k.wrap (a &&& ~~~b).toNat))
  | _ => none
def aInt (op : BinOp) (k : IntKind) (x y : Int) : Option Value :=
  match op with
  | .add => some (.int k (k.wrap (x + y)))
  | .sub => some (.int k (k.wrap (x - y)))
  | .mul => some (.int k (k.wrap (x * y)))
  | .quo => if y = 0 then none else some (.int k (k.wrap (x.tdiv y)))
  | .rem => if y = 0 then none else some (.int k (x.tmod y))
  | .and | .or | .xor | .andNot => aBits op k x y
  | .eql => some (.bool (x == y))
  | .neq => some (.bool (x != y))
  | .lss => some (.bool (decide (x < y)))
  | .leq => some (.bool (decide (x ≤ y)))
  | .gtr => some (.bool (decide (x > y)))
  | .geq => some (.bool (decide (x ≥ y)))
  | _ => none
def aShift (op : BinOp) (k : IntKind) (x y : Int) : Option Value :=
  if y < 0 then none else
  match op with
  | .shl => some (.int k (k.wrap (x * 2 ^ (min y.toNat k.bits))))
  | .shr => some (.int k (x.fdiv (2 ^ (min y.toNat k.bits))))
  | _ => none
/-- Are two values one? Of scalars, and of what is made of them; pointers, slices, maps, functions against nil. -/
def aEq (P : Program) : Nat → TypeId → Value → Value → Option Bool
  | 0, _, _, _ => none
  | d + 1, t, x, y =>
    match P.underlying t, x, y with
    | some .bool, .bool a, .bool b => some (a == b)
    | some (.int _), .int k a, .int k' b => if k = k' then some (a == b) else none
    | some .string, .string a, .string b => some (a == b)
    | some (.pointer _), .pointer none, .pointer b => some b.isNone
    | some (.pointer _), .pointer (some _), .pointer none => some false
    | some (.pointer _), .func (.method "p") _ _, .pointer none => some false
    | some (.slice _), .func (.yield (_ + 1)) _ _, .slice none _ _ => some false
    | some (.slice _), .slice none _ _, .slice b _ _ => some b.isNone
    | some (.slice _), .slice (some _) _ _, .slice none _ _ => some false
    | some (.map _ _), .map none, .map b => some b.isNone
    | some (.map _ _), .map (some _), .map none => some false
    | some (.func _ _ _), .nilFunc, .nilFunc => some true
    | some (.func _ _ _), .nilFunc, .func (.func _) _ _ => some false
    | some (.func _ _ _), .func (.func _) _ _, .nilFunc => some false
    | some (.interface _), .nilIface, .iface _ _ => some false
    | some (.interface _), .iface _ _, .nilIface => some false
    | some (.struct fs), .agg xs, .agg ys =>
      if P.stoodInHeld t then none else
      fs.toList.foldr (fun f r => if f.name = "_" then r else
        match aPart P f.type xs f.offset, aPart P f.type ys f.offset with
        | some u, some v => match aEq P d f.type u v with
          | some true => r
          | e => e
        | _, _ => none) (some true)
    | some (.array len elem), .agg xs, .agg ys =>
      match szOf P elem with
      | none => none
      | some n => (List.range len).foldr (fun i r =>
        match aPart P elem xs (i * n), aPart P elem ys (i * n) with
        | some u, some v => match aEq P d elem u v with
          | some true => r
          | e => e
        | _, _ => none) (some true)
    | _, _, _ => none
def aBin (P : Program) (op : BinOp) (t : TypeId) (x y : Value) : Option Value :=
  match op, x, y with
  | .shl, .int k a, .int _ b => aShift .shl k a b
  | .shr, .int k a, .int _ b => aShift .shr k a b
  | op, .int k a, .int k' b => if k = k' then aInt op k a b else none
  | .eql, .string a, .string b => some (.bool (a.toList == b.toList))
  | .neq, .string a, .string b => some (.bool (!(a.toList == b.toList)))
  | .eql, .agg xs, .agg ys => if P.eqGuardType P.depth t then none else (aEq P 9999 t (.agg xs) (.agg ys)).map .bool
  | .neq, .agg xs, .agg ys => if P.eqGuardType P.depth t then none else (aEq P 9999 t (.agg xs) (.agg ys)).map fun b => .bool !b
  | .eql, .nilIface, .nilIface => none
  | .neq, .nilIface, .nilIface => none
  | .eql, x, y => (aEq P 1 t x y).map .bool
  | .neq, x, y => (aEq P 1 t x y).map fun b => .bool !b
  | _, _, _ => none
def aUn (op : UnOp) (x : Value) : Option Value :=
  match op, x with
  | .neg, .int k n => some (.int k (k.wrap (0 - n)))
  | .xor, .int k n => aBits .xor k (if k.signed then -1 else k.max) n
  | .not, .bool b => some (.bool !b)
  | _, _ => none
def aConv (P : Program) (src dst : TypeId) (x : Value) : Option Value :=
  match P.underlying src, P.underlying dst, x with
  | some (.int _), some (.int k), .int _ n => some (.int k (k.wrap n))
  | _, _, _ => none
def fieldOf (P : Program) (s : TypeId) (f : Nat) : Option Field :=
  match P.underlying s with
  | some (.struct fs) => fs[f]?
  | _ => none
def aFieldAddr (P : Program) (s : TypeId) (a : Value) (f : Nat) : Option Value :=
  match fcells a with
  | some cs => (fieldOf P s f).bind fun fd => match szOf P fd.type with
    | some (n + 1) => if fd.offset + (n + 1) ≤ cs.size then some (pfz (cs.extract fd.offset (fd.offset + (n + 1)))) else none
    | _ => none
  | none =>
  match ptrOf a, fieldOf P s f with
  | some (b, o), some fd => match szOf P fd.type with
    | some (_ + 1) => some (.pointer (some ⟨b, o + fd.offset, none⟩))
    | _ => none
  | _, _ => none
def aField (P : Program) (s : TypeId) (x : Value) (f : Nat) : Option Value :=
  match x, fieldOf P s f with
  | .agg cs, some fd => aPart P fd.type cs fd.offset
  | _, _ => none
def aIndexAddr (P : Program) (t : TypeId) (x i : Value) : Option Value :=
  match P.underlying t, x, i with
  | some (.slice elem), .slice (some ⟨b, o, none⟩) len _, .int _ n =>
    match szOf P elem with
    | some s => if 0 ≤ n ∧ n < len then some (.pointer (some ⟨b, o + n.toNat * s, none⟩)) else none
    | none => none
  | some (.array len elem), .pointer (some ⟨b, o, none⟩), .int _ n =>
    match szOf P elem with
    | some s => if 0 ≤ n ∧ n < len then some (.pointer (some ⟨b, o + n.toNat * s, none⟩)) else none
    | none => none
  | some (.slice elem), .func (.yield len) _ cs, .int _ n =>
    match szOf P elem with
    | some s => if 0 ≤ n ∧ n < len then some (pfz (cs.extract (n.toNat * s) (n.toNat * s + s))) else none
    | none => none
  | some (.array len elem), .func (.method "p") _ cs, .int _ n =>
    match szOf P elem with
    | some s => if 0 ≤ n ∧ n < len then some (pfz (cs.extract (n.toNat * s) (n.toNat * s + s))) else none
    | none => none
  | _, _, _ => none
def aIndex (P : Program) (t : TypeId) (x i : Value) : Option Value :=
  match P.underlying t, x, i with
  | some (.array len elem), .agg cs, .int _ n =>
    match szOf P elem with
    | some s => if 0 ≤ n ∧ n < len then aPart P elem cs (n.toNat * s) else none
    | none => none
  | some .string, .string s, .int _ n => if 0 ≤ n then (s[n.toNat]?).map fun b => .int .u8 b.toNat else none
  | _, _, _ => none
def bound (v : Option Value) (dflt most : Nat) : Option Nat :=
  match v with
  | none => some dflt
  | some (.int _ i) => if 0 ≤ i ∧ i ≤ most then some i.toNat else none
  | some _ => none
/-- How many cells has an element of the slices in a block. -/
def AH.elemOk (σ : AH) (a : Option Addr) (s : Nat) : Bool :=
  match a with
  | none => true
  | some a => match σ.get a.block with
    | some (.cells _ z _) => z == 0 || z == s
    | _ => false
def aSlice (P : Program) (t : TypeId) (x : Value) (lo hi mx : Option Value) (σ : AH) : Option Value :=
  match mx, P.underlying t, x with
  | none, some (.slice elem), .slice a len cap =>
    match bound hi len cap, szOf P elem with
    | some h, some s => if cap < h ∨ σ.elemOk a s = false then none else match bound lo 0 h with
      | some l => some (.slice (if cap = l then a else a.map fun a => ⟨a.block, a.off + l * s, none⟩) (h - l) (cap - l))
      | none => none
    | _, _ => none
  | none, some (.array n elem), .pointer (some ⟨b, o, none⟩) =>
    match bound hi n n, szOf P elem with
    | some h, some s => match bound lo 0 h with
      | some l => some (.slice (some (if n = l then ⟨b, o, none⟩ else ⟨b, o + l * s, none⟩)) (h - l) (n - l))
      | none => none
    | _, _ => none
  | none, some (.slice elem), .func (.yield n) ms cs =>
    match bound hi n n, szOf P elem with
    | some h, some s => match bound lo 0 h with
      | some l => some (if isEmp (.func (.yield n) ms cs) then emp else fz (h - l) (cs.extract (l * s) (h * s)))
      | none => none
    | _, _ => none
  | none, some (.array n elem), .func (.method "p") _ cs =>
    match bound hi n n, szOf P elem with
    | some h, some s => match bound lo 0 h with
      | some l => some (fz (h - l) (cs.extract (l * s) (h * s)))
      | none => none
    | _, _ => none
  | none, some .string, .string s =>
    match bound hi s.size s.size with
    | some h => match bound lo 0 h with
      | some l => some (.string (s.extract l h))
      | none => none
    | none => none
  | _, _, _ => none
def aExtract (x : Value) (i : Nat) : Option Value :=
  match x with
  | .tuple vs => if vs.size ≤ 1 then none else vs[i]?
  | _ => none
def aMin : List Value → Option Value
  | [.int k x, .int _ y] => some (.int k (if y < x then y else x))
  | [.int k x, .int _ y, .int _ z] => some (.int k (if z < (if y < x then y else x) then z else (if y < x then y else x)))
  | _ => none
def aMax : List Value → Option Value
  | [.int k x, .int _ y] => some (.int k (if y > x then y else x))
  | [.int k x, .int _ y, .int _ z] => some (.int k (if z > (if y > x then y else x) then z else (if y > x then y else x)))
  | _ => none

/-! ### making and filling -/
def aBuild (P : Program) (t : TypeId) (parts : List (Nat × Value)) : Option Value :=
  if parts.all (fun p => !isTuple p.2) = false then none else
  match zeroOf P t, P.underlying t with
  | some z, some (.struct fs) =>
    match fs.toList.mapM fun f => (szOf P f.type).map fun s => (f.offset, s) with
    | some places => (Instr.fill (fun i => places[i]?) z.cells parts).map .agg
    | none => none
  | some z, some (.array _ elem) =>
    match szOf P elem with
    | some s => (Instr.fill (fun i => some (i * s, s)) z.cells parts).map .agg
    | none => none
  | _, _ => none
def rep (z : List Value) : Nat → List Value
  | 0 => []
  | n + 1 => z ++ rep z n
def aBuildSlice (P : Program) (t : TypeId) (len : Nat) (parts : List (Nat × Value)) (σ : AH) : Option (Value × AH) :=
  if parts.all (fun p => !isTuple p.2) = false then none else
  match P.underlying t with
  | some (.slice elem) =>
    match szOf P elem, zeroOf P elem with
    | some s, some z =>
      if 0 < s ∧ z.cells.size = s ∧ len * s ≤ 2 ^ 24 then
        match Instr.fill (fun i => some (i * s, s)) (rep z.cells.toList len).toArray parts with
        | some cs => some (if len = 0 then emp else .slice (some ⟨σ.size, 0, none⟩) len len, σ.push (if len = 0 then .dead else .cells false s cs.toList))
        | none => none
      else none
    | _, _ => none
  | _ => none
def aMakeSlice (P : Program) (t : TypeId) (len cap : Value) (σ : AH) : Option (Value × AH) :=
  match P.underlying t, len, cap with
  | some (.slice elem), .int _ l, .int _ c =>
    match P.info? elem with
    | some i => match i.zero with
      | some z =>
        if 0 ≤ l ∧ l ≤ c ∧ c ≤ 2 ^ 40 ∧ (i.bytes : Int) * c ≤ 2 ^ 40 ∧ 0 < i.size ∧ z.cells.size = i.size ∧ closedV z = true then
          some (.slice (some ⟨σ.size, 0, none⟩) l.toNat c.toNat, σ.push (.cells false i.size (rep z.cells.toList c.toNat)))
        else none
      | none => none
    | none => none
  | _, _, _ => none
/-- The first n elements' cells of what is appended or copied. -/
def firstC (σ : AH) (size n : Nat) : Value → Option (List Value)
  | .slice (some ⟨b, o, none⟩) _ _ => σ.row b o (n * size)
  | .slice none _ _ => some []
  | .func (.yield _) _ cs => if n * size ≤ cs.size then some (cs.toList.take (n * size)) else none
  | _ => none
def lenV : Value → Option Nat
  | .slice _ n _ => some n
  | .func (.yield n) _ _ => some n
  | _ => none
def aAppend0 (P : Program) (st xt : TypeId) (s x : Value) (σ : AH) : Option (Value × AH) :=
  match P.underlying st, P.underlying xt, s, lenV x with
  | some (.slice elem), some (.slice _), .slice a sLen sCap, some n =>
    if n = 0 then (if sLen ≤ sCap ∧ (szOf P elem).isSome = true then some (s, σ) else none) else
    match P.info? elem with
    | none => none
    | some i =>
      if i.size = 0 ∨ i.bytes = 0 ∨ 2 ^ 34 < (sLen + n) * i.bytes ∨ i.zero.map (·.cells.size) ≠ some i.size then none else
      match firstC σ i.size n x with
      | none => none
      | some new =>
        if new.all isCell = false then none else
        match a with
        | none => some (.slice (some ⟨σ.size, 0, none⟩) n n, σ.push (.cells false i.size new))
        | some ⟨b, o, none⟩ =>
          if sLen + n ≤ sCap then (σ.setRow b (o + sLen * i.size) new).map fun σ' => (.slice (some ⟨b, o, none⟩) (sLen + n) sCap, σ')
          else
            match σ.get b with
            | some (.cells false z cs) =>
              if σ.base ≤ b ∧ o + sLen * i.size ≤ cs.length ∧ (z = 0 ∨ z = i.size) then
                some (.slice (some ⟨σ.size, 0, none⟩) (sLen + n) (sLen + n), (σ.put b .dead).push (.cells false i.size ((cs.drop o).take (sLen * i.size) ++ new)))
              else none
            | _ => none
        | _ => none
  | _, _, _, _ => none
def aAppendE (P : Program) (st xt : TypeId) (s x : Value) (σ : AH) : Option (Value × AH) :=
  match P.underlying st, lenV x with
  | some (.slice elem), some n => if n = 0 then (if (szOf P elem).isSome = true ∧ (P.underlying xt).isSome = true then (match P.underlying xt with | some (.slice _) => some (s, σ) | _ => none) else none) else aAppend0 P st xt (.slice none 0 0) x σ
  | _, _ => none
def aAppend (P : Program) (st xt : TypeId) (s x : Value) (σ : AH) : Option (Value × AH) :=
  if isEmp s then aAppendE P st xt s x σ else aAppend0 P st xt s x σ
def aCopy (P : Program) (dt : TypeId) (d x : Value) (σ : AH) : Option (Value × AH) :=
  match P.underlying dt, d, lenV x with
  | some (.slice elem), .slice a dLen _, some n =>
    match szOf P elem, firstC σ ((szOf P elem).getD 0) (min n dLen) x with
    | some s, some new =>
      if new.length = min n dLen * s ∧ new.all isCell = true then
        match a with
        | none => some (.int .i64 ((min n dLen : Nat) : Int), σ)
        | some ⟨b, o, none⟩ => if min n dLen = 0 then some (.int .i64 0, σ) else (σ.setRow b o new).map fun σ' => (.int .i64 ((min n dLen : Nat) : Int), σ')
        | _ => none
      else none
    | _, _ => none
  | _, _, _ => none

/-! ### maps -/
def plainKeyT (P : Program) (t : TypeId) : Bool :=
  match P.underlying t with
  | some (.int _) | some .string | some .bool => true
  | _ => false
def findA (kind : TypeDesc) (k : Value) : List (Value × Value × Nat) → Nat → Option (Option (Nat × Value))
  | [], _ => some none
  | e :: es, i =>
    match Instr.sameNow kind k e.1 with
    | some true => some (some (i, e.2.1))
    | some false => findA kind k es (i + 1)
    | none => none
def mapOf (σ : AH) : Value → Option (Nat × List (Value × Value × Nat) × Nat)
  | .map (some b) => match σ.get b with
    | some (.map es c) => some (b, es, c)
    | _ => none
  | _ => none
def keyT (P : Program) (t : TypeId) : Option (TypeId × TypeId × TypeDesc) :=
  match P.underlying t with
  | some (.map k e) => if plainKeyT P k then (P.underlying k).map fun d => (k, e, d) else none
  | _ => none
def entriesA (σ : AH) : Value → Option (List (Value × Value × Nat))
  | .map none => some []
  | .map (some b) => (mapOf σ (.map (some b))).map (·.2.1)
  | _ => none
def aLookup (P : Program) (t : TypeId) (m k : Value) (ok : Bool) (σ : AH) : Option Value :=
  match keyT P t, entriesA σ m with
  | some (_, e, d), some es =>
    match findA d k es 0 with
    | some (some (_, v)) => some (if ok then .tuple #[v, .bool true] else v)
    | some none => (zeroOf P e).map fun z => if ok then .tuple #[z, .bool false] else z
    | none => none
  | _, _ => none
def aMapUpdate (P : Program) (t : TypeId) (m k v : Value) (σ : AH) : Option AH :=
  match keyT P t, mapOf σ m with
  | some (_, _, d), some (b, es, c) =>
    if isTuple v = false ∧ σ.base ≤ b ∧ prim k = true then
      match findA d k es 0 with
      | some (some (i, _)) => some (σ.put b (.map (es.set i (k, v, ((es[i]?).map (·.2.2)).getD 0)) c))
      | some none => some (σ.put b (.map (es ++ [(k, v, c)]) (c + 1)))
      | none => none
    else none
  | _, _ => none
def aDelete (P : Program) (t : TypeId) (m k : Value) (σ : AH) : Option AH :=
  match keyT P t, m, mapOf σ m with
  | some _, .map none, _ => some σ
  | some (_, _, d), _, some (b, es, c) =>
    if σ.base ≤ b then
      match findA d k es 0 with
      | some (some (i, _)) => some (σ.put b (.map (es.eraseIdx i) c))
      | some none => some (σ.put b (.map es c))
      | none => none
    else none
  | _, _, _ => none
def aClear (P : Program) (t : TypeId) (m : Value) (σ : AH) : Option AH :=
  match P.underlying t, m, mapOf σ m with
  | some (.map _ _), .map none, _ => some σ
  | some (.map _ _), _, some (b, _, c) => if σ.base ≤ b then some (σ.put b (.map [] c)) else none
  | _, _, _ => none
def aLen (P : Program) (t : TypeId) (x : Value) (σ : AH) : Option Value :=
  match P.underlying t, x with
  | some .string, .string s => some (.int .i64 s.size)
  | some (.array n _), _ => some (.int .i64 n)
  | some (.slice _), .slice _ n _ => some (.int .i64 n)
  | some (.slice _), .func (.yield n) _ _ => some (.int .i64 n)
  | some (.map _ _), .map none => some (.int .i64 0)
  | some (.map _ _), .map (some b) => (mapOf σ (.map (some b))).map fun m => .int .i64 m.2.1.length
  | _, _ => none
/-- 'm[k] op= x': the entry, made if it is not there; its value and its stamp. -/
def aMapEntry (P : Program) (t : TypeId) (m k : Value) (σ : AH) : Option (Value × AH) :=
  match keyT P t, mapOf σ m with
  | some (_, e, d), some (b, es, c) =>
    if σ.base ≤ b ∧ prim k = true then
      match findA d k es 0 with
      | some (some (i, v)) => match es[i]? with
        | some x => some (.tuple #[v, .int .i64 x.2.2], σ.put b (.map (es.set i (k, x.2)) c))
        | none => none
      | some none => match zeroOf P e with
        | some z => some (.tuple #[z, .int .i64 c], σ.put b (.map (es ++ [(k, z, c)]) (c + 1)))
        | none => none
      | none => none
    else none
  | _, _ => none
def aEntryStore (m st v : Value) (σ : AH) : Option AH :=
  match mapOf σ m, st with
  | some (b, es, c), .int _ n =>
    if isTuple v = false ∧ σ.base ≤ b then
      match es.findIdx? (fun e => (e.2.2 : Int) == n) with
      | some i => match es[i]? with
        | some x => some (σ.put b (.map (es.set i (x.1, v, x.2.2)) c))
        | none => none
      | none => none
    else none
  | _, _ => none

/-! ### one operation -/
abbrev Res := Option (Value × AH)
def keep (σ : AH) (v : Option Value) : Res := v.map fun v => (v, σ)
def quietly (σ : Option AH) : Res := σ.map fun σ => (undef, σ)
def aBuiltin (P : Program) (b : Builtin) (ts : List TypeId) (args : List Value) (σ : AH) : Res :=
  match b, ts, args with
  | .len, [t], [x] => keep σ (aLen P t x σ)
  | .min, _, l => keep σ (aMin l)
  | .max, _, l => keep σ (aMax l)
  | .append, [st, xt], [s, x] => aAppend P st xt s x σ
  | .copy, [dt, _], [d, x] => aCopy P dt d x σ
  | .delete, [t, _], [m, k] => quietly (aDelete P t m k σ)
  | .clear, [t], [m] => quietly (aClear P t m σ)
  | _, _, _ => none
def aNilCheck (x : Value) : Option Value :=
  match x with
  | .pointer (some a) => some (.pointer (some a))
  | .func (.func f) a b => some (.func (.func f) a b)
  | .func (.method "p") a b => some (.func (.method "p") a b)
  | .iface t v => some (.iface t v)
  | _ => none
/-- What a call of a function value calls, with what. -/
def callee (f : Value) (args : List Value) : Option (FuncId × List Value) :=
  match f with
  | .func (.func g) first captured => some (g, first.toList ++ args ++ captured.toList)
  | _ => none
abbrev Caller := FuncId → List Value → AH → Res
def evOp (P : Program) (call : Caller) (ρ : Operand → Value) (op : Op) (σ : AH) : Res :=
  match op with
  | .move x | .assign x => some (ρ x, σ)
  | .pick c a b => match ρ c with
    | .bool t => some (if t then ρ a else ρ b, σ)
    | _ => none
  | .alloc e => (zeroOf P e).bind fun z => if isTuple z then none else some (σ.alloc (cellsOfV z))
  | .box _ x => if isTuple (ρ x) then none else some (σ.alloc (cellsOfV (ρ x)))
  | .build t ps => keep σ (aBuild P t (ps.toList.map fun p => (p.1, ρ p.2)))
  | .buildSlice t n ps => aBuildSlice P t n (ps.toList.map fun p => (p.1, ρ p.2)) σ
  | .load t a => keep σ (aLoad P t (ρ a) σ)
  | .store t a x => quietly (aStore P t (ρ a) (ρ x) σ)
  | .nilCheck x => keep σ (aNilCheck (ρ x))
  | .binOp op t x y _ => keep σ (aBin P op t (ρ x) (ρ y))
  | .unOp op _ x => keep σ (aUn op (ρ x))
  | .convert s d x => keep σ (aConv P s d (ρ x))
  | .makeInterface t x => if isTuple (ρ x) then none else
    match P.underlying t with
    | some (.interface _) | none => none
    | some _ => some (.iface t (ρ x), σ)
  | .makeFunc (.func f) first cap => some (.func (.func f) (first.map ρ) (cap.map ρ), σ)
  | .makeMap _ none => some (.map (some σ.size), σ.push (.map [] 0))
  | .makeSlice t l c => aMakeSlice P t (ρ l) (ρ c) σ
  | .slice t x lo hi mx => keep σ (aSlice P t (ρ x) (lo.map ρ) (hi.map ρ) (mx.map ρ) σ)
  | .fieldAddr s x f => keep σ (aFieldAddr P s (ρ x) f)
  | .field s x f => keep σ (aField P s (ρ x) f)
  | .indexAddr t x i => keep σ (aIndexAddr P t (ρ x) (ρ i))
  | .index t x i => keep σ (aIndex P t (ρ x) (ρ i))
  | .lookup t m k ok => keep σ (aLookup P t (ρ m) (ρ k) ok σ)
  | .mapUpdate t m k x => quietly (aMapUpdate P t (ρ m) (ρ k) (ρ x) σ)
  | .insert t m k x => quietly (aMapUpdate P t (ρ m) (ρ k) (ρ x) σ)
  | .mapEntry t m k => aMapEntry P t (ρ m) (ρ k) σ
  | .entryStore _ m s x => quietly (aEntryStore (ρ m) (ρ s) (ρ x) σ)
  | .extract x i => keep σ (aExtract (ρ x) i)
  | .call { callee := .builtin b, args, argTypes } => aBuiltin P b argTypes.toList (args.toList.map ρ) σ
  | .call { callee := .value f, args, .. } => (callee (ρ f) (args.toList.map ρ)).bind fun c => call c.1 c.2 σ
  | _ => none

/-! ### regions -/
def wantA (ops : Array Oper) (o : Oper) (t : Tmps) : Option Bool :=
  match o.guard with
  | none => some true
  | some (j, want) =>
    match (ops[j]?).bind (·.dst) with
    | none => none
    | some d => match t d with
      | .bool b => some (b == want)
      | .tuple vs => if vs.toList.isEmpty then some false else none
      | _ => none
def putA (nt : Nat) (t : Tmps) (dst : Option Tmp) (v : Value) : Option Tmps :=
  match dst with
  | none => some t
  | some d => if d < nt then some (upd t d v) else none
def evOps (P : Program) (call : Caller) (nt : Nat) (ops : Array Oper) : List Oper → Tmps → AH → Option (Tmps × AH)
  | [], t, σ => some (t, σ)
  | o :: r, t, σ =>
    match wantA ops o t with
    | some true => (evOp P call (opv t) o.op σ).bind fun vσ => (putA nt t o.dst vσ.1).bind fun t' => evOps P call nt ops r t' vσ.2
    | some false => (putA nt t o.dst undef).bind fun t' => evOps P call nt ops r t' σ
    | none => none

/-- Does an operation look at memory, or turn it? ('made': does it make some?) -/
def pureOp : Op → Bool
  | .move _ | .assign _ | .pick .. | .build .. | .nilCheck _ | .binOp .. | .unOp .. | .convert .. | .makeInterface .. | .makeFunc .. | .fieldAddr .. | .field ..
  | .indexAddr .. | .index .. | .extract .. => true
  | .call { callee := .builtin .min, .. } | .call { callee := .builtin .max, .. } => true
  | _ => false
/-- Of each operation: those that come before it by its edges, and theirs, as bits. -/
def befores : List Oper → List Nat → List Nat
  | [], acc => acc
  | o :: r, acc => befores r (acc ++ [o.after.toList.foldl (fun s e => if Region.binds .any e then s ||| 2 ^ e.on ||| acc.getD e.on 0 else s) 0])
def ordered (bf : List Nat) (i j : Nat) : Bool := (bf.getD (max i j) 0).testBit (min i j)
/-- What an operation looks at. -/
def looks (ops : Array Oper) (o : Oper) : List Tmp :=
  (o.op.operands.toList.filterMap fun | .tmp t => some t | _ => none) ++ (match o.guard with
    | some (g, _) => ((ops[g]?).bind (·.dst)).toList
    | none => [])
def apartB (ops : Array Oper) (x y : Oper) : Bool :=
  (match x.dst with
   | some d => !(looks ops y).contains d && y.dst != some d
   | none => true) &&
  (match y.dst with
   | some d => !(looks ops x).contains d
   | none => true)
/-- The edges lead back, and what shares a temporary is ordered. -/
def drawOk (ops : Array Oper) (bf : List Nat) : Bool :=
  (ops.toList.zipIdx.all fun (o, i) => o.after.toList.all fun e => !Region.binds .any e || e.on < i) &&
  (ops.toList.zipIdx.all fun (y, j) => ops.toList.zipIdx.all fun (x, i) => j ≤ i || ordered bf i j || apartB ops x y)
/-- Operation number i stands in a fixed place among all that look at memory. -/
def freeAt (ops : Array Oper) (bf : List Nat) (i : Nat) : Bool :=
  ops.toList.zipIdx.all fun (o, j) => j == i || pureOp o.op || ordered bf i j
def frees (ops : Array Oper) (bf : List Nat) : List Bool := (List.range ops.size).map (freeAt ops bf)
/-- A region whose order is open: what does not stand in a fixed place writes nothing that was there. -/
def evDraw (P : Program) (call : Caller) (nt : Nat) (ops : Array Oper) : List Oper → List Bool → Tmps → AH → Option (Tmps × AH)
  | [], _, t, σ => some (t, σ)
  | o :: r, fr, t, σ =>
    match wantA ops o t with
    | some true => (evOp P call (opv t) o.op (if fr.headD false || pureOp o.op then σ else σ.withBase σ.size)).bind fun vσ => (putA nt t o.dst vσ.1).bind fun t' => evDraw P call nt ops r fr.tail t' (vσ.2.withBase σ.base)
    | some false => (putA nt t o.dst undef).bind fun t' => evDraw P call nt ops r fr.tail t' σ
    | none => none

/-! ### code -/
inductive AExit where
  | normal
  | exit (id : Nat)
  | ret

abbrev St := AExit × Tmps × AH
def thenDo (r : Option St) (k : Tmps → AH → Option St) : Option St :=
  match r with
  | some (.normal, t, σ) => k t σ
  | r => r
def blockEnd (id : Nat) (r : Option St) : Option St :=
  match r with
  | some (.exit j, t, σ) => if j = id then some (.normal, t, σ) else some (.exit j, t, σ)
  | r => r
def iter (f : Tmps → AH → Option St) : Nat → Tmps → AH → Option St
  | 0, _, _ => none
  | n + 1, t, σ => thenDo (f t σ) (iter f n)
def evCode (P : Program) (call : Caller) (nt : Nat) (fuel : Nat) : Code → Tmps → AH → Option St
  | .skip, t, σ | .label _, t, σ => some (.normal, t, σ)
  | .region _ ops draw, t, σ =>
    if draw then (if drawOk ops (befores ops.toList []) = true then (evDraw P call nt ops ops.toList (frees ops (befores ops.toList [])) t σ).map fun r => (.normal, r.1, r.2) else none)
    else (evOps P call nt ops ops.toList t σ).map fun r => (.normal, r.1, r.2)
  | .seq a b, t, σ => thenDo (evCode P call nt fuel a t σ) fun t σ => evCode P call nt fuel b t σ
  | .cond c a b, t, σ =>
    match opv t c with
    | .bool true => evCode P call nt fuel a t σ
    | .bool false => evCode P call nt fuel b t σ
    | _ => none
  | .block id body, t, σ => blockEnd id (evCode P call nt fuel body t σ)
  | .loop body, t, σ => iter (fun t σ => evCode P call nt fuel body t σ) fuel t σ
  | .exit id, t, σ => some (.exit id, t, σ)
  | .ret, t, σ => some (.ret, t, σ)
  | _, _, _ => none

def resultV (P : Program) (t : Tmps) (σ : AH) : ResultVar → Option Value
  | .tmp j => some (t j)
  | .cell a ty => aLoad P ty (t a) σ
def tupleOf : List Value → Value
  | [v] => v
  | vs => .tuple vs.toArray
def evBody (P : Program) (call : Caller) (fuel : Nat) (fn : Func) (args : List Value) (σ : AH) : Res :=
  match fn.body with
  | none => none
  | some c =>
    if args.length ≤ fn.ntmps then
      match evCode P call fn.ntmps fuel c (start args) σ with
      | some (.normal, t, σ') | some (.ret, t, σ') => (fn.results.toList.mapM (resultV P t σ')).map fun vs => (tupleOf vs, σ')
      | _ => none
    else none
/-- A call; what a summary tells of is taken from it. -/
def evCall (P : Program) (S : Caller) : Nat → Caller
  | 0, _, _, _ => none
  | n + 1, f, args, σ =>
    match S f args σ with
    | some r => some r
    | none =>
      match P.funcs[f]? with
      | none => none
      | some fn => evBody P (evCall P S n) n fn args σ
def noSum : Caller := fun _ _ _ => none
end Go.Ab
