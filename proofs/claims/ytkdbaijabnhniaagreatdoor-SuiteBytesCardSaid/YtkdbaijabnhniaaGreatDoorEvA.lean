/- The evaluator: abstract values, heaps, operations. No theorem about the model here: definitions alone. -/
import Derived.Tactics
import Derived.Orders
import Derived.LoopN
import Derived.Scope
import Derived.KernelRfl
namespace Go.Ev

/-- Values without references: what they point to lies frozen, and is told by content. -/
inductive SV where
  | bool (b : Bool)
  | int (k : IntKind) (n : Int)
  | str (l : List UInt8)
  | flt (k : FloatKind) (bits : Nat)
  | nilp | nils | nilm | nilf | nili
  | pv (cells : List SV)
  | vs (sz len : Nat) (f : Nat → List SV)
  | iface (t : TypeId) (v : SV)
  | agg (cells : List SV)
  | fn (f : FuncId)
  deriving Inhabited

/-- Values: those, and references: into heap blocks by id and generation, into local boxes by slot. -/
inductive AV where
  | undef
  | s (v : SV)
  | ptr (id gen off : Nat)
  | pai (id gen off cnt sz i : Nat)
  | ep (id gen sz i off : Nat)
  | lref (slot off : Nat)
  | lai (slot off cnt sz i : Nat)
  | sl (id gen sz off len : Nat)
  | hm (id gen : Nat)
  | clo (f : FuncId) (first captured : List AV)
  | agg (cells : List AV)
  | tup (vs : List AV)
  | own (sz len : Nat) (f : Nat → List SV)
  deriving Inhabited

/-- What a heap block holds. -/
inductive Pay where
  | cells (cs : List AV)
  | rows (sz len : Nat) (f : Nat → List SV)
  | iter (l : List UInt8) (pos : Nat)
  | map (es : List (SV × SV))
  | ro (sz len : Nat) (f : Nat → List SV)
  deriving Inhabited

structure HO where
  gen : Nat
  p : Pay
  ty : Option TypeId := none
  deriving Inhabited

/-- heap blocks by number, in order -/
abbrev Heap := List (Nat × HO)

def Heap.get : Heap → Nat → Option HO
  | [], _ => none
  | (i, o) :: l, id => cond (Nat.beq id i) (some o) (Heap.get l id)

instance : CoeFun Heap (fun _ => Nat → Option HO) := ⟨Heap.get⟩

def Heap.upd : Heap → Nat → HO → Heap
  | [], id, o => [(id, o)]
  | (i, p) :: l, id, o => cond (Nat.beq id i) ((id, o) :: l) (cond (Nat.blt id i) ((id, o) :: (i, p) :: l) ((i, p) :: Heap.upd l id o))

/-- What is known of a type. -/
structure TI where
  desc : TypeDesc
  size : Nat
  bytes : Nat
  zero : List SV
  plain : Bool := false

abbrev Tab := TypeId → Option TI

def TI.isAgg (t : TI) : Bool := match t.desc with
  | .struct _ | .array _ _ => true
  | _ => false

def AV.cells : AV → List AV
  | .agg cs => cs
  | v => [v]

def AV.toS : AV → Option SV
  | .s v => some v
  | _ => none

def allS : List AV → Option (List SV)
  | [] => some []
  | v :: vs => match v.toS, allS vs with
    | some x, some xs => some (x :: xs)
    | _, _ => none

def SV.cells : SV → List SV
  | .agg cs => cs
  | v => [v]

def toPay : AV → Option SV
  | .s v => some v
  | .agg cs => (allS cs).map SV.agg
  | _ => none

def ofPay : SV → AV
  | .agg cs => .agg (cs.map .s)
  | v => .s v

/-- no reference in it (closures count as one) -/
def AV.still : AV → Bool
  | .s _ => true
  | .agg cs => (allS cs).isSome
  | _ => false

def SV.isCell : SV → Bool
  | .agg _ => false
  | _ => true

def AV.flat0 : AV → Bool
  | .s v => v.isCell
  | .ptr .. | .sl .. | .hm .. => true
  | _ => false

/-- may it be kept in a cell of a heap block, or be handed to a call: no reference to a box in it -/
def AV.flat : AV → Bool
  | .s v => v.isCell
  | .ptr .. | .sl .. | .hm .. => true
  | .clo _ a b => a.all AV.flat0 && b.all AV.flat0
  | _ => false

def AV.okArg : AV → Bool
  | .agg cs => cs.all AV.flat
  | v => v.flat

def splice {α : Type} (cs : List α) (off : Nat) (vs : List α) : List α := cs.take off ++ (vs ++ cs.drop (off + vs.length))

def TI.zeroV (t : TI) : AV := cond t.isAgg (.agg (t.zero.map .s)) (match t.zero with | z :: _ => .s z | [] => .undef)

inductive Upd where
  | none
  | box (slot : Nat) (cells : List AV)
  | obj (id : Nat) (o : HO)
  | objs (l : List (Nat × HO)) (nx : Nat)

/-- What an operation comes to: a tree over tests. -/
inductive ER where
  | v (x : AV) (u : Upd)
  | pan (x : SV) (u : Upd)
  | br (c : Bool) (a b : ER)
  | fail

def ER.need (c : Bool) (a : ER) : ER := .br c a .fail

abbrev pv (x : AV) : ER := .v x .none

def updL (h : Heap) : List (Nat × HO) → Heap
  | [] => h
  | (id, o) :: l => updL (h.upd id o) l

/-- The state: slots, boxes, heap; where this frame's ids begin, the next frame's; how many slots there are. -/
structure St where
  s : Nat → AV
  b : Nat → Option (List AV)
  h : Heap
  base : Nat
  nx : Nat
  n : Nat

def St.put (st : St) (d : Option Nat) (v : AV) : St := match d with
  | some d => { st with s := fun i => cond (Nat.beq i d) v (st.s i) }
  | none => st

def St.app (st : St) : Upd → St
  | .none => st
  | .box d cs => { st with b := fun i => cond (Nat.beq i d) (some cs) (st.b i) }
  | .obj id o => { st with h := st.h.upd id o }
  | .objs l nx => { st with h := updL st.h l, nx := nx }

/-- Oracles: what calls come to. -/
inductive PR where
  | ret (v : AV)
  | pan (v : SV)
  | br (c : Bool) (a b : PR)
  | fail

/-- of a call that is handed heap blocks, numbered from 0 on: those blocks behind it, new ones behind them -/
inductive IR where
  | ret (v : AV) (hs : List HO)
  | qret (v : AV)
  | pan (v : SV) (hs : List HO)
  | br (c : Bool) (a b : IR)
  | fail

structure Orc where
  pure : FuncId → List AV → PR
  imp : FuncId → List AV → List HO → IR
  quiet : FuncId → Bool := fun _ => false

/-- What is chosen for a function: slots whose memory lies in the heap; slots whose call's slice is adopted. -/
structure Ann where
  heap : Nat → Bool := fun _ => true
  pure : Bool := true
  quiet : Bool := false
  once : Bool := false
  adopt : List Nat := []
  keep : List (Nat × List Nat × List Nat) := []
  glob : Nat → Option (List SV) := fun _ => none

def memN (n : Nat) : List Nat → Bool
  | [] => false
  | x :: xs => cond (Nat.beq n x) true (memN n xs)

/-- the cells from an address on -/
def rdCells (b : Nat → Option (List AV)) (h : Heap) : AV → Option (List AV)
  | .s (.pv cs) => some (cs.map .s)
  | .lref d off => match b d with
    | some cs => some (cs.drop off)
    | none => none
  | .ptr id g off => match h id with
    | some ⟨g', .cells cs, ty⟩ => cond (Nat.beq g g') (some (cs.drop off)) none
    | _ => none
  | .ep id g sz i off => match h id with
    | some ⟨g', .rows sz' len f, ty⟩ => cond (Nat.beq g g' && Nat.beq sz sz' && Nat.blt i len) (some (((f i).drop off).map .s)) none
    | _ => none
  | _ => none

def takeN (n : Nat) (cs : List AV) : Option (List AV) := cond (Nat.ble n cs.length) (some (cs.take n)) none

def ldCells (t : TI) (cs : List AV) : ER :=
  cond t.isAgg (match takeN t.size cs with | some l => pv (.agg l) | none => .fail) (match cs with | c :: _ => pv c | [] => .fail)

def AV.intOf : AV → Int
  | .s (.int _ n) => n
  | _ => 0
def AV.isInt (k : IntKind) : AV → Bool
  | .s (.int j _) => decide (j = k)
  | _ => false
def AV.boolOf : AV → Bool
  | .s (.bool b) => b
  | _ => false
def AV.isBool : AV → Bool
  | .s (.bool _) => true
  | _ => false

/-- one way for each place of an array -/
def brAt (i : Nat) (leaf : Nat → ER) : (k n : Nat) → ER
  | _, 0 => .fail
  | k, n + 1 => .br (Nat.beq i k) (leaf k) (brAt i leaf (k + 1) n)

/-- the element i of an array: cells of a known kind by look-up, others by a way each -/
def ldArr (t : TI) (cnt sz i : Nat) (cs : List AV) : ER :=
  match takeN (cnt * sz) cs with
  | none => .fail
  | some l =>
    .need (Nat.blt i cnt) (match l with
    | .s (.int k _) :: _ => cond (l.all (AV.isInt k))
        (let vals := l.map AV.intOf
         cond t.isAgg (cond (Nat.ble t.size sz) (pv (.agg ((List.range t.size).map fun j => .s (.int k (vals.getD (i * sz + j) 0))))) .fail)
           (cond (Nat.ble 1 sz) (pv (.s (.int k (vals.getD (i * sz) 0)))) .fail)) (brAt i (fun k => ldCells t (l.drop (k * sz))) 0 cnt)
    | .s (.bool _) :: _ => cond (l.all AV.isBool && !t.isAgg && Nat.ble 1 sz) (pv (.s (.bool ((l.map AV.boolOf).getD (i * sz) false)))) (brAt i (fun k => ldCells t (l.drop (k * sz))) 0 cnt)
    | _ => brAt i (fun k => ldCells t (l.drop (k * sz))) 0 cnt)

def SV.basic : SV → Bool
  | .int .. | .str _ | .bool _ => true
  | _ => false
def SV.like : SV → SV → Bool
  | .int k _, .int j _ => decide (k = j)
  | .str _, .str _ => true
  | .bool _, .bool _ => true
  | _, _ => false
def intS : SV → Int
  | .int _ n => n
  | _ => 0
def strS : SV → List UInt8
  | .str l => l
  | _ => []
def boolS : SV → Bool
  | .bool b => b
  | _ => false
/-- do cells from a place on have these kinds -/
def shOk : List SV → Nat → List SV → Bool
  | [], _, _ => true
  | z :: zs, j, cs => z.like (cs.getD j .nilp) && shOk zs (j + 1) cs
/-- the cells, by their kinds -/
def prj (z c : SV) : SV := match z with
  | .int k _ => .int k (intS c)
  | .str _ => .str (strS c)
  | .bool _ => .bool (boolS c)
  | _ => c
def prjL : List SV → Nat → List SV → List AV
  | [], _, _ => []
  | z :: zs, j, cs => .s (prj z (cs.getD j .nilp)) :: prjL zs (j + 1) cs

def opLoad (t : TI) (b : Nat → Option (List AV)) (h : Heap) : AV → ER
  | .lai d off cnt sz i => match b d with
    | some cs => ldArr t cnt sz i (cs.drop off)
    | none => .fail
  | .pai id g off cnt sz i => match h id with
    | some ⟨g', .cells cs, ty⟩ => cond (Nat.beq g g') (ldArr t cnt sz i (cs.drop off)) .fail
    | _ => .fail
  | .ep id g sz i off => match h id with
    | some ⟨g', .rows sz' len f, ty⟩ => .need (Nat.beq g g' && Nat.beq sz sz' && Nat.blt i len)
        (cond (t.zero.all SV.basic && Nat.beq t.zero.length t.size && Nat.blt 0 t.size) (.need (shOk t.zero 0 ((f i).drop off)) (ldCells t (prjL t.zero 0 ((f i).drop off)))) (ldCells t (((f i).drop off).map .s)))
    | _ => .fail
  | a => match rdCells b h a with
    | some cs => ldCells t cs
    | none => .fail

/-- cells of an array with those of one element anew -/
def stArr (k : IntKind) (i sz : Nat) (vs : List AV) : List AV → Nat → List AV
  | [], _ => []
  | c :: cs, p => .s (.int k (cond (Nat.beq (p / sz) i) ((vs.getD (p % sz) .undef).intOf) c.intOf)) :: stArr k i sz vs cs (p + 1)
def stArrB (i : Nat) (x : Bool) : List AV → Nat → List AV
  | [], _ => []
  | c :: cs, p => .s (.bool (cond (Nat.beq p i) x c.boolOf)) :: stArrB i x cs (p + 1)

def putArr (cnt sz i : Nat) (vs cs : List AV) : Option (List AV) :=
  match takeN (cnt * sz) cs, vs with
  | some l, .s (.int k _) :: _ => cond (l.all (AV.isInt k) && vs.all (AV.isInt k) && Nat.beq vs.length sz && Nat.ble 1 sz) (some (stArr k i sz vs l 0 ++ cs.drop (cnt * sz))) none
  | some l, [.s (.bool x)] => cond (l.all AV.isBool && Nat.beq sz 1) (some (stArrB i x l 0 ++ cs.drop (cnt * sz))) none
  | _, _ => none

def fitsIn (off n len : Nat) : Bool := Nat.ble (off + n) len

def opStore (t : TI) (b : Nat → Option (List AV)) (h : Heap) (a x : AV) : ER :=
  cond (!(Nat.beq x.cells.length t.size)) .fail (match a with
  | .lref d off => match b d with
    | some cs => cond (fitsIn off x.cells.length cs.length && x.cells.all AV.flat) (.v .undef (.box d (splice cs off x.cells))) .fail
    | none => .fail
  | .lai d off cnt sz i => match b d with
    | some cs => match putArr cnt sz i x.cells (cs.drop off) with
      | some l => .need (Nat.blt i cnt) (.v .undef (.box d (cs.take off ++ l)))
      | none => .fail
    | none => .fail
  | .ptr id g off => match h id with
    | some ⟨g', .cells cs, ty⟩ => cond (Nat.beq g g' && fitsIn off x.cells.length cs.length && x.cells.all AV.flat) (.v .undef (.obj id ⟨g, .cells (splice cs off x.cells), ty⟩)) .fail
    | _ => .fail
  | .pai id g off cnt sz i => match h id with
    | some ⟨g', .cells cs, ty⟩ => cond (Nat.beq g g') (match putArr cnt sz i x.cells (cs.drop off) with
      | some l => .need (Nat.blt i cnt) (.v .undef (.obj id ⟨g, .cells (cs.take off ++ l), ty⟩))
      | none => .fail) .fail
    | _ => .fail
  | .ep id g sz i off => match h id, allS x.cells with
    | some ⟨g', .rows sz' len f, ty⟩, some vs => cond (Nat.beq g g' && Nat.beq sz sz' && Nat.blt i len && fitsIn off vs.length sz && x.cells.all AV.flat)
        (.v .undef (.obj id ⟨g, .rows sz len (fun j => cond (Nat.beq j i) (splice (f i) off vs) (f j)), ty⟩)) .fail
    | _, _ => .fail
  | _ => .fail)

/-- a part of an aggregate's cells, as a value of a type -/
def partE (t : TI) (cs : List AV) (off : Nat) : Option AV :=
  match ldCells t (cs.drop off) with
  | .v x _ => some x
  | _ => none

/-! ## Operators -/

def intBin (op : BinOp) (k : IntKind) (a b : Int) : ER :=
  match op with
  | .add => pv (.s (.int k (k.wrap (a + b))))
  | .sub => pv (.s (.int k (k.wrap (a - b))))
  | .mul => pv (.s (.int k (k.wrap (a * b))))
  | .quo => .br (b == 0) .fail (pv (.s (.int k (k.wrap (a.tdiv b)))))
  | .rem => .br (b == 0) .fail (pv (.s (.int k (a.tmod b))))
  | .and => pv (.s (.int k (k.wrap (BitVec.ofInt k.bits a &&& BitVec.ofInt k.bits b).toNat)))
  | .or => pv (.s (.int k (k.wrap (BitVec.ofInt k.bits a ||| BitVec.ofInt k.bits b).toNat)))
  | .xor => pv (.s (.int k (k.wrap (BitVec.ofInt k.bits a ^^^ BitVec.ofInt k.bits b).toNat)))
  | .andNot => pv (.s (.int k (k.wrap (BitVec.ofInt k.bits a &&& ~~~ BitVec.ofInt k.bits b).toNat)))
  | .eql => pv (.s (.bool (a == b)))
  | .neq => pv (.s (.bool (a != b)))
  | .lss => pv (.s (.bool (decide (a < b))))
  | .leq => pv (.s (.bool (decide (a ≤ b))))
  | .gtr => pv (.s (.bool (decide (a > b))))
  | .geq => pv (.s (.bool (decide (a ≥ b))))
  | _ => .fail

def shiftBin (op : BinOp) (k : IntKind) (a y : Int) : ER :=
  .br (decide (y < 0)) .fail (match op with
  | .shl => pv (.s (.int k (k.wrap (a * 2 ^ (min y.toNat k.bits)))))
  | .shr => pv (.s (.int k (a.fdiv (2 ^ (min y.toNat k.bits)))))
  | _ => .fail)

def strBin (op : BinOp) (x y : List UInt8) : ER :=
  match op with
  | .add => .need (Nat.ble (x.length + y.length) 4611686018427387904) (pv (.s (.str (x ++ y))))
  | .eql => pv (.s (.bool (x == y)))
  | .neq => pv (.s (.bool (!(x == y))))
  | _ => .fail

/-- equality by type; none: not covered -/
def eqFields (T : Tab) (eq : TypeId → AV → AV → Option Bool) : List Field → List AV → List AV → Option Bool
  | [], _, _ => some true
  | f :: fs, xs, ys => match T f.type with
    | none => none
    | some i => match partE i xs f.offset, partE i ys f.offset with
      | some a, some b => match eq f.type a b, eqFields T eq fs xs ys with
        | some p, some q => cond (f.name == "_") none (some (p && q))
        | _, _ => none
      | _, _ => none

def eqElems (i : TI) (eq : AV → AV → Option Bool) (xs ys : List AV) : Nat → Nat → Option Bool
  | 0, _ => some true
  | n + 1, k => match partE i xs (k * i.size), partE i ys (k * i.size) with
    | some a, some b => match eq a b, eqElems i eq xs ys n (k + 1) with
      | some p, some q => some (p && q)
      | _, _ => none
    | _, _ => none

def eqE (T : Tab) : Nat → TypeId → AV → AV → Option Bool
  | 0, _, _, _ => none
  | d + 1, t, x, y => match T t with
    | none => none
    | some i => match i.desc, x, y with
      | .bool, .s (.bool a), .s (.bool b) => some (a == b)
      | .int _, .s (.int j a), .s (.int k b) => cond (decide (j = k)) (some (a == b)) none
      | .string, .s (.str a), .s (.str b) => some (a == b)
      | .struct fs, .agg xs, .agg ys => cond i.plain (eqFields T (eqE T d) fs.toList xs ys) none
      | .array n e, .agg xs, .agg ys => match T e with
        | some ei => cond i.plain (eqElems ei (eqE T d e) xs ys n 0) none
        | none => none
      | _, _, _ => none

/-- equality with nil: pointers, slices -/
def eqNil (T : Tab) (t : TypeId) (x y : AV) : Option Bool :=
  match T t with
  | some ⟨.pointer _, _, _, _, _⟩ => match x, y with
    | .s .nilp, .s .nilp => some true
    | .s .nilp, .s (.pv _) | .s (.pv _), .s .nilp => some false
    | _, _ => none
  | some ⟨.slice _, _, _, _, _⟩ => match x, y with
    | .s .nils, .s .nils => some true
    | .s .nils, .s (.vs ..) | .s (.vs ..), .s .nils => some false
    | _, _ => none
  | _ => none

/-- equality with nil of a reference into the heap -/
def eqNilH (T : Tab) (h : Heap) (t : TypeId) (x y : AV) : Option Bool :=
  match T t with
  | some ⟨.pointer _, _, _, _, _⟩ => match x, y with
    | .s .nilp, .ptr id g _ | .ptr id g _, .s .nilp => match h id with
      | some o => cond (Nat.beq o.gen g) (some false) none
      | none => none
    | _, _ => none
  | some ⟨.slice _, _, _, _, _⟩ => match x, y with
    | .s .nils, .sl id g _ _ _ | .sl id g _ _ _, .s .nils => match h id with
      | some o => cond (Nat.beq o.gen g) (some false) none
      | none => none
    | _, _ => none
  | _ => none

def opBin (T : Tab) (h : Heap) (op : BinOp) (t : TypeId) (x y : AV) : ER :=
  match op, x, y with
  | .shl, .s (.int k a), .s (.int _ b) => shiftBin .shl k a b
  | .shr, .s (.int k a), .s (.int _ b) => shiftBin .shr k a b
  | op, .s (.int k a), .s (.int j b) => cond (decide (k = j)) (intBin op k a b) .fail
  | op, .s (.str a), .s (.str b) => strBin op a b
  | .eql, x, y => match eqE T 8 t x y with
    | some b => pv (.s (.bool b))
    | none => match eqNil T t x y with
      | some b => pv (.s (.bool b))
      | none => match eqNilH T h t x y with
        | some b => pv (.s (.bool b))
        | none => .fail
  | .neq, x, y => match eqE T 8 t x y with
    | some b => pv (.s (.bool !b))
    | none => match eqNil T t x y with
      | some b => pv (.s (.bool !b))
      | none => match eqNilH T h t x y with
        | some b => pv (.s (.bool !b))
        | none => .fail
  | _, _, _ => .fail

def opUn : UnOp → AV → ER
  | .not, .s (.bool b) => pv (.s (.bool !b))
  | .neg, .s (.int k n) => intBin .sub k 0 n
  | .xor, .s (.int k n) => intBin .xor k (if k.signed then -1 else k.max) n
  | .neg, .s (.flt k b) => pv (.s (.flt k (Op.negFloat k b)))
  | _, _ => .fail

/-! ## Slices -/

def byteRow (l : List UInt8) (i : Nat) : List SV := [.int .u8 ((l.getD i 0).toNat : Int)]

structure Rows where
  sz : Nat
  len : Nat
  f : Nat → List SV

/-- a slice's rows; none: it is none, or not to be read -/
def rowsOf (h : Heap) : AV → Option Rows
  | .s (.vs sz n f) => some ⟨sz, n, f⟩
  | .s (.str l) => some ⟨1, l.length, byteRow l⟩
  | .sl id g sz off len => match h id with
    | some ⟨g', .rows sz' _ f, ty⟩ => cond (Nat.beq g g' && Nat.beq sz sz') (some ⟨sz, len, fun i => f (i + off)⟩) none
    | _ => none
  | _ => none

def newGen (h : Heap) (id : Nat) : Nat := match h id with
  | none => 0
  | some o => o.gen + 1

def mkRows (ty : Option TypeId) (h : Heap) (id sz len : Nat) (f : Nat → List SV) : ER :=
  .v (.sl id (newGen h id) sz 0 len) (.obj id ⟨newGen h id, .rows sz len f, ty⟩)

/-- the type of a row that goes on: that of its elements, if that was its type -/
def sameTy (ty : Option TypeId) (e : TypeId) : Option TypeId := match ty with
  | some t => cond (Nat.beq t e) (some e) none
  | none => none

def roomE : Nat := 68719476736

def catRows (len off : Nat) (f xf : Nat → List SV) (i : Nat) : List SV := cond (Nat.blt i len) (f (i + off)) (xf (i - len))

def opAppend (ety : TypeId) (sz bytes : Nat) (h : Heap) (id : Nat) (s x : AV) : ER :=
  match s with
  | .s .nils => match x with
    | .s .nils => pv (.s .nils)
    | x => match rowsOf h x with
      | some r => cond (Nat.beq r.sz sz) (.br (Nat.beq r.len 0) (pv (.s .nils)) (.need (Nat.ble (r.len * (bytes + 1)) roomE) (mkRows (some ety) h id sz r.len r.f))) .fail
      | none => .fail
  | .sl id g sz' off len => match x with
    | .s .nils => pv (.sl id g sz' off len)
    | x => match h id, rowsOf h x with
      | some ⟨g', .rows sz'' _ f, ty⟩, some r => .need (Nat.beq g g') (cond (Nat.beq sz sz' && Nat.beq sz sz'' && Nat.beq sz r.sz)
          (.need (Nat.ble ((len + r.len) * (bytes + 1)) roomE) (.v (.sl id (g + 1) sz 0 (len + r.len)) (.obj id ⟨g + 1, .rows sz (len + r.len) (catRows len off f r.f), sameTy ty ety⟩))) .fail)
      | _, _ => .fail
  | _ => .fail

def setRows (off m : Nat) (f xf : Nat → List SV) (i : Nat) : List SV := cond (Nat.ble off i && Nat.blt i (off + m)) (xf (i - off)) (f i)

def opCopy (h : Heap) (d x : AV) : ER :=
  match d with
  | .sl id g sz off len => match x with
    | .s .nils => pv (.s (.int .i64 0))
    | x => match h id, rowsOf h x with
      | some ⟨g', .rows sz' n f, ty⟩, some r => cond (Nat.beq g g' && Nat.beq sz sz' && Nat.beq sz r.sz)
          (.v (.s (.int .i64 (Nat.min r.len len : Nat))) (.obj id ⟨g, .rows sz n (setRows off (Nat.min r.len len) f r.f), ty⟩)) .fail
      | _, _ => .fail
  | _ => .fail

def opLen (T : Tab) (t : TypeId) (x : AV) : ER :=
  match T t with
  | some ⟨.string, _, _, _, _⟩ => match x with
    | .s (.str l) => pv (.s (.int .i64 (l.length : Nat)))
    | _ => .fail
  | some ⟨.slice _, _, _, _, _⟩ => match x with
    | .s .nils => pv (.s (.int .i64 0))
    | .s (.vs _ n _) => pv (.s (.int .i64 (n : Nat)))
    | .sl _ _ _ _ len => pv (.s (.int .i64 (len : Nat)))
    | _ => .fail
  | some ⟨.array n _, _, _, _, _⟩ => pv (.s (.int .i64 (n : Nat)))
  | _ => .fail

def mn2 : AV → AV → AV
  | .s (.int k x), .s (.int _ y) => .s (.int k (cond (decide (y < x)) y x))
  | _, _ => .undef
def mx2 : AV → AV → AV
  | .s (.int k x), .s (.int _ y) => .s (.int k (cond (decide (y > x)) y x))
  | _, _ => .undef

def intOp : AV → Option Int
  | .s (.int _ n) => some n
  | _ => none

/-- the bounds of a slice expression, of something so long -/
def bnds (n : Nat) (lo hi : Option AV) (k : Nat → Nat → ER) : ER :=
  match hi with
  | none => match lo with
    | none => k 0 n
    | some l => match intOp l with
      | some a => .need (decide (0 ≤ a) && decide (a ≤ (n : Int))) (k a.toNat n)
      | none => .fail
  | some u => match intOp u with
    | some b => .need (decide (0 ≤ b) && decide (b ≤ (n : Int))) (match lo with
      | none => k 0 b.toNat
      | some l => match intOp l with
        | some a => .need (decide (0 ≤ a) && decide (a ≤ (b.toNat : Int))) (k a.toNat b.toNat)
        | none => .fail)
    | none => .fail

def opSlice (T : Tab) (t : TypeId) (x : AV) (lo hi : Option AV) : ER :=
  match T t, x with
  | some ⟨.string, _, _, _, _⟩, .s (.str l) => bnds l.length lo hi fun a b => pv (.s (.str ((l.take b).drop a)))
  | some ⟨.slice e, _, _, _, _⟩, x => match T e with
    | some te => match x with
      | .s (.vs sz n f) => cond (Nat.beq te.size sz) (bnds n lo hi fun a b => pv (.s (.vs sz (b - a) (fun i => f (i + a))))) .fail
      | .s .nils => bnds 0 lo hi fun _ _ => pv (.s .nils)
      | .sl id g sz off len => cond (Nat.beq te.size sz) (bnds len lo hi fun a b => pv (.sl id g sz (a + off) (b - a))) .fail
      | _ => .fail
    | none => .fail
  | _, _ => .fail

def opIndex (T : Tab) (t : TypeId) (x i : AV) : ER :=
  match intOp i, x with
  | some i, .s (.str l) => match T t with
    | some ⟨.string, _, _, _, _⟩ => .need (decide (0 ≤ i) && decide (i < (l.length : Int))) (pv (.s (.int .u8 ((l.getD i.toNat 0).toNat : Int))))
    | _ => .fail
  | some i, .agg cs => match T t with
    | some ⟨.array n e, _, _, _, _⟩ => match T e with
      | some te => .need (decide (0 ≤ i)) (ldArr te n te.size i.toNat cs)
      | none => .fail
    | _ => .fail
  | _, _ => .fail

def isIntS (k : IntKind) : SV → Bool
  | .int j _ => decide (j = k)
  | _ => false

/-- an element of a frozen array of integers, by look-up -/
def pvAt (sz n i : Nat) (cs : List SV) : Option (List SV) :=
  match cs with
  | .int k _ :: _ => cond (Nat.beq sz 1 && Nat.ble n cs.length && cs.all (isIntS k)) (some [.int k ((cs.map intS).getD i 0)]) none
  | _ => none

def opIAddr (T : Tab) (t : TypeId) (x i : AV) : ER :=
  match intOp i, T t with
  | some i, some ⟨.slice e, _, _, _, _⟩ => match T e with
    | some te => match x with
      | .sl id g sz off len => cond (Nat.beq te.size sz) (.need (decide (0 ≤ i) && decide (i < (len : Int))) (pv (.ep id g sz (i.toNat + off) 0))) .fail
      | .s (.vs sz n f) => cond (Nat.beq te.size sz) (.need (decide (0 ≤ i) && decide (i < (n : Int))) (pv (.s (.pv (f i.toNat))))) .fail
      | _ => .fail
    | none => .fail
  | some i, some ⟨.array n e, _, _, _, _⟩ => match T e with
    | some te => .need (decide (0 ≤ i) && decide (i < (n : Int))) (match x with
      | .lref d off => pv (.lai d off n te.size i.toNat)
      | .ptr id g off => pv (.pai id g off n te.size i.toNat)
      | .lai d off cnt sz k => cond (Nat.beq (n * te.size) sz) (pv (.lai d off (cnt * n) te.size (k * n + i.toNat))) .fail
      | .pai id g off cnt sz k => cond (Nat.beq (n * te.size) sz) (pv (.pai id g off (cnt * n) te.size (k * n + i.toNat))) .fail
      | .ep id g sz k off => brAt i.toNat (fun j => pv (.ep id g sz k (off + j * te.size))) 0 n
      | .s (.pv cs) => match pvAt te.size n i.toNat cs with
        | some l => pv (.s (.pv l))
        | none => brAt i.toNat (fun j => pv (.s (.pv (cs.drop (j * te.size))))) 0 n
      | _ => .fail)
    | none => .fail
  | _, _ => .fail

def fieldOf (T : Tab) (t : TypeId) (k : Nat) : Option (Field × TI) :=
  match T t with
  | some ⟨.struct fs, _, _, _, _⟩ => match fs.toList[k]? with
    | some f => match T f.type with
      | some i => some (f, i)
      | none => none
    | none => none
  | _ => none

def opFAddr (T : Tab) (t : TypeId) (x : AV) (k : Nat) : ER :=
  match fieldOf T t k with
  | some (f, i) => cond (Nat.beq i.size 0) .fail (match x with
    | .lref d off => pv (.lref d (off + f.offset))
    | .ptr id g off => pv (.ptr id g (off + f.offset))
    | .ep id g sz j off => pv (.ep id g sz j (off + f.offset))
    | .s (.pv cs) => pv (.s (.pv (cs.drop f.offset)))
    | .lai d off cnt sz j => brAt j (fun j => pv (.lref d (off + j * sz + f.offset))) 0 cnt
    | .pai id g off cnt sz j => brAt j (fun j => pv (.ptr id g (off + j * sz + f.offset))) 0 cnt
    | _ => .fail)
  | none => .fail

def opField (T : Tab) (t : TypeId) (x : AV) (k : Nat) : ER :=
  match fieldOf T t k, x with
  | some (f, i), .agg cs => ldCells i (cs.drop f.offset)
  | _, _ => .fail

/-! ## Making values -/

def fillE (place : Nat → Option (Nat × Nat)) : List AV → List (Nat × AV) → Option (List AV)
  | cs, [] => some cs
  | cs, (i, v) :: rest => match place i with
    | some (off, size) => cond (Nat.beq v.cells.length size && Nat.ble (off + size) cs.length && v.cells.all AV.flat) (fillE place (splice cs off v.cells) rest) none
    | none => none

def opBuild (T : Tab) (t : TypeId) (parts : List (Nat × AV)) : ER :=
  match T t with
  | some ⟨.struct fs, _, _, zero, _⟩ => match fillE (fun i => (fieldOf T t i).map fun (f, i) => (f.offset, i.size)) (zero.map .s) parts with
    | some cs => cond (fs.toList.all fun f => (T f.type).isSome) (pv (.agg cs)) .fail
    | none => .fail
  | some ⟨.array _ e, _, _, zero, _⟩ => match T e with
    | some te => match fillE (fun i => some (i * te.size, te.size)) (zero.map .s) parts with
      | some cs => pv (.agg cs)
      | none => .fail
    | none => .fail
  | _ => .fail

def chunk (sz : Nat) (cs : List SV) (i : Nat) : List SV := (cs.drop (i * sz)).take sz

def repN {α : Type} (l : List α) : Nat → List α
  | 0 => []
  | n + 1 => l ++ repN l n

def opBSlice (T : Tab) (heap : Bool) (h : Heap) (id : Nat) (t : TypeId) (len : Nat) (parts : List (Nat × AV)) : ER :=
  match T t with
  | some ⟨.slice e, _, _, _, _⟩ => match T e with
    | some te => cond (Nat.ble (len * te.size) 16777216 && Nat.beq te.zero.length te.size) (match fillE (fun i => some (i * te.size, te.size)) (repN (te.zero.map AV.s) len) parts with
      | some cs => match allS cs with
        | some ss => cond heap (mkRows none h id te.size len (chunk te.size ss)) (pv (.s (.vs te.size len (chunk te.size ss))))
        | none => .fail
      | none => .fail) .fail
    | none => .fail
  | _ => .fail

def opMkSlice (T : Tab) (heap : Bool) (h : Heap) (id : Nat) (t : TypeId) (l c : AV) : ER :=
  match T t, intOp l, intOp c with
  | some ⟨.slice e, _, _, _, _⟩, some l, some c => match T e with
    | some te => cond (Nat.beq te.zero.length te.size) (.need (decide (0 ≤ l) && decide (l ≤ c) && decide (c * (te.bytes + 1) ≤ (roomE : Int))) (cond heap (mkRows none h id te.size l.toNat (fun _ => te.zero)) (pv (.s (.vs te.size l.toNat (fun _ => te.zero)))))) .fail
    | none => .fail
  | _, _, _ => .fail

def byteOf : List SV → UInt8
  | [.int _ n] => UInt8.ofNat n.toNat
  | _ => 0
def isByte : List SV → Bool
  | [.int .u8 _] => true
  | _ => false

def allBytes (f : Nat → List SV) : Nat → Bool
  | 0 => true
  | n + 1 => allBytes f n && isByte (f n)

def opConv (T : Tab) (h : Heap) (src dst : TypeId) (x : AV) : ER :=
  match T src, T dst, x with
  | some _, some ⟨.int k, _, _, _, _⟩, .s (.int _ n) => pv (.s (.int k (k.wrap n)))
  | some _, some ⟨.string, _, _, _, _⟩, .s (.int _ n) => pv (.s (.str (Utf8.encode n).data.toList))
  | some _, some ⟨.string, _, _, _, _⟩, .s (.str l) => pv (.s (.str l))
  | some _, some ⟨.slice e, _, _, _, _⟩, .s (.str l) => match T e with
    | some ⟨.int .u8, _, _, _, _⟩ => pv (.s (.vs 1 l.length (byteRow l)))
    | _ => .fail
  | some ⟨.slice e, _, _, _, _⟩, some ⟨.string, _, _, _, _⟩, x => match T e with
    | some ⟨.int .u8, _, _, _, _⟩ => match rowsOf h x with
      | some r => cond (Nat.beq r.sz 1) (.need (allBytes r.f r.len) (pv (.s (.str ((List.range r.len).map fun i => byteOf (r.f i)))))) .fail
      | none => .fail
    | _ => .fail
  | _, _, _ => .fail

def opAssert (T : Tab) (asserted : TypeId) (ok : Bool) (x : AV) : ER :=
  match T asserted with
  | none => .fail
  | some ⟨.interface _, _, _, _, _⟩ => .fail
  | some i => match x with
    | .s .nili => cond ok (pv (.tup [i.zeroV, .s (.bool false)])) .fail
    | .s (.iface t v) => cond ok (cond (Nat.beq t asserted) (pv (.tup [ofPay v, .s (.bool true)])) (pv (.tup [i.zeroV, .s (.bool false)])))
        (cond (Nat.beq t asserted) (pv (ofPay v)) .fail)
    | _ => .fail

/-! ## Pointers: unsafe and back, equality; a Builder's text -/

/-- a pointer as an unsafe one, and back -/
def opConvP (T : Tab) (h : Heap) (src dst : TypeId) (x : AV) : ER :=
  match x with
  | .ptr id g off => match h id with
    | some ⟨g', .cells cs, some ty⟩ => match T src, T dst with
      | some ⟨.pointer t, _, _, _, _⟩, some ⟨.unsafePointer, _, _, _, _⟩ => match T t with
        | some i => cond (Nat.beq g g' && !(Nat.beq i.size 0) && Nat.blt off cs.length) (pv (.ptr id g off)) .fail
        | none => .fail
      | some ⟨.unsafePointer, _, _, _, _⟩, some ⟨.pointer u, _, _, _, _⟩ => match T u with
        | some i => cond (Nat.beq g g' && Nat.beq u ty && Nat.beq off 0 && !(Nat.beq i.size 0) && Nat.beq i.size cs.length) (pv (.ptr id g off)) .fail
        | none => .fail
      | _, _ => .fail
    | _ => .fail
  | .s (.int _ n) => match T src, T dst with
    | some _, some ⟨.float k, _, _, _, _⟩ => pv (.s (.flt k (k.nearest n)))
    | _, _ => .fail
  | .s (.flt j b) => match T src, T dst with
    | some _, some ⟨.int k, _, _, _, _⟩ => match (j.decode b).toInt .zero with
      | some n => .need (decide (k.min ≤ n) && decide (n ≤ k.max)) (pv (.s (.int k n)))
      | none => .fail
    | _, _ => .fail
  | _ => .fail

/-- a text's bytes in a row of the heap -/
def opConvH (T : Tab) (h : Heap) (id : Nat) (src dst : TypeId) (x : AV) : ER :=
  match T src, T dst, x with
  | some _, some ⟨.slice e, _, _, _, _⟩, .s (.str l) => match T e with
    | some ⟨.int .u8, _, _, _, _⟩ => mkRows (some e) h id 1 l.length (byteRow l)
    | _ => .fail
  | _, _, _ => .fail

def fltCmp (op : BinOp) (c : Option Ordering) : Option Bool :=
  match op with
  | .eql => some (c == some .eq)
  | .neq => some (c != some .eq)
  | .lss => some (c == some .lt)
  | .leq => some (c == some .lt || c == some .eq)
  | .gtr => some (c == some .gt)
  | .geq => some (c == some .gt || c == some .eq)
  | _ => none

/-- equality of two pointers into the heap; floats against each other -/
def opEqP (T : Tab) (h : Heap) (op : BinOp) (t : TypeId) (x y : AV) : Option Bool :=
  match x, y with
  | .ptr id g off, .ptr id' g' off' => match T t with
    | some ⟨.pointer te, _, _, _, _⟩ => match T te, h id, h id' with
      | some i, some ⟨g1, .cells _, _⟩, some ⟨g2, .cells _, _⟩ => cond (Nat.beq g g1 && Nat.beq g' g2 && !(Nat.beq i.size 0)) (match op with
        | .eql => some (Nat.beq id id' && Nat.beq off off')
        | .neq => some (!(Nat.beq id id' && Nat.beq off off'))
        | _ => none) none
      | _, _, _ => none
    | _ => none
  | .s (.flt k a), .s (.flt k' b) => cond (decide (k = k')) (fltCmp op (k.format.order a b)) none
  | _, _ => none

def opSliceData (x : AV) : ER :=
  match x with
  | .s .nils => pv (.s .nilp)
  | .sl id g sz off len => .br (Nat.beq len 0) .fail (pv (.ep id g sz off 0))
  | _ => .fail

/-- so many bytes as a text: the row is read alone from here on -/
def opUnsafeString (T : Tab) (h : Heap) (pt : TypeId) (x n : AV) : ER :=
  match x, n with
  | .s .nilp, .s (.int .i64 k) => .need (decide (k = 0)) (pv (.s (.str [])))
  | .ep id g sz i off, .s (.int .i64 k) => match T pt with
    | some ⟨.pointer e, _, _, _, _⟩ => match T e, h id with
      | some ⟨.int .u8, es, _, _, _⟩, some ⟨g', .rows sz' len f, some ty⟩ => cond (Nat.beq g g' && Nat.beq sz 1 && Nat.beq sz' 1 && Nat.beq off 0 && Nat.beq e ty && Nat.beq es 1)
          (.need (decide (0 < k) && Nat.ble (i + k.toNat) len && decide (k ≤ 9223372036854775807) && allBytes (fun j => f (i + j)) k.toNat)
            (.v (.s (.str ((List.range k.toNat).map fun j => byteOf (f (i + j))))) (.obj id ⟨g, .ro 1 len f, some ty⟩))) .fail
      | _, _ => .fail
    | _ => .fail
  | _, _ => .fail

def opUns (T : Tab) (h : Heap) (b : Builtin) (ts : List TypeId) (args : List AV) : ER :=
  cond (!(Nat.beq ts.length args.length)) .fail (match b, args with
  | .unsafeSliceData, [x] => opSliceData x
  | .unsafeString, [x, n] => match ts with
    | pt :: _ => opUnsafeString T h pt x n
    | [] => .fail
  | _, _ => .fail)

/-! ## Maps -/

def keyFields (T : Tab) (k : TypeId → AV → Bool) : List Field → List AV → Bool
  | [], _ => true
  | f :: fs, xs => match T f.type with
    | some i => match partE i xs f.offset with
      | some a => cond (f.name == "_") false (k f.type a && keyFields T k fs xs)
      | none => false
    | none => false

def keyElems (i : TI) (k : AV → Bool) (xs : List AV) : Nat → Nat → Bool
  | 0, _ => true
  | n + 1, j => match partE i xs (j * i.size) with
    | some a => k a && keyElems i k xs n (j + 1)
    | none => false

/-- may it be a key: it can be compared -/
def keyOk (T : Tab) : Nat → TypeId → AV → Bool
  | 0, _, _ => false
  | d + 1, t, x => match T t with
    | none => false
    | some i => match i.desc, x with
      | .bool, _ | .int _, _ | .string, _ => true
      | .struct fs, .agg xs => keyFields T (keyOk T d) fs.toList xs
      | .array n e, .agg xs => match T e with
        | some ei => keyElems ei (keyOk T d e) xs n 0
        | none => false
      | _, _ => false

def findR (T : Tab) (t : TypeId) (k : AV) (hit : Nat → SV → SV → ER) (miss : ER) : Nat → List (SV × SV) → ER
  | _, [] => miss
  | n, (a, v) :: es => match eqE T 8 t k (ofPay a) with
    | some b => .br b (hit n a v) (findR T t k hit miss (n + 1) es)
    | none => .fail

/-- the same in each bit -/
def bits1 : SV → SV → Bool
  | .bool a, .bool b => a == b
  | .int j a, .int k b => decide (j = k) && decide (a = b)
  | .str a, .str b => a == b
  | _, _ => false
def bitsL : List SV → List SV → Bool
  | [], [] => true
  | a :: as, b :: bs => bits1 a b && bitsL as bs
  | _, _ => false
def bitsE : SV → SV → Bool
  | .agg as, .agg bs => bitsL as bs
  | a, b => bits1 a b

def setEs (k v : SV) : Nat → List (SV × SV) → List (SV × SV)
  | _, [] => []
  | 0, _ :: es => (k, v) :: es
  | n + 1, e :: es => e :: setEs k v n es

def lkRes (ok : Bool) (v : AV) (b : Bool) : AV := cond ok (.tup [v, .s (.bool b)]) v

def opLookup (T : Tab) (h : Heap) (t : TypeId) (x k : AV) (ok : Bool) : ER :=
  match T t with
  | some ⟨.map kt e, _, _, _, _⟩ => match T e with
    | some te => cond (keyOk T 8 kt k) (match x with
      | .s .nilm => pv (lkRes ok te.zeroV false)
      | .hm id g => match h id with
        | some ⟨g', .map es, ty⟩ => cond (Nat.beq g g') (findR T kt k (fun _ _ v => pv (lkRes ok (ofPay v) true)) (pv (lkRes ok te.zeroV false)) 0 es) .fail
        | _ => .fail
      | _ => .fail) .fail
    | none => .fail
  | _ => .fail

/-- an entry, new or anew -/
def opMapUpd (T : Tab) (h : Heap) (t : TypeId) (x k v : AV) : ER :=
  match T t, x with
  | some ⟨.map kt _, _, _, _, _⟩, .hm id g => match h id with
    | some ⟨g', .map es, ty⟩ => cond (Nat.beq g g' && keyOk T 8 kt k && k.cells.all AV.flat && v.cells.all AV.flat) (match toPay k, toPay v with
      | some k', some v' => findR T kt k (fun n a _ => cond (bitsE a k') (.v .undef (.obj id ⟨g, .map (setEs k' v' n es), ty⟩)) .fail) (.v .undef (.obj id ⟨g, .map (es ++ [(k', v')]), ty⟩)) 0 es
      | _, _ => .fail) .fail
    | _ => .fail
  | _, _ => .fail

/-! ## Calls -/

def fz0 : AV → AV
  | .own sz n f => .s (.vs sz n f)
  | v => v
def fz1 : AV → AV
  | .agg cs => .agg (cs.map fz0)
  | v => fz0 v
def fz2 : AV → AV
  | .tup vs => .tup (vs.map fz1)
  | v => fz1 v

def AV.okRes0 : AV → Bool
  | .own .. | .ptr .. | .sl .. | .hm .. => true
  | .s v => v.isCell
  | _ => false
def AV.okRes1 : AV → Bool
  | .agg cs => cs.all AV.okRes0
  | v => v.okRes0
def AV.okRes : AV → Bool
  | .tup vs => vs.all AV.okRes1
  | v => v.okRes1

def PR.er (h : Heap) (ad : Bool) (id : Nat) : PR → ER
  | .ret v => cond v.okRes (cond ad (match v with | .own sz n f => mkRows none h id sz n f | _ => .fail) (pv (fz2 v))) .fail
  | .pan v => .pan v .none
  | .br c a b => .br c (a.er h ad id) (b.er h ad id)
  | .fail => .fail

/-! ### Handing over heap blocks: ids anew -/

def mapO {α β : Type} (f : α → Option β) : List α → Option (List β)
  | [] => some []
  | x :: xs => match f x, mapO f xs with
    | some y, some ys => some (y :: ys)
    | _, _ => none

def ren0 (σ : Nat → Option Nat) : AV → Option AV
  | .s v => some (.s v)
  | .ptr id g off => match σ id with | some j => some (.ptr j g off) | none => none
  | .sl id g sz off len => match σ id with | some j => some (.sl j g sz off len) | none => none
  | .hm id g => match σ id with | some j => some (.hm j g) | none => none
  | _ => none
def ren1 (σ : Nat → Option Nat) : AV → Option AV
  | .clo f a b => match mapO (ren0 σ) a, mapO (ren0 σ) b with
    | some a, some b => some (.clo f a b)
    | _, _ => none
  | v => ren0 σ v
def ren2 (σ : Nat → Option Nat) : AV → Option AV
  | .agg cs => match mapO (ren1 σ) cs with | some cs => some (.agg cs) | none => none
  | v => ren1 σ v
def ren3 (σ : Nat → Option Nat) : AV → Option AV
  | .tup vs => match mapO (ren2 σ) vs with | some vs => some (.tup vs) | none => none
  | v => ren2 σ v

def renO (σ : Nat → Option Nat) (o : HO) : Option HO :=
  match o.p with
  | .cells cs => match mapO (ren1 σ) cs with | some cs => some ⟨o.gen, .cells cs, o.ty⟩ | none => none
  | _ => some o

def refs0 : AV → List Nat
  | .ptr id _ _ | .sl id _ _ _ _ | .hm id _ => [id]
  | _ => []
def cat {α β : Type} (f : α → List β) : List α → List β
  | [] => []
  | x :: xs => f x ++ cat f xs
def refs1 : AV → List Nat
  | .clo _ a b => cat refs0 a ++ cat refs0 b
  | v => refs0 v
def refs2 : AV → List Nat
  | .agg cs => cat refs1 cs
  | v => refs1 v
def refs3 : AV → List Nat
  | .tup vs => cat refs2 vs
  | v => refs2 v
def refsO (o : HO) : List Nat := match o.p with
  | .cells cs => cat refs1 cs
  | _ => []

/-- all blocks that are reached, in the order in which they are met -/
def reach (h : Heap) : Nat → List Nat → List Nat → List Nat
  | 0, _, seen => seen
  | _ + 1, [], seen => seen
  | n + 1, id :: todo, seen => cond (memN id seen) (reach h n todo seen) (match h id with
    | some o => reach h n (todo ++ refsO o) (seen ++ [id])
    | none => reach h n todo (seen ++ [id]))

def idxIn : List Nat → Nat → Nat → Option Nat
  | [], _, _ => none
  | x :: xs, k, id => cond (Nat.beq id x) (some k) (idxIn xs (k + 1) id)

def nthN : List Nat → Nat → Option Nat
  | [], _ => none
  | x :: _, 0 => some x
  | _ :: xs, n + 1 => nthN xs n

def rangeN (k : Nat) : Nat → List Nat
  | 0 => []
  | n + 1 => k :: rangeN (k + 1) n

def zipN {α β : Type} : List α → List β → List (α × β)
  | x :: xs, y :: ys => (x, y) :: zipN xs ys
  | _, _ => []

/-- the ids of the blocks that come back -/
def backIds (ids : List Nat) (nx : Nat) (n : Nat) : List Nat := ids ++ rangeN nx (n - ids.length)

def IR.er (ids : List Nat) (nx : Nat) : IR → ER
  | .ret v hs => match ren3 (nthN (backIds ids nx hs.length)) v, mapO (renO (nthN (backIds ids nx hs.length))) hs with
    | some v, some hs' => cond (Nat.ble ids.length hs.length && v.okRes) (.v v (.objs (zipN (backIds ids nx hs.length) hs') (nx + (hs.length - ids.length)))) .fail
    | _, _ => .fail
  | .qret v => match ren3 (nthN ids) v with
    | some v => cond v.okRes (.v v .none) .fail
    | none => .fail
  | .pan v hs => match mapO (renO (nthN (backIds ids nx hs.length))) hs with
    | some hs' => cond (Nat.ble ids.length hs.length) (.pan v (.objs (zipN (backIds ids nx hs.length) hs') (nx + (hs.length - ids.length)))) .fail
    | _ => .fail
  | .br c a b => .br c (a.er ids nx) (b.er ids nx)
  | .fail => .fail

/-- does it leave all as it was -/
def IR.isQ : IR → Bool
  | .qret _ => true
  | .br _ a b => a.isQ && b.isQ
  | .fail => true
  | _ => false

def reachF : Nat := 64

def calleeOf (f : AV) (args : List AV) : Option (FuncId × List AV) :=
  match f with
  | .s (.fn g) => some (g, args)
  | .clo g first cap => some (g, first ++ (args ++ cap))
  | _ => none

def nodupN : List Nat → Bool
  | [] => true
  | x :: xs => !memN x xs && nodupN xs

def impCall (C : Orc) (h : Heap) (nx : Nat) (ids : List Nat) (g : FuncId) (args : List AV) : ER :=
  match mapO (ren2 (idxIn ids 0)) args, mapO h.get ids with
  | some args', some hs => match mapO (renO (idxIn ids 0)) hs with
    | some hs' => cond (nodupN ids) ((C.imp g args' hs').er ids nx) .fail
    | none => .fail
  | _, _ => .fail

def opCall (C : Orc) (h : Heap) (nx : Nat) (ad : Bool) (id : Nat) (f : AV) (args : List AV) : ER :=
  match calleeOf f args with
  | some (g, args) => cond (args.all AV.okArg) (match cond (args.all AV.still) (C.pure g args) .fail with
    | .fail => impCall C h nx (reach h reachF (cat refs2 args) []) g args
    | r => r.er h ad id) .fail
  | none => .fail

/-! ## Operations -/

def pickE (t : Bool) (a b : AV) : AV :=
  match a, b with
  | .s (.bool x), .s (.bool y) => .s (.bool (cond t x y))
  | a, b => cond t a b

def mkCells (ty : Option TypeId) (h : Heap) (id : Nat) (cs : List AV) : ER := .v (.ptr id (newGen h id) 0) (.obj id ⟨newGen h id, .cells cs, ty⟩)

def mkVar (ty : Option TypeId) (heap : Bool) (b : Nat → Option (List AV)) (h : Heap) (id d : Nat) (cs : List AV) : ER :=
  cond (cs.all AV.flat) (cond heap (mkCells ty h id cs) (match b d with | none => .v (.lref d 0) (.box d cs) | some _ => .fail)) .fail

def fold2 (f : AV → AV → AV) : AV → List AV → AV
  | x, [] => x
  | x, y :: ys => fold2 f (f x y) ys

def AV.anyInt : AV → Bool
  | .s (.int _ _) => true
  | _ => false

def opBuiltin (T : Tab) (h : Heap) (id : Nat) (b : Builtin) (ts : List TypeId) (args : List AV) : ER :=
  match b, ts, args with
  | .append, [t, u], [s, x] => match T t, T u with
    | some ⟨.slice e, _, _, _, _⟩, some ⟨.slice _, _, _, _, _⟩ | some ⟨.slice e, _, _, _, _⟩, some ⟨.string, _, _, _, _⟩ => match T e with
      | some te => cond (Nat.beq te.zero.length te.size) (opAppend e te.size te.bytes h id s x) .fail
      | none => .fail
    | _, _ => .fail
  | .len, [t], [x] => opLen T t x
  | .copy, [t, _], [d, x] => match T t with
    | some ⟨.slice e, _, _, _, _⟩ => match T e with
      | some te => match d with
        | .sl _ _ sz _ _ => cond (Nat.beq te.size sz) (opCopy h d x) .fail
        | _ => .fail
      | none => .fail
    | _ => .fail
  | .min, _, x :: xs => cond (x.anyInt && xs.all AV.anyInt) (pv (fold2 mn2 x xs)) .fail
  | .max, _, x :: xs => cond (x.anyInt && xs.all AV.anyInt) (pv (fold2 mx2 x xs)) .fail
  | _, _, _ => .fail

def AV.some' : AV → Bool
  | .ptr .. | .lref .. | .ep .. | .pai .. | .lai .. | .s (.pv _) | .s (.fn _) | .clo .. => true
  | _ => false

def opNext (h : Heap) : AV → ER
  | .ptr id g 0 => match h id with
    | some ⟨g', .iter l pos, ty⟩ => cond (Nat.beq g g')
        (.br (decide (pos < l.length)) (.v (.tup [.s (.bool true), .s (.int .i64 (pos : Nat)), .s (.int .i32 ((Utf8.decode ⟨l.toArray⟩ pos).1 : Nat))]) (.obj id ⟨g, .iter l (pos + (Utf8.decode ⟨l.toArray⟩ pos).2), ty⟩))
          (pv (.tup [.s (.bool false)]))) .fail
    | _ => .fail
  | _ => .fail

def evalOp (T : Tab) (C : Orc) (an : Ann) (ρ : Operand → AV) (b : Nat → Option (List AV)) (h : Heap) (base nx : Nat) (o : Oper) : ER :=
  let d := o.dst.getD 0
  let id := base + d
  match o.op with
  | .move x => pv (ρ x)
  | .assign x => pv (ρ x)
  | .pick c x y => match ρ c with
    | .s (.bool t) => pv (pickE t (ρ x) (ρ y))
    | _ => .fail
  | .alloc e => match T e with
    | some i => mkVar (some e) (an.heap d) b h id d (i.zero.map .s)
    | none => .fail
  | .box e x => mkVar (some e) (an.heap d) b h id d (ρ x).cells
  | .build t ps => opBuild T t (ps.toList.map fun p => (p.1, ρ p.2))
  | .buildSlice t n ps => opBSlice T (an.heap d) h id t n (ps.toList.map fun p => (p.1, ρ p.2))
  | .load t a => match T t with
    | some i => opLoad i b h (ρ a)
    | none => .fail
  | .store t a x => match T t with
    | some i => opStore i b h (ρ a) (ρ x)
    | none => .fail
  | .nilCheck x => cond (ρ x).some' (pv (ρ x)) .fail
  | .binOp op t x y _ => match opEqP T h op t (ρ x) (ρ y) with
    | some b => pv (.s (.bool b))
    | none => opBin T h op t (ρ x) (ρ y)
  | .unOp op _ x => opUn op (ρ x)
  | .convert s t x => match opConvP T h s t (ρ x) with
    | .fail => cond (memN d an.adopt) (opConvH T h id s t (ρ x)) (opConv T h s t (ρ x))
    | r => r
  | .makeInterface t x => match T t with
    | none => .fail
    | some ⟨.interface _, _, _, _, _⟩ => .fail
    | some _ => match cond ((ρ x).cells.all AV.flat) (toPay (ρ x)) none with
      | some v => pv (.s (.iface t v))
      | none => .fail
  | .makeFunc (.func f) first cap => cond ((first.toList.map ρ).all AV.flat0 && (cap.toList.map ρ).all AV.flat0) (pv (.clo f (first.toList.map ρ) (cap.toList.map ρ))) .fail
  | .makeSlice t l c => opMkSlice T (an.heap d) h id t (ρ l) (ρ c)
  | .slice t x lo hi none => opSlice T t (ρ x) (lo.map ρ) (hi.map ρ)
  | .fieldAddr t x f => opFAddr T t (ρ x) f
  | .field t x f => opField T t (ρ x) f
  | .indexAddr t x i => opIAddr T t (ρ x) (ρ i)
  | .index t x i => opIndex T t (ρ x) (ρ i)
  | .range t x => match T t, ρ x with
    | some ⟨.string, _, _, _, _⟩, .s (.str l) => .v (.ptr id (newGen h id) 0) (.obj id ⟨newGen h id, .iter l 0, none⟩)
    | _, _ => .fail
  | .next x true => opNext h (ρ x)
  | .makeMap _ none => .v (.hm id (newGen h id)) (.obj id ⟨newGen h id, .map [], none⟩)
  | .lookup t x k ok => opLookup T h t (ρ x) (ρ k) ok
  | .mapUpdate t x k v => opMapUpd T h t (ρ x) (ρ k) (ρ v)
  | .insert t x k v => opMapUpd T h t (ρ x) (ρ k) (ρ v)
  | .typeAssert x _ t ok => opAssert T t ok (ρ x)
  | .extract x i => match ρ x with
    | .tup vs => match vs[i]? with
      | some v => pv v
      | none => .fail
    | _ => .fail
  | .call c => match c.callee with
    | .value f => opCall C h nx (memN d an.adopt) id (ρ f) (c.args.toList.map ρ)
    | .builtin bi => match opUns T h bi c.argTypes.toList (c.args.toList.map ρ) with
      | .fail => opBuiltin T h id bi c.argTypes.toList (c.args.toList.map ρ)
      | r => r
    | _ => .fail
  | .panic x => match ρ x with
    | .s (.iface t v) => .pan (.iface t v) .none
    | _ => .fail
  | _ => .fail

/-! ## What an operation reads and writes of boxes and heap -/

structure Fp where
  rb : List Nat := []
  wb : List Nat := []
  rh : List Nat := []
  wh : List Nat := []
  all : Bool := false

def Fp.quiet (f : Fp) : Bool := f.wb.isEmpty && f.wh.isEmpty && !f.all

def fpRead : AV → Fp
  | .lref d _ | .lai d _ _ _ _ => { rb := [d] }
  | .ptr id _ _ | .pai id _ _ _ _ _ | .ep id _ _ _ _ | .sl id _ _ _ _ | .hm id _ => { rh := [id] }
  | _ => {}

def fpWrite : AV → Fp
  | .lref d _ | .lai d _ _ _ _ => { wb := [d] }
  | .ptr id _ _ | .pai id _ _ _ _ _ | .ep id _ _ _ _ | .sl id _ _ _ _ | .hm id _ => { wh := [id] }
  | _ => {}

def Fp.join (a b : Fp) : Fp := ⟨a.rb ++ b.rb, a.wb ++ b.wb, a.rh ++ b.rh, a.wh ++ b.wh, a.all || b.all⟩

def PR.isFail : PR → Bool
  | .fail => true
  | _ => false

def quietCall (C : Orc) (h : Heap) (ids : List Nat) (g : FuncId) (args : List AV) : Bool :=
  cond (C.quiet g) (match mapO (ren2 (idxIn ids 0)) args, mapO h.get ids with
  | some args', some hs => match mapO (renO (idxIn ids 0)) hs with
    | some hs' => (C.imp g args' hs').isQ
    | none => false
  | _, _ => false) false

def fpCall (C : Orc) (h : Heap) (ad : Bool) (id : Nat) (f : AV) (args : List AV) : Fp :=
  match calleeOf f args with
  | some (g, args) => cond (cond (args.all AV.still) (C.pure g args) .fail).isFail (cond (quietCall C h (reach h reachF (cat refs2 args) []) g args) { rh := reach h reachF (cat refs2 args) [] } { all := true, wh := reach h reachF (cat refs2 args) [] }) (cond ad { wh := [id] } {})
  | none => {}

def fpOp (C : Orc) (an : Ann) (ρ : Operand → AV) (h : Heap) (base : Nat) (o : Oper) : Fp :=
  let d := o.dst.getD 0
  let id := base + d
  match o.op with
  | .alloc _ | .box _ _ => cond (an.heap d) { wh := [id] } { wb := [d] }
  | .buildSlice _ _ _ => cond (an.heap d) { wh := [id] } {}
  | .load _ a => fpRead (ρ a)
  | .store _ a _ => fpWrite (ρ a)
  | .convert _ _ x => (fpRead (ρ x)).join (cond (memN d an.adopt) { wh := [id] } {})
  | .binOp _ _ x y _ => (fpRead (ρ x)).join (fpRead (ρ y))
  | .makeSlice .. => cond (an.heap d) { wh := [id] } {}
  | .range .. | .makeMap .. => { wh := [id] }
  | .lookup _ x _ _ => fpRead (ρ x)
  | .mapUpdate _ x _ _ | .insert _ x _ _ => fpWrite (ρ x)
  | .next x _ => fpWrite (ρ x)
  | .call c => match c.callee with
    | .value f => fpCall C h (memN d an.adopt) id (ρ f) (c.args.toList.map ρ)
    | .builtin .append => match c.args.toList.map ρ with
      | [.s .nils, x] => Fp.join { wh := [id] } (fpRead x)
      | [s, x] => (fpWrite s).join (fpRead x)
      | _ => { all := true }
    | .builtin .len => {}
    | .builtin .copy => match c.args.toList.map ρ with
      | [s, x] => (fpWrite s).join (fpRead x)
      | _ => { all := true }
    | .builtin .min | .builtin .max | .builtin .unsafeSliceData => {}
    | .builtin .unsafeString => match c.args.toList.map ρ with
      | x :: _ => fpWrite x
      | _ => { all := true }
    | _ => { all := true }
  | .move _ | .assign _ | .pick .. | .build .. | .nilCheck _ | .unOp .. | .makeInterface .. | .makeFunc .. | .slice .. | .fieldAddr .. | .field .. | .indexAddr ..
  | .index .. | .typeAssert .. | .extract .. | .panic _ => {}
  | _ => { all := true }

def meets : List Nat → List Nat → Bool
  | [], _ => false
  | x :: xs, ys => memN x ys || meets xs ys

def Fp.clash (a b : Fp) : Bool :=
  (a.all && b.all) || meets a.wb b.wb || meets a.wb b.rb || meets a.rb b.wb || meets a.wh b.wh || meets a.wh b.rh || meets a.rh b.wh

/-- what an update changes -/
def fpU : Upd → Fp
  | .none => {}
  | .box d _ => { wb := [d] }
  | .obj id _ => { wh := [id] }
  | .objs l _ => { wh := l.map (·.1), all := true }

/-- an operation that is done: its place, the places before it as a mask, what it touched -/
structure Done where
  i : Nat
  m : Nat
  o : Oper
  fp : Fp

def maskLook : List Done → Nat → Nat
  | [], _ => 0
  | d :: ds, i => cond (Nat.beq d.i i) d.m (maskLook ds i)

def maskOf (ds : List Done) (o : Oper) : Nat := o.after.toList.foldl (fun s e => cond (Region.binds .any e) (s ||| 2 ^ e.on ||| maskLook ds e.on) s) 0

def guardSlot (ops : Array Oper) (j : Nat) : Option Nat := match ops[j]? with
  | some o => o.dst
  | none => none

def tmpOf : Operand → Option Nat
  | .tmp t => some t
  | _ => none

def looks (ops : Array Oper) (o : Oper) : List Nat := o.op.operands.toList.filterMap tmpOf ++ (match o.guard with
  | some (j, _) => (guardSlot ops j).toList
  | none => [])

def dstIn : Option Nat → List Nat → Bool
  | some d, l => memN d l
  | none, _ => false
def dstEq : Option Nat → Option Nat → Bool
  | some d, some e => Nat.beq d e
  | _, _ => false

def apartE (ops : Array Oper) (x y : Oper) : Bool := !dstIn x.dst (looks ops y) && !dstIn y.dst (looks ops x) && !dstEq x.dst y.dst

def indep (ops : Array Oper) (d e : Done) : Bool := !d.fp.clash e.fp && apartE ops d.o e.o

def okPairs (ops : Array Oper) (draw : Bool) (ds : List Done) (e : Done) : Bool := !draw || ((e.o.after.toList.all fun d => !(Region.binds .any d) || Nat.blt d.on e.i) && ds.all fun d => e.m.testBit d.i || indep ops d e)

/-- may it panic (in what the evaluator knows) -/
def mayPan (o : Oper) : Bool := match o.op with
  | .panic _ => true
  | .call c => match c.callee with
    | .value _ => true
    | _ => false
  | _ => false

/-! ## Code -/

inductive Ex where
  | normal
  | exit (id : Nat)
  | ret
  | goto (l : Nat)
  | pan (v : SV)
  deriving Inhabited

/-- What a loop comes to. -/
inductive LT where
  | out (e : Ex) (st : St)
  | br (c : Bool) (a b : LT)
  | fail

def AV.ofOperand (an : Ann) (s : Nat → AV) (sv : Value → Option AV) : Operand → AV
  | .tmp t => s t
  | .const v => (sv v).getD .undef
  | .global g => match an.glob g with
    | some cs => .s (.pv cs)
    | none => .undef
  | .func f => .s (.fn f)

/-- constants -/
def svOf : Value → Option SV
  | .bool b => some (.bool b)
  | .int k n => some (.int k n)
  | .float k b => some (.flt k b)
  | .string s => some (.str s.data.toList)
  | .pointer none => some .nilp
  | .slice none 0 0 => some .nils
  | .map none => some .nilm
  | .nilFunc => some .nilf
  | .nilIface => some .nili
  | _ => none

def svsOf : List Value → Option (List AV)
  | [] => some []
  | v :: vs => match svOf v, svsOf vs with
    | some x, some xs => some (.s x :: xs)
    | _, _ => none

def avOf : Value → Option AV
  | .agg cs => (svsOf cs.toList).map AV.agg
  | v => (svOf v).map AV.s

def St.ev (an : Ann) (st : St) : Operand → AV := AV.ofOperand an st.s avOf

section run
variable {R : Type} (T : Tab) (C : Orc) (an : Ann) (L : Code → St → LT)

def okDst (d : Option Nat) (n : Nat) : Bool := match d with | some d => Nat.blt d n | none => true

def goER (d : Option Nat) (st : St) (K : Upd → St → Option R) (KP : SV → St → Option R) : ER → Option R
  | .v x u => cond (okDst d st.n) (K u ((st.app u).put d x)) none
  | .pan x u => cond (okDst d st.n) (KP x (st.app u)) none
  | .br c a b => cond c (goER d st K KP a) (goER d st K KP b)
  | .fail => none

def St.evalOp (st : St) (o : Oper) : ER := Ev.evalOp T C an (st.ev an) st.b st.h st.base st.nx o

def runOps (ops : Array Oper) (draw : Bool) (K : St → Option R) (KP : SV → St → Option R) : List Oper → Nat → List Done → St → Option R
  | [], _, _, st => K st
  | o :: rest, i, ds, st =>
    let go (fp : Fp) (st' : St) : Option R := cond (okPairs ops draw ds ⟨i, maskOf ds o, o, fp⟩) (runOps ops draw K KP rest (i + 1) (⟨i, maskOf ds o, o, fp⟩ :: ds) st') none
    let exec (st : St) : Option R := goER o.dst st (fun u st' => go (cond draw ((fpOp C an (st.ev an) st.h st.base o).join (fpU u)) {}) st') (fun v st' => cond (draw || !mayPan o) none (KP v st')) (st.evalOp T C an o)
    let skip (st : St) : Option R := cond (okDst o.dst st.n) (go {} (st.put o.dst (.tup []))) none
    match o.guard with
    | none => exec st
    | some (j, want) => match guardSlot ops j with
      | none => none
      | some d => match st.s d with
        | .s (.bool t) => cond t (cond want (exec (st.put (some d) (.s (.bool true)))) (skip (st.put (some d) (.s (.bool true)))))
            (cond want (skip (st.put (some d) (.s (.bool false)))) (exec (st.put (some d) (.s (.bool false)))))
        | .tup [] => skip st
        | _ => none

def goLT (K : Ex → St → Option R) : LT → Option R
  | .out e st => K e st
  | .br c a b => cond c (goLT K a) (goLT K b)
  | .fail => none

/-- the first region's number in a text: the name of a loop -/
def keyOf : Code → Nat
  | .region id _ _ => id
  | .seq a b => match keyOf a with
    | 1000000 => keyOf b
    | k => k
  | .cond _ a b => match keyOf a with
    | 1000000 => keyOf b
    | k => k
  | .block _ a => keyOf a
  | .loop a => keyOf a
  | .scope a => keyOf a
  | .rangeFunc _ _ a b => match keyOf a with
    | 1000000 => keyOf b
    | k => k
  | _ => 1000000

def runC : Code → St → (Ex → St → Option R) → Option R
  | .skip, st, K => K .normal st
  | .label _, st, K => K .normal st
  | .region _ ops draw, st, K => runOps T C an ops draw (K .normal) (fun v st => K (.pan v) st) ops.toList 0 [] st
  | .seq x y, st, K => runC x st fun e st' => match e with
    | .normal => runC y st' K
    | e => K e st'
  | .cond (.tmp d) x y, st, K => match st.s d with
    | .s (.bool t) => cond t (runC x (st.put (some d) (.s (.bool true))) K) (runC y (st.put (some d) (.s (.bool false))) K)
    | _ => none
  | .cond (.const (.bool t)) x y, st, K => cond t (runC x st K) (runC y st K)
  | .block id c, st, K => runC c st fun e st' => match e with
    | .exit i => cond (Nat.beq i id) (K .normal st') (K (.exit i) st')
    | e => K e st'
  | .loop c, st, K => goLT K (L c st)
  | .scope c, st, K => runC c st fun e st' => match e with
    | .goto _ => none
    | e => K e st'
  | .exit id, st, K => K (.exit id) st
  | .goto l, st, K => K (.goto l) st
  | .ret, st, K => K .ret st
  | _, _, _ => none

end run

/-! ## Functions -/

def St.init (args : List AV) (h : Heap) (base n : Nat) : St :=
  { s := fun i => cond (Nat.blt i n) (args.getD i (.tup [])) (.tup []), b := fun _ => none, h := h, base := base, nx := base + n + 1, n := n }

/-- results out of slots and boxes -/
def resultsE (T : Tab) (an : Ann) (st : St) : List ResultVar → Option (List AV)
  | [] => some []
  | .tmp t :: rs => match resultsE T an st rs with
    | some vs => some (st.s t :: vs)
    | none => none
  | .cell a t :: rs => match T t with
    | some i => match opLoad i st.b st.h (st.s a), resultsE T an st rs with
      | .v x _, some vs => some (x :: vs)
      | _, _ => none
    | none => none

def tupE : List AV → AV
  | [v] => v
  | vs => .tup vs

/-- a pure call's result: what it made is handed over -/
def out0 (h : Heap) : AV → Option AV
  | .s v => some (.s v)
  | .sl id g sz off len => match h id with
    | some ⟨g', .rows sz' _ f, ty⟩ => cond (Nat.beq g g' && Nat.beq sz sz') (some (.own sz len (fun i => f (i + off)))) none
    | _ => none
  | _ => none
def outs (f : AV → Option AV) : List AV → Option (List AV)
  | [] => some []
  | v :: vs => match f v, outs f vs with
    | some x, some xs => some (x :: xs)
    | _, _ => none
def out1 (h : Heap) : AV → Option AV
  | .agg cs => (outs (out0 h) cs).map AV.agg
  | v => out0 h v
def out2 (h : Heap) : AV → Option AV
  | .tup vs => (outs (out1 h) vs).map AV.tup
  | v => out1 h v

def finP (T : Tab) (an : Ann) (rs : List ResultVar) (e : Ex) (st : St) : Option PR :=
  match e with
  | .normal | .ret => match resultsE T an st rs with
    | some vs => match out2 st.h (tupE vs) with
      | some v => some (.ret v)
      | none => none
    | none => none
  | .pan v => some (.pan v)
  | _ => none

/-- what a call that was handed n blocks leaves: these, and what else is reached -/
def expo (h : Heap) (n : Nat) (v : List Nat) : List Nat := reach h reachF (rangeN 0 n ++ v) []

/-- do they begin with 0, 1, .. -/
def beginsN : Nat → Nat → List Nat → Bool
  | _, 0, _ => true
  | k, n + 1, x :: xs => Nat.beq x k && beginsN (k + 1) n xs
  | _, _, [] => false

def finI (T : Tab) (an : Ann) (n : Nat) (rs : List ResultVar) (e : Ex) (st : St) : Option IR :=
  match e with
  | .normal | .ret => match resultsE T an st rs with
    | some vs =>
      let ids := expo st.h n (refs3 (tupE vs))
      match ren3 (idxIn ids 0) (tupE vs), mapO st.h.get ids with
      | some v, some hs => match mapO (renO (idxIn ids 0)) hs with
        | some hs => cond (beginsN 0 n ids && nodupN ids) (some (.ret v hs)) none
        | none => none
      | _, _ => none
    | none => none
  | .pan v =>
    let ids := expo st.h n []
    match mapO st.h.get ids with
    | some hs => match mapO (renO (idxIn ids 0)) hs with
      | some hs => cond (beginsN 0 n ids && nodupN ids) (some (.pan v hs)) none
      | none => none
    | none => none
  | _ => none

def heapFrom : Nat → List HO → Heap
  | _, [] => []
  | i, o :: os => (i, o) :: heapFrom (i + 1) os

def heapOf (hs : List HO) : Heap := heapFrom 0 hs

/-- a function, run by itself; 'br' is never made here: each way ends by its own -/
def runP (T : Tab) (C : Orc) (an : Ann) (L : Code → St → LT) (fn : Func) (args : List AV) : Option PR :=
  match fn.body with
  | some c => cond (Nat.ble args.length fn.ntmps) (runC T C an L c (St.init args [] 0 fn.ntmps) (finP T an fn.results.toList)) none
  | none => none

def runI (T : Tab) (C : Orc) (an : Ann) (L : Code → St → LT) (fn : Func) (args : List AV) (hs : List HO) : Option IR :=
  match fn.body with
  | some c => cond (Nat.ble args.length fn.ntmps) (runC T C an L c (St.init args (heapOf hs) hs.length fn.ntmps) (finI T an hs.length fn.results.toList)) none
  | none => none

end Go.Ev
