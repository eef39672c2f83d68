/- The abstract machine (values without memory: slices as lists, variables in memory as cells, closures by their contents), its big-step relation, and the rules by which it is walked. No condition. -/
import Derived.Test.YtndabolfhhppkaaProg
namespace Go.Proofs.Ytndabolfhhppkaa.Am
open Go

abbrev Id := Nat × Nat

/-- One cell. 'ro': a slice that is read only, by its elements' cells; 'own': an array of the call's own; 'fresh': a slice that a call hands back for its caller to own; 'fn': a function literal by the variables that it captures, 'clo': by what these hold. -/
inductive Cell where
  | val (x : Value)
  | nil
  | ro (sz : Nat) (xs : List (List Cell))
  | own (i : Id)
  | fresh (e sz : Nat) (xs : List (List Cell))
  | fn (g : Nat) (caps : List Id)
  | clo (g : Nat) (caps : List (List Cell))
  | any
  | mref (i : Id)
instance : Inhabited Cell := ⟨.nil⟩
inductive Vl where
  | c (x : Cell)
  | agg (cs : List Cell)
inductive FV where
  | v (x : Vl)
  | tup (xs : List Vl)
  | ptr (i : Id) (off : Nat)
  | cptr (cs : List Cell) (off : Nat)
  | optr (i : Id) (k off : Nat)
  | otl (i : Id) (lo : Nat)
  | skip
abbrev Fr := Nat → FV
structure Arr where
  e : Nat
  sz : Nat
  xs : List (List Cell)
structure Mu where
  box : Id → Option (List Cell)
  arr : Id → Option Arr
  app : Id → Bool
  sto : Id → Bool
  t : Nat
  mp : Id → Option (List (Int × Vl))
structure St where
  fr : Fr
  mu : Mu

/-- What a cell holds, by its type: a datum, a slice (its elements' type and cells), a function. -/
inductive Sh where
  | d
  | s (e z : Nat)
  | f
inductive Opd where
  | t (s : Nat)
  | k (x : Vl)
inductive AOp where
  | mv (x : Opd)
  | pick (c a b : Opd)
  | box (x : Opd)
  | alloc (z : List Cell)
  | load (ag : Bool) (sz : Nat) (a : Opd)
  | store (sh : List Sh) (sz : Nat) (a x : Opd)
  | bin (op : BinOp) (x y : Opd)
  | eqa (neg : Bool) (ks : List Bool) (x y : Opd)
  | eqb (neg : Bool) (x y : Opd)
  | un (op : UnOp) (x : Opd)
  | conv (k : IntKind) (x : Opd)
  | mkfn (g : Nat) (caps : List Opd)
  | build (z : List Cell) (parts : List (Nat × Nat × Opd))
  | bsl (e sz : Nat) (sh : List Sh) (z : List (List Cell)) (parts : List (Nat × Opd))
  | mks (e sz : Nat) (z : List Cell) (n : Opd)
  | slc (sz : Nat) (x : Opd) (lo hi mx : Option Opd)
  | fad (x : Opd) (off : Nat)
  | fld (ag : Bool) (off sz : Nat) (x : Opd)
  | iad (sz : Nat) (x i : Opd)
  | idx (ag : Bool) (sz n : Nat) (x i : Opd)
  | ext (x : Opd) (k : Nat)
  | len (sz : Nat) (x : Opd)
  | app (e sz : Nat) (s x : Opd)
  | mnx (mx : Bool) (x y : Opd)
  | tl (sz : Nat) (x lo : Opd)
  | clr (zero : List Cell) (sz : Nat) (x : Opd)
  | ldo (q : Option Nat) (ag : Bool) (sz : Nat) (a : Opd)
  | stn (old : Bool) (d : Nat) (sz : Nat) (x : Opd)
  | iap (sz n : Nat) (x i : Opd)
  | mkm
  | mset (m k x : Opd)
  | mget (ok : Bool) (z : Vl) (m k : Opd)
  | mlen (m : Opd)
  | mdel (m k : Opd)
  | call (f : Opd) (args : List (Opd × List Sh))
  | icall (f : Opd) (args : List Opd)
structure SOp where
  dst : Option Nat
  op : AOp
  gd : Option (Nat × Bool)
inductive SCode where
  | skip
  | ops (l : List SOp)
  | seq (a b : SCode)
  | cond (c : Opd) (a b : SCode)
  | block (id : Nat) (c : SCode)
  | loop (c : SCode)
  | exit (id : Nat)
  | ret
  | clone (e z : Nat)
  | spec (k e z : Nat)
inductive SRes where
  | t (s : Nat) (sh : List Sh)
  | cell (s : Nat) (ag : Bool) (sz : Nat) (sh : List Sh)
structure SFun where
  code : SCode
  res : List SRes
  own : Bool

abbrev I (n : Int) : Cell := .val (.int .i64 n)
abbrev B (b : Bool) : Cell := .val (.bool b)
abbrev vI (n : Int) : FV := .v (.c (.val (.int .i64 n)))
abbrev vB (b : Bool) : FV := .v (.c (.val (.bool b)))

def opd (fr : Fr) : Opd → FV
  | .t s => fr s
  | .k x => .v x
def put (fr : Fr) (d : Option Nat) (v : FV) : Fr :=
  match d with
  | none => fr
  | some d => fun s => if s = d then v else fr s
def nat? (v : FV) : Option Nat :=
  match v with
  | .v (.c (.val (.int _ n))) => if 0 ≤ n then some n.toNat else none
  | _ => none

def binV (op : BinOp) (x y : Value) : Option Value :=
  match x, y with
  | .int k a, .int k' b =>
    match op with
    | .shl => if 0 ≤ b then some (.int k (k.wrap (a * 2 ^ (min b.toNat k.bits)))) else none
    | .shr => if 0 ≤ b then some (.int k (a.fdiv (2 ^ (min b.toNat k.bits)))) else none
    | op =>
      if k = k' then
        match op with
        | .add => some (.int k (k.wrap (a + b)))
        | .sub => some (.int k (k.wrap (a - b)))
        | .mul => some (.int k (k.wrap (a * b)))
        | .quo => if b = 0 then none else some (.int k (k.wrap (a.tdiv b)))
        | .rem => if b = 0 then none else some (.int k (a.tmod b))
        | .and => some (.int k (k.wrap (BitVec.ofInt k.bits a &&& BitVec.ofInt k.bits b).toNat))
        | .or => some (.int k (k.wrap (BitVec.ofInt k.bits a ||| BitVec.ofInt k.bits b).toNat))
        | .xor => some (.int k (k.wrap (BitVec.ofInt k.bits a ^^^ BitVec.ofInt k.bits b).toNat))
        | .andNot => some (.int k (k.wrap (BitVec.ofInt k.bits a &&& ~~~(BitVec.ofInt k.bits b)).toNat))
        | .eql => some (.bool (a == b))
        | .neq => some (.bool (a != b))
        | .lss => some (.bool (decide (a < b)))
        | .leq => some (.bool (decide (a ≤ b)))
        | .gtr => some (.bool (decide (a > b)))
        | .geq => some (.bool (decide (a ≥ b)))
        | _ => none
      else none
  | _, _ => none
def unV (op : UnOp) (x : Value) : Option Value :=
  match op, x with
  | .neg, .int k n => some (.int k (k.wrap (0 - n)))
  | .not, .bool b => some (.bool !b)
  | _, _ => none
/-- '==' of two structs of whole numbers ('true') and bools ('false'). -/
def eqCells : List Bool → List Cell → List Cell → Option Bool
  | [], [], [] => some true
  | true :: ks, .val (.int k a) :: r, .val (.int k' b) :: q => if k = k' then (eqCells ks r q).map fun z => (a == b) && z else none
  | false :: ks, .val (.bool a) :: r, .val (.bool b) :: q => (eqCells ks r q).map fun z => (a == b) && z
  | _, _, _ => none

def cells : FV → Option (List Cell)
  | .v (.c x) => some [x]
  | .v (.agg cs) => some cs
  | _ => none
def trav {α β : Type} (f : α → Option β) : List α → Option (List β)
  | [] => some []
  | a :: r =>
    match f a, trav f r with
    | some b, some q => some (b :: q)
    | _, _ => none
/-- The elements of a slice whose elements have 'sz' cells. -/
def elemsC (μ : Mu) (sz : Nat) : Cell → Option (List (List Cell))
  | .nil => some []
  | .ro z xs => if z = sz then some xs else none
  | .own i => (μ.arr i).bind fun a => if a.sz = sz ∧ 0 < sz then some a.xs else none
  | _ => none
def ownC : Cell → List Id
  | .own i => [i]
  | _ => []
/-- What a value is when it is handed on: rows by their elements, literals by what they capture. -/
def frz (μ : Mu) : Nat → Cell → Option Cell
  | _, .val x => some (.val x)
  | _, .nil => some .nil
  | _, .ro sz xs => some (.ro sz xs)
  | _, .own i => (μ.arr i).bind fun a => if 0 < a.sz then some (.ro a.sz a.xs) else none
  | _, .clo g cs => some (.clo g cs)
  | n + 1, .fn g ids => (trav (fun i => (μ.box i).bind (trav (frz μ n))) ids).map (.clo g)
  | _, _ => none
def fids (μ : Mu) : Nat → Cell → List Id
  | _, .own i => [i]
  | n + 1, .fn _ ids => ids.flatMap fun i => ((μ.box i).getD []).flatMap (fids μ n)
  | _, _ => []
def unsto (μ : Mu) (l : List Id) : Mu := { μ with sto := fun j => μ.sto j && !l.contains j }
abbrev depth : Nat := 6
/-- A datum as it is handed on, by its type. -/
def datC (μ : Mu) : Sh → Cell → Option Cell
  | .d, .val x => some (.val x)
  | .s _ z, c => (elemsC μ z c).map (.ro z)
  | _, _ => none
def datL (μ : Mu) : List Sh → List Cell → Option (List Cell)
  | [], [] => some []
  | h :: q, c :: r =>
    match datC μ h c, datL μ q r with
    | some a, some b => some (a :: b)
    | _, _ => none
  | _, _ => none
/-- An argument as it is handed over, and the rows that are shared by it. -/
def frzA (μ : Mu) (sh : List Sh) : FV → Option FV
  | .v (.c x) =>
    match sh with
    | [.f] => (frz μ depth x).map fun y => .v (.c y)
    | [h] => (datC μ h x).map fun y => .v (.c y)
    | _ => none
  | .v (.agg cs) => (datL μ sh cs).map fun y => .v (.agg y)
  | _ => none
def fidsA (μ : Mu) : FV → List Id
  | .v (.c x) => fids μ depth x
  | .v (.agg cs) => cs.flatMap ownC
  | _ => []

def upd {α : Type} (f : Id → α) (i : Id) (x : α) : Id → α := fun j => if j = i then x else f j
def nth {α : Type} : List α → Nat → Option α
  | [], _ => none
  | c :: _, 0 => some c
  | _ :: r, n + 1 => nth r n
def sub : List Cell → Nat → Nat → Option (List Cell)
  | _, 0, 0 => some []
  | [], _, _ => none
  | c :: r, 0, n + 1 => (sub r 0 n).map (c :: ·)
  | _ :: r, o + 1, n => sub r o n
/-- The cells 'ds' put over those from 'o' on. -/
def setAt : List Cell → Nat → List Cell → Option (List Cell)
  | z, 0, [] => some z
  | [], _, _ => none
  | _ :: z, 0, d :: ds => (setAt z 0 ds).map (d :: ·)
  | c :: z, o + 1, ds => (setAt z o ds).map (c :: ·)
def ld (ag : Bool) (cs : List Cell) (off sz : Nat) : Option FV :=
  if ag then (sub cs off sz).map fun r => .v (.agg r) else (nth cs off).map fun r => .v (.c r)
def elems (μ : Mu) (sz : Nat) : FV → Option (List (List Cell))
  | .v (.c x) => elemsC μ sz x
  | _ => none
def ownOf : FV → List Id
  | .v (.c x) => ownC x
  | _ => []
def bld (fr : Fr) : List Cell → List (Nat × Nat × Opd) → Option (List Cell)
  | z, [] => some z
  | z, (o, sz, x) :: r =>
    match cells (opd fr x) with
    | some cs => if cs.length = sz then (setAt z o cs).bind fun z' => bld fr z' r else none
    | none => none
def bldS (fr : Fr) (μ : Mu) (sh : List Sh) (sz : Nat) : List (List Cell) → List (Nat × Opd) → Option (List (List Cell))
  | z, [] => some z
  | z, (k, x) :: r =>
    match (cells (opd fr x)).bind (datL μ sh) with
    | some cs => if cs.length = sz ∧ k < z.length then bldS fr μ sh sz (z.set k cs) r else none
    | none => none
def lim : Nat := 4294967296
def mkRow (μ : Mu) (id : Id) (a : Arr) (sto : Bool) (old : List Id) : Mu :=
  { μ with arr := upd μ.arr id (some a), app := fun j => if j = id then true else μ.app j && !old.contains j, sto := fun j => if j = id then sto else μ.sto j && !old.contains j }
def capOf : FV → Option Id
  | .ptr i 0 => some i
  | _ => none
/-- The base of an append: its elements, the row that it is, and may it be appended to. -/
def baseOf (μ : Mu) (e sz : Nat) : FV → Option (List (List Cell) × List Id)
  | .v (.c .nil) => some ([], [])
  | .v (.c (.own i)) => (μ.arr i).bind fun a => if μ.app i = true ∧ a.e = e ∧ a.sz = sz then some (a.xs, [i]) else none
  | _ => none
def bnd (fr : Fr) (d : Nat) : Option Opd → Option Nat
  | none => some d
  | some x => nat? (opd fr x)

def valS : Cell → Option Value
  | .val (.int k n) => some (.int k n)
  | .val (.bool b) => some (.bool b)
  | _ => none
/-- What a map may hold: a number or a bool, or a struct of such. -/
def vlv : Vl → Option Value
  | .c x => valS x
  | .agg cs => (trav valS cs).map fun l => .agg l.toArray
def mfind : List (Int × Vl) → Int → Option Vl
  | [], _ => none
  | p :: r, n => if p.1 = n then some p.2 else mfind r n
/-- An entry's element turned, or a new entry behind the others. -/
def mins : List (Int × Vl) → Int → Vl → List (Int × Vl)
  | [], n, x => [(n, x)]
  | p :: r, n, x => if p.1 = n then (n, x) :: r else p :: mins r n x
def mrem : List (Int × Vl) → Int → List (Int × Vl)
  | [], _ => []
  | p :: r, n => if p.1 = n then r else p :: mrem r n
def mhit (ok : Bool) (z : Vl) : Option Vl → FV
  | some y => if ok = true then .tup [y, .c (.val (.bool true))] else .v y
  | none => if ok = true then .tup [z, .c (.val (.bool false))] else .v z
/-- Loads and stores that may be taken either way: of boxes made now and before; of boxes of one slot and of others. -/
def hitQ (q : Option Nat) (t : Nat) (i : Id) : Bool := match q with | none => i.1 == t | some d => i.2 == d
def hitN (old : Bool) (t d : Nat) (i : Id) : Bool := if old = true then i.2 == d else i == (t, d)
def aop (o : AOp) (id : Id) (fr : Fr) (μ : Mu) : Option (FV × Mu) :=
  match o with
  | .mv x => some (opd fr x, μ)
  | .pick c a b =>
    match opd fr c with
    | .v (.c (.val (.bool t))) => some (if t = true then opd fr a else opd fr b, μ)
    | _ => none
  | .box x => (cells (opd fr x)).map fun cs => (.ptr id 0, { μ with box := upd μ.box id (some cs) })
  | .alloc z => some (.ptr id 0, { μ with box := upd μ.box id (some z) })
  | .load ag sz a =>
    match opd fr a with
    | .ptr i off => (μ.box i).bind fun cs => (ld ag cs off sz).map fun v => (v, μ)
    | .cptr cs off => (ld ag cs off sz).map fun v => (v, μ)
    | .optr i k off => (μ.arr i).bind fun a => (a.xs[k]?).bind fun r => (ld ag r off sz).map fun v => (v, μ)
    | _ => none
  | .store sh sz a x =>
    match opd fr a with
    | .ptr i off => (cells (opd fr x)).bind fun ds => if ds.length = sz then (μ.box i).bind fun cs => (setAt cs off ds).map fun cs' => (.skip, { μ with box := upd μ.box i (some cs') }) else none
    | .optr i k off => (cells (opd fr x)).bind fun ds => (datL μ sh ds).bind fun es => if es.length = sz ∧ μ.sto i = true ∧ ds.flatMap ownC = [] then (μ.arr i).bind fun a => (a.xs[k]?).bind fun r => (setAt r off es).map fun r' =>
        (.skip, { μ with arr := upd μ.arr i (some { a with xs := a.xs.set k r' }) }) else none
    | _ => none
  | .bin op x y =>
    match opd fr x, opd fr y with
    | .v (.c (.val a)), .v (.c (.val b)) => (binV op a b).map fun z => (.v (.c (.val z)), μ)
    | _, _ => none
  | .eqa neg ks x y =>
    match opd fr x, opd fr y with
    | .v (.agg a), .v (.agg b) => (eqCells ks a b).map fun z => (vB (if neg = true then !z else z), μ)
    | _, _ => none
  | .eqb neg x y =>
    match opd fr x, opd fr y with
    | .v (.c (.val (.bool a))), .v (.c (.val (.bool b))) => some (vB (if neg = true then !(a == b) else a == b), μ)
    | _, _ => none
  | .un op x =>
    match opd fr x with
    | .v (.c (.val a)) => (unV op a).map fun z => (.v (.c (.val z)), μ)
    | _ => none
  | .conv k x =>
    match opd fr x with
    | .v (.c (.val (.int _ n))) => some (.v (.c (.val (.int k (k.wrap n)))), μ)
    | _ => none
  | .mkfn g caps => (trav (fun x => capOf (opd fr x)) caps).map fun ids => (.v (.c (.fn g ids)), μ)
  | .build z parts => (bld fr z parts).map fun cs => (.v (.agg cs), μ)
  | .bsl e sz sh z parts => (bldS fr μ sh sz z parts).map fun xs => (.v (.c (.own id)), mkRow (unsto μ (parts.flatMap fun p => ((cells (opd fr p.2)).getD []).flatMap ownC)) id ⟨e, sz, xs⟩ true [])
  | .mks e sz z n => (nat? (opd fr n)).bind fun k => if k ≤ lim then some (.v (.c (.own id)), mkRow μ id ⟨e, sz, List.replicate k z⟩ true []) else none
  | .slc sz x lo hi mx =>
    match elems μ sz (opd fr x) with
    | none => none
    | some xs =>
      match mx with
      | some m =>
        if lo.isNone = true ∧ (hi.bind fun h => nat? (opd fr h)) = some 0 ∧ nat? (opd fr m) = some 0 then some (.v (.c .nil), μ) else none
      | none =>
        (bnd fr 0 lo).bind fun l => (bnd fr xs.length hi).bind fun h =>
          if l ≤ h ∧ h ≤ xs.length then some (.v (.c (.ro sz ((xs.take h).drop l))), unsto μ (ownOf (opd fr x))) else none
  | .fad x off =>
    match opd fr x with
    | .ptr i o => some (.ptr i (o + off), μ)
    | .cptr cs o => some (.cptr cs (o + off), μ)
    | .optr i k o => some (.optr i k (o + off), μ)
    | _ => none
  | .fld ag off sz x =>
    match opd fr x with
    | .v (.agg cs) => (ld ag cs off sz).map fun v => (v, μ)
    | _ => none
  | .iad sz x i =>
    match opd fr x with
    | .v (.c (.ro z xs)) => if z = sz then (nat? (opd fr i)).bind fun k => (xs[k]?).map fun r => (.cptr r 0, μ) else none
    | .v (.c (.own j)) => (nat? (opd fr i)).bind fun k => (μ.arr j).bind fun a => if a.sz = sz ∧ k < a.xs.length then some (.optr j k 0, μ) else none
    | _ => none
  | .idx ag sz n x i =>
    match opd fr x with
    | .v (.agg cs) => (nat? (opd fr i)).bind fun k => if k < n then (ld ag cs (k * sz) sz).map fun v => (v, μ) else none
    | _ => none
  | .ext x k =>
    match opd fr x with
    | .tup vs => (nth vs k).map fun v => (.v v, μ)
    | _ => none
  | .len sz x => (elems μ sz (opd fr x)).map fun xs => (vI xs.length, μ)
  | .app e sz s x =>
    (baseOf μ e sz (opd fr s)).bind fun b => (elems μ sz (opd fr x)).bind fun ys =>
      if b.1.length + ys.length ≤ lim then some (.v (.c (.own id)), mkRow μ id ⟨e, sz, b.1 ++ ys⟩ b.1.isEmpty b.2) else none
  | .mnx mx x y =>
    match opd fr x, opd fr y with
    | .v (.c (.val (.int k a))), .v (.c (.val (.int k' b))) => if k = k' then some (.v (.c (.val (.int k (if mx = true then max a b else min a b)))), μ) else none
    | _, _ => none
  | .tl sz x lo =>
    match opd fr x with
    | .v (.c (.own i)) => (nat? (opd fr lo)).bind fun l => (μ.arr i).bind fun a => if a.sz = sz ∧ l ≤ a.xs.length then some (.otl i l, μ) else none
    | _ => none
  | .clr zero sz x =>
    match opd fr x with
    | .otl i l => (μ.arr i).bind fun a => if a.sz = sz ∧ μ.sto i = true ∧ l ≤ a.xs.length then some (.tup [], { μ with arr := upd μ.arr i (some { a with xs := a.xs.take l ++ List.replicate (a.xs.length - l) zero }) }) else none
    | _ => none
  | .ldo q ag sz a =>
    match opd fr a with
    | .ptr i off => if hitQ q μ.t i = true then none else (μ.box i).bind fun cs => (ld ag cs off sz).map fun v => (v, μ)
    | _ => none
  | .stn old d sz x =>
    match fr d with
    | .ptr i off => if hitN old μ.t d i = true then (cells (opd fr x)).bind fun ds => if ds.length = sz then (μ.box i).bind fun cs => (setAt cs off ds).map fun cs' => (.skip, { μ with box := upd μ.box i (some cs') }) else none else none
    | _ => none
  | .iap sz n x i =>
    match opd fr x with
    | .ptr j o => (nat? (opd fr i)).bind fun k => if k < n then some (.ptr j (o + k * sz), μ) else none
    | _ => none
  | .mkm => if (μ.mp id).isNone = true then some (.v (.c (.mref id)), { μ with mp := upd μ.mp id (some []) }) else none
  | .mset m k x =>
    match opd fr m, opd fr k, opd fr x with
    | .v (.c (.mref i)), .v (.c (.val (.int .i64 n))), .v y => if (vlv y).isSome = true then (μ.mp i).map fun es => (.skip, { μ with mp := upd μ.mp i (some (mins es n y)) }) else none
    | _, _, _ => none
  | .mget ok z m k =>
    match opd fr m, opd fr k with
    | .v (.c (.mref i)), .v (.c (.val (.int .i64 n))) => (μ.mp i).map fun es => (mhit ok z (mfind es n), μ)
    | _, _ => none
  | .mlen m =>
    match opd fr m with
    | .v (.c (.mref i)) => (μ.mp i).map fun es => (vI es.length, μ)
    | _ => none
  | .mdel m k =>
    match opd fr m, opd fr k with
    | .v (.c (.mref i)), .v (.c (.val (.int .i64 n))) => (μ.mp i).map fun es => (.tup [], { μ with mp := upd μ.mp i (some (mrem es n)) })
    | _, _ => none
  | .call _ _ => none
  | .icall _ _ => none

def gon (fr : Fr) : Option (Nat × Bool) → Bool
  | none => true
  | some (s, b) =>
    match fr s with
    | .v (.c (.val (.bool c))) => c == b
    | _ => false

def fvOf : List Vl → FV
  | [] => .skip
  | [x] => .v x
  | x :: y :: r => .tup (x :: y :: r)
def idOf (s : St) (d : Option Nat) : Id := (s.mu.t, d.getD 0)
/-- What a call hands back, as the caller holds it: a fresh row is a row of its own from then on. -/
def landed (s : St) (d : Option Nat) (fz : List Id) (vs : List Vl) : St :=
  match d, vs with
  | some k, [.c (.fresh e z xs)] => ⟨put s.fr (some k) (.v (.c (.own (s.mu.t, k)))), mkRow (unsto s.mu fz) (s.mu.t, k) ⟨e, z, xs⟩ true []⟩
  | d, vs => ⟨put s.fr d (fvOf vs), unsto s.mu fz⟩

def ret1 (s : St) : SRes → Option Vl
  | .t k sh =>
    match s.fr k with
    | .v (.c x) =>
      match sh with
      | [h] => (datC s.mu h x).map .c
      | _ => none
    | .v (.agg cs) => (datL s.mu sh cs).map .agg
    | _ => none
  | .cell k ag sz sh =>
    match s.fr k with
    | .ptr i off => (s.mu.box i).bind fun cs =>
      if ag = true then ((sub cs off sz).bind (datL s.mu sh)).map .agg
      else
        match sh with
        | [h] => ((nth cs off).bind (datC s.mu h)).map .c
        | _ => none
    | _ => none
/-- A function whose result its caller owns. -/
def retO (s : St) : List SRes → Option (List Vl)
  | [.t k [.s e z]] =>
    match s.fr k with
    | .v (.c .nil) => if 0 < z then some [.c (.fresh e z [])] else none
    | .v (.c (.own i)) => (s.mu.arr i).bind fun a => if s.mu.app i = true ∧ s.mu.sto i = true ∧ a.e = e ∧ a.sz = z ∧ 0 < z then some [.c (.fresh e z a.xs)] else none
    | _ => none
  | _ => none
def retOf (own : Bool) (res : List SRes) (s : St) : Option (List Vl) := if own = true then retO s res else trav (ret1 s) res

inductive Task where
  | code (c : SCode) (s : St)
  | ops (l : List SOp) (s : St)
  | call (g : Nat) (args : List FV)
  | icall (g : Nat) (args : List FV) (μ : Mu)
inductive Out where
  | norm (s : St)
  | exit (n : Nat) (s : St)
  | ret (s : St)
  | res (vs : List Vl)
  | ires (vs : List Vl) (μ : Mu)
def Out.abrupt : Out → Bool
  | .exit _ _ => true
  | .ret _ => true
  | _ => false
def Out.blk (id : Nat) : Out → Out
  | .exit n s => if n = id then .norm s else .exit n s
  | o => o
def Out.fin : Out → Option St
  | .norm s => some s
  | .ret s => some s
  | _ => none
def AOp.isCall : AOp → Bool
  | .call _ _ => true
  | .icall _ _ => true
  | _ => false
def callee (s : St) (f : Opd) : Option (Nat × List FV) :=
  match opd s.fr f with
  | .v (.c x) =>
    match frz s.mu depth x with
    | some (.clo g cs) => some (g, cs.map fun c => .cptr c 0)
    | _ => none
  | _ => none
/-- A call that shares the caller's memory: the callee, and what it captures. -/
def icallee (s : St) (f : Opd) : Option (Nat × List FV) :=
  match opd s.fr f with
  | .v (.c (.clo g cs)) => some (g, cs.map fun c => .cptr c 0)
  | .v (.c (.fn g ids)) => some (g, ids.map fun i => .ptr i 0)
  | _ => none
def iret1 (s : St) : SRes → Option Vl
  | .t k _ =>
    match s.fr k with
    | .v x => some x
    | _ => none
  | .cell k ag sz _ =>
    match s.fr k with
    | .ptr i off => (s.mu.box i).bind fun cs => if ag = true then (sub cs off sz).map .agg else (nth cs off).map .c
    | _ => none
def fzIds (s : St) (f : Opd) (us : List (Opd × List Sh)) : List Id := fidsA s.mu (opd s.fr f) ++ us.flatMap fun a => fidsA s.mu (opd s.fr a.1)
def entry (args : List FV) : St := ⟨fun k => (nth args k).getD .skip, ⟨fun _ => none, fun _ => none, fun _ => false, fun _ => false, 0, fun _ => none⟩⟩
def St.tick (s : St) : St := ⟨s.fr, { s.mu with t := s.mu.t + 1 }⟩
def Mu.tick (μ : Mu) : Mu := { μ with t := μ.t + 1 }

def SCode.isClone : SCode → Bool
  | .clone _ _ => true
  | .spec _ _ _ => true
  | _ => false
/-- A row's place is taken by another one, in place or anew; it is no more. -/
def renew (μ : Mu) (i : Id) (a : Arr) : List Vl × Mu :=
  ([.c (.own (μ.t + 1, 7))], (mkRow { μ.tick with arr := upd μ.arr i (some ⟨0, 0, []⟩) } (μ.t + 1, 7) a true [i]).tick)
def specOk (e z : Nat) (q : Arr) (μ : Mu) (i : Id) : Bool := q.e == e && q.sz == z && decide (0 < z) && μ.app i && μ.sto i
/-- The library's functions that change a row in place: Insert of one element (0), Delete (1). -/
def specStep (k e z : Nat) (args : List FV) (μ : Mu) : Option (List Vl × Mu) :=
  match k, args with
  | 0, [.v (.c (.own i)), .v (.c (.val (.int .i64 n))), .v (.c (.own j))] =>
    match μ.arr i, μ.arr j with
    | some q, some r => if specOk e z q μ i = true ∧ r.sz = z ∧ i ≠ j ∧ r.xs.length = 1 ∧ 0 ≤ n ∧ n.toNat ≤ q.xs.length ∧ q.xs.length + 1 ≤ lim then some (renew μ i ⟨e, z, q.xs.take n.toNat ++ r.xs ++ q.xs.drop n.toNat⟩) else none
    | _, _ => none
  | 1, [.v (.c (.own i)), .v (.c (.val (.int .i64 a))), .v (.c (.val (.int .i64 b)))] =>
    match μ.arr i with
    | some q => if specOk e z q μ i = true ∧ 0 ≤ a ∧ a < b ∧ b.toNat ≤ q.xs.length then some (renew μ i ⟨e, z, q.xs.take a.toNat ++ q.xs.drop b.toNat⟩) else none
    | none => none
  | _, _ => none
inductive Ev (F : Nat → Option SFun) : Task → Out → Prop where
  | skip (s : St) : Ev F (.code .skip s) (.norm s)
  | ops {l : List SOp} {s s' : St} : Ev F (.ops l s) (.norm s') → Ev F (.code (.ops l) s) (.norm s'.tick)
  | nil (s : St) : Ev F (.ops [] s) (.norm s)
  | off {o : SOp} {r : List SOp} {s : St} {out : Out} : gon s.fr o.gd = false → Ev F (.ops r ⟨put s.fr o.dst .skip, s.mu⟩) out → Ev F (.ops (o :: r) s) out
  | op {o : SOp} {r : List SOp} {s : St} {out : Out} {v : FV} {μ : Mu} : gon s.fr o.gd = true → aop o.op (idOf s o.dst) s.fr s.mu = some (v, μ) →
      Ev F (.ops r ⟨put s.fr o.dst v, μ⟩) out → Ev F (.ops (o :: r) s) out
  | call {o : SOp} {r : List SOp} {s : St} {out : Out} {f : Opd} {us : List (Opd × List Sh)} {g : Nat} {caps args : List FV} {vs : List Vl} : gon s.fr o.gd = true → o.op = .call f us →
      callee s f = some (g, caps) → trav (fun a => frzA s.mu a.2 (opd s.fr a.1)) us = some args → Ev F (.call g (args ++ caps)) (.res vs) →
      Ev F (.ops r (landed s o.dst (fzIds s f us) vs)) out → Ev F (.ops (o :: r) s) out
  | icall {o : SOp} {r : List SOp} {s : St} {out : Out} {f : Opd} {us : List Opd} {g : Nat} {caps : List FV} {vs : List Vl} {μ : Mu} : gon s.fr o.gd = true → o.op = .icall f us →
      icallee s f = some (g, caps) → Ev F (.icall g (us.map (opd s.fr) ++ caps) s.mu.tick) (.ires vs μ) → Ev F (.ops r ⟨put s.fr o.dst (fvOf vs), μ⟩) out → Ev F (.ops (o :: r) s) out
  | seqn {a b : SCode} {s s' : St} {out : Out} : Ev F (.code a s) (.norm s') → Ev F (.code b s') out → Ev F (.code (.seq a b) s) out
  | seqx {a b : SCode} {s : St} {out : Out} : Ev F (.code a s) out → out.abrupt = true → Ev F (.code (.seq a b) s) out
  | cond {c : Opd} {x y : SCode} {s : St} {b : Bool} {out : Out} : opd s.fr c = vB b → Ev F (.code (if b = true then x else y) s) out → Ev F (.code (.cond c x y) s) out
  | block {id : Nat} {c : SCode} {s : St} {out : Out} : Ev F (.code c s) out → Ev F (.code (.block id c) s) (out.blk id)
  | loopn {c : SCode} {s s' : St} {out : Out} : Ev F (.code c s) (.norm s') → Ev F (.code (.loop c) s') out → Ev F (.code (.loop c) s) out
  | loopx {c : SCode} {s : St} {out : Out} : Ev F (.code c s) out → out.abrupt = true → Ev F (.code (.loop c) s) out
  | exit (n : Nat) (s : St) : Ev F (.code (.exit n) s) (.exit n s)
  | ret (s : St) : Ev F (.code .ret s) (.ret s)
  | fn {g : Nat} {f : SFun} {args : List FV} {out : Out} {s' : St} {vs : List Vl} : F g = some f → Ev F (.code f.code (entry args)) out → out.fin = some s' → retOf f.own f.res s' = some vs →
      Ev F (.call g args) (.res vs)
  | ifn {g : Nat} {f : SFun} {args : List FV} {μ : Mu} {out : Out} {s' : St} {vs : List Vl} : F g = some f → Ev F (.code f.code ⟨fun k => (nth args k).getD .skip, μ⟩) out → out.fin = some s' → trav (iret1 s') f.res = some vs →
      Ev F (.icall g args μ) (.ires vs s'.mu.tick)
  | ccl {g : Nat} {f : SFun} {e z : Nat} {ys : List (List Cell)} : F g = some f → f.code = .clone e z → ys.length ≤ lim → Ev F (.call g [.v (.c (.ro z ys))]) (.res [.c (.fresh e z ys)])
  | icl {g : Nat} {f : SFun} {e z : Nat} {x : FV} {ys : List (List Cell)} {μ : Mu} : F g = some f → f.code = .clone e z → elems μ z x = some ys → ys.length ≤ lim →
      Ev F (.icall g [x] μ) (.ires [.c (.own (μ.t + 1, 7))] (mkRow (mkRow μ.tick (μ.t + 1, 5) ⟨e, z, []⟩ true []) (μ.t + 1, 7) ⟨e, z, ys⟩ true [(μ.t + 1, 5)]).tick)
  | spi {g : Nat} {f : SFun} {k e z : Nat} {args : List FV} {μ μ' : Mu} {vs : List Vl} : F g = some f → f.code = .spec k e z → specStep k e z args μ = some (vs, μ') → Ev F (.icall g args μ) (.ires vs μ')

/-! ### It comes to one end -/
theorem Ev.det {F : Nat → Option SFun} {t : Task} {o o' : Out} (h : Ev F t o) : Ev F t o' → o = o' := by
  induction h generalizing o' with
  | skip s => intro h; cases h; rfl
  | ops _ ih => intro h; cases h with | ops h => cases ih h; rfl
  | nil s => intro h; cases h; rfl
  | off hg _ ih =>
    intro h
    cases h with
    | off _ h => exact ih h
    | op hg' _ _ => rw [hg] at hg'; cases hg'
    | call hg' _ _ _ _ _ => rw [hg] at hg'; cases hg'
    | icall hg' _ _ _ _ => rw [hg] at hg'; cases hg'
  | op hg ha _ ih =>
    intro h
    cases h with
    | off hg' _ => rw [hg] at hg'; cases hg'
    | op _ ha' h => rw [ha] at ha'; cases ha'; exact ih h
    | call _ ho _ _ _ _ => rw [ho] at ha; cases ha
    | icall _ ho _ _ _ => rw [ho] at ha; cases ha
  | call hg ho hc ha _ _ ih1 ih2 =>
    intro h
    cases h with
    | off hg' _ => rw [hg] at hg'; cases hg'
    | op _ ha' _ => rw [ho] at ha'; cases ha'
    | call _ ho' hc' ha' h1 h2 =>
      rw [ho] at ho'; cases ho'
      rw [hc] at hc'; cases hc'
      rw [ha] at ha'; cases ha'
      cases ih1 h1
      exact ih2 h2
    | icall _ ho' _ _ _ => rw [ho] at ho'; cases ho'
  | icall hg ho hc _ _ ih1 ih2 =>
    intro h
    cases h with
    | off hg' _ => rw [hg] at hg'; cases hg'
    | op _ ha' _ => rw [ho] at ha'; cases ha'
    | call _ ho' _ _ _ _ => rw [ho] at ho'; cases ho'
    | icall _ ho' hc' h1 h2 =>
      rw [ho] at ho'; cases ho'
      rw [hc] at hc'; cases hc'
      cases ih1 h1
      exact ih2 h2
  | seqn _ _ ih1 ih2 =>
    intro h
    cases h with
    | seqn h1 h2 => cases ih1 h1; exact ih2 h2
    | seqx h1 hx => cases ih1 h1; cases hx
  | seqx _ hx ih =>
    intro h
    cases h with
    | seqn h1 h2 => cases ih h1; cases hx
    | seqx h1 _ => exact ih h1
  | cond hc _ ih =>
    intro h
    cases h with
    | cond hc' h => rw [hc] at hc'; cases hc'; exact ih h
  | block _ ih => intro h; cases h with | block h => cases ih h; rfl
  | loopn _ _ ih1 ih2 =>
    intro h
    cases h with
    | loopn h1 h2 => cases ih1 h1; exact ih2 h2
    | loopx h1 hx => cases ih1 h1; cases hx
  | loopx _ hx ih =>
    intro h
    cases h with
    | loopn h1 h2 => cases ih h1; cases hx
    | loopx h1 _ => exact ih h1
  | exit n s => intro h; cases h; rfl
  | ret s => intro h; cases h; rfl
  | fn hF hev hf hr ih =>
    intro h
    cases h with
    | fn hF' h hf' hr' =>
      rw [hF] at hF'; cases hF'
      cases ih h
      rw [hf] at hf'; cases hf'
      rw [hr] at hr'; cases hr'; rfl
    | ccl hF' hc' _ =>
      rw [hF] at hF'; cases hF'
      rw [hc'] at hev; cases hev
  | ccl hF hc hl =>
    intro h
    cases h with
    | fn hF' h _ _ =>
      rw [hF] at hF'; cases hF'
      rw [hc] at h; cases h
    | ccl hF' hc' hl' =>
      rw [hF] at hF'; cases hF'
      rw [hc] at hc'; cases hc'; rfl
  | ifn hF hev hf hr ih =>
    intro h
    cases h with
    | ifn hF' h hf' hr' =>
      rw [hF] at hF'; cases hF'
      cases ih h
      rw [hf] at hf'; cases hf'
      rw [hr] at hr'; cases hr'; rfl
    | icl hF' hc' _ _ =>
      rw [hF] at hF'; cases hF'
      rw [hc'] at hev; cases hev
    | spi hF' hc' _ =>
      rw [hF] at hF'; cases hF'
      rw [hc'] at hev; cases hev
  | spi hF hc hs =>
    intro h
    cases h with
    | ifn hF' h _ _ =>
      rw [hF] at hF'; cases hF'
      rw [hc] at h; cases h
    | icl hF' hc' _ _ =>
      rw [hF] at hF'; cases hF'
      rw [hc] at hc'; cases hc'
    | spi hF' hc' hs' =>
      rw [hF] at hF'; cases hF'
      rw [hc] at hc'; cases hc'
      rw [hs] at hs'; cases hs'; rfl
  | icl hF hc he hl =>
    intro h
    cases h with
    | ifn hF' h _ _ =>
      rw [hF] at hF'; cases hF'
      rw [hc] at h; cases h
    | icl hF' hc' he' hl' =>
      rw [hF] at hF'; cases hF'
      rw [hc] at hc'; cases hc'
      rw [he] at he'; cases he'; rfl
    | spi hF' hc' _ =>
      rw [hF] at hF'; cases hF'
      rw [hc] at hc'; cases hc'

/-! ### The walk's rules -/
def Wp (F : Nat → Option SFun) (t : Task) (K : Out → Prop) : Prop := ∃ o, Ev F t o ∧ K o
def IC (F : Nat → Option SFun) (g : Nat) (args : List FV) (μ : Mu) (K : List Vl → Mu → Prop) : Prop := ∃ vs μ', Ev F (.icall g args μ) (.ires vs μ') ∧ K vs μ'
def FC (F : Nat → Option SFun) (g : Nat) (args : List FV) (K : List Vl → Prop) : Prop := ∃ vs, Ev F (.call g args) (.res vs) ∧ K vs
/-- An outcome that may be none. -/
def Some_ {α : Type} (x : Option α) (K : α → Prop) : Prop := ∃ a, x = some a ∧ K a
section
variable {α β : Type} {K : α → Prop}
theorem some_some (a : α) : Some_ (some a) K ↔ K a := by simp [Some_]
theorem some_none : Some_ (none : Option α) K ↔ False := by simp [Some_]
theorem some_map (x : Option β) (f : β → α) : Some_ (x.map f) K ↔ Some_ x fun b => K (f b) := by cases x <;> simp [Some_]
theorem some_bind (x : Option β) (f : β → Option α) : Some_ (x.bind f) K ↔ Some_ x fun b => Some_ (f b) K := by cases x <;> simp [Some_]
theorem some_if (c : Prop) [Decidable c] (x : Option α) : Some_ (if c then x else none) K ↔ c ∧ Some_ x K := by by_cases h : c <;> simp [Some_, h]
theorem some_of {x : Option α} {a : α} (h : x = some a) : Some_ x K ↔ K a := by simp [Some_, h]
end
variable {F : Nat → Option SFun} {K : Out → Prop} {s : St}
theorem FC.of {g : Nat} {args : List FV} {vs : List Vl} (h : Ev F (.call g args) (.res vs)) (K : List Vl → Prop) : FC F g args K ↔ K vs :=
  ⟨fun ⟨vs', h', hk⟩ => by cases h.det h'; exact hk, fun hk => ⟨vs, h, hk⟩⟩
theorem FC.ev {g : Nat} {args : List FV} {vs : List Vl} (h : FC F g args (· = vs)) : Ev F (.call g args) (.res vs) := by
  obtain ⟨_, h, rfl⟩ := h; exact h
/-- What a function comes to, as a rule. -/
theorem FC.rule {g : Nat} {args : List FV} {vs : List Vl} (h : FC F g args (· = vs)) (K : List Vl → Prop) : FC F g args K ↔ K vs := FC.of h.ev K
theorem wp_skip : Wp F (.code .skip s) K ↔ K (.norm s) := ⟨fun ⟨_, h, k⟩ => by cases h; exact k, fun k => ⟨_, .skip s, k⟩⟩
theorem wp_exit {n : Nat} : Wp F (.code (.exit n) s) K ↔ K (.exit n s) := ⟨fun ⟨_, h, k⟩ => by cases h; exact k, fun k => ⟨_, .exit n s, k⟩⟩
theorem wp_ret : Wp F (.code .ret s) K ↔ K (.ret s) := ⟨fun ⟨_, h, k⟩ => by cases h; exact k, fun k => ⟨_, .ret s, k⟩⟩
theorem wp_nil : Wp F (.ops [] s) K ↔ K (.norm s) := ⟨fun ⟨_, h, k⟩ => by cases h; exact k, fun k => ⟨_, .nil s, k⟩⟩
def Then (K : Out → Prop) (n : St → Prop) : Out → Prop
  | .norm s => n s
  | .exit m s => K (.exit m s)
  | .ret s => K (.ret s)
  | .res _ => False
  | .ires _ _ => False
theorem wp_ops {l : List SOp} : Wp F (.code (.ops l) s) K ↔ Wp F (.ops l s) (Then (fun _ => False) fun s' => K (.norm s'.tick)) := by
  constructor
  · rintro ⟨_, h, k⟩; cases h with | ops h => exact ⟨_, h, k⟩
  · rintro ⟨o, h, k⟩; cases o <;> simp only [Then] at k; exact ⟨_, .ops h, k⟩
theorem wp_seq {a b : SCode} : Wp F (.code (.seq a b) s) K ↔ Wp F (.code a s) (Then K fun s' => Wp F (.code b s') K) := by
  constructor
  · rintro ⟨o, h, k⟩
    cases h with
    | seqn h1 h2 => exact ⟨_, h1, _, h2, k⟩
    | seqx h1 hx => exact ⟨_, h1, by cases o <;> simp only [Out.abrupt] at hx <;> first | exact k | cases hx⟩
  · rintro ⟨o, h, k⟩
    cases o with
    | norm s' => obtain ⟨o', h', k'⟩ := k; exact ⟨_, .seqn h h', k'⟩
    | exit n s' => exact ⟨_, .seqx h rfl, k⟩
    | ret s' => exact ⟨_, .seqx h rfl, k⟩
    | res vs => exact k.elim
    | ires vs μ => exact k.elim
theorem wp_cond {c : Opd} {x y : SCode} : Wp F (.code (.cond c x y) s) K ↔ ∃ b, opd s.fr c = vB b ∧ Wp F (.code (if b = true then x else y) s) K := by
  constructor
  · rintro ⟨_, h, k⟩; cases h with | cond hc h => exact ⟨_, hc, _, h, k⟩
  · rintro ⟨b, hc, _, h, k⟩; exact ⟨_, .cond hc h, k⟩
/-- The walk's own form: the test's value is at hand. -/
def Test (v : FV) (x y : Prop) : Prop := ∃ b, v = vB b ∧ (if b = true then x else y)
theorem wp_cond' {c : Opd} {x y : SCode} : Wp F (.code (.cond c x y) s) K ↔ Test (opd s.fr c) (Wp F (.code x s) K) (Wp F (.code y s) K) := by
  rw [wp_cond]; unfold Test
  constructor
  · rintro ⟨b, h, k⟩; exact ⟨b, h, by cases b <;> exact k⟩
  · rintro ⟨b, h, k⟩; exact ⟨b, h, by cases b <;> exact k⟩
theorem test_val (b : Bool) (x y : Prop) : Test (vB b) x y ↔ if b = true then x else y := by
  unfold Test
  constructor
  · rintro ⟨c, h, k⟩; cases h; exact k
  · exact fun k => ⟨b, rfl, k⟩
theorem wp_block {id : Nat} {c : SCode} : Wp F (.code (.block id c) s) K ↔ Wp F (.code c s) fun o => K (o.blk id) := by
  constructor
  · rintro ⟨_, h, k⟩; cases h with | block h => exact ⟨_, h, k⟩
  · rintro ⟨_, h, k⟩; exact ⟨_, .block h, k⟩
theorem wp_loop {c : SCode} : Wp F (.code (.loop c) s) K ↔ Wp F (.code c s) (Then K fun s' => Wp F (.code (.loop c) s') K) := by
  constructor
  · rintro ⟨o, h, k⟩
    cases h with
    | loopn h1 h2 => exact ⟨_, h1, _, h2, k⟩
    | loopx h1 hx => exact ⟨_, h1, by cases o <;> simp only [Out.abrupt] at hx <;> first | exact k | cases hx⟩
  · rintro ⟨o, h, k⟩
    cases o with
    | norm s' => obtain ⟨o', h', k'⟩ := k; exact ⟨_, .loopn h h', k'⟩
    | exit n s' => exact ⟨_, .loopx h rfl, k⟩
    | ret s' => exact ⟨_, .loopx h rfl, k⟩
    | res vs => exact k.elim
    | ires vs μ => exact k.elim
/-- A loop: what holds at each round's head, and a measure that falls. -/
theorem wp_loop_inv {c : SCode} (J : Nat → St → Prop) {n : Nat} (h0 : J n s)
    (hr : ∀ m s, J m s → Wp F (.code c s) (Then K fun s' => ∃ m', m' < m ∧ J m' s')) : Wp F (.code (.loop c) s) K := by
  induction n using Nat.strongRecOn generalizing s with
  | _ n ih =>
    obtain ⟨o, h, k⟩ := hr n s h0
    refine wp_loop.2 ⟨o, h, ?_⟩
    cases o with
    | norm s' => obtain ⟨m', hm, hJ⟩ := k; exact ih m' hm hJ
    | exit n s' => exact k
    | ret s' => exact k
    | res vs => exact k.elim
    | ires vs μ => exact k.elim
theorem wp_mono {t : Task} {K' : Out → Prop} (h : Wp F t K) (hk : ∀ o, K o → K' o) : Wp F t K' := let ⟨o, e, k⟩ := h; ⟨o, e, hk o k⟩
theorem wp_op {d : Option Nat} {op : AOp} {g : Option (Nat × Bool)} {r : List SOp} (hc : op.isCall = false) :
    Wp F (.ops (⟨d, op, g⟩ :: r) s) K ↔ if gon s.fr g = true then Some_ (aop op (idOf s d) s.fr s.mu) (fun q => Wp F (.ops r ⟨put s.fr d q.1, q.2⟩) K) else Wp F (.ops r ⟨put s.fr d .skip, s.mu⟩) K := by
  constructor
  · rintro ⟨o, h, k⟩
    cases h with
    | off hg h => simp only at hg; rw [if_neg (by rw [hg]; simp)]; exact ⟨o, h, k⟩
    | op hg ha h => simp only at hg; rw [if_pos hg]; exact ⟨_, ha, o, h, k⟩
    | call _ ho _ _ _ _ => simp only at ho; subst ho; cases hc
    | icall _ ho _ _ _ => simp only at ho; subst ho; cases hc
  · intro h
    split at h
    · rename_i hg; obtain ⟨q, ha, o, h, k⟩ := h; exact ⟨o, .op hg ha h, k⟩
    · rename_i hg; obtain ⟨o, h, k⟩ := h; exact ⟨o, .off (by simpa using hg) h, k⟩
theorem wp_call {d : Option Nat} {f : Opd} {us : List (Opd × List Sh)} {g : Option (Nat × Bool)} {r : List SOp} :
    Wp F (.ops (⟨d, .call f us, g⟩ :: r) s) K ↔ if gon s.fr g = true then Some_ (callee s f) (fun c => Some_ (trav (fun a => frzA s.mu a.2 (opd s.fr a.1)) us) fun args =>
      FC F c.1 (args ++ c.2) fun vs => Wp F (.ops r (landed s d (fzIds s f us) vs)) K) else Wp F (.ops r ⟨put s.fr d .skip, s.mu⟩) K := by
  constructor
  · rintro ⟨o, h, k⟩
    cases h with
    | off hg h => simp only at hg; rw [if_neg (by rw [hg]; simp)]; exact ⟨o, h, k⟩
    | op hg ha h => cases ha
    | call hg ho hc ha he h => simp only at hg ho; cases ho; rw [if_pos hg]; exact ⟨_, hc, _, ha, _, he, o, h, k⟩
    | icall _ ho _ _ _ => cases ho
  · intro h
    split at h
    · rename_i hg; obtain ⟨c, hc, args, ha, vs, he, o, h, k⟩ := h; exact ⟨o, .call hg rfl hc ha he h, k⟩
    · rename_i hg; obtain ⟨o, h, k⟩ := h; exact ⟨o, .off (by simpa using hg) h, k⟩
theorem wp_icall {d : Option Nat} {f : Opd} {us : List Opd} {g : Option (Nat × Bool)} {r : List SOp} :
    Wp F (.ops (⟨d, .icall f us, g⟩ :: r) s) K ↔ if gon s.fr g = true then Some_ (icallee s f) (fun c =>
      IC F c.1 (us.map (opd s.fr) ++ c.2) s.mu.tick fun vs μ => Wp F (.ops r ⟨put s.fr d (fvOf vs), μ⟩) K) else Wp F (.ops r ⟨put s.fr d .skip, s.mu⟩) K := by
  constructor
  · rintro ⟨o, h, k⟩
    cases h with
    | off hg h => simp only at hg; rw [if_neg (by rw [hg]; simp)]; exact ⟨o, h, k⟩
    | op hg ha h => cases ha
    | call _ ho _ _ _ _ => cases ho
    | icall hg ho hc he h => simp only at hg ho; cases ho; rw [if_pos hg]; exact ⟨_, hc, _, _, he, o, h, k⟩
  · intro h
    split at h
    · rename_i hg; obtain ⟨c, hc, vs, μ, he, o, h, k⟩ := h; exact ⟨o, .icall hg rfl hc he h, k⟩
    · rename_i hg; obtain ⟨o, h, k⟩ := h; exact ⟨o, .off (by simpa using hg) h, k⟩
def FinI (res : List SRes) (K : List Vl → Mu → Prop) : Out → Prop
  | .norm s => Some_ (trav (iret1 s) res) fun vs => K vs s.mu.tick
  | .ret s => Some_ (trav (iret1 s) res) fun vs => K vs s.mu.tick
  | _ => False
theorem ic_enter {g : Nat} {f : SFun} (hF : F g = some f) (hn : f.code.isClone = false) {args : List FV} {μ : Mu} {K : List Vl → Mu → Prop} : IC F g args μ K ↔ Wp F (.code f.code ⟨fun k => (nth args k).getD .skip, μ⟩) (FinI f.res K) := by
  constructor
  · rintro ⟨vs, μ', h, k⟩
    cases h with
    | ifn hF' h hf hr =>
      rw [hF] at hF'; cases hF'
      refine ⟨_, h, ?_⟩
      revert hf
      rename_i out _
      cases out <;> intro hf <;> simp only [Out.fin] at hf <;> cases hf <;> exact ⟨vs, hr, k⟩
    | icl hF' hc _ _ => rw [hF] at hF'; cases hF'; rw [hc] at hn; cases hn
    | spi hF' hc _ => rw [hF] at hF'; cases hF'; rw [hc] at hn; cases hn
  · rintro ⟨o, h, k⟩
    cases o <;> simp only [FinI] at k
    · obtain ⟨vs, hr, k⟩ := k; exact ⟨vs, _, .ifn hF h rfl hr, k⟩
    · obtain ⟨vs, hr, k⟩ := k; exact ⟨vs, _, .ifn hF h rfl hr, k⟩
/-- A clone: an empty row, and the row of the elements behind it. -/
theorem ic_clone {g : Nat} {f : SFun} {e z : Nat} (hF : F g = some f) (hc : f.code = .clone e z) {x : FV} {μ : Mu} {K : List Vl → Mu → Prop} :
    IC F g [x] μ K ↔ Some_ (elems μ z x) fun ys => ys.length ≤ lim ∧ K [.c (.own (μ.t + 1, 7))] (mkRow (mkRow μ.tick (μ.t + 1, 5) ⟨e, z, []⟩ true []) (μ.t + 1, 7) ⟨e, z, ys⟩ true [(μ.t + 1, 5)]).tick := by
  constructor
  · rintro ⟨vs, μ', h, k⟩
    cases h with
    | ifn hF' h hf hr => rw [hF] at hF'; cases hF'; rw [hc] at h; cases h
    | icl hF' hc' he hl => rw [hF] at hF'; cases hF'; rw [hc] at hc'; cases hc'; exact ⟨_, he, hl, k⟩
    | spi hF' hc' _ => rw [hF] at hF'; cases hF'; rw [hc] at hc'; cases hc'
  · rintro ⟨ys, he, hl, k⟩
    exact ⟨_, _, .icl hF hc he hl, k⟩
theorem ic_spec {g k e z : Nat} {res : List SRes} {own : Bool} (hF : F g = some ⟨.spec k e z, res, own⟩) {args : List FV} {μ : Mu} {K : List Vl → Mu → Prop} :
    IC F g args μ K ↔ Some_ (specStep k e z args μ) fun r => K r.1 r.2 := by
  constructor
  · rintro ⟨vs, μ', h, k⟩
    cases h with
    | ifn hF' h hf hr => rw [hF] at hF'; cases hF'; cases h
    | icl hF' hc' he hl => rw [hF] at hF'; cases hF'; cases hc'
    | spi hF' hc' hs => rw [hF] at hF'; cases hF'; cases hc'; exact ⟨_, hs, k⟩
  · rintro ⟨⟨vs, μ'⟩, hs, k⟩
    exact ⟨_, _, .spi hF rfl hs, k⟩
def Fin (f : SFun) (K : List Vl → Prop) : Out → Prop
  | .norm s => Some_ (retOf f.own f.res s) K
  | .ret s => Some_ (retOf f.own f.res s) K
  | _ => False
theorem fc_enter {g : Nat} {f : SFun} (hF : F g = some f) (hn : f.code.isClone = false) {args : List FV} {K : List Vl → Prop} : FC F g args K ↔ Wp F (.code f.code (entry args)) (Fin f K) := by
  constructor
  · rintro ⟨vs, h, k⟩
    cases h with
    | fn hF' h hf hr =>
      rw [hF] at hF'; cases hF'
      refine ⟨_, h, ?_⟩
      revert hf
      rename_i out _
      cases out <;> intro hf <;> simp only [Out.fin] at hf <;> cases hf <;> exact ⟨vs, hr, k⟩
    | ccl hF' hc _ => rw [hF] at hF'; cases hF'; rw [hc] at hn; cases hn
  · rintro ⟨o, h, k⟩
    cases o <;> simp only [Fin] at k
    · obtain ⟨vs, hr, k⟩ := k; exact ⟨vs, .fn hF h rfl hr, k⟩
    · obtain ⟨vs, hr, k⟩ := k; exact ⟨vs, .fn hF h rfl hr, k⟩
/-- A clone of what is handed over. -/
theorem fc_clone {g e z : Nat} {res : List SRes} {own : Bool} (hF : F g = some ⟨.clone e z, res, own⟩) {ys : List (List Cell)} {K : List Vl → Prop} : FC F g [.v (.c (.ro z ys))] K ↔ ys.length ≤ lim ∧ K [.c (.fresh e z ys)] := by
  constructor
  · rintro ⟨vs, h, k⟩
    cases h with
    | fn hF' h _ _ => rw [hF] at hF'; cases hF'; cases h
    | ccl hF' hc hl => rw [hF] at hF'; cases hF'; cases hc; exact ⟨hl, k⟩
  · rintro ⟨hl, k⟩
    exact ⟨_, .ccl hF rfl hl, k⟩
end Go.Proofs.Ytndabolfhhppkaa.Am
