/- From the given program's code to the abstract machine's: what can be told of an operation by its types alone. No condition. -/
import Derived.Test.YtndabolfhhppkaaAm
import Derived.Orders
import Derived.Laws.StructEq
namespace Go.Proofs.Ytndabolfhhppkaa.Am
open Go

def sc : Value → Option Cell
  | .int k n => some (.val (.int k n))
  | .bool b => some (.val (.bool b))
  | .slice none 0 0 => some .nil
  | .nilFunc => some .any
  | .map none => some .any
  | _ => none
def vl : Value → Option Vl
  | .agg cs => (trav sc cs.toList).map .agg
  | v => (sc v).map .c
def zeroOf (P : Program) (t : TypeId) : Option (List Cell) := ((P.info? t).bind (·.zero)).bind fun z => trav sc z.cells.toList
def opdOf : Operand → Option Opd
  | .tmp t => some (.t t)
  | .const v => (vl v).map .k
  | .func f => some (.k (.c (.clo f [])))
  | _ => none
def opdO : Option Operand → Option (Option Opd)
  | none => some none
  | some x => (opdOf x).map some
def szOf (P : Program) (t : TypeId) : Option Nat := (P.info? t).bind fun i => if i.size = 0 then none else some i.size
def aggT (P : Program) (t : TypeId) : Option Bool :=
  match P.underlying t with
  | some (.struct _) => some true
  | some (.array _ _) => some true
  | some _ => some false
  | none => none
def sliceT (P : Program) (t : TypeId) : Option TypeId :=
  match P.underlying t with
  | some (.slice e) => some e
  | _ => none
def smallT (P : Program) (t : TypeId) : Bool := ((P.info? t).map fun i => decide (i.bytes ≤ 4096)).getD false
/-- A struct of whole numbers and bools, its fields one behind the other from 'j' on. -/
def flatF (P : Program) : Nat → List Field → Option (List Bool)
  | _, [] => some []
  | j, f :: r =>
    if f.offset = j ∧ (f.name == "_") = false then
      match P.underlying f.type, flatF P (j + 1) r with
      | some (.int _), some l => some (true :: l)
      | some .bool, some l => some (false :: l)
      | _, _ => none
    else none
def flatT (P : Program) (t : TypeId) : Option (List Bool) :=
  match P.underlying t with
  | some (.struct fs) => if P.stoodInHeld t = false ∧ P.eqGuardType P.depth t = false then flatF P 0 fs.toList else none
  | _ => none
def fieldT (P : Program) (s : TypeId) (f : Nat) : Option Field :=
  match P.underlying s with
  | some (.struct fs) => fs[f]?
  | _ => none
def sameN : Operand → Operand → Bool
  | .tmp a, .tmp b => a == b
  | .const (.int .i64 a), .const (.int .i64 b) => a == b
  | _, _ => false
def isS : Sh → Bool
  | .f => false
  | _ => true
/-- The cells of a type. -/
def shOf (P : Program) : Nat → TypeId → Option (List Sh)
  | 0, _ => none
  | n + 1, t =>
    match P.underlying t with
    | some (.int _) => some [.d]
    | some .bool => some [.d]
    | some (.slice e) => (szOf P e).map fun z => [.s e z]
    | some (.func _ _ _) => some [.f]
    | some (.struct fs) => (trav (fun f : Field => shOf P n f.type) fs.toList).map List.flatten
    | some (.array k e) => if k ≤ 64 then (shOf P n e).map fun l => (List.replicate k l).flatten else none
    | _ => none
def datSh (P : Program) (t : TypeId) : Option (List Sh) := (shOf P 4 t).bind fun l => if l.all isS = true then some l else none
/-- An argument's cells: a function alone, or data. -/
def argSh (P : Program) (t : TypeId) : Option (List Sh) :=
  match P.underlying t with
  | some (.func _ _ _) => some [.f]
  | _ => datSh P t
def args? (P : Program) : List Operand → List TypeId → Option (List (Opd × List Sh))
  | [], [] => some []
  | x :: r, t :: q =>
    match opdOf x, argSh P t, args? P r q with
    | some a, some h, some l => some ((a, h) :: l)
    | _, _, _ => none
  | _, _ => none
def bld? (P : Program) (fs : Array Field) : List (Nat × Operand) → Option (List (Nat × Nat × Opd))
  | [] => some []
  | (k, x) :: r =>
    match fs[k]?, opdOf x, bld? P fs r with
    | some f, some y, some q => (szOf P f.type).map fun z => (f.offset, z, y) :: q
    | _, _, _ => none
def bsl? : List (Nat × Operand) → Option (List (Nat × Opd))
  | [] => some []
  | (k, x) :: r =>
    match opdOf x, bsl? r with
    | some y, some q => some ((k, y) :: q)
    | _, _ => none
/-- The functions that are called in the caller's memory. -/
def inlNames : List String := ["skiarea/skiarealaw10.Small", "skiarea/sweep.push", "skiarea/skiarearef56.step", "slices.IndexFunc[[]int,int", "slices.IndexFunc[[]skiarea/api.Ride", "slices.IndexFunc[[]skiarea/api.Edge", "skiarea/graph.costs", "skiarea/uplink.numbered", "slices.Insert[", "slices.Delete[", "slices.DeleteFunc["]
def inlName (name : String) : Bool := inlNames.any fun n => n.toList.isPrefixOf name.toList
def inlined (P : Program) : Operand → Bool
  | .func g => ((P.funcs[g]?).map fun fn => inlName fn.name).getD false
  | _ => false
/-- Calls of a function value that share the caller's memory: of three numbers, or of a struct of four. -/
def inlDyn (P : Program) (f : Operand) (ts : List TypeId) : Bool :=
  match f with
  | .tmp _ =>
    match ts with
    | [a, b, c] => [a, b, c].all fun t => (match P.underlying t with | some (.int _) => true | _ => false)
    | [t] => flatT P t == some [true, true, true, true]
    | _ => false
  | _ => false
/-- A map by a number: its elements' type. -/
def mapT (P : Program) (t : TypeId) : Option TypeId :=
  match P.underlying t with
  | some (.map k e) =>
    match P.underlying k with
    | some (.int .i64) => some e
    | _ => none
  | _ => none
/-- The zero value, in one piece. -/
def zeroV (P : Program) (t : TypeId) : Option Vl := ((P.info? t).bind (·.zero)).bind fun z => (vl z).bind fun v => if (vlv v).isSome = true then some v else none
def mu0 : Mu := ⟨fun _ => none, fun _ => none, fun _ => false, fun _ => false, 0, fun _ => none⟩
/-- A zero element's cells, as a row's elements are told. -/
def zeroD (sh : Option (List Sh)) (z : List Cell) : Option (List Cell) := sh.bind fun h => datL mu0 h z
def compOp (P : Program) : Op → Option AOp
  | .move x => (opdOf x).map .mv
  | .assign x => (opdOf x).map .mv
  | .pick c a b =>
    match opdOf c, opdOf a, opdOf b with
    | some c, some a, some b => some (.pick c a b)
    | _, _, _ => none
  | .box _ x => (opdOf x).map .box
  | .alloc t => (zeroOf P t).map .alloc
  | .load t a =>
    match aggT P t, szOf P t, opdOf a with
    | some ag, some z, some a => some (.load ag z a)
    | _, _, _ => none
  | .store t a x =>
    match szOf P t, opdOf a, opdOf x with
    | some z, some a, some x => some (.store ((datSh P t).getD []) z a x)
    | _, _, _ => none
  | .binOp op t x y _ =>
    match opdOf x, opdOf y with
    | some x, some y =>
      match P.underlying t with
      | some (.int _) => some (.bin op x y)
      | some .bool =>
        match op with
        | .eql => some (.eqb false x y)
        | .neq => some (.eqb true x y)
        | _ => none
      | _ =>
        match flatT P t with
        | none => none
        | some ks =>
          match op with
          | .eql => some (.eqa false ks x y)
          | .neq => some (.eqa true ks x y)
          | _ => none
    | _, _ => none
  | .unOp op _ x => (opdOf x).map (.un op)
  | .convert s d x =>
    match P.underlying s, P.underlying d, opdOf x with
    | some (.int _), some (.int k), some x => some (.conv k x)
    | _, _, _ => none
  | .makeFunc (.func g) first caps => if first.size = 0 then (trav opdOf caps.toList).map (.mkfn g) else none
  | .build t parts =>
    match P.underlying t, zeroOf P t with
    | some (.struct fs), some z => if (trav (fun f : Field => szOf P f.type) fs.toList).isSome = true then (bld? P fs parts.toList).map (.build z) else none
    | _, _ => none
  | .buildSlice t n parts =>
    match sliceT P t with
    | none => none
    | some e =>
      match szOf P e, (zeroOf P e).bind (zeroD (datSh P e)), bsl? parts.toList, datSh P e with
      | some z, some zero, some ps, some sh => if n * z ≤ 4096 ∧ zero.length = z then some (.bsl e z sh (List.replicate n zero) ps) else none
      | _, _, _, _ => none
  | .makeSlice t l c =>
    match sliceT P t with
    | none => none
    | some e =>
      match szOf P e, (zeroOf P e).bind (zeroD (datSh P e)), opdOf l with
      | some z, some zero, some l' => if sameN l c = true ∧ zero.length = z ∧ smallT P e = true then some (.mks e z zero l') else none
      | _, _, _ => none
  | .slice t x lo hi mx =>
    match (sliceT P t).bind (szOf P), opdOf x, opdO lo, opdO hi, opdO mx with
    | some z, some x, some lo, some hi, some mx => some (.slc z x lo hi mx)
    | _, _, _, _, _ => none
  | .fieldAddr s x f =>
    match fieldT P s f, opdOf x with
    | some fd, some x => (szOf P fd.type).map fun _ => .fad x fd.offset
    | _, _ => none
  | .field s x f =>
    match fieldT P s f, opdOf x with
    | some fd, some x =>
      match aggT P fd.type, szOf P fd.type with
      | some ag, some z => some (.fld ag fd.offset z x)
      | _, _ => none
    | _, _ => none
  | .indexAddr t x i =>
    match (sliceT P t).bind (szOf P), opdOf x, opdOf i with
    | some z, some x, some i => some (.iad z x i)
    | none, some x, some i =>
      match P.underlying t with
      | some (.array n e) => (szOf P e).map fun z => .iap z n x i
      | _ => none
    | _, _, _ => none
  | .index t x i =>
    match P.underlying t, opdOf x, opdOf i with
    | some (.array n e), some x, some i =>
      match aggT P e, szOf P e with
      | some ag, some z => some (.idx ag z n x i)
      | _, _ => none
    | _, _, _ => none
  | .extract x k => (opdOf x).map fun x => .ext x k
  | .makeMap t none => (mapT P t).map fun _ => .mkm
  | .insert t m k x =>
    match mapT P t, opdOf m, opdOf k, opdOf x with
    | some _, some m, some k, some x => some (.mset m k x)
    | _, _, _, _ => none
  | .mapUpdate t m k x =>
    match mapT P t, opdOf m, opdOf k, opdOf x with
    | some _, some m, some k, some x => some (.mset m k x)
    | _, _, _, _ => none
  | .lookup t m k ok =>
    match (mapT P t).bind (zeroV P), opdOf m, opdOf k with
    | some z, some m, some k => some (.mget ok z m k)
    | _, _, _ => none
  | .call c =>
    match c.callee with
    | .value f =>
      match inlined P f || inlDyn P f c.argTypes.toList with
      | true =>
        match opdOf f, trav opdOf c.args.toList with
        | some f, some us => some (.icall f us)
        | _, _ => none
      | false =>
        match opdOf f, args? P c.args.toList c.argTypes.toList with
        | some f, some us => some (.call f us)
        | _, _ => none
    | .builtin .len =>
      match c.args.toList, c.argTypes.toList with
      | [x], [t] =>
        match (sliceT P t).bind (szOf P), opdOf x with
        | some z, some x => some (.len z x)
        | none, some x => (mapT P t).map fun _ => .mlen x
        | _, _ => none
      | _, _ => none
    | .builtin .delete =>
      match c.args.toList, c.argTypes.toList with
      | [m, k], [t, _] =>
        match mapT P t, opdOf m, opdOf k with
        | some _, some m, some k => some (.mdel m k)
        | _, _, _ => none
      | _, _ => none
    | .builtin .append =>
      match c.args.toList, c.argTypes.toList with
      | [s, x], [t, t'] =>
        match sliceT P t, opdOf s, opdOf x with
        | some e, some s, some x => if t = t' ∧ smallT P e = true ∧ (((P.info? e).bind (·.zero)).map fun u => u.cells.size) = szOf P e then (szOf P e).map fun z => .app e z s x else none
        | _, _, _ => none
      | _, _ => none
    | .builtin .clear =>
      match c.args.toList, c.argTypes.toList with
      | [x], [t] =>
        match sliceT P t with
        | none => none
        | some e =>
          match szOf P e, (zeroOf P e).bind (zeroD (datSh P e)), opdOf x with
          | some z, some zero, some x => if zero.length = z then some (.clr zero z x) else none
          | _, _, _ => none
      | _, _ => none
    | .builtin .min =>
      match c.args.toList with
      | [x, y] =>
        match opdOf x, opdOf y with
        | some x, some y => some (.mnx false x y)
        | _, _ => none
      | _ => none
    | .builtin .max =>
      match c.args.toList with
      | [x, y] =>
        match opdOf x, opdOf y with
        | some x, some y => some (.mnx true x y)
        | _, _ => none
      | _ => none
    | _ => none
  | _ => none

def opds : AOp → List Opd
  | .mv x => [x]
  | .pick c a b => [c, a, b]
  | .box x => [x]
  | .alloc _ => []
  | .load _ _ a => [a]
  | .store _ _ a x => [a, x]
  | .bin _ x y => [x, y]
  | .eqa _ _ x y => [x, y]
  | .eqb _ x y => [x, y]
  | .un _ x => [x]
  | .conv _ x => [x]
  | .mkfn _ caps => caps
  | .build _ parts => parts.map fun p => p.2.2
  | .bsl _ _ _ _ parts => parts.map fun p => p.2
  | .mks _ _ _ n => [n]
  | .slc _ x lo hi mx => x :: (lo.toList ++ hi.toList ++ mx.toList)
  | .fad x _ => [x]
  | .fld _ _ _ x => [x]
  | .iad _ x i => [x, i]
  | .idx _ _ _ x i => [x, i]
  | .ext x _ => [x]
  | .len _ x => [x]
  | .app _ _ s x => [s, x]
  | .mnx _ x y => [x, y]
  | .tl _ x lo => [x, lo]
  | .clr _ _ x => [x]
  | .ldo _ _ _ a => [a]
  | .stn _ d _ x => [.t d, x]
  | .iap _ _ x i => [x, i]
  | .mkm => []
  | .mset m k x => [m, k, x]
  | .mget _ _ m k => [m, k]
  | .mlen m => [m]
  | .mdel m k => [m, k]
  | .call f us => f :: us.map fun u => u.1
  | .icall f us => f :: us
def looksO : Opd → List Nat
  | .t s => [s]
  | .k _ => []
def looksS (o : SOp) : List Nat := (opds o.op).flatMap looksO ++ (o.gd.toList.map fun q => q.1)
def okC : Cell → Bool
  | .val _ => true
  | .nil => true
  | .clo _ _ => true
  | _ => false
def okO : Opd → Bool
  | .t _ => true
  | .k (.c x) => okC x
  | .k (.agg cs) => cs.all okC
/-- What an operation touches: 0 the frame alone, 1 it reads the memory or adds to it, 2 an append, 3 a store. -/
def kindOf : AOp → Nat
  | .mv _ => 0
  | .pick _ _ _ => 0
  | .bin _ _ _ => 0
  | .eqa _ _ _ _ => 0
  | .eqb _ _ _ => 0
  | .un _ _ => 0
  | .conv _ _ => 0
  | .fad _ _ => 0
  | .fld _ _ _ _ => 0
  | .idx _ _ _ _ _ => 0
  | .ext _ _ => 0
  | .mnx _ _ _ => 0
  | .build _ _ => 0
  | .mkfn _ _ => 0
  | .iap _ _ _ _ => 0
  | .store _ _ _ _ => 3
  | .stn _ _ _ _ => 3
  | .clr _ _ _ => 3
  | .icall _ _ => 4
  | .mkm => 4
  | .mset _ _ _ => 3
  | .mget _ _ _ _ => 4
  | .mlen _ => 4
  | .mdel _ _ => 4
  | .app _ _ _ _ => 2
  | _ => 1
/-- May two operations that no edge orders be taken either way? -/
def isLdo : AOp → Bool
  | .ldo _ _ _ _ => true
  | _ => false
def isStn : AOp → Bool
  | .stn _ _ _ _ => true
  | _ => false
def ldSt : AOp → AOp → Bool
  | .ldo q _ _ _, .stn o d _ _ => if o = true then q == some d else q == none
  | _, _ => false
def apartK (a b : AOp) : Bool := kindOf a == 0 || kindOf b == 0 || decide (kindOf a + kindOf b ≤ 3) || ldSt a b
def apartS (p q : SOp) : Bool :=
  (match p.dst with
    | some d => !(looksS q).contains d && q.dst != some d
    | none => true) &&
  (match q.dst with
    | some d => !(looksS p).contains d
    | none => true) && apartK p.op q.op
def guardOf (ops : Array Oper) : Option (Nat × Bool) → Option (Option (Nat × Bool))
  | none => some none
  | some (j, b) => ((ops[j]?).bind (·.dst)).map fun d => some (d, b)
def isClear : Op → Bool
  | .call c =>
    match c.callee with
    | .builtin .clear => true
    | _ => false
  | _ => false
def isStore : Op → Bool
  | .store _ _ _ => true
  | _ => false
def isAlloc : Op → Bool
  | .alloc _ => true
  | _ => false
/-- The one store of a region that only copies a box out: to a slot's own box, not made here; the region's last operation is no other write. -/
def oldStore (ops : Array Oper) : Option Nat :=
  match (ops.toList.filter fun o => isStore o.op).map fun o => o.op with
  | [Op.store _ (.tmp d) (.tmp x)] => if ops.toList.all (fun o => o.dst != some d && (match o.op with | .load _ _ | .fieldAddr _ _ _ | .binOp _ _ _ _ _ | .assign _ | .move _ | .store _ _ _ => true | _ => false)) = true ∧ ops.toList.any (fun o => o.dst == some x && (match o.op with | .load _ _ => true | _ => false)) = true then some d else none
  | _ => none
/-- What an operation is among those of its region, where this tells more: a slice that is cleared; loads and stores that may be taken either way. -/
def altOp (P : Program) (ops : Array Oper) : Op → Option AOp
  | .slice t x (some lo) none none =>
    if ops.toList.any (fun o => isClear o.op) = true then
      match (sliceT P t).bind (szOf P), opdOf x, opdOf lo with
      | some z, some x, some lo => some (.tl z x lo)
      | _, _, _ => none
    else none
  | .load t (.tmp a) =>
    if 2 ≤ (ops.toList.filter fun o => isStore o.op).length ∧ ops.toList.all (fun o => o.dst != some a) = true then
      match aggT P t, szOf P t with
      | some ag, some z => some (.ldo none ag z (.t a))
      | _, _ => none
    else
      match oldStore ops with
      | some d =>
        match aggT P t, szOf P t with
        | some ag, some z => some (.ldo (some d) ag z (.t a))
        | _, _ => none
      | none => none
  | .store t (.tmp d) x =>
    if 2 ≤ (ops.toList.filter fun o => isStore o.op).length ∧ ops.toList.any (fun o => isAlloc o.op && o.dst == some d) = true then
      match szOf P t, opdOf x with
      | some z, some x => some (.stn false d z x)
      | _, _ => none
    else if oldStore ops = some d then
      match szOf P t, opdOf x with
      | some z, some x => some (.stn true d z x)
      | _, _ => none
    else none
  | _ => none
def anyOp (P : Program) (ops : Array Oper) (op : Op) : Option AOp :=
  match altOp P ops op with
  | some p => some p
  | none => compOp P op
def compOper (P : Program) (nt : Nat) (ops : Array Oper) (o : Oper) : Option SOp :=
  match anyOp P ops o.op, guardOf ops o.guard with
  | some p, some g => if o.dst.all (· < nt) = true ∧ (g.all fun q => decide (q.1 < nt)) = true ∧ (o.dst.isSome || kindOf p == 3 || p.isCall) = true then some ⟨o.dst, p, g⟩ else none
  | _, _ => none
def dstsOk : List SOp → Bool
  | [] => true
  | o :: r => (match o.dst with
    | none => true
    | some d => r.all fun p => p.dst != some d) && dstsOk r
/-- In a region that draws: whatever isn't ordered by edges may be taken either way. -/
def drawOk (ops : Array Oper) (l : List SOp) : Bool :=
  let b := Region.before ops
  (l.all fun o => (opds o.op).all okO) &&
  (List.range ops.size).all fun j => (List.range j).all fun i =>
    (b.getD j 0).testBit i ||
    match l[i]?, l[j]? with
    | some p, some q => apartS p q
    | _, _ => false
def edgesOk (ops : Array Oper) : Bool :=
  (List.range ops.size).all fun i =>
    match ops[i]? with
    | some o => o.after.all fun e => decide (e.on < i) || !Region.binds .any e
    | none => true
def compCode (P : Program) (nt : Nat) : Code → Option SCode
  | .skip => some .skip
  | .region _ ops draw =>
    match trav (compOper P nt ops) ops.toList with
    | some l => if dstsOk l = true ∧ (draw = true → drawOk ops l = true ∧ edgesOk ops = true ∧ Region.noSelect ops = true) then some (.ops l) else none
    | none => none
  | .seq a b =>
    match compCode P nt a, compCode P nt b with
    | some a, some b => some (.seq a b)
    | _, _ => none
  | .cond c a b =>
    match opdOf c, compCode P nt a, compCode P nt b with
    | some c, some a, some b => some (.cond c a b)
    | _, _, _ => none
  | .block id c => (compCode P nt c).map (.block id)
  | .loop c => (compCode P nt c).map .loop
  | .exit id => some (.exit id)
  | .ret => some .ret
  | _ => none
def compRes (P : Program) : ResultVar → TypeId → Option SRes
  | .tmp k, t =>
    match datSh P t with
    | some sh => some (.t k sh)
    | none => (mapT P t).map fun _ => .t k [.f]
  | .cell a t, _ =>
    match aggT P t, szOf P t, datSh P t with
    | some ag, some z, some sh => some (.cell a ag z sh)
    | _, _, _ => none
def ress? (P : Program) : List ResultVar → List TypeId → Option (List SRes)
  | [], [] => some []
  | x :: r, t :: q =>
    match compRes P x t, ress? P r q with
    | some a, some l => some (a :: l)
    | _, _ => none
  | _, _ => none
/-- The functions whose result their caller owns. -/
def ownFn (_ : String) : Bool := false
def isMvNil (d : Nat) : SOp → Bool
  | ⟨some k, .mv (.k (.c .nil)), none⟩ => k == d
  | _ => false
def isMvT (d s : Nat) : SOp → Bool
  | ⟨some k, .mv (.t j), none⟩ => k == d && j == s
  | _ => false
def isBsl0 (d : Nat) : SOp → Option (Nat × Nat)
  | ⟨some k, .bsl e z _ [] [], none⟩ => if k = d then some (e, z) else none
  | _ => none
def isAppT (e z d s x : Nat) : SOp → Bool
  | ⟨some k, .app e' z' (.t s') (.t x'), none⟩ => e' == e && z' == z && k == d && s' == s && x' == x
  | _ => false
def isNilQ (P : Program) (d s : Nat) (o : Oper) : Bool :=
  match o.dst, o.op, o.guard with
  | some k, .binOp .eql t (.tmp j) (.const (.slice none 0 0)) _, none => k == d && j == s && (sliceT P t).isSome
  | _, _, _ => false
/-- The library's Clone, at any element. -/
def cloneOf (P : Program) (fn : Func) : Option (Nat × Nat) :=
  match fn.body with
  | some (.seq (.region _ r0 false) (.seq (.seq (.region _ r1 false) (.cond (.tmp b) (.seq (.region _ r2 false) .ret) .skip)) (.seq (.region _ r3 false) .ret))) =>
    match trav (compOper P fn.ntmps r0) r0.toList, r1.toList, trav (compOper P fn.ntmps r2) r2.toList, trav (compOper P fn.ntmps r3) r3.toList, ress? P fn.results.toList fn.resultTypes.toList with
    | some [m0], [o1, o2], some [m2], some [m3, m4, m5, m6], some [.t q _] =>
      match compOper P fn.ntmps r1 o1, isBsl0 5 m3 with
      | some m1, some (e, z) =>
        if (isMvNil 2 m0 && isMvT 3 0 m1 && isNilQ P 4 3 o2 && b == 4 && isMvNil 2 m2 && isMvT 6 0 m4 && isAppT e z 7 5 6 m5 && isMvT 2 7 m6 && q == 2 && fn.ntmps == 8 && decide (0 < z)) = true then some (e, z) else none
      | _, _ => none
    | _, _, _, _, _ => none
  | _ => none
/-- The library's functions that change a row in place. -/
def specOf (P : Program) (fn : Func) : Option (Nat × Nat × Nat) :=
  match fn.params.toList with
  | t :: _ =>
    match sliceT P t with
    | some e =>
      match szOf P e with
      | some z => if "slices.Insert[".toList.isPrefixOf fn.name.toList = true then some (0, e, z) else if "slices.Delete[".toList.isPrefixOf fn.name.toList = true then some (1, e, z) else none
      | none => none
    | none => none
  | [] => none
def compFun (P : Program) (fn : Func) : Option SFun :=
  match fn.body with
  | none => none
  | some c =>
    if (fn.name.toList == "runtime.NumGoroutine".toList) = false then
      match specOf P fn with
      | some (k, e, z) => some ⟨.spec k e z, [], false⟩
      | none =>
      match cloneOf P fn with
      | some (e, z) => some ⟨.clone e z, [], false⟩
      | none =>
      match compCode P fn.ntmps c, ress? P fn.results.toList fn.resultTypes.toList with
      | some c, some r => some ⟨c, r, ownFn fn.name⟩
      | _, _ => none
    else none
def comp (P : Program) (g : Nat) : Option SFun := (P.funcs[g]?).bind (compFun P)
end Go.Proofs.Ytndabolfhhppkaa.Am
