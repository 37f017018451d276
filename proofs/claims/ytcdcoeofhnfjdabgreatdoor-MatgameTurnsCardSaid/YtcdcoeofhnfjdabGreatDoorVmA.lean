/- A small machine over the model, and that its runs tell what the model does: part 1. -/
import Derived.Calls
import Derived.Orders
import Derived.Below
import Derived.Laws.Sem
import Derived.Laws.StructEq
import Derived.Laws.Cells
/- A small abstract machine over the model's code: values are plain typed data, memory is a short list of owned objects. This text has the definitions alone. -/
namespace Vm
open Go
inductive Ty where
 | bool
 | int (k : IntKind)
 | str
 | err
 | slice (t : Ty)
 | nsl (t : Ty)
 | unit
 | pair (a b : Ty)
 | arr (n : Nat) (t : Ty)
 | opq
 | nat
 | ptr (t : Ty)
 deriving DecidableEq
@[reducible] def Ty.den : Ty -> Type
 | .bool => Bool
 | .int _ => Int
 | .str => ByteArray
 | .err => Bool
 | .slice t => List t.den
 | .nsl t => Option (List t.den)
 | .unit => Unit
 | .pair a b => a.den × b.den
 | .arr _ t => List t.den
 | .opq => Unit
 | .nat => Nat
 | .ptr t => t.den
def Ty.sz : Ty -> Nat
 | .unit => 0
 | .pair a b => a.sz + b.sz
 | .arr n t => n * t.sz
 | _ => 1
def Ty.agg : Ty -> Bool
 | .unit | .pair _ _ | .arr _ _ => true
 | _ => false
def Ty.zero : (t : Ty) -> t.den
 | .bool => false
 | .int _ => (0 : Int)
 | .str => ByteArray.empty
 | .err => false
 | .slice _ => []
 | .nsl _ => none
 | .unit => ()
 | .pair a b => (a.zero, b.zero)
 | .arr n t => List.replicate n t.zero
 | .opq => ()
 | .nat => (0 : Nat)
 | .ptr t => t.zero
inductive LV where
 | val (t : Ty) (x : t.den)
 | nil
 | nilp
 | own (id : Nat)
 | pre (id n : Nat)
 | vw (id : Nat) (t : Ty) (lo n : Nat)
 | pbox (id off : Nat)
 | pboxA (id off : Nat) (u : Ty) (n : Nat) (i : Int)
 | pbuf (id : Nat) (t : Ty) (i : Int) (fp : List (Nat × Nat))
 | pimm (t : Ty) (x : t.den)
 | clos (id : Nat)
 | func (f : FuncId)
 | grd (id : Nat)
 | pgrd (id : Nat) (t : Ty) (i : Int)
 | row (id : Nat) (t : Ty) (i : Int)
 | prow (id : Nat) (t : Ty) (i k : Int)
 | gpre (id n : Nat)
inductive AV where
 | undef
 | one (v : LV)
 | agg (l : List LV)
 | tup (l : List (Bool × List LV))
inductive Obj where
 | box (l : List LV)
 | buf (t : Ty) (xs : List t.den)
 | clos (f : FuncId) (caps : List LV)
 | grid (t : Ty) (xs : List (List t.den)) (hole : Option Nat)
 | mat (t : Ty) (xs : List (List t.den)) (sw : Option (Nat × Nat))
structure MS where
 slots : List (Nat × AV)
 objs : List (Nat × Option Obj)
 saved : List (List (Nat × AV))
 pin : List Nat := []
def look {α : Type} (n : Nat) : List (Nat × α) -> Option α
 | [] => none
 | (m, a) :: l => if n = m then some a else look n l
def MS.get (s : MS) (t : Nat) : AV := (look t s.slots).getD .undef
def MS.obj (s : MS) (id : Nat) : Option Obj := (look id s.objs).join
inductive Kd where
 | sc
 | slice (e : Nat)
 | st (fields : List Nat)
 | ar (n e : Nat)
 | ptr (e : Nat)
 | other
structure TI where
 ty : Ty
 kd : Kd
 bytes : Nat
abbrev TE := List (Nat × TI)
def LV.sz : LV -> Nat
 | .val t _ => t.sz
 | _ => 1
def leaves : (t : Ty) -> t.den -> List LV
 | .pair a b, x => leaves a x.1 ++ leaves b x.2
 | .unit, _ => []
 | t, x => [.val t x]
def zi6 (t : Ty) (l : List LV) : AV :=
 if t.agg then .agg l else match l with
  | [v] => .one v
  | _ => .undef
def typed (t : Ty) (x : t.den) : AV := zi6 t (leaves t x)
def AV.leaves? : AV -> Option (List LV)
 | .one v => some [v]
 | .agg l => some l
 | _ => none
def zf6 {t' : Ty} (t : Ty) (x : t'.den) : Option t.den := if h : t' = t then some (h ▸ x) else none
@[irreducible] def nnB : Nat := 1099511627776
def nnc (i : Nat) : Nat := i + nnB
def conv (s : MS) : (t : Ty) -> LV -> Option t.den
 | .slice _, .nil => some []
 | .nsl _, .nil => some none
 | .slice t, .val (.nsl t') x => zf6 (.slice t) (t' := .slice t') (x.getD [])
 | .slice t, .own id => match s.obj id with
  | some (.buf t' xs) => zf6 (.slice t) (t' := .slice t') xs
  | some (.grid t' xs none) => zf6 (.slice t) (t' := .slice (.slice t')) xs
  | _ => none
 | .slice t, .grd id => match s.obj id with
  | some (.mat t' xs none) => zf6 (.slice t) (t' := .slice (.slice t')) xs
  | _ => none
 | .slice t, .row id u i => match s.obj id with
  | some (.mat t' xs none) => if u = t' then zf6 (.slice t) (t' := .slice t') (xs.getD i.toNat []) else none
  | _ => none
 | .slice t, .pre id n => match s.obj id with
  | some (.buf t' xs) => zf6 (.slice t) (t' := .slice t') (xs.take n)
  | _ => none
 | .slice t, .vw id u lo n => match s.obj id with
  | some (.buf t' xs) => if u = t' then zf6 (.slice t) (t' := .slice t') ((xs.take (lo + n)).drop lo) else none
  | _ => none
 | .nsl t, .own id => if s.pin.contains (nnc id) then (match s.obj id with
   | some (.buf t' xs) => (zf6 (.slice t) (t' := .slice t') xs).map some
   | _ => none) else none
 | t, .val _ x => zf6 t x
 | _, _ => none
def w2u (s : MS) : (t : Ty) -> List LV -> Option (t.den × List LV)
 | .pair a b, l => (w2u s a l).bind fun (x, l) => (w2u s b l).bind fun (y, l) => some ((x, y), l)
 | .unit, l => some ((), l)
 | t, v :: l => (conv s t v).bind fun x => some (x, l)
 | _, [] => none
def zt9 (s : MS) (t : Ty) (l : List LV) : Option t.den :=
 match w2u s t l with
 | some (x, []) => some x
 | _ => none
def LV.refs : LV -> List Nat
 | .own id | .pre id _ | .gpre id _ | .vw id _ _ _ | .pbox id _ | .pboxA id _ _ _ _ | .pbuf id _ _ _ | .clos id | .grd id | .pgrd id _ _ | .row id _ _ | .prow id _ _ _ => [id]
 | _ => []
def LV.has (id : Nat) : LV -> Bool
 | .own i | .pre i _ | .gpre i _ | .vw i _ _ _ | .pbox i _ | .pboxA i _ _ _ _ | .pbuf i _ _ _ | .clos i | .grd i | .pgrd i _ _ | .row i _ _ | .prow i _ _ _ => i == id
 | _ => false
def AV.has (id : Nat) : AV -> Bool
 | .one v => v.has id
 | .agg l => l.any (LV.has id)
 | .tup l => l.any fun p => p.2.any (LV.has id)
 | .undef => false
def Obj.has (id : Nat) : Obj -> Bool
 | .box l => l.any (LV.has id)
 | .clos _ l => l.any (LV.has id)
 | _ => false
def y48 (id : Nat) (l : List (Nat × AV)) : List (Nat × AV) := l.map fun p => (p.1, if p.2.has id then .undef else p.2)
def wy7 (id : Nat) (l : List (Nat × Option Obj)) : List (Nat × Option Obj) :=
 l.map fun p => (p.1, match p.2 with | some o => if o.has id then none else some o | none => none)
def MS.kill (s : MS) (id : Nat) : MS :=
 { slots := y48 id s.slots, objs := (id, none) :: wy7 id s.objs, saved := s.saved.map (y48 id), pin := s.pin }
def LV.hasR (id : Nat) : LV -> Bool
 | .row i _ _ | .prow i _ _ _ => i == id
 | _ => false
def AV.hasR (id : Nat) : AV -> Bool
 | .one v => v.hasR id
 | .agg l => l.any (LV.hasR id)
 | .tup l => l.any fun p => p.2.any (LV.hasR id)
 | .undef => false
def Obj.hasR (id : Nat) : Obj -> Bool
 | .box l => l.any (LV.hasR id)
 | .clos _ l => l.any (LV.hasR id)
 | _ => false
def ys5 (id : Nat) (l : List (Nat × AV)) : List (Nat × AV) := l.map fun p => (p.1, if p.2.hasR id then .undef else p.2)
def wt2 (id : Nat) (l : List (Nat × Option Obj)) : List (Nat × Option Obj) :=
 l.map fun p => (p.1, match p.2 with | some o => if o.hasR id then none else some o | none => none)
def MS.killR (s : MS) (id : Nat) : MS :=
 { slots := ys5 id s.slots, objs := wt2 id s.objs, saved := s.saved.map (ys5 id), pin := s.pin }
def MS.upd (s : MS) (id : Nat) (o : Obj) : MS := { s with objs := (id, some o) :: s.objs }
def MS.unpin (s : MS) (id : Nat) : MS := { s with pin := s.pin.filter fun i => i != id && i != nnc id }
def MS.pinNN (s : MS) (id : Nat) : MS := { s with pin := nnc id :: s.pin }
def MS.new (s : MS) (id : Nat) (o : Obj) : MS := ((s.kill id).upd id o).unpin id
def LV.solid (id : Nat) (t : Ty) (xs : List t.den) : LV -> LV
 | .own i => if i = id then .val (.slice t) xs else .own i
 | .pre i n => if i = id then .val (.slice t) (xs.take n) else .pre i n
 | .vw i u lo n => if i = id /\ u = t then .val (.slice t) ((xs.take (lo + n)).drop lo) else .vw i u lo n
 | .grd i => if i = id then .val (.slice t) xs else .grd i
 | v => v
def AV.solid (id : Nat) (t : Ty) (xs : List t.den) : AV -> AV
 | .one v => .one (v.solid id t xs)
 | .agg l => .agg (l.map (LV.solid id t xs))
 | .tup l => .tup (l.map fun p => (p.1, p.2.map (LV.solid id t xs)))
 | .undef => .undef
def Obj.solid (id : Nat) (t : Ty) (xs : List t.den) : Obj -> Obj
 | .box l => .box (l.map (LV.solid id t xs))
 | .clos f l => .clos f (l.map (LV.solid id t xs))
 | o => o
def Obj.rows : Obj -> Option ((t : Ty) × List t.den)
 | .buf t xs => some ⟨t, xs⟩
 | .grid t xs none => some ⟨.slice t, xs⟩
 | .mat t xs none => some ⟨.slice t, xs⟩
 | _ => none
def MS.solid (s : MS) (id : Nat) : MS :=
 match (s.obj id).bind Obj.rows with
 | some ⟨t, xs⟩ =>
  ({ slots := s.slots.map fun p => (p.1, p.2.solid id t xs), objs := s.objs.map fun p => (p.1, p.2.map (Obj.solid id t xs)),
     saved := s.saved.map fun l => l.map fun p => (p.1, p.2.solid id t xs), pin := s.pin } : MS).kill id
 | _ => s.kill id
def MS.solids (s : MS) (l : List LV) : MS := l.foldl (fun s v => v.refs.foldl MS.solid s) s
def LV.toRow (r nm : Nat) (t : Ty) : LV -> LV
 | .own i => if i = r then .row nm t 0 else .own i
 | v => v
def LV.mvRow (id nm : Nat) (t : Ty) (n : Nat) : LV -> LV
 | .row i u j => if i = id /\ u = t /\ 0 <= j then .row nm t ((n + j.toNat : Nat) : Int) else .row i u j
 | v => v
def AV.mapL (f : LV -> LV) : AV -> AV
 | .one v => .one (f v)
 | .agg l => .agg (l.map f)
 | .tup l => .tup (l.map fun p => (p.1, p.2.map f))
 | .undef => .undef
def Obj.mapL (f : LV -> LV) : Obj -> Obj
 | .box l => .box (l.map f)
 | .clos g l => .clos g (l.map f)
 | o => o
def MS.mapL (s : MS) (f : LV -> LV) : MS :=
 { slots := s.slots.map fun p => (p.1, p.2.mapL f), objs := s.objs.map fun p => (p.1, p.2.map (Obj.mapL f)), saved := s.saved.map fun l => l.map fun p => (p.1, p.2.mapL f), pin := s.pin }
def MS.drop (s : MS) (id : Nat) : MS := { s with objs := (id, none) :: s.objs }
inductive RM where
 | imm (t : Ty)
 | fresh (t : Ty)
@[reducible] def RM.den : RM -> Type
 | .imm t => t.den
 | .fresh t => List t.den
@[reducible] def yn2 : List Ty -> Type
 | [] => Unit
 | [t] => t.den
 | t :: r => t.den × yn2 r
@[reducible] def yo5 : List RM -> Type
 | [] => Unit
 | [t] => t.den
 | t :: r => t.den × yo5 r
structure Spec where
 ps : List Ty
 rs : List RM
 f : yn2 ps -> Option (yo5 rs)
def Ty.deep : Ty -> Bool
 | .slice _ | .nsl _ | .ptr _ => true
 | .pair a b => a.deep || b.deep
 | .arr _ t => t.deep
 | _ => false
def RM.deep : RM -> Bool
 | .imm t => t.deep
 | .fresh t => t.deep
def Spec.al (c : Spec) : Bool := c.rs.any RM.deep
def AV.asTy (t : Ty) : AV -> Option (List LV)
 | .one v => if t.agg then none else some [v]
 | .agg l => if t.agg then some l else none
 | _ => none
def y6u (s : MS) : (ps : List Ty) -> List AV -> Option (yn2 ps)
 | [], [] => some ()
 | [t], [v] => (v.asTy t).bind (zt9 s t)
 | t :: t' :: r, v :: vs => ((v.asTy t).bind (zt9 s t)).bind fun x => (y6u s (t' :: r) vs).bind fun y => some (x, y)
 | _, _ => none
def MS.mentions (s : MS) (id : Nat) : Bool :=
 s.slots.any (fun p => p.2.has id) || s.objs.any (fun p => match p.2 with | some o => o.has id | none => false) || s.saved.any fun l => l.any fun p => p.2.has id
def MS.mk? (s : MS) (still : Bool) (id : Nat) (o : Obj) : Option MS :=
 if o.has id then none else if still then (if s.mentions id then none else some ((s.upd id o).unpin id)) else some (s.new id o)
def MS.solids? (s : MS) (still : Bool) (l : List LV) : Option MS :=
 if still then (if l.all fun v => v.refs.isEmpty then some s else none) else some (s.solids l)
def w2d (still : Bool) (id : Nat) : (r : RM) -> r.den -> MS -> Option ((Bool × List LV) × MS)
 | .imm t, x, s => some ((t.agg, leaves t x), s)
 | .fresh t, xs, s => (s.mk? still id (.buf t xs)).map fun s => ((false, [.own id]), s)
def y93 (still : Bool) (id : Nat) : (rs : List RM) -> yo5 rs -> MS -> Option (List (Bool × List LV) × MS)
 | [], _, s => some ([], s)
 | [r], x, s => (w2d still id r x s).map fun (a, s) => ([a], s)
 | r :: r' :: rs, x, s => (w2d still id r x.1 s).bind fun (a, s) => (y93 still (id + 1) (r' :: rs) x.2 s).map fun (l, s) => (a :: l, s)
def w22 : List (Bool × List LV) -> AV
 | [(false, [v])] => .one v
 | [(true, l)] => .agg l
 | [_] => .undef
 | l => .tup l
inductive Ex where
 | normal
 | exit (id : Nat)
 | ret
 deriving DecidableEq
end Vm
/- The machine's run: what a piece of code does to a state, in continuation form. Definitions alone. -/
namespace Vm
open Go
structure Env where
 te : TE
 spec : List (FuncId × Spec)
 body : List (FuncId × Func)
 flat : List TypeId := []
 rows : Bool := false
 spec2 : List (FuncId × Spec) := []
def Env.ti (E : Env) (t : TypeId) : Option TI := look t E.te
def Env.ty? (E : Env) (t : TypeId) : Option Ty := (E.ti t).map TI.ty
def Ty.unN : Ty -> Ty
 | .nsl t => .slice t
 | t => t
def Env.elTy (E : Env) (t : TypeId) : Option Ty := (E.ty? t).map Ty.unN
def Env.kd? (E : Env) (t : TypeId) : Option Kd := (E.ti t).map TI.kd
def yh3 : Value -> Option LV
 | .bool b => some (.val .bool b)
 | .int k n => some (.val (.int k) n)
 | .string s => some (.val .str s)
 | .slice none 0 0 => some .nil
 | .pointer none => some .nilp
 | .nilIface => some (.val .err false)
 | _ => none
def w44 : Value -> AV
 | .agg cs => match cs.toList.mapM yh3 with
  | some l => .agg l
  | none => .undef
 | v => match yh3 v with
  | some l => .one l
  | none => .undef
def MS.ev (s : MS) : Operand -> AV
 | .tmp t => s.get t
 | .const v => w44 v
 | .func f => .one (.func f)
 | .global _ => .undef
def MS.put (s : MS) (d : Option Nat) (v : AV) : MS :=
 match d with
 | some d => { s with slots := (d, v) :: s.slots }
 | none => s
section
variable {ρ : Type}
def yc1 (op : BinOp) (k : IntKind) (x y : Int) : Int :=
 let a := BitVec.ofInt k.bits x
 let b := BitVec.ofInt k.bits y
 match op with
 | .and => k.wrap (a &&& b).toNat
 | .or => k.wrap (a ||| b).toNat
 | .xor => k.wrap (a ^^^ b).toNat
 | _ => k.wrap (a &&& ~~~b).toNat
def b1 (b : Bool) : AV := .one (.val .bool b)
def i1 (k : IntKind) (n : Int) : AV := .one (.val (.int k) n)
def wy5 (op : BinOp) (k : IntKind) (x y : Int) (K : AV -> Option ρ) : Option ρ :=
 match op with
 | .add => K (i1 k (k.wrap (x + y)))
 | .sub => K (i1 k (k.wrap (x - y)))
 | .mul => K (i1 k (k.wrap (x * y)))
 | .quo => if y = 0 then none else K (i1 k (k.wrap (x.tdiv y)))
 | .rem => if y = 0 then none else K (i1 k (x.tmod y))
 | .and | .or | .xor | .andNot => K (i1 k (yc1 op k x y))
 | .shl => none
 | .shr => none
 | .eql => K (b1 (x == y))
 | .neq => K (b1 (x != y))
 | .lss => K (b1 (x < y))
 | .leq => K (b1 (x <= y))
 | .gtr => K (b1 (x > y))
 | .geq => K (b1 (x >= y))
def v0c (op : BinOp) (x y : ByteArray) (K : AV -> Option ρ) : Option ρ :=
 match op with
 | .add => if x.size + y.size <= 4611686018427387904 then K (.one (.val .str (x ++ y))) else none
 | .eql => K (b1 (x.toList == y.toList))
 | .neq => K (b1 (!(x.toList == y.toList)))
 | .lss => K (b1 (Op.bytesLess x.toList y.toList))
 | .leq => K (b1 (Op.bytesLess x.toList y.toList || x.toList == y.toList))
 | .gtr => K (b1 (!(Op.bytesLess x.toList y.toList || x.toList == y.toList)))
 | .geq => K (b1 (!Op.bytesLess x.toList y.toList))
 | _ => none
def w4k (s : MS) : LV -> Option Bool
 | .nil => some true
 | .val (.nsl _) x => some x.isNone
 | .own id => match s.obj id with
  | some (.buf _ (_ :: _)) => some false
  | _ => none
 | _ => none
def we6 : LV -> Option Bool
 | .nilp => some true
 | .pbox _ _ => some false
 | .pbuf _ _ _ _ => some false
 | .pimm _ _ => some false
 | _ => none
def wy6 : LV -> Option Bool
 | .val .err b => some (!b)
 | _ => none
def isNil (s : MS) (k : Kd) (t : Ty) (v : LV) : Option Bool :=
 match k with
 | .slice _ => w4k s v
 | .ptr _ => we6 v
 | .sc => if t = .err then wy6 v else none
 | _ => none
def y8v : Kd -> Operand -> Bool
 | .slice _, .const (.slice none 0 0) => true
 | .ptr _, .const (.pointer none) => true
 | .sc, .const .nilIface => true
 | _, _ => false
def Env.intSt (E : Env) (fs : List Nat) : Bool := fs.all fun t => match E.ty? t with
 | some (.int _) => true
 | _ => false
def wn6 : List LV -> List LV -> Option Bool
 | [], [] => some true
 | .val (.int k) a :: l, .val (.int k') b :: l' => if k = k' then (wn6 l l').map fun r => (a == b) && r else none
 | _, _ => none
def w9t (E : Env) (s : MS) (op : BinOp) (t : TypeId) (x y : Operand) (K : AV -> Option ρ) : Option ρ :=
 match s.ev x, s.ev y with
 | .one (.val (.int k) a), .one (.val (.int k') b) =>
  match op with
  | .shl => if b < 0 then none else K (i1 k (k.wrap (a * 2 ^ (min b.toNat k.bits))))
  | .shr => if b < 0 then none else K (i1 k (a.fdiv (2 ^ (min b.toNat k.bits))))
  | _ => if k = k' then wy5 op k a b K else none
 | .one (.val .str a), .one (.val .str b) => v0c op a b K
 | .one (.val .bool a), .one (.val .bool b) =>
  if E.ty? t = some .bool then
   match op with
   | .eql => K (b1 (a == b))
   | .neq => K (b1 (!(a == b)))
   | _ => none
  else none
 | .one a, .one _ =>
  match E.ti t with
  | none => none
  | some ti => if y8v ti.kd y then
    match op, isNil s ti.kd ti.ty a with
    | .eql, some b => K (b1 b)
    | .neq, some b => K (b1 (!b))
    | _, _ => none
   else none
 | .agg [.val (.arr n (.int k)) xs], .agg [.val (.arr n' (.int k')) ys] => match E.kd? t with
  | some (.ar m e) => if n = m /\ n' = m /\ k = k' /\ E.ty? e = some (.int k) then match op with
    | .eql => K (b1 ((show List Int from xs) == (show List Int from ys)))
    | .neq => K (b1 (!((show List Int from xs) == (show List Int from ys))))
    | _ => none
   else none
  | _ => none
 | .agg l, .agg l' => match E.kd? t with
  | some (.st fs) => if E.intSt fs then (if l.length = fs.length then match wn6 l l' with
      | some b => match op with
        | .eql => K (b1 b)
        | .neq => K (b1 (!b))
        | _ => none
      | none => none
    else none) else none
  | _ => none
 | _, _ => none
def v27 (s : MS) (op : UnOp) (x : Operand) (K : AV -> Option ρ) : Option ρ :=
 match op, s.ev x with
 | .not, .one (.val .bool b) => K (b1 (!b))
 | .neg, .one (.val (.int k) n) => K (i1 k (k.wrap (0 - n)))
 | .xor, .one (.val (.int k) n) => K (i1 k (yc1 .xor k (if k.signed then -1 else k.max) n))
 | _, _ => none
def y5r : List LV -> Nat -> Option (List LV)
 | l, 0 => some l
 | [], _ + 1 => none
 | v :: l, n + 1 => if v.sz = 0 then none else if v.sz <= n + 1 then y5r l (n + 1 - v.sz) else none
def takeC : List LV -> Nat -> Option (List LV)
 | _, 0 => some []
 | [], _ + 1 => none
 | v :: l, n + 1 => if v.sz = 0 then none else if v.sz <= n + 1 then (takeC l (n + 1 - v.sz)).map (v :: ·) else none
def ws1 (l : List LV) (off n : Nat) : Option (List LV) := (y5r l off).bind fun l => takeC l n
def v2e (l : List LV) (off n : Nat) (new : List LV) : Option (List LV) :=
 (takeC l off).bind fun a => (y5r l (off + n)).bind fun b => some (a ++ new ++ b)
def cells (l : List LV) : Nat := (l.map LV.sz).sum
def zq9 : (t : Ty) -> t.den -> (n i : Nat) -> Option ((t : Ty) × t.den)
 | .pair a _, x, _ + 2, 0 => some ⟨a, x.1⟩
 | .pair _ b, x, n + 2, i + 1 => zq9 b x.2 (n + 1) i
 | t, x, 1, 0 => some ⟨t, x⟩
 | _, _, _, _ => none
def v24 : (t : Ty) -> t.den -> List (Nat × Nat) -> Option ((t : Ty) × t.den)
 | t, x, [] => some ⟨t, x⟩
 | t, x, (n, i) :: p => match zq9 t x n i with
  | some ⟨t', x'⟩ => v24 t' x' p
  | none => none
def z8b : (t : Ty) -> t.den -> (n i : Nat) -> ((t : Ty) -> t.den -> Option t.den) -> Option t.den
 | .pair a _, x, _ + 2, 0, f => (f a x.1).map fun y => (y, x.2)
 | .pair _ b, x, n + 2, i + 1, f => (z8b b x.2 (n + 1) i f).map fun y => (x.1, y)
 | t, x, 1, 0, f => f t x
 | _, _, _, _, _ => none
def y69 : List (Nat × Nat) -> (t : Ty) -> t.den -> ((t : Ty) -> t.den -> Option t.den) -> Option t.den
 | [], t, x, f => f t x
 | (n, i) :: p, t, x, f => z8b t x n i fun t' x' => y69 p t' x' f
def z4e : (t : Ty) -> (n i : Nat) -> Option (Nat × Ty)
 | .pair a _, _ + 2, 0 => some (0, a)
 | .pair a b, n + 2, i + 1 => (z4e b (n + 1) i).map fun p => (a.sz + p.1, p.2)
 | t, 1, 0 => some (0, t)
 | _, _, _ => none
def zc7 : Ty -> List (Nat × Nat) -> Option (Nat × Ty)
 | t, [] => some (0, t)
 | t, (n, i) :: p => (z4e t n i).bind fun q => (zc7 q.2 p).map fun r => (q.1 + r.1, r.2)
def Env.sz (E : Env) (t : TypeId) : Option Nat := (E.ty? t).map Ty.sz
def Env.fieldAt (E : Env) : List Nat -> Nat -> Option (Nat × Nat)
 | [], _ => none
 | t :: _, 0 => some (0, t)
 | t :: r, i + 1 => (E.sz t).bind fun n => (E.fieldAt r i).map fun p => (n + p.1, p.2)
def Env.zeroL (E : Env) : Nat -> TypeId -> Option (List LV)
 | 0, _ => none
 | n + 1, t => (E.ti t).bind fun i => match i.kd with
  | .sc => some [.val i.ty i.ty.zero]
  | .slice _ => some [.nil]
  | .ptr _ => some [.nilp]
  | .st fs => (fs.mapM (E.zeroL n)).map List.flatten
  | .ar m e => (E.ty? e).map fun u => [.val (.arr m u) (List.replicate m u.zero)]
  | .other => none
def yy2 (s : MS) (t : Ty) : LV -> Option (List LV)
 | .pbox id off => match s.obj id with
  | some (.box l) => ws1 l off t.sz
  | _ => none
 | .pboxA id off u n i => match s.obj id with
  | some (.box l) => match y5r l off with
   | some (.val (.arr n' u') xs :: _) => if n' = n /\ u' = u /\ u'.sz = t.sz /\ u'.agg = t.agg then some (leaves u' (xs.getD i.toNat u'.zero)) else none
   | _ => none
  | _ => none
 | .pbuf id v i fp => match s.obj id with
  | some (.buf u xs) => if u = v then match v24 u (xs.getD i.toNat u.zero) fp with
   | some ⟨u', x⟩ => if u'.sz = t.sz /\ u'.agg = t.agg then some (leaves u' x) else none
   | none => none
   else none
  | _ => none
 | .pimm u x => if u.sz = t.sz /\ u.agg = t.agg then some (leaves u x) else none
 | .pgrd id v i => match s.obj id with
  | some (.mat u _ none) => if u = v /\ t = .slice v then some [.row id v i] else none
  | _ => none
 | .prow id v i k => match s.obj id with
  | some (.mat u xs _) => if u = v then (if u.sz = t.sz /\ u.agg = t.agg then some (leaves u ((xs.getD i.toNat []).getD k.toNat u.zero)) else none) else none
  | _ => none
 | _ => none
def w2o (s : MS) (t : Ty) (p : LV) (new : List LV) : Option MS :=
 if cells new = t.sz then
  match p with
  | .pbox id off => match s.obj id with
   | some (.box l) => (v2e l off t.sz new).map fun l => s.upd id (.box l)
   | _ => none
  | .pboxA id off u n i => match s.obj id with
   | some (.box l) => match y5r l off with
    | some (.val (.arr n' u') xs :: _) => if n' = n /\ u' = u /\ u'.sz = t.sz then
      (zt9 s u' new).bind fun x => (v2e l off (n' * u'.sz) [.val (.arr n' u') (xs.set i.toNat x)]).bind fun l =>
       let s := s.solids new
       match s.obj id with
       | some _ => some (s.upd id (.box l))
       | none => none
     else none
    | _ => none
   | _ => none
  | .pbuf id v i fp => match s.obj id with
   | some (.buf u xs) => if u = v then
     (y69 fp u (xs.getD i.toNat u.zero) fun u' _ => if u'.sz = t.sz then zt9 s u' new else none).bind fun y =>
      let s := s.solids new
      match s.obj id with
      | some _ => some (s.upd id (.buf u (xs.set i.toNat y)))
      | none => none
    else none
   | _ => none
  | .prow id v i k => match s.obj id with
   | some (.mat u xs none) => if u = v /\ u.sz = t.sz then
     (zt9 s u new).bind fun y =>
      let s := s.solids new
      match s.obj id with
      | some _ => some (s.upd id (.mat u (xs.set i.toNat ((xs.getD i.toNat []).set k.toNat y)) none))
      | none => none
    else none
   | _ => none
  | _ => none
 else none
def we5 (s : MS) : LV -> Bool
 | .own id => match s.obj id with
  | some (.grid _ _ _) => true
  | _ => false
 | .grd _ => true
 | _ => false
def w1t (s : MS) (t : Ty) (v : LV) : Option (List t.den) :=
 match v with
 | .val .str b => zf6 (.slice t) (t' := .slice (.int .u8)) (b.data.toList.map fun c => (c.toNat : Int))
 | v => if we5 s v then none else conv s (.slice t) v
def lenOf (s : MS) : LV -> Option Nat
 | .nil => some 0
 | .val .str b => some b.size
 | .val (.slice _) x => some x.length
 | .val (.nsl _) x => some (x.getD []).length
 | .val (.arr n _) _ => some n
 | .own id => match s.obj id with
  | some (.buf _ xs) => some xs.length
  | some (.grid _ xs _) => some xs.length
  | _ => none
 | .grd id => match s.obj id with
  | some (.mat _ xs _) => some xs.length
  | _ => none
 | .row id t i => match s.obj id with
  | some (.mat t' xs _) => if t' = t then some (xs.getD i.toNat []).length else none
  | _ => none
 | .pre _ n => some n
 | .vw _ _ _ n => some n
 | _ => none
def we2 (s : MS) (z : Nat) (x : LV) (i : Int) (K : LV -> Option ρ) : Option ρ :=
 match x with
 | .val (.slice t) xs => if t.sz = z then (if 0 <= i then (if i < xs.length then K (.pimm t (xs.getD i.toNat t.zero)) else none) else none) else none
 | .val (.nsl t) o => if t.sz = z then (if 0 <= i then (if i < (o.getD []).length then K (.pimm t ((o.getD []).getD i.toNat t.zero)) else none) else none) else none
 | .own id => match s.obj id with
  | some (.buf t xs) => if t.sz = z then (if 0 <= i then (if i < xs.length then K (.pbuf id t i []) else none) else none) else none
  | some (.grid t xs _) => if 1 = z then (if 0 <= i then (if i < xs.length then K (.pbuf id (.slice t) i []) else none) else none) else none
  | _ => none
 | .grd id => match s.obj id with
  | some (.mat t xs _) => if 1 = z then (if 0 <= i then (if i < xs.length then K (.pgrd id t i) else none) else none) else none
  | _ => none
 | .row id t j => match s.obj id with
  | some (.mat t' xs _) => if t' = t /\ t'.sz = z then (if 0 <= i then (if i < (xs.getD j.toNat []).length then K (.prow id t j i) else none) else none) else none
  | _ => none
 | .pre id n => match s.obj id with
  | some (.buf t _) => if t.sz = z then (if 0 <= i then (if i < n then K (.pbuf id t i []) else none) else none) else none
  | _ => none
 | .vw id u lo n => match s.obj id with
  | some (.buf t _) => if t.sz = z /\ u = t then (if 0 <= i then (if i < n then K (.pbuf id t ((lo : Int) + i) []) else none) else none) else none
  | _ => none
 | _ => none
def we0 (s : MS) (z n : Nat) (x : LV) (i : Int) (K : LV -> Option ρ) : Option ρ :=
 if 0 <= i then (if i < n then (match x with
   | .pbox id off => match s.obj id with
     | some (.box l) => match y5r l off with
       | some (.val (.arr n' u) _ :: _) => if n' = n /\ u.sz = z then K (.pboxA id off u n i) else none
       | _ => none
     | _ => none
   | .pimm (.arr n' t) xs => if n' = n /\ t.sz = z then K (.pimm t (xs.getD i.toNat t.zero)) else none
   | _ => none) else none) else none
def bounds (s : MS) (n : Nat) (lo hi : Option Operand) (K : Nat -> Nat -> Option ρ) : Option ρ :=
 let upper (K : Int -> Option ρ) : Option ρ := match hi with
  | none => K n
  | some h => match s.ev h with
   | .one (.val (.int _) h) => if 0 <= h then (if h <= n then K h else none) else none
   | _ => none
 upper fun h => match lo with
  | none => K 0 h.toNat
  | some l => match s.ev l with
   | .one (.val (.int _) l) => if 0 <= l then (if l <= h then K l.toNat h.toNat else none) else none
   | _ => none
def y0c (s : MS) : List (Nat × Operand) -> Option (List (Nat × List LV))
 | [] => some []
 | (i, x) :: r => ((s.ev x).leaves?).bind fun l => (y0c s r).bind fun m => if (look i m).isSome then none else some ((i, l) :: m)
def y0y (E : Env) (parts : List (Nat × List LV)) (zl : List LV) : Nat -> Nat -> List Nat -> Option (List LV)
 | _, _, [] => some []
 | i, off, t :: r => (E.sz t).bind fun n => (match look i parts with
     | some l => if cells l = n then some l else none
     | none => ws1 zl off n).bind fun l => (y0y E parts zl (i + 1) (off + n) r).map fun m => l ++ m
def zk8 (s : MS) (t : Ty) (parts : List (Nat × List LV)) : Nat -> Nat -> Option (List t.den)
 | _, 0 => some []
 | i, n + 1 => (match look i parts with
     | some l => zt9 s t l
     | none => some t.zero).bind fun x => (zk8 s t parts (i + 1) n).map fun m => x :: m
end
end Vm
/- The machine's run, second part: operations, regions, code, calls in place. Definitions alone. -/
namespace Vm
open Go
def MS.nm (s : MS) (d : Option Nat) : Nat := (s.saved.length * 1000 + d.getD 0) * 4
def w54 (a b : Nat) : LV -> LV
 | .own i => .own (if i = a then b else i)
 | .pre i n => .pre (if i = a then b else i) n
 | .vw i t lo n => .vw (if i = a then b else i) t lo n
 | .pbox i o => .pbox (if i = a then b else i) o
 | .pboxA i o u n k => .pboxA (if i = a then b else i) o u n k
 | .pbuf i t k p => .pbuf (if i = a then b else i) t k p
 | .grd i => .grd (if i = a then b else i)
 | .gpre i n => .gpre (if i = a then b else i) n
 | .pgrd i t k => .pgrd (if i = a then b else i) t k
 | .row i t k => .row (if i = a then b else i) t k
 | .prow i t k j => .prow (if i = a then b else i) t k j
 | .clos i => .clos (if i = a then b else i)
 | v => v
def w8r (a b : Nat) : AV -> AV
 | .one v => .one (w54 a b v)
 | .agg l => .agg (l.map (w54 a b))
 | .tup l => .tup (l.map fun p => (p.1, p.2.map (w54 a b)))
 | .undef => .undef
def yt1 (a b : Nat) : Obj -> Obj
 | .box l => .box (l.map (w54 a b))
 | .clos f l => .clos f (l.map (w54 a b))
 | o => o
def MS.ren (s : MS) (a b : Nat) : MS :=
 if a = b then s else
 let s := s.kill b
 { slots := s.slots.map fun p => (p.1, w8r a b p.2),
   objs := (b, (s.obj a).map (yt1 a b)) :: (a, none) :: s.objs.map fun p => (p.1, p.2.map (yt1 a b)),
   saved := s.saved.map fun l => l.map fun p => (p.1, w8r a b p.2), pin := if s.pin.contains (nnc a) then nnc b :: s.pin.filter fun i => i != b && i != nnc b else s.pin.filter fun i => i != b && i != nnc b }
inductive LSh where
 | fix (v : LV)
 | val (t : Ty)
 | own (id : Nat) (t : Ty)
 | pre (id : Nat) (t : Ty)
 | vw (id : Nat) (t : Ty)
 | grd (id : Nat) (t : Ty)
 | row (id : Nat) (t : Ty)
inductive Sh where
 | one (l : LSh)
 | agg (l : List LSh)
inductive OSh where
 | buf (t : Ty)
 | box (l : List LSh)
 | clos (f : FuncId) (l : List LSh)
 | grid (t : Ty)
 | mat (t : Ty)
structure Ann where
 slots : List (Nat × Sh)
 objs : List (Nat × OSh)
@[reducible] def zb9 : List Ty -> Type
 | [] => Unit
 | t :: r => t.den × zb9 r
@[reducible] def v0p : LSh -> List Ty -> List Ty
 | .val t, r => t :: r
 | .pre _ _, r => .nat :: r
 | .row _ _, r => .nat :: r
 | .vw _ _, r => .nat :: .nat :: r
 | _, r => r
@[reducible] def y9b : List LSh -> List Ty -> List Ty
 | [], r => r
 | l :: ls, r => v0p l (y9b ls r)
@[reducible] def wk5 : Sh -> List Ty -> List Ty
 | .one l, r => v0p l r
 | .agg l, r => y9b l r
@[reducible] def wl4 : List (Nat × Sh) -> List Ty -> List Ty
 | [], r => r
 | p :: l, r => wk5 p.2 (wl4 l r)
@[reducible] def wk4 : OSh -> List Ty -> List Ty
 | .buf t, r => .slice t :: r
 | .box l, r => y9b l r
 | .clos _ l, r => y9b l r
 | .grid t, r => .slice (.slice t) :: r
 | .mat t, r => .slice (.slice t) :: r
@[reducible] def w5f : List (Nat × OSh) -> List Ty -> List Ty
 | [], r => r
 | p :: l, r => wk4 p.2 (w5f l r)
@[reducible] def Ann.tys (a : Ann) : List Ty := wl4 a.slots (w5f a.objs [])
def w47 : (l : LSh) -> (r : List Ty) -> zb9 (v0p l r) -> LV × zb9 r
 | .val t, _, d => (.val t d.1, d.2)
 | .pre id _, _, d => (.pre id d.1, d.2)
 | .row id t, _, d => (.row id t ((d.1 : Nat) : Int), d.2)
 | .vw id t, _, d => (.vw id t d.1 d.2.1, d.2.2)
 | .own id _, _, d => (.own id, d)
 | .grd id _, _, d => (.grd id, d)
 | .fix v, _, d => (v, d)
def y0z : (l : List LSh) -> (r : List Ty) -> zb9 (y9b l r) -> List LV × zb9 r
 | [], _, d => ([], d)
 | l :: ls, r, d => ((w47 l (y9b ls r) d).1 :: (y0z ls r (w47 l (y9b ls r) d).2).1, (y0z ls r (w47 l (y9b ls r) d).2).2)
def w82 : (l : Sh) -> (r : List Ty) -> zb9 (wk5 l r) -> AV × zb9 r
 | .one l, r, d => (.one (w47 l r d).1, (w47 l r d).2)
 | .agg l, r, d => (.agg (y0z l r d).1, (y0z l r d).2)
def w62 : (l : List (Nat × Sh)) -> (r : List Ty) -> zb9 (wl4 l r) -> List (Nat × AV) × zb9 r
 | [], _, d => ([], d)
 | p :: l, r, d => ((p.1, (w82 p.2 (wl4 l r) d).1) :: (w62 l r (w82 p.2 (wl4 l r) d).2).1, (w62 l r (w82 p.2 (wl4 l r) d).2).2)
def yx1 : (l : OSh) -> (r : List Ty) -> zb9 (wk4 l r) -> Obj × zb9 r
 | .buf t, _, d => (.buf t d.1, d.2)
 | .box l, r, d => (.box (y0z l r d).1, (y0z l r d).2)
 | .clos f l, r, d => (.clos f (y0z l r d).1, (y0z l r d).2)
 | .grid t, _, d => (.grid t d.1 none, d.2)
 | .mat t, _, d => (.mat t d.1 none, d.2)
def w01 : (l : List (Nat × OSh)) -> (r : List Ty) -> zb9 (w5f l r) -> List (Nat × Option Obj) × zb9 r
 | [], _, d => ([], d)
 | p :: l, r, d => ((p.1, some (yx1 p.2 (w5f l r) d).1) :: (w01 l r (yx1 p.2 (w5f l r) d).2).1, (w01 l r (yx1 p.2 (w5f l r) d).2).2)
def emb (a : Ann) (d : zb9 a.tys) : MS :=
 { slots := (w62 a.slots _ d).1, objs := (w01 a.objs [] (w62 a.slots (w5f a.objs []) d).2).1, saved := [] }
def w59 : LV -> LV -> Bool
 | .nil, .nil => true
 | .nilp, .nilp => true
 | .pbox i o, .pbox j p => i == j && o == p
 | .clos i, .clos j => i == j
 | .func f, .func g => f == g
 | _, _ => false
def v2c (s : MS) : (l : LSh) -> LV -> (r : List Ty) -> zb9 r -> Option (zb9 (v0p l r))
 | .val t, v, _, d => if v.refs.isEmpty then (conv s t v).map fun x => (x, d) else none
 | .pre id t, .pre i n, _, d => match s.obj i with
  | some (.buf t' _) => if i = id /\ t' = t then some (n, d) else none
  | _ => none
 | .vw id t, .vw i u lo n, _, d => match s.obj i with
  | some (.buf t' _) => if i = id /\ u = t /\ t' = t then some (lo, n, d) else none
  | _ => none
 | .own id t, .own i, _, d => match s.obj i with
  | some (.buf t' _) => if i = id /\ t' = t then some d else none
  | some (.grid t' _ none) => if i = id /\ .slice t' = t then some d else none
  | _ => none
 | .grd id t, .grd i, _, d => match s.obj i with
  | some (.mat t' _ none) => if i = id /\ t' = t then some d else none
  | _ => none
 | .row id t, .row i u k, _, d => match s.obj i with
  | some (.mat t' _ none) => if i = id /\ u = t /\ t' = t then some (k.toNat, d) else none
  | _ => none
 | .fix v, v', _, d => if w59 v v' then some d else none
 | _, _, _, _ => none
def yc4 (s : MS) : (l : List LSh) -> List LV -> (r : List Ty) -> zb9 r -> Option (zb9 (y9b l r))
 | [], [], _, d => some d
 | l :: ls, v :: vs, r, d => (yc4 s ls vs r d).bind fun d => v2c s l v (y9b ls r) d
 | _, _, _, _ => none
def wx5 (s : MS) : (l : Sh) -> AV -> (r : List Ty) -> zb9 r -> Option (zb9 (wk5 l r))
 | .one l, .one v, r, d => v2c s l v r d
 | .agg l, .agg v, r, d => yc4 s l v r d
 | _, _, _, _ => none
def v1h (s : MS) : (l : List (Nat × Sh)) -> (r : List Ty) -> zb9 r -> Option (zb9 (wl4 l r))
 | [], _, d => some d
 | p :: l, r, d => (v1h s l r d).bind fun d => wx5 s p.2 (s.get p.1) (wl4 l r) d
def wx4 (s : MS) : (l : OSh) -> Obj -> (r : List Ty) -> zb9 r -> Option (zb9 (wk4 l r))
 | .buf t, .buf t' xs, _, d => (zf6 (.slice t) (t' := .slice t') xs).map fun x => (x, d)
 | .box l, .box v, r, d => yc4 s l v r d
 | .clos f l, .clos g v, r, d => if f = g then yc4 s l v r d else none
 | .grid t, .grid t' xs none, _, d => (zf6 (.slice (.slice t)) (t' := .slice (.slice t')) xs).map fun x => (x, d)
 | .mat t, .mat t' xs none, _, d => (zf6 (.slice (.slice t)) (t' := .slice (.slice t')) xs).map fun x => (x, d)
 | _, _, _, _ => none
def v1g (s : MS) : (l : List (Nat × OSh)) -> (r : List Ty) -> zb9 r -> Option (zb9 (w5f l r))
 | [], _, d => some d
 | p :: l, r, d => (v1g s l r d).bind fun d => (s.obj p.1).bind fun o => wx4 s p.2 o (w5f l r) d
def ext (s : MS) (a : Ann) : Option (zb9 a.tys) :=
 (v1g s a.objs [] ()).bind fun d => v1h s a.slots _ d
def w7y (s : MS) : LSh -> LV -> MS
 | .own id t, .nil => s.new id (.buf t [])
 | .own id _, .own i => s.ren i id
 | .pre id t, .nil => s.new id (.buf t [])
 | .pre id _, .own i => s.ren i id
 | .pre id _, .pre i _ => s.ren i id
 | .vw id _, .vw i _ _ _ => s.ren i id
 | .grd id t, .nil => s.new id (.mat t [] none)
 | .grd id _, .grd i => s.ren i id
 | .row id _, .row i _ _ => s.ren i id
 | .fix (.pbox id o), .pbox i o' => if o = o' then s.ren i id else s
 | .val _, .grd i => s.solid i
 | .val _, .own i => s.solid i
 | .val _, .pre i _ => s.solid i
 | .val _, .vw i _ _ _ => s.solid i
 | _, _ => s
def v12 (s : MS) (l : LSh) (v v2 : LV) : LV :=
 match l, v, v2 with
 | .own id _, .nil, .nil => .own id
 | .pre id _, .nil, .nil => .pre id 0
 | .grd id _, .nil, .nil => .grd id
 | .pre id _, _, .own i => if i = id then (match s.obj id with
   | some (.buf _ xs) => .pre id xs.length
   | _ => .own i) else .own i
 | _, _, v2 => v2
def w41 (n i : Nat) (l : LSh) (s : MS) : Option MS :=
 match s.get n with
 | .agg cur => match cur[i]? with
  | some v => match (w7y s l v).get n with
   | .agg cur' => match cur'[i]? with
    | some v2 => some { w7y s l v with slots := (n, .agg (cur'.set i (v12 (w7y s l v) l v v2))) :: (w7y s l v).slots }
    | none => none
   | _ => none
  | none => none
 | _ => none
def w18 (n : Nat) : Nat -> List LSh -> MS -> Option MS
 | _, [], s => some s
 | i, l :: ls, s => (w41 n i l s).bind (w18 n (i + 1) ls)
def w43 (s : MS) (n : Nat) : Sh -> Option MS
 | .one l => match s.get n with
  | .one v => match (w7y s l v).get n with
   | .one v2 => some { w7y s l v with slots := (n, .one (v12 (w7y s l v) l v v2)) :: (w7y s l v).slots }
   | _ => none
  | _ => none
 | .agg ls => w18 n 0 ls s
def y72 : List (Nat × Sh) -> MS -> Option MS
 | [], s => some s
 | p :: l, s => (w43 s p.1 p.2).bind (y72 l)
def w42 (id i : Nat) (l : LSh) (s : MS) : Option MS :=
 match s.obj id with
 | some (.box cur) => match cur[i]? with
  | some v => match (w7y s l v).obj id with
   | some (.box cur') => match cur'[i]? with
    | some v2 => some ((w7y s l v).upd id (.box (cur'.set i (v12 (w7y s l v) l v v2))))
    | none => none
   | _ => none
  | none => none
 | _ => none
def w19 (id : Nat) : Nat -> List LSh -> MS -> Option MS
 | _, [], s => some s
 | i, l :: ls, s => (w42 id i l s).bind (w19 id (i + 1) ls)
def zx4 : List (Nat × OSh) -> MS -> Option MS
 | [], s => some s
 | (id, .box ls) :: r, s => (w19 id 0 ls s).bind (zx4 r)
 | _ :: r, s => zx4 r s
def MS.coe (s : MS) (a : Ann) : Option MS := (y72 a.slots s).bind (zx4 a.objs)
def MS.coeP (s : MS) (pins : List Nat) (a : Ann) : Option MS := match s.coe a with
 | none => none
 | some s => if pins.all fun i => s.pin.contains i then some s else none
def LSh.inB (l : List Nat) : LSh -> Bool
 | .fix v => v.refs.all l.contains
 | .own id _ | .pre id _ | .vw id _ | .grd id _ | .row id _ => l.contains id
 | .val _ => true
def Sh.inB (l : List Nat) : Sh -> Bool
 | .one s => s.inB l
 | .agg ss => ss.all (LSh.inB l)
def OSh.inB (l : List Nat) : OSh -> Bool
 | .buf _ | .grid _ | .mat _ => true
 | .box ss | .clos _ ss => ss.all (LSh.inB l)
def Ann.closed (a : Ann) : Bool := (a.slots.all fun p => p.2.inB (a.objs.map (·.1))) && a.objs.all fun p => p.2.inB (a.objs.map (·.1))
inductive LR (x r : Ann) where
 | exit (d : zb9 x.tys)
 | ret (d : zb9 r.tys)
structure LSpec where
 h : Ann
 x : Ann
 r : Ann
 xid : Nat
 rt : Bool
 pins : List Nat
 f : Nat -> zb9 h.tys -> Option (LR x r)
abbrev z1t := List (List FuncId × List (Nat × LSpec))
def w1u {α : Type} (p : List FuncId) : List (List FuncId × α) -> Option α
 | [] => none
 | (q, a) :: l => if p = q then some a else w1u p l
def w32 : Code -> List Nat
 | .region _ ops _ => ops.toList.filterMap (·.dst)
 | .seq a b => w32 a ++ w32 b
 | .cond _ a b => w32 a ++ w32 b
 | .block _ c | .loop c | .scope c => w32 c
 | _ => []
def MS.behind (s : MS) (D : List Nat) (pins : List Nat) (h x : Ann) (d : zb9 x.tys) : MS :=
 let s := ((h.objs.map (·.1) ++ x.objs.map (·.1)).filter fun i => !(pins.contains i && (x.objs.map (·.1)).contains i)).foldl MS.kill s
 { slots := (emb x d).slots ++ s.slots.filter (fun p => !D.contains p.1), objs := (emb x d).objs ++ s.objs, saved := s.saved, pin := s.pin.filter fun i => decide (i < nnB) && (!(x.objs.map (·.1)).contains i || pins.contains i) }
section
variable {ρ : Type}
abbrev Inl (ρ : Type) := FuncId -> List AV -> MS -> (AV -> MS -> Option ρ) -> Option ρ
def w9u (id : Nat) : LV -> LV
 | .own i => if i = id then .val .opq () else .own i
 | .pre i n => if i = id then .val .opq () else .pre i n
 | .grd i => if i = id then .val .opq () else .grd i
 | v => v
def Obj.blank (id : Nat) : Obj -> Obj
 | .box l => .box (l.map (w9u id))
 | o => o
def MS.blank (s : MS) (id : Nat) : MS := { s with objs := s.objs.map fun p => (p.1, p.2.map (Obj.blank id)) }
def w9l (s : MS) (nm bytes : Nat) (t : Ty) (base x : LV) (K : LV -> MS -> Option ρ) : Option ρ :=
 if bytes = 0 then none else match w1t s t x with
 | none => none
 | some ys =>
  let go (nn : Bool) (s' : MS) (old : List t.den) : Option ρ :=
   if (old.length + ys.length) * bytes <= 140737488355328 then K (.own nm) (if nn then (s'.new nm (.buf t (old ++ ys))).pinNN nm else s'.new nm (.buf t (old ++ ys))) else none
  match base with
  | .nil => go false s []
  | .own id => match s.obj id with
   | some (.buf t' xs) => match zf6 (.slice t) (t' := .slice t') xs with
    | some xs => go (s.pin.contains (nnc id)) ((s.blank id).kill id) xs
    | none => none
   | _ => none
  | .pre id n => match s.obj id with
   | some (.buf t' xs) => match zf6 (.slice t) (t' := .slice t') xs with
    | some xs => go false ((s.blank id).kill id) (xs.take n)
    | none => none
   | _ => none
  | _ => none
def ww3 (s : MS) (z : Nat) (dst src : LV) (K : AV -> MS -> Option ρ) : Option ρ :=
 match dst with
 | .own id => match s.obj id with
  | some (.buf t xs) => if t.sz ≠ z then none else match w1t s t src with
   | some ys => K (i1 .i64 (min ys.length xs.length : Nat)) (s.upd id (.buf t (ys.take xs.length ++ xs.drop ys.length)))
   | none => none
  | _ => none
 | .vw id u lo n => match s.obj id with
  | some (.buf t xs) => if t.sz ≠ z \/ u ≠ t then none else match w1t s t src with
   | some ys => K (i1 .i64 (min ys.length n : Nat)) (s.upd id (.buf t (xs.take lo ++ (ys.take n ++ xs.drop (lo + min ys.length n)))))
   | none => none
  | _ => none
 | _ => none
def v1m (E : Env) (s : MS) (t : TypeId) (x : AV) : Option Nat :=
 match x, E.kd? t with
 | .one (.val .str b), some .sc => if E.ty? t = some .str then some b.size else none
 | .one v, some (.slice _) => match v with
  | .val .str _ => none
  | .val (.arr _ _) _ => none
  | v => lenOf s v
 | .agg [.val (.arr n _) _], some (.ar m _) => if n = m then some n else none
 | .one (.pbox _ _), some (.ar m _) => some m
 | _, _ => none
def mm (max : Bool) (s : MS) (x y : Operand) (K : AV -> MS -> Option ρ) : Option ρ :=
 match s.ev x, s.ev y with
 | .one (.val (.int k) a), .one (.val (.int k') b) => if k = k' then (if max then K (i1 k (if b > a then b else a)) s else K (i1 k (if b < a then b else a)) s) else none
 | _, _ => none
def w2e (E : Env) (t : TypeId) : Bool :=
 match E.ti t with
 | some ti => match ti.kd with
  | .slice _ => true
  | .sc => decide (ti.ty = .str)
  | _ => false
 | none => false
def wl2 (s : MS) (nm bytes : Nat) (t : Ty) (base x : LV) (K : AV -> MS -> Option ρ) : Option ρ :=
 match base, x with
 | .nil, .val (.int .i64) n => if t.sz ≠ 0 /\ bytes ≠ 0 then (if 0 < n then (if n * bytes <= 140737488355328 then K (.one (.own nm)) (s.new nm (.buf t (List.replicate n.toNat t.zero))) else none) else none) else none
 | _, _ => none
def y2i (s : MS) (nm id2 : Nat) (u : Ty) (xs ys : List (List u.den)) (K : LV -> MS -> Option ρ) : Option ρ :=
 if id2 = nm then K (.grd nm) ((s.kill id2).new nm (.mat u (xs ++ ys) none))
 else K (.grd nm) ((((((s.kill nm).drop id2).upd nm (.mat u (xs ++ ys) none)).unpin nm).mapL (LV.mvRow id2 nm u xs.length)).kill id2)
def w3t (s : MS) (nm bytes : Nat) (t : Ty) (base x : LV) (K : LV -> MS -> Option ρ) : Option ρ :=
 if bytes = 0 then none else match x with
 | .grd id2 => match s.obj id2 with
  | some (.mat u ys none) => if t = .slice u /\ ys.length ≠ 0 then
   let go (id1 : Nat) (xs : List (List u.den)) : Option ρ := if id1 ≠ id2 then (if (xs.length + ys.length) * bytes <= 140737488355328 then y2i ((s.blank id1).kill id1) nm id2 u xs ys K else none) else none
   (match base with
   | .nil => if ys.length * bytes <= 140737488355328 then y2i s nm id2 u [] ys K else none
   | .grd id1 => match s.obj id1 with
     | some (.mat u' xs none) => match zf6 (.slice (.slice u)) (t' := .slice (.slice u')) xs with
       | some xs => go id1 xs
       | none => none
     | _ => none
   | .gpre id1 n => match s.obj id1 with
     | some (.mat u' xs none) => match zf6 (.slice (.slice u)) (t' := .slice (.slice u')) xs with
       | some xs => go id1 (xs.take n)
       | none => none
     | _ => none
   | _ => none) else none
  | _ => none
 | _ => none
def v2q : LV -> Bool
 | .grd _ => true
 | _ => false
def w3s (E : Env) (s : MS) (d : Option Nat) (t t' : TypeId) (x y : Operand) (K : AV -> MS -> Option ρ) : Option ρ :=
 match s.ev x, s.ev y, E.kd? t with
 | .one u, .one v, some (.slice e) => match E.ti e with
  | some te => if v2q v then (if w2e E t' then w3t s (s.nm d) te.bytes te.ty u v fun r s => K (.one r) s else none) else if w2e E t' then w9l s (s.nm d) te.bytes te.ty u v fun r s => K (.one r) s else if E.ty? t' = some (.int .i64) then wl2 s (s.nm d) te.bytes te.ty u v K else none
  | none => none
 | _, _, _ => none
def builtin (E : Env) (s : MS) (d : Option Nat) (b : Builtin) (args : List Operand) (ts : List TypeId) (K : AV -> MS -> Option ρ) : Option ρ :=
 match b, args, ts with
 | .len, [x], t :: _ => match v1m E s t (s.ev x) with
  | some n => K (i1 .i64 n) s
  | none => none
 | .append, [x, y], t :: t' :: _ => w3s E s d t t' x y K
 | .cap, [x], t :: _ => match s.ev x, E.kd? t with
  | .one .nil, some (.slice _) => K (i1 .i64 0) s
  | _, _ => none
 | .copy, [x, y], t :: _ => match s.ev x, s.ev y, E.kd? t with
  | .one u, .one v, some (.slice e) => match E.sz e with
   | some z => ww3 s z u v K
   | none => none
  | _, _, _ => none
 | .max, [x, y], _ => mm true s x y K
 | .min, [x, y], _ => mm false s x y K
 | _, _, _ => none
def v2a (s : MS) : (t : Ty) -> AV -> Option t.den
 | .ptr t, .one (.pbox id off) => match s.obj id with
  | some (.box l) => match ws1 l off t.sz with
   | some m => zt9 s t m
   | none => none
  | _ => none
 | t, v => (v.asTy t).bind (zt9 s t)
def w0x (s : MS) : (ps : List Ty) -> List AV -> Option (yn2 ps)
 | [], [] => some ()
 | [t], [v] => v2a s t v
 | t :: t' :: r, v :: vs => (v2a s t v).bind fun x => (w0x s (t' :: r) vs).bind fun y => some (x, y)
 | _, _ => none
def wv7 (s : MS) (c : Spec) (l : List AV) : Option (yn2 c.ps) := if c.al then y6u s c.ps l else w0x s c.ps l
def y3r (s : MS) (still : Bool) (d : Option Nat) (c : Spec) (args : List AV) (K : AV -> MS -> Option ρ) : Option ρ :=
 match wv7 s c args with
 | none => none
 | some x => match (if c.al then s.solids? still (args.flatMap fun a => (a.leaves?).getD []) else some s) with
  | none => none
  | some s => match c.f x with
   | none => none
   | some r => match y93 still (s.nm d) c.rs r s with
    | none => none
    | some (l, s) => K (w22 l) s
def y2j (E : Env) (inl : Inl ρ) (s : MS) (still : Bool) (d : Option Nat) (f : FuncId) (args : List AV) (K : AV -> MS -> Option ρ) : Option ρ :=
 match look f E.spec with
 | some c => match look f E.spec2 with
  | some c2 => if (wv7 s c args).isSome then y3r s still d c args K else y3r s still d c2 args K
  | none => y3r s still d c args K
 | none => if still then none else inl f args s K
def w79 (s : MS) (_ : Bool) (z : Nat) (v : LV) (lo hi : Option Operand) (K : LV -> MS -> Option ρ) : Option ρ :=
 match v with
 | .val (.slice t) xs => if t.sz = z then bounds s xs.length lo hi fun l h => K (.val (.slice t) ((xs.take h).drop l)) s else none
 | .nil => bounds s 0 lo hi fun _ _ => K .nil s
 | .own id => match s.obj id with
  | some (.buf t xs) => if t.sz = z then match lo with
   | none => bounds s xs.length none hi fun _ h => K (.pre id h) s
   | some _ => bounds s xs.length lo hi fun l h => K (.vw id t l (h - l)) s
   else none
  | _ => none
 | .pre id n => match s.obj id with
  | some (.buf t _) => if t.sz = z then match lo with
   | none => bounds s n none hi fun _ h => K (.pre id h) s
   | some _ => bounds s n lo hi fun l h => K (.vw id t l (h - l)) s
   else none
  | _ => none
 | .vw id u lo0 n => match s.obj id with
  | some (.buf t xs) => if t.sz = z /\ u = t then bounds s n lo hi fun l h => K (.val (.slice t) ((((xs.take (lo0 + n)).drop lo0).take h).drop l)) (s.solid id) else none
  | _ => none
 | .grd id => match s.obj id with
  | some (.mat t xs none) => if 1 = z then match lo with
   | none => bounds s xs.length none hi fun _ h => K (.gpre id h) s
   | some _ => bounds s xs.length lo hi fun l h => K (.val (.slice (.slice t)) ((xs.take h).drop l)) (s.solid id)
   else none
  | _ => none
 | .row id u i => match s.obj id with
  | some (.mat t xs none) => if t.sz = z /\ u = t then bounds s (xs.getD i.toNat []).length lo hi fun l h => K (.val (.slice t) (((xs.getD i.toNat []).take h).drop l)) (s.solid id) else none
  | _ => none
 | _ => none
def y73 (E : Env) (s : MS) (src dst : TypeId) (x : Operand) (K : AV -> MS -> Option ρ) : Option ρ :=
 match E.ty? dst with
 | some (.int k) => match s.ev x with
  | .one (.val (.int _) n) => if (E.ty? src).isSome then K (i1 k (k.wrap n)) s else none
  | _ => none
 | some .str => match s.ev x with
  | .one (.val .str b) => if (E.ty? src).isSome then K (.one (.val .str b)) s else none
  | .one v => match E.kd? src with
   | some (.slice e) => if E.ty? e = some (.int .u8) then (match conv s (.slice (.int .u8)) v with
     | some xs => K (.one (.val .str ⟨(xs.map fun n => UInt8.ofNat n.toNat).toArray⟩)) s
     | none => none) else none
   | _ => none
  | _ => none
 | some (.slice t) => match s.ev x with
  | .one (.val .str b) => if (E.ty? src).isSome then (match E.kd? dst with
    | some (.slice e) => if E.ty? e = some (.int .u8) then (match zf6 (.slice t) (t' := .slice (.int .u8)) (b.data.toList.map fun c => (c.toNat : Int)) with
      | some xs => K (.one (.val (.slice t) xs)) s
      | none => none) else none
    | _ => none) else none
  | _ => none
 | _ => none
def y3u (s : MS) (nm : Nat) (u : Ty) (p : LV) (K : AV -> MS -> Option ρ) : Option ρ :=
 match p with
 | .pbuf id (.slice t) i [] => match s.obj id with
  | some (.grid t' xs none) => if t' = t /\ u = .slice t /\ nm ≠ id then K (.one (.own nm)) ((((s.kill nm).upd id (.grid t' xs (some i.toNat))).upd nm (.buf t' (xs.getD i.toNat []))).unpin nm) else none
  | _ => none
 | _ => none
def y7b (s : MS) (u : Ty) (p : LV) (l : List LV) (K : AV -> MS -> Option ρ) : Option ρ :=
 match p, l with
 | .pbuf id (.slice t) i [], [.own nm] => match s.obj id, s.obj nm with
  | some (.grid t' xs h), some (.buf t2 ys) => if t' = t /\ u = .slice t /\ nm ≠ id then (match zf6 (.slice t') (t' := .slice t2) ys with
    | some ys => match h with
      | none => K .undef ((s.kill nm).upd id (.grid t' (xs.set i.toNat ys) none))
      | some j => if i.toNat = j then K .undef ((s.kill nm).upd id (.grid t' (xs.set i.toNat ys) none)) else none
    | none => none) else none
  | _, _ => none
 | _, _ => none
def w71 (E : Env) (s : MS) (t : TypeId) (len : Nat) (parts : List (Nat × Operand)) : Option (Nat × ((u : Ty) × List u.den)) :=
 if E.rows then match E.kd? t, parts with
  | some (.slice e), [(0, y)] => match s.ev y, E.ty? e with
   | .one (.own r), some (.slice u) => match s.obj r with
    | some (.buf u' xs) => if u' = u /\ len = 1 then some (r, ⟨u', xs⟩) else none
    | _ => none
   | _, _ => none
  | _, _ => none
 else none
def w6k (s : MS) (still : Bool) (nm : Nat) (q : Nat × ((u : Ty) × List u.den)) (K : AV -> MS -> Option ρ) : Option ρ :=
 if still then none else
 if q.1 = nm then K (.one (.grd nm)) ((s.kill q.1).new nm (.mat q.2.1 [q.2.2] none))
 else K (.one (.grd nm)) ((((((s.kill nm).drop q.1).upd nm (.mat q.2.1 [q.2.2] none)).unpin nm).mapL (LV.toRow q.1 nm q.2.1)).kill q.1)
def yd7 (s : MS) (u : Ty) (p : LV) (l : List LV) (K : AV -> MS -> Option ρ) : Option ρ :=
 match p, l with
 | .pgrd id t i, [.row id' t2 j] => match s.obj id with
  | some (.mat t' xs h) => if t' = t /\ t2 = t /\ id' = id /\ u = .slice t then (match h with
    | none => if j.toNat < xs.length then K .undef (s.upd id (.mat t' xs (some (i.toNat, j.toNat)))) else none
    | some (a, b) => if i.toNat = b /\ j.toNat = a then K .undef (((s.killR id).upd id (.mat t' ((xs.set a (xs.getD b [])).set b (xs.getD a [])) none)).unpin id) else none) else none
  | _ => none
 | _, _ => none
def zl9 (flat : Bool) (k : Kd) (t : Ty) (n : Nat) : Obj :=
 match flat, k, t with
 | false, .slice _, .slice u => .grid u (List.replicate n []) none
 | _, _, t => .buf t (List.replicate n t.zero)
def w96 (E : Env) (inl : Inl ρ) (still : Bool) (o : Oper) (s : MS) (K : AV -> MS -> Option ρ) : Option ρ :=
 match o.op with
 | .move x | .assign x => K (s.ev x) s
 | .pick c a b => match s.ev c with
  | .one (.val .bool c) => if c = true then K (s.ev a) s else K (s.ev b) s
  | _ => none
 | .alloc t => match E.zeroL 20 t with
  | some l => match s.mk? still (s.nm o.dst) (.box l) with
   | some s' => K (.one (.pbox (s.nm o.dst) 0)) s'
   | none => none
  | none => none
 | .box t x => match (s.ev x).leaves?, E.sz t with
  | some l, some n => if cells l = n then (match s.mk? still (s.nm o.dst) (.box l) with
    | some s' => K (.one (.pbox (s.nm o.dst) 0)) s'
    | none => none) else none
  | _, _ => none
 | .build t parts => match E.kd? t, y0c s parts.toList with
  | some (.st fs), some ps => if ps.all (fun p => decide (p.1 < fs.length)) then (match (E.zeroL 20 t).bind fun zl => y0y E ps zl 0 0 fs with
    | some l => K (.agg l) s
    | none => none) else none
  | some (.ar n e), some ps => match E.ty? e with
   | some u => if ps.all (fun p => decide (p.1 < n)) && decide (u.sz ≠ 0) then (match zk8 s u ps 0 n with
     | some xs => match s.solids? still (ps.flatMap Prod.snd) with
       | some s => K (.agg [.val (.arr n u) xs]) s
       | none => none
     | none => none) else none
   | none => none
  | _, _ => none
 | .buildSlice t len parts => match w71 E s t len parts.toList with
  | some q => w6k s still (s.nm o.dst) q K
  | none => match E.kd? t, y0c s parts.toList with
  | some (.slice e), some ps => match E.elTy e with
   | some u => if ps.all (fun p => decide (p.1 < len)) && decide (u.sz ≠ 0) && decide (len * u.sz <= 16777216) then (match zk8 s u ps 0 len with
     | some xs => match s.solids? still (ps.flatMap Prod.snd) with
       | some s' => match s'.mk? still (s.nm o.dst) (.buf u xs) with
         | some s'' => K (.one (.own (s.nm o.dst))) (s''.pinNN (s.nm o.dst))
         | none => none
       | none => none
     | none => none) else none
   | none => none
  | _, _ => none
 | .load t a => match s.ev a, E.ty? t with
  | .one p, some u => match yy2 s u p with
   | some l => K (zi6 u l) s
   | none => y3u s (s.nm o.dst) u p K
  | _, _ => none
 | .store t a x => match s.ev a, E.ty? t, (s.ev x).leaves? with
  | .one p, some u, some l => match w2o s u p l with
   | some s => K .undef s
   | none => match p with
    | .pgrd _ _ _ => yd7 s u p l K
    | _ => y7b s u p l K
  | _, _, _ => none
 | .nilCheck x => match s.ev x with
  | .one .nilp => none
  | .one (.pbox i j) => K (.one (.pbox i j)) s
  | .one (.pbuf i t j p) => K (.one (.pbuf i t j p)) s
  | .one (.pgrd i t j) => K (.one (.pgrd i t j)) s
  | .one (.prow i t j k) => K (.one (.prow i t j k)) s
  | .one (.pimm t x) => K (.one (.pimm t x)) s
  | .one (.val (.ptr t) x) => K (.one (.pimm t x)) s
  | _ => none
 | .binOp op t x y _ => w9t E s op t x y fun v => K v s
 | .unOp op _ x => v27 s op x fun v => K v s
 | .convert src dst x => y73 E s src dst x K
 | .makeFunc (.func f) first caps => if first.size = 0 then
   match caps.toList.mapM fun x => match s.ev x with | .one v => some v | _ => none with
   | some l => match s.mk? still (s.nm o.dst) (.clos f l) with
    | some s' => K (.one (.clos (s.nm o.dst))) s'
    | none => none
   | none => none
  else none
 | .makeSlice t len cap => match E.kd? t, s.ev len, s.ev cap with
  | some (.slice e), .one (.val (.int .i64) l), .one (.val (.int .i64) c) => match E.ti e with
   | some te => if te.ty.sz ≠ 0 /\ te.bytes ≠ 0 then (if 0 <= l then (if l <= c then (if c * te.bytes <= 281474976710656 then
       (match s.mk? still (s.nm o.dst) (zl9 (E.flat.contains e) te.kd te.ty l.toNat) with
       | some s' => K (.one (.own (s.nm o.dst))) s'
       | none => none) else none) else none) else none) else none
   | none => none
  | _, _, _ => none
 | .slice t x lo hi none => match E.kd? t, s.ev x with
  | some (.ar n e), .one (.pbox id off) => match s.obj id with
   | some (.box l) => match y5r l off with
    | some (.val (.arr n' u) xs :: _) => if still then none else if n' = n /\ E.sz e = some u.sz then bounds s n lo hi fun a b => K (.one (.val (.slice u) ((xs.take b).drop a))) (s.kill id) else none
    | _ => none
   | _ => none
  | some (.slice e), .one v => match E.sz e with
   | some z => w79 s still z v lo hi fun v s => K (.one v) s
   | none => none
  | some .sc, .one (.val .str b) => if E.ty? t = some .str then bounds s b.size lo hi fun l h => K (.one (.val .str (b.extract l h))) s else none
  | _, _ => none
 | .fieldAddr t x i => match E.kd? t, E.ty? t with
  | some (.st fs), some u => match E.fieldAt fs i with
   | some (n, t') => if (E.sz t').getD 0 = 0 then none else match s.ev x with
    | .one (.pbox id off) => K (.one (.pbox id (off + n))) s
    | .one (.pbuf id v k p) => match zc7 v p with
     | some (_, u') => if u' = u then K (.one (.pbuf id v k (p ++ [(fs.length, i)]))) s else none
     | none => none
    | .one (.pimm v y) => if v = u then (match zq9 v y fs.length i with
      | some ⟨u', x'⟩ => K (.one (.pimm u' x')) s
      | none => none) else none
    | _ => none
   | none => none
  | _, _ => none
 | .field t x i => match E.kd? t, s.ev x with
  | some (.st fs), .agg l => match E.fieldAt fs i with
   | some (n, t') => match E.ty? t' with
    | some u => match ws1 l n u.sz with
     | some m => K (zi6 u m) s
     | none => none
    | none => none
   | none => none
  | _, _ => none
 | .indexAddr t x i => match E.kd? t, s.ev x, s.ev i with
  | some (.ar n e), .one v, .one (.val (.int _) i) => match E.sz e with
   | some z => we0 s z n v i fun v => K (.one v) s
   | none => none
  | some (.slice e), .one v, .one (.val (.int _) i) => match E.sz e with
   | some z => we2 s z v i fun v => K (.one v) s
   | none => none
  | _, _, _ => none
 | .index t x i => match E.kd? t, s.ev x, s.ev i with
  | some .sc, .one (.val .str b), .one (.val (.int _) i) => if E.ty? t = some .str then (if 0 <= i then (if i < b.size then K (i1 .u8 ((b.data.getD i.toNat 0).toNat : Int)) s else none) else none) else none
  | some (.ar n e), .agg [.val (.arr n' u) xs], .one (.val (.int _) i) => if n' = n /\ E.ty? e = some u then (if 0 <= i then (if i < n then K (typed u (xs.getD i.toNat u.zero)) s else none) else none) else none
  | _, _, _ => none
 | .extract x i => match s.ev x with
  | .tup l => match l[i]? with
   | some (true, m) => K (.agg m) s
   | some (false, [v]) => K (.one v) s
   | _ => none
  | _ => none
 | .call c => match c.callee with
  | .builtin b => builtin E s o.dst b c.args.toList c.argTypes.toList K
  | .value f => match s.ev f with
   | .one (.func g) => y2j E inl s still o.dst g (c.args.toList.map s.ev) K
   | .one (.clos id) => match s.obj id with
    | some (.clos g caps) => y2j E inl s still o.dst g (c.args.toList.map s.ev ++ caps.map .one) K
    | _ => none
   | _ => none
  | .invoke _ _ => none
 | _ => none
def yc (E : Env) (o : Oper) : Option Bool :=
 match o.op with
 | .move _ | .assign _ | .pick _ _ _ | .slice _ _ _ _ _ | .field _ _ _ | .indexAddr _ _ _ | .index _ _ _ | .extract _ _ => some true
 | .binOp _ _ _ _ _ | .unOp _ _ _ | .nilCheck _ | .fieldAddr _ _ _ => some true
 | .convert _ dst _ => match E.ty? dst with
  | some (.int _) => some true
  | _ => none
 | .load _ _ => some false
 | .call c => match c.callee with
  | .builtin .len | .builtin .max | .builtin .min => some true
  | _ => none
 | .build _ _ => some true
 | _ => none
def w31 (E : Env) (o : Oper) : Bool :=
 (yc E o).isSome || match o.op with
 | .alloc _ | .box _ _ | .build _ _ | .buildSlice _ _ _ | .makeSlice _ _ _ | .makeFunc _ _ _ => true
 | .call c => match c.callee with
  | .value (.func g) => (look g E.spec).isSome
  | _ => false
 | _ => false
def bits (n m : Nat) : List Nat := (List.range n).filter fun i => m.testBit i
def wz4 (ops : List Oper) : List Nat :=
 ops.foldl (fun acc o => acc ++ [o.after.toList.foldl (fun l e => if Region.binds .any e then (1 <<< e.on) ||| (acc.getD e.on 0 ||| l) else l) 0]) []
def yw1 (ops : List Oper) : List (List Nat) := (wz4 ops).map (bits ops.length)
def yd2 (E : Env) (ops : Array Oper) (bf : List (List Nat)) (listed : Array Bool) (i : Nat) : Bool :=
 match ops[i]? with
 | none => false
 | some oi => match yc E oi with
  | none => false
  | some any => (List.range ops.size).all fun j => j == i || listed.getD j true || (bf.getD j []).contains i || match ops[j]? with
   | some oj => oi.apart ops oj && (any || w31 E oj)
   | none => true
def zw4 (o : Oper) : Option (Nat × List Nat) :=
 match o.op, o.guard, o.dst with
 | .makeSlice _ l c, none, some d => some (d, [l, c].filterMap fun x => match x with | .tmp t => some t | _ => none)
 | _, _, _ => none
def v1t (ops : Array Oper) (bf : List (List Nat)) (listed : Array Bool) (rs : List Nat) : Bool :=
 (rs.all fun i => match (ops[i]?).bind zw4 with
   | none => false
   | some (d, ts) => rs.all fun j => match (ops[j]?).bind zw4 with
     | none => false
     | some (d', _) => (i == j || d != d') && !ts.contains d') &&
 (List.range ops.size).all fun k => listed.getD k true || rs.contains k || rs.all fun i => (bf.getD k []).contains i
def w6w (E : Env) (ops : Array Oper) (bf : List (List Nat)) : Nat -> Array Bool -> List Nat -> Option (List Nat)
 | 0, listed, p => if p.isEmpty && (Region.ready .any ops listed).isEmpty then some [] else none
 | n + 1, listed, i :: p => (w6w E ops bf n (listed.setIfInBounds i true) p).map (i :: ·)
 | n + 1, listed, [] =>
  match Region.ready .any ops listed with
  | [] => some []
  | [i] => (w6w E ops bf n (listed.setIfInBounds i true) []).map (i :: ·)
  | i :: p => match (i :: p).find? (yd2 E ops bf listed) with
   | some i => (w6w E ops bf n (listed.setIfInBounds i true) []).map (i :: ·)
   | none => if v1t ops bf listed (i :: p) then (w6w E ops bf n (listed.setIfInBounds i true) p).map (i :: ·) else none
def wu1 (E : Env) (ops : Array Oper) : Option (List Nat) :=
 if Region.noSelect ops then w6w E ops (yw1 ops.toList) ops.size (Array.replicate ops.size false) [] else none
def yc3 (E : Env) (inl : Inl ρ) (all : List Oper) (o : Oper) (s : MS) (K : MS -> Option ρ) : Option ρ :=
 match o.guard with
 | none => w96 E inl false o s fun v s => K (s.put o.dst v)
 | some (j, want) => match (all[j]?).bind (·.dst) with
  | some d => match s.get d with
   | .one (.val .bool b) =>
    if b = want then w96 E inl false o { s with slots := (d, b1 want) :: s.slots } fun v s => K (s.put o.dst v)
    else K (({ s with slots := (d, b1 !want) :: s.slots } : MS).put o.dst (.tup []))
   | .tup [] => K (s.put o.dst (.tup []))
   | _ => none
  | none => none
def yo6 (E : Env) (inl : Inl ρ) (all : List Oper) : List Oper -> MS -> (MS -> Option ρ) -> Option ρ
 | [], s, K => K s
 | o :: r, s, K => yc3 E inl all o s fun s => yo6 E inl all r s K
def y4p (n : Nat) (ops : List Oper) : Bool := ops.all fun o => match o.dst with
 | some d => decide (d < n)
 | none => true
def z2r (l : List Nat) (listed : Array Bool) : Array Bool := l.foldl (fun a i => a.setIfInBounds i true) listed
def wd0 (E : Env) (s : MS) (o : Oper) : Option ((t : Ty) × List t.den) :=
 match o.op with
 | .buildSlice t len parts => match E.kd? t, y0c s parts.toList with
  | some (.slice e), some ps => match E.ty? e with
   | some u => if ps.all (fun p => decide (p.1 < len)) && decide (u.sz ≠ 0) && decide (len * u.sz <= 16777216) && (ps.flatMap Prod.snd).all (fun v => v.refs.isEmpty) then
     (zk8 s u ps 0 len).map fun xs => ⟨u, xs⟩ else none
   | none => none
  | _, _ => none
 | _ => none
def z9e (o : Oper) : Bool := match o.op, o.guard, o.dst with
 | .buildSlice _ _ _, none, some _ => true
 | .alloc _, none, some _ => true
 | .makeSlice _ _ _, none, some _ => true
 | _, _, _ => false
def ze2 (o : Oper) : Bool := match o.op with
 | .alloc _ | .makeSlice _ _ _ => true
 | _ => false
inductive Fl where
 | data (t : Ty) (xs : List t.den)
 | obj (c ptr : Bool) (ob : Obj)
def Fl.ok : Fl -> Bool
 | .data _ _ => true
 | .obj c _ _ => c
def yi6 (E : Env) (s : MS) (o : Oper) : Option Fl :=
 match o.op with
 | .alloc t => (E.zeroL 20 t).bind fun l => if l.all fun v => v.refs.isEmpty then some (.obj true true (.box l)) else none
 | .makeSlice t len cap => match E.kd? t, s.ev len, s.ev cap with
  | some (.slice e), .one (.val (.int .i64) l), .one (.val (.int .i64) c) => match E.ti e with
   | some te => if te.ty.sz ≠ 0 /\ te.bytes ≠ 0 then some (.obj (decide (0 <= l /\ l <= c /\ c * te.bytes <= 281474976710656)) false (zl9 (E.flat.contains e) te.kd te.ty l.toNat)) else none
   | none => none
  | _, _, _ => none
 | _ => (wd0 E s o).map fun p => .data p.1 p.2
def wh9 (E : Env) (s : MS) (o : Oper) : Bool := match o.op, o.guard with
 | .load t x, none => match s.ev x with
  | .one (.pimm v _) => decide (E.ty? t = some v)
  | _ => false
 | _, _ => false
inductive It where
 | op (o : Oper)
 | prot (o : Oper)
 | chk (o : Oper)
 | land (o : Oper)
def zc0 (E : Env) (all : List Oper) : List It -> MS -> (MS -> Option ρ) -> Option ρ
 | [], s, K => K s
 | .op o :: r, s, K => yc3 E (fun _ _ _ _ => none) all o s fun s => zc0 E all r s K
 | .prot o :: r, s, K => if wh9 E s o then yc3 E (fun _ _ _ _ => none) all o s fun s => zc0 E all r s K else none
 | .chk o :: r, s, K => match yi6 E s o with
  | some fl => if fl.ok = true then zc0 E all r s K else none
  | none => none
 | .land o :: r, s, K => match yi6 E s o with
  | some (.data u xs) => zc0 E all r (s.put o.dst (.one (.val (.slice u) xs))) K
  | some (.obj c ptr ob) => if c = true then zc0 E all r ((s.new (s.nm o.dst) ob).put o.dst (.one (if ptr then .pbox (s.nm o.dst) 0 else .own (s.nm o.dst)))) K else none
  | none => none
def w3y (ops : Array Oper) (bf : List (List Nat)) (listed : Array Bool) (i : Nat) : Bool :=
 match ops[i]? with
 | none => false
 | some oi => match oi.op, oi.guard with
  | .load _ _, none => (List.range ops.size).all fun j => j == i || listed.getD j true || (bf.getD j []).contains i || match ops[j]? with
   | some oj => oi.apart ops oj
   | none => true
  | _, _ => false
def w98 (ops : Array Oper) (p : Oper -> Bool) (i : Nat) : Bool := match ops[i]? with
 | some o => p o
 | none => false
def yv7 (ops : Array Oper) (i j : Nat) : Bool := match ops[i]?, ops[j]? with
 | some x, some y => x.apart ops y
 | _, _ => false
def wu6 (ops : Array Oper) (i : Nat) : Bool := match ops[i]? with
 | some o => o.dst.all fun d => !(o.looksAt ops).contains d
 | none => false
def wj5 (ops : Array Oper) (bf : List (List Nat)) (n : Nat) (listed : Array Bool) (fl : List Nat) : Option (List Nat × Nat) :=
 match Region.ready .any ops (z2r fl listed) with
 | [i] =>
  if !w98 ops z9e i && decide (fl.length <= n) && (fl.all fun j => wu6 ops j && fl.all fun j' => j == j' || yv7 ops j j') &&
   (fl.all fun j => (bf.getD i []).contains j || yv7 ops j i) && (Region.ready .any ops (z2r (fl.filter fun j => (bf.getD i []).contains j) listed)).contains i then
    some (fl.filter fun j => (bf.getD i []).contains j, i) else none
 | _ => none
def v22 (ops : Array Oper) : List Nat -> Option Nat
 | [i] => if w98 ops z9e i then some i else none
 | _ => none
def yl1 (E : Env) (ops : Array Oper) (bf : List (List Nat)) : Nat -> Bool -> Array Bool -> Nat -> Option (List (Nat × Nat))
 | 0, _, _, _ => none
 | f + 1, ph, listed, n =>
  let R := Region.ready .any ops listed
  match R with
  | [] => some []
  | _ =>
   let fl := R.filter (w98 ops z9e)
   let fs : Option (List (Nat × Nat)) := match n with
    | 0 => none
    | n + 1 => match wj5 ops bf n listed fl with
     | some (J, i) => if J.length <= n then (yl1 E ops bf f (!(fl.all fun j => J.contains j)) ((z2r J listed).setIfInBounds i true) (n - J.length)).map fun r => fl.map (fun j => (2, j)) ++ J.map (fun j => (3, j)) ++ (0, i) :: r else none
     | none => none
   if ph && !fl.isEmpty then fs else
    match n with
    | 0 => none
    | n + 1 => match R.find? (yd2 E ops bf listed) with
     | some i => (yl1 E ops bf f false (listed.setIfInBounds i true) n).map ((0, i) :: ·)
     | none => match R.find? (w3y ops bf listed) with
      | some i => (yl1 E ops bf f false (listed.setIfInBounds i true) n).map ((1, i) :: ·)
      | none => match v22 ops R with
       | some i => (yl1 E ops bf f false (listed.setIfInBounds i true) n).map ((0, i) :: ·)
       | none => fs
def v3i (ops : Array Oper) (p : Nat × Nat) : Option It := (ops[p.2]?).map fun o => match p.1 with
 | 0 => .op o
 | 1 => .prot o
 | 2 => .chk o
 | _ => .land o
def yo8 (ops : Array Oper) (l : List (Nat × Nat)) : List It := l.filterMap (v3i ops)
def wh8 (E : Env) (ops : Array Oper) : Option (List (Nat × Nat)) :=
 if Region.noSelect ops then yl1 E ops (yw1 ops.toList) (ops.size + 1) false (Array.replicate ops.size false) ops.size else none
def z6a : Code -> Option Nat
 | .region id _ _ => some id
 | .seq a b => match z6a a with
  | some n => some n
  | none => z6a b
 | .block _ c | .loop c | .scope c => z6a c
 | .cond _ a _ => z6a a
 | _ => none
def code (E : Env) (L : z1t) (k : Nat) (path : List FuncId) (n : Nat) (inl : Inl ρ) : Code -> MS -> (Ex -> MS -> Option ρ) -> Option ρ
 | .skip, s, K => K .normal s
 | .label _, s, K => K .normal s
 | .region _ ops false, s, K => if y4p n ops.toList then yo6 E inl ops.toList ops.toList s fun s => K .normal s else none
 | .region _ ops true, s, K => if y4p n ops.toList then match wu1 E ops with
   | some order => yo6 E inl ops.toList (order.filterMap fun i => ops[i]?) s fun s => K .normal s
   | none => match wh8 E ops with
    | some l => zc0 E ops.toList (yo8 ops l) s fun s => K .normal s
    | none => none
  else none
 | .seq a b, s, K => code E L k path n inl a s fun e s => match e with
  | .normal => code E L k path n inl b s K
  | e => K e s
 | .cond c a b, s, K => match s.ev c with
  | .one (.val .bool x) => if x = true then code E L k path n inl a s K else code E L k path n inl b s K
  | _ => none
 | .block id c, s, K => code E L k path n inl c s fun e s => match e with
  | .exit i => if i = id then K .normal s else K (.exit i) s
  | e => K e s
 | .scope c, s, K => code E L k path n inl c s K
 | .loop c, s, K => match (z6a c).bind fun r => (w1u path L).bind (look r) with
  | none => none
  | some l => if l.x.closed && l.r.closed && l.pins.all (fun i => decide (i < nnB)) then match s.coe l.h with
   | none => none
   | some s => match ext s l.h with
    | none => none
    | some d => match l.f k d with
     | none => none
     | some (.exit d) => K (.exit l.xid) (s.behind (w32 c) l.pins l.h l.x d)
     | some (.ret d) => if l.rt then K .ret (s.behind (w32 c) l.pins l.h l.r d) else none
   else none
 | .exit id, s, K => K (.exit id) s
 | .ret, s, K => K .ret s
 | _, _, _ => none
def wl3 (E : Env) (s : MS) : List ResultVar -> Option (List (Bool × List LV))
 | [] => some []
 | .tmp t :: r => (match s.get t with
     | .one v => some (false, [v])
     | .agg l => some (true, l)
     | _ => none).bind fun x => (wl3 E s r).map (x :: ·)
 | .cell a t :: r => (match s.get a, E.ty? t with
     | .one p, some u => (yy2 s u p).map fun l => (u.agg, l)
     | _, _ => none).bind fun x => (wl3 E s r).map (x :: ·)
def enter (args : List AV) (s : MS) : MS := { slots := args.zipIdx.map fun p => (p.2, p.1), objs := s.objs, saved := s.slots :: s.saved, pin := s.pin }
def leave (s : MS) : MS := { slots := s.saved.headD [], objs := s.objs, saved := s.saved.tail, pin := s.pin }
def atHome (d i : Nat) (l : List (Nat × AV)) : Bool := match look (i / 4 - (d - 1) * 1000) l with
 | some (.one (.own j)) => i == j
 | _ => false
def settleL (d : Nat) (l0 : List (Nat × AV)) : List (Nat × AV) -> MS -> MS
 | [], s => s
 | (n, .one (.own i)) :: l, s => settleL d l0 l (if ((s.obj i).isSome && !s.pin.contains i && !atHome d i l0) = true then s.ren i (((d - 1) * 1000 + n) * 4) else s)
 | _ :: l, s => settleL d l0 l s
def MS.settle (s : MS) : MS := match s.saved with
 | l :: _ => settleL s.saved.length l l s
 | [] => s
def w8b (E : Env) (L : z1t) (k : Nat) : Nat -> List FuncId -> Inl ρ
 | 0, _, _, _, _, _ => none
 | n + 1, path, f, args, s, K => match look f E.body with
  | none => none
  | some fn => match fn.body with
   | none => none
   | some c => if args.length <= fn.ntmps then code E L k (f :: path) fn.ntmps (w8b E L k n (f :: path)) c (enter args s).settle fun e s => match e with
    | .exit _ => none
    | _ => match wl3 E s fn.results.toList with
     | some l => K (w22 l) (leave s)
     | none => none
    else none
def yd1 (s : MS) : (r : RM) -> Bool × List LV -> Option r.den
 | .imm t, p => if p.1 = t.agg then zt9 s t p.2 else none
 | .fresh t, (false, [.own id]) => match s.obj id with
  | some (.buf t' xs) => zf6 (.slice t) (t' := .slice t') xs
  | _ => none
 | .fresh t, (false, [.pre id n]) => match s.obj id with
  | some (.buf t' xs) => zf6 (.slice t) (t' := .slice t') (xs.take n)
  | _ => none
 | .fresh _, (false, [.nil]) => some []
 | _, _ => none
def y5b (s : MS) : (rs : List RM) -> List (Bool × List LV) -> Option (yo5 rs)
 | [], [] => some ()
 | [r], [p] => yd1 s r p
 | r :: r' :: rs, p :: l => (yd1 s r p).bind fun x => (y5b s (r' :: rs) l).bind fun y => some (x, y)
 | _, _ => none
def z7g : (ps : List Ty) -> yn2 ps -> List AV
 | [], _ => []
 | [t], x => [typed t x]
 | t :: t' :: r, x => typed t x.1 :: z7g (t' :: r) x.2
def nodupB : List Nat -> Bool
 | [] => true
 | a :: l => !l.contains a && nodupB l
def w6y (l : List (Bool × List LV)) : Bool := nodupB (l.flatMap fun p => p.2.flatMap LV.refs)
def round (E : Env) (L : z1t) (k : Nat) (path : List FuncId) (n : Nat) (c : Code) (l : LSpec) (f : zb9 l.h.tys -> Option (LR l.x l.r)) (d : zb9 l.h.tys) : Option (LR l.x l.r) :=
 code E L k path n (w8b E L k 6 path) c { emb l.h d with pin := l.pins } fun e s => match e with
  | .normal => match s.coeP l.pins l.h with
   | none => none
   | some s => match ext s l.h with
    | none => none
    | some d => f d
  | .exit i => if i = l.xid then (match s.coeP l.pins l.x with
    | none => none
    | some s => match ext s l.x with
      | none => none
      | some d => some (.exit d)) else none
  | .ret => match s.coeP l.pins l.r with
   | none => none
   | some s => match ext s l.r with
    | none => none
    | some d => some (.ret d)
def wi5 (E : Env) (L : z1t) (k : Nat) (fid : FuncId) (fn : Func) (ps : List Ty) (rs : List RM) (x : yn2 ps) : Option (yo5 rs) :=
 match fn.body with
 | none => none
 | some c => if ps.length <= fn.ntmps then code E L k [fid] fn.ntmps (w8b E L k 8 [fid]) c { slots := (z7g ps x).zipIdx.map fun p => (p.2, p.1), objs := [], saved := [] } fun e s => match e with
  | .exit _ => none
  | _ => match wl3 E s fn.results.toList with
   | some l => if w6y l then y5b s rs l else none
   | none => none
  else none
end
end Vm
/- How plain data lies in the model's memory, and what keeps it there. -/
namespace Vm
open Go
open Go.RowKit (Below)
def cell1 : Value -> Bool
 | .agg _ | .tuple _ => false
 | _ => true
def ArRd {α : Type} (R : α -> List Value -> Prop) : List α -> List Value -> Prop
 | [], cs => cs = []
 | x :: xs, cs => ∃ c1 c2, cs = c1 ++ c2 /\ R x c1 /\ ArRd R xs c2
def SlRd {α : Type} (w : World) (I : Nat -> Prop) (sz : Nat) (R : α -> List Value -> Prop) (A : Option Addr) (n c : Nat) (xs : List α) : Prop :=
 n = xs.length /\ match A with
 | none => xs = [] /\ c = 0
 | some a => n <= c /\ (c = 0 \/ a.spot = none /\ I a.block /\ ∃ C E fz, w.heap[a.block]? = some (.cells C E fz) /\ a.off + c * sz <= C.size /\
     ∀ i x, xs[i]? = some x -> R x ((C.toList.drop (a.off + i * sz)).take sz))
def Rd (w : World) (I : Nat -> Prop) : (t : Ty) -> t.den -> List Value -> Prop
 | .bool, x, cs => cs = [.bool x]
 | .int k, x, cs => cs = [.int k x]
 | .str, x, cs => cs = [.string x]
 | .err, x, cs => ∃ v, cs = [v] /\ (x = false -> v = .nilIface) /\ (x = true -> ∃ T u, v = .iface T u)
 | .slice t, xs, cs => ∃ A n c, cs = [.slice A n c] /\ SlRd w I t.sz (Rd w I t) A n c xs
 | .nsl t, o, cs => ∃ A n c, cs = [.slice A n c] /\ SlRd w I t.sz (Rd w I t) A n c (o.getD []) /\ (o = none ↔ A = none)
 | .unit, _, cs => cs = []
 | .pair a b, x, cs => ∃ c1 c2, cs = c1 ++ c2 /\ Rd w I a x.1 c1 /\ Rd w I b x.2 c2
 | .arr n t, xs, cs => xs.length = n /\ ArRd (Rd w I t) xs cs
 | .opq, _, cs => ∃ v, cs = [v] /\ cell1 v = true
 | .nat, _, _ => False
 | .ptr t, x, cs => ∃ a C E fz, cs = [.pointer (some a)] /\ a.spot = none /\ I a.block /\ w.heap[a.block]? = some (.cells C E fz) /\ a.off + t.sz <= C.size /\ Rd w I t x ((C.toList.drop a.off).take t.sz)
theorem ArRd.mono {α : Type} {R R' : α -> List Value -> Prop} (h : ∀ x cs, R x cs -> R' x cs) : ∀ {xs : List α} {cs}, ArRd R xs cs -> ArRd R' xs cs
 | [], _, k => k
 | _ :: _, _, ⟨c1, c2, e, r, k⟩ => ⟨c1, c2, e, h _ _ r, ArRd.mono h k⟩
theorem SlRd.mono {α : Type} {w w' : World} {I I' : Nat -> Prop} {sz : Nat} {R R' : α -> List Value -> Prop} {A : Option Addr} {n c : Nat} {xs : List α}
  (hw : ∀ b, I b -> w'.heap[b]? = w.heap[b]?) (hI : ∀ b, I b -> I' b) (h : ∀ x cs, R x cs -> R' x cs) (k : SlRd w I sz R A n c xs) :
  SlRd w' I' sz R' A n c xs := by
 obtain ⟨hn, k⟩ := k
 refine ⟨hn, ?_⟩
 cases A with
 | none => exact k
 | some a =>
  obtain ⟨h3, k⟩ := k
  refine ⟨h3, k.imp (fun h => h) fun ⟨h1, h2, C, E, fz, h4, h5, h6⟩ => ⟨h1, hI _ h2, C, E, fz, (hw _ h2).trans h4, h5, fun i x hx => h _ _ (h6 i x hx)⟩⟩
theorem Rd.mono {w w' : World} {I I' : Nat -> Prop} (hw : ∀ b, I b -> w'.heap[b]? = w.heap[b]?) (hI : ∀ b, I b -> I' b) :
  ∀ {t : Ty} {x : t.den} {cs : List Value}, Rd w I t x cs -> Rd w' I' t x cs := by
 intro t
 induction t with
 | bool => exact fun h => h
 | int k => exact fun h => h
 | str => exact fun h => h
 | err => exact fun h => h
 | slice t ih =>
  rintro x cs ⟨A, n, c, e, h⟩
  exact ⟨A, n, c, e, h.mono hw hI fun _ _ => ih⟩
 | nsl t ih =>
  rintro x cs ⟨A, n, c, e, h, k⟩
  exact ⟨A, n, c, e, h.mono hw hI fun _ _ => ih, k⟩
 | unit => exact fun h => h
 | pair a b iha ihb =>
  rintro x cs ⟨c1, c2, e, h1, h2⟩
  exact ⟨c1, c2, e, iha h1, ihb h2⟩
 | arr n t ih =>
  rintro x cs ⟨e, h⟩
  exact ⟨e, h.mono fun _ _ => ih⟩
 | opq => exact fun h => h
 | nat => exact fun h => h
 | ptr t ih =>
  rintro x cs ⟨a, C, E, fz, e, h1, h2, h3, h4, h5⟩
  exact ⟨a, C, E, fz, e, h1, hI _ h2, (hw _ h2).trans h3, h4, ih h5⟩
theorem ArRd.length {α : Type} {R : α -> List Value -> Prop} {sz : Nat} (h : ∀ x cs, R x cs -> cs.length = sz) :
  ∀ {xs : List α} {cs}, ArRd R xs cs -> cs.length = xs.length * sz
 | [], cs, k => by simp [ArRd] at k; simp [k]
 | _ :: xs, _, ⟨c1, c2, e, r, k⟩ => by
  have := ArRd.length h k
  simp [e, h _ _ r, this, Nat.add_mul]
  omega
theorem Rd.length {w : World} {I : Nat -> Prop} : ∀ {t : Ty} {x : t.den} {cs : List Value}, Rd w I t x cs -> cs.length = t.sz := by
 intro t
 induction t with
 | bool => rintro x cs rfl; rfl
 | int k => rintro x cs rfl; rfl
 | str => rintro x cs rfl; rfl
 | err => intro x cs ⟨v, e, _⟩; rw [e]; rfl
 | slice t ih => rintro x cs ⟨A, n, c, rfl, _⟩; rfl
 | nsl t ih => rintro x cs ⟨A, n, c, rfl, _⟩; rfl
 | unit => rintro x cs rfl; rfl
 | pair a b iha ihb =>
  rintro x cs ⟨c1, c2, rfl, h1, h2⟩
  simp [Ty.sz, iha h1, ihb h2]
 | arr n t ih =>
  intro x cs ⟨e, h⟩
  have := ArRd.length (fun _ _ => ih) h
  rw [this, e]; rfl
 | opq => rintro x cs ⟨v, rfl, _⟩; rfl
 | nat => intro x cs h; exact h.elim
 | ptr t ih => rintro x cs ⟨a, C, E, fz, rfl, _⟩; rfl
theorem Rd.one {w : World} {I : Nat -> Prop} {t : Ty} {x : t.den} {cs : List Value} (ht : t.agg = false) (h : Rd w I t x cs) :
  ∃ v, cs = [v] /\ cell1 v = true := by
 cases t with
 | bool => exact ⟨_, h, rfl⟩
 | int k => exact ⟨_, h, rfl⟩
 | str => exact ⟨_, h, rfl⟩
 | err =>
  obtain ⟨v, e, h1, h2⟩ := h
  cases x with
  | false => exact ⟨v, e, by rw [h1 rfl]; rfl⟩
  | true => obtain ⟨T, u, e'⟩ := h2 rfl; exact ⟨v, e, by rw [e']; rfl⟩
 | slice t => obtain ⟨A, n, c, e, _⟩ := h; exact ⟨_, e, rfl⟩
 | nsl t => obtain ⟨A, n, c, e, _⟩ := h; exact ⟨_, e, rfl⟩
 | unit => simp [Ty.agg] at ht
 | pair a b => simp [Ty.agg] at ht
 | arr n t => simp [Ty.agg] at ht
 | opq => obtain ⟨v, e, h⟩ := h; exact ⟨_, e, h⟩
 | nat => exact h.elim
 | ptr t => obtain ⟨a, C, E, fz, e, _⟩ := h; exact ⟨_, e, rfl⟩
abbrev Hv := Nat -> Option Value
def LRd (w : World) (I : Nat -> Prop) (h : Hv) : LV -> List Value -> Prop
 | .val t x, cs => Rd w I t x cs
 | .nil, cs => cs = [.slice none 0 0]
 | .nilp, cs => cs = [.pointer none]
 | .own id, cs => ∃ A n c, h id = some (.slice A n c) /\ cs = [.slice A n c]
 | .pre id m, cs => ∃ A n c, h id = some (.slice A n c) /\ m <= n /\ cs = [.slice A m c]
 | .vw id t lo m, cs => ∃ A n c, h id = some (.slice A n c) /\ lo + m <= n /\ cs = [.slice (if c = lo then A else A.map (·.add (lo * t.sz))) m (c - lo)]
 | .pbox id off, cs => ∃ b, h id = some (.pointer (some ⟨b, 0, none⟩)) /\ cs = [.pointer (some ⟨b, off, none⟩)]
 | .pboxA id off u n i, cs => 0 <= i /\ i < n /\ ∃ b, h id = some (.pointer (some ⟨b, 0, none⟩)) /\ cs = [.pointer (some ⟨b, off + i.toNat * u.sz, none⟩)]
 | .pbuf id t i fp, cs => 0 <= i /\ ∃ b n c k u, h id = some (.slice (some ⟨b, 0, none⟩) n c) /\ i < n /\ zc7 t fp = some (k, u) /\
   cs = [.pointer (some ⟨b, i.toNat * t.sz + k, none⟩)]
 | .pimm t x, cs => ∃ a C E fz, cs = [.pointer (some a)] /\ a.spot = none /\ I a.block /\ w.heap[a.block]? = some (.cells C E fz) /\
   a.off + t.sz <= C.size /\ Rd w I t x ((C.toList.drop a.off).take t.sz)
 | .clos id, cs => ∃ f caps, h id = some (.func (.func f) #[] caps) /\ cs = [.func (.func f) #[] caps]
 | .func f, cs => cs = [.func (.func f) #[] #[]]
 | .grd id, cs => ∃ A n c R, h id = some (.tuple #[.slice A n c, R]) /\ cs = [.slice A n c]
 | .gpre id m, cs => ∃ A n c R, h id = some (.tuple #[.slice A n c, R]) /\ m <= n /\ cs = [.slice A m c]
 | .pgrd id _ i, cs => 0 <= i /\ ∃ b n c R, h id = some (.tuple #[.slice (some ⟨b, 0, none⟩) n c, R]) /\ i < n /\ cs = [.pointer (some ⟨b, i.toNat, none⟩)]
 | .row id _ i, cs => 0 <= i /\ ∃ o, ∃ hs : Array Value, ∃ A n c, h id = some (.tuple #[o, .agg hs]) /\ hs[i.toNat]? = some (.slice A n c) /\ cs = [.slice A n c]
 | .prow id t i k, cs => 0 <= i /\ 0 <= k /\ ∃ o, ∃ hs : Array Value, ∃ b n c, h id = some (.tuple #[o, .agg hs]) /\ hs[i.toNat]? = some (.slice (some ⟨b, 0, none⟩) n c) /\ k < n /\
   cs = [.pointer (some ⟨b, k.toNat * t.sz, none⟩)]
abbrev LsRd (w : World) (I : Nat -> Prop) (h : Hv) : List LV -> List Value -> Prop := ArRd (LRd w I h)
theorem LRd.mono {w w' : World} {I I' : Nat -> Prop} {h : Hv} (hw : ∀ b, I b -> w'.heap[b]? = w.heap[b]?) (hI : ∀ b, I b -> I' b) {v : LV} {cs : List Value}
  (k : LRd w I h v cs) : LRd w' I' h v cs := by
 cases v <;> try exact k
 case val t x => exact Rd.mono hw hI k
 case pimm t x =>
  obtain ⟨a, C, E, fz, e, h1, h2, h3, h4, h5⟩ := k
  exact ⟨a, C, E, fz, e, h1, hI _ h2, (hw _ h2).trans h3, h4, Rd.mono hw hI h5⟩
theorem LRd.length {w : World} {I : Nat -> Prop} {h : Hv} {v : LV} {cs : List Value} (k : LRd w I h v cs) : cs.length = v.sz := by
 cases v with
 | val t x => exact Rd.length k
 | nil => rw [show cs = _ from k]; rfl
 | nilp => rw [show cs = _ from k]; rfl
 | own id => obtain ⟨A, n, c, _, rfl⟩ := k; rfl
 | pre id n => obtain ⟨A, n, c, _, _, rfl⟩ := k; rfl
 | vw id t lo n => obtain ⟨A, n, c, _, _, rfl⟩ := k; rfl
 | pbox id o => obtain ⟨b, _, rfl⟩ := k; rfl
 | pboxA id o u n i => obtain ⟨_, _, b, _, rfl⟩ := k; rfl
 | pbuf id t i fp => obtain ⟨_, b, n, c, k, u, _, _, _, rfl⟩ := k; rfl
 | pimm t x => obtain ⟨a, C, E, fz, rfl, _⟩ := k; rfl
 | clos id => obtain ⟨f, c, _, rfl⟩ := k; rfl
 | func f => rw [show cs = _ from k]; rfl
 | grd id => obtain ⟨A, n, c, R, _, rfl⟩ := k; rfl
 | gpre id m => obtain ⟨A, n, c, R, _, _, rfl⟩ := k; rfl
 | pgrd id t i => obtain ⟨_, b, n, c, R, _, _, rfl⟩ := k; rfl
 | row id t i => obtain ⟨_, o, hs, A, n, c, _, _, rfl⟩ := k; rfl
 | prow id t i j => obtain ⟨_, _, o, hs, b, n, c, _, _, _, rfl⟩ := k; rfl
theorem LsRd.append {w : World} {I : Nat -> Prop} {h : Hv} : ∀ {l m : List LV} {cs ds : List Value}, LsRd w I h l cs -> LsRd w I h m ds -> LsRd w I h (l ++ m) (cs ++ ds)
 | [], m, cs, ds, k, k' => by simp [ArRd] at k; subst k; simpa using k'
 | v :: l, m, cs, ds, ⟨c1, c2, e, r, k⟩, k' => ⟨c1, c2 ++ ds, by simp [e], r, LsRd.append k k'⟩
theorem LsRd.split {w : World} {I : Nat -> Prop} {h : Hv} : ∀ {l m : List LV} {cs : List Value}, LsRd w I h (l ++ m) cs -> ∃ c1 c2, cs = c1 ++ c2 /\ LsRd w I h l c1 /\ LsRd w I h m c2
 | [], m, cs, k => ⟨[], cs, rfl, rfl, k⟩
 | v :: l, m, cs, ⟨c1, c2, e, r, k⟩ => by
  obtain ⟨d1, d2, e', k1, k2⟩ := LsRd.split k
  exact ⟨c1 ++ d1, d2, by simp [e, e'], ⟨c1, d1, rfl, r, k1⟩, k2⟩
theorem LsRd.mono {w w' : World} {I I' : Nat -> Prop} {h : Hv} (hw : ∀ b, I b -> w'.heap[b]? = w.heap[b]?) (hI : ∀ b, I b -> I' b) {l : List LV} {cs : List Value}
  (k : LsRd w I h l cs) : LsRd w' I' h l cs := ArRd.mono (fun _ _ => LRd.mono hw hI) k
theorem LsRd.one {w : World} {I : Nat -> Prop} {h : Hv} {v : LV} {cs : List Value} (k : LRd w I h v cs) : LsRd w I h [v] cs := ⟨cs, [], by simp, k, rfl⟩
theorem LsRd.of_one {w : World} {I : Nat -> Prop} {h : Hv} {v : LV} {cs : List Value} (k : LsRd w I h [v] cs) : LRd w I h v cs := by
 obtain ⟨c1, c2, e, r, k⟩ := k
 simp [ArRd] at k
 subst k; simpa [e] using r
theorem LsRd.length {w : World} {I : Nat -> Prop} {h : Hv} : ∀ {l : List LV} {cs : List Value}, LsRd w I h l cs -> cs.length = cells l
 | [], cs, k => by simp [ArRd] at k; simp [k, cells]
 | v :: l, cs, ⟨c1, c2, e, r, k⟩ => by simp [e, r.length, LsRd.length k, cells]
theorem LsRd.leaves {w : World} {I : Nat -> Prop} {h : Hv} : ∀ {t : Ty} {x : t.den} {cs : List Value}, Rd w I t x cs -> LsRd w I h (leaves t x) cs := by
 intro t
 induction t with
 | pair a b iha ihb =>
  rintro x cs ⟨c1, c2, rfl, h1, h2⟩
  exact LsRd.append (iha h1) (ihb h2)
 | unit => intro x cs h; exact h
 | _ => intro x cs h; exact LsRd.one h
theorem ArRd.cell1 {α : Type} {R : α -> List Value -> Prop} (h : ∀ x cs, R x cs -> ∀ c ∈ cs, cell1 c = true) : ∀ {xs : List α} {cs}, ArRd R xs cs -> ∀ c ∈ cs, cell1 c = true
 | [], cs, k => by simp [ArRd] at k; subst k; intro c hc; cases hc
 | _ :: xs, _, ⟨c1, c2, e, r, k⟩ => by
  intro c hc
  rw [e, List.mem_append] at hc
  exact hc.elim (h _ _ r c) (ArRd.cell1 h k c)
theorem Rd.cell1 {w : World} {I : Nat -> Prop} : ∀ {t : Ty} {x : t.den} {cs : List Value}, Rd w I t x cs -> ∀ c ∈ cs, cell1 c = true := by
 intro t
 induction t with
 | pair a b iha ihb =>
  rintro x cs ⟨c1, c2, rfl, h1, h2⟩ c hc
  exact (List.mem_append.1 hc).elim (iha h1 c) (ihb h2 c)
 | arr n t ih =>
  rintro x cs ⟨_, h⟩
  exact ArRd.cell1 (fun _ _ => ih) h
 | unit => intro x cs h c hc; rw [show cs = _ from h] at hc; cases hc
 | _ =>
  intro x cs h c hc
  obtain ⟨v, e, hv⟩ := Rd.one rfl h
  rw [e, List.mem_singleton] at hc
  rw [hc]; exact hv
theorem LRd.cell1 {w : World} {I : Nat -> Prop} {h : Hv} {v : LV} {cs : List Value} (k : LRd w I h v cs) : ∀ c ∈ cs, cell1 c = true := by
 cases v with
 | val t x => exact Rd.cell1 k
 | nil => intro c hc; rw [show cs = _ from k, List.mem_singleton] at hc; rw [hc]; rfl
 | nilp => intro c hc; rw [show cs = _ from k, List.mem_singleton] at hc; rw [hc]; rfl
 | own id => obtain ⟨A, n, c, _, rfl⟩ := k; intro c hc; rw [List.mem_singleton] at hc; rw [hc]; rfl
 | pre id n => obtain ⟨A, n, c, _, _, rfl⟩ := k; intro c hc; rw [List.mem_singleton] at hc; rw [hc]; rfl
 | vw id t lo n => obtain ⟨A, n, c, _, _, rfl⟩ := k; intro c hc; rw [List.mem_singleton] at hc; rw [hc]; rfl
 | pbox id o => obtain ⟨b, _, rfl⟩ := k; intro c hc; rw [List.mem_singleton] at hc; rw [hc]; rfl
 | pboxA id o u n i => obtain ⟨_, _, b, _, rfl⟩ := k; intro c hc; rw [List.mem_singleton] at hc; rw [hc]; rfl
 | pbuf id t i fp => obtain ⟨_, b, n, c, k, u, _, _, _, rfl⟩ := k; intro c hc; rw [List.mem_singleton] at hc; rw [hc]; rfl
 | pimm t x => obtain ⟨a, C, E, fz, rfl, _⟩ := k; intro c hc; rw [List.mem_singleton] at hc; rw [hc]; rfl
 | clos id => obtain ⟨f, c, _, rfl⟩ := k; intro c hc; rw [List.mem_singleton] at hc; rw [hc]; rfl
 | func f => intro c hc; rw [show cs = _ from k, List.mem_singleton] at hc; rw [hc]; rfl
 | grd id => obtain ⟨A, n, c, R, _, rfl⟩ := k; intro c hc; rw [List.mem_singleton] at hc; rw [hc]; rfl
 | gpre id m => obtain ⟨A, n, c, R, _, _, rfl⟩ := k; intro c hc; rw [List.mem_singleton] at hc; rw [hc]; rfl
 | pgrd id t i => obtain ⟨_, b, n, c, R, _, _, rfl⟩ := k; intro c hc; rw [List.mem_singleton] at hc; rw [hc]; rfl
 | row id t i => obtain ⟨_, o, hs, A, n, c, _, _, rfl⟩ := k; intro c hc; rw [List.mem_singleton] at hc; rw [hc]; rfl
 | prow id t i j => obtain ⟨_, _, o, hs, b, n, c, _, _, _, rfl⟩ := k; intro c hc; rw [List.mem_singleton] at hc; rw [hc]; rfl
theorem LsRd.cell1 {w : World} {I : Nat -> Prop} {h : Hv} {l : List LV} {cs : List Value} (k : LsRd w I h l cs) : ∀ c ∈ cs, cell1 c = true :=
 ArRd.cell1 (fun _ _ => LRd.cell1) k
def ARd (w : World) (I : Nat -> Prop) (h : Hv) : AV -> Value -> Prop
 | .undef, _ => True
 | .one v, x => cell1 x = true /\ LRd w I h v [x]
 | .agg l, x => ∃ cs, x = .agg cs /\ LsRd w I h l cs.toList
 | .tup l, x => ∃ vs : List Value, x = .tuple vs.toArray /\ vs.length = l.length /\ ∀ (i : Nat) (p : Bool × List LV) (y : Value), l[i]? = some p -> vs[i]? = some y ->
   (if p.1 then ∃ cs, y = .agg cs /\ LsRd w I h p.2 cs.toList else cell1 y = true /\ LsRd w I h p.2 [y])
theorem ARd.mono {w w' : World} {I I' : Nat -> Prop} {h : Hv} (hw : ∀ b, I b -> w'.heap[b]? = w.heap[b]?) (hI : ∀ b, I b -> I' b) {v : AV} {x : Value}
  (k : ARd w I h v x) : ARd w' I' h v x := by
 cases v with
 | undef => trivial
 | one v => exact ⟨k.1, k.2.mono hw hI⟩
 | agg l => obtain ⟨cs, e, k⟩ := k; exact ⟨cs, e, k.mono hw hI⟩
 | tup l =>
  obtain ⟨vs, e, hl, k⟩ := k
  refine ⟨vs, e, hl, fun i p y hp hy => ?_⟩
  have := k i p y hp hy
  cases hb : p.1 <;> simp only [hb, if_true, if_false, Bool.false_eq_true] at this ⊢
  ·exact ⟨this.1, this.2.mono hw hI⟩
  ·obtain ⟨cs, e, k⟩ := this; exact ⟨cs, e, k.mono hw hI⟩
theorem ARd.leaves {w : World} {I : Nat -> Prop} {h : Hv} {v : AV} {x : Value} {l : List LV} (k : ARd w I h v x) (e : v.leaves? = some l) : LsRd w I h l x.cells.toList := by
 cases v with
 | undef => simp [AV.leaves?] at e
 | one v =>
  simp [AV.leaves?] at e
  subst e
  have : x.cells = #[x] := by
   have := k.1
   cases x <;> simp_all [cell1, Value.cells]
  rw [this]
  exact LsRd.one k.2
 | agg l' =>
  simp [AV.leaves?] at e
  subst e
  obtain ⟨cs, rfl, k⟩ := k
  exact k
 | tup l => simp [AV.leaves?] at e
theorem z34 {v : Value} (h : cell1 v = true) : v.cells = #[v] := by
 cases v <;> simp_all [cell1, Value.cells]
theorem w8e {t : Ty} (ht : t.agg = false) (x : t.den) : leaves t x = [.val t x] := by
 cases t <;> first | rfl | simp [Ty.agg] at ht
theorem ARd.typed {w : World} {I : Nat -> Prop} {h : Hv} {t : Ty} {x : t.den} {v : Value} (k : Rd w I t x v.cells.toList)
  (hv : if t.agg then ∃ cs, v = .agg cs else cell1 v = true) : ARd w I h (typed t x) v := by
 unfold Vm.typed zi6
 cases ht : t.agg
 ·simp only [ht, Bool.false_eq_true, if_false] at hv ⊢
  rw [w8e ht]
  rw [z34 hv] at k
  exact ⟨hv, k⟩
 ·simp only [ht, if_true] at hv ⊢
  obtain ⟨cs, rfl⟩ := hv
  exact ⟨cs, rfl, LsRd.leaves k⟩
end Vm
/- The relation between the machine's state and the model's: what the slots and objects stand for; what keeps it. -/
namespace Vm
open Go
structure Keep (P : Nat -> Prop) (w w' : World) : Prop where
 os : w'.os = w.os
 tape : w'.tape = w.tape
 output : w'.output = w.output
 size : w.heap.size <= w'.heap.size
 block : ∀ b, P b -> w'.heap[b]? = w.heap[b]?
theorem Keep.refl (P : Nat -> Prop) (w : World) : Keep P w w := ⟨rfl, rfl, rfl, Nat.le_refl _, fun _ _ => rfl⟩
theorem Keep.trans {P P' : Nat -> Prop} {a b c : World} (h : Keep P a b) (k : Keep P' b c) (hp : ∀ i, P i -> P' i) : Keep P a c :=
 ⟨k.os.trans h.os, k.tape.trans h.tape, k.output.trans h.output, Nat.le_trans h.size k.size, fun i hi => (k.block i (hp i hi)).trans (h.block i hi)⟩
abbrev Grow (w w' : World) : Prop := Keep (fun b => b < w.heap.size) w w'
structure Gh where
 I : Nat -> Prop
 h : Hv
 bs : Nat -> List Nat
def yq5 (C : Array Value) (fz : Nat × Nat) : Prop := fz.2 <= fz.1 \/ C.size <= fz.1
def RowOb (w : World) (I : Nat -> Prop) (t : Ty) (x : List t.den) (v : Value) (bs : List Nat) : Prop :=
 (v = .slice none 0 0 /\ x = [] /\ bs = []) \/ ∃ b c C E fz, v = .slice (some ⟨b, 0, none⟩) x.length c /\ bs = [b] /\ x.length <= c /\ w.heap[b]? = some (.cells C E fz) /\ yq5 C fz /\
  c * t.sz <= C.size /\ ∀ (i : Nat) (y : t.den), x[i]? = some y -> Rd w I t y ((C.toList.drop (i * t.sz)).take t.sz)
theorem RowOb.mono {w w' : World} {I I' : Nat -> Prop} {t : Ty} {x : List t.den} {v : Value} {bs : List Nat} (hw : ∀ b, I b -> w'.heap[b]? = w.heap[b]?) (hI : ∀ b, I b -> I' b)
  (hb : ∀ b, b ∈ bs -> w'.heap[b]? = w.heap[b]?) (k : RowOb w I t x v bs) : RowOb w' I' t x v bs := by
 rcases k with ⟨k1, k2, k3⟩ | ⟨b, c, C, E, fz, k1, k2, k3, k4, k5, k6, k7⟩
 ·exact .inl ⟨k1, k2, k3⟩
 ·exact .inr ⟨b, c, C, E, fz, k1, k2, k3, (hb b (by rw [k2]; simp)).trans k4, k5, k6, fun i x hx => (k7 i x hx).mono hw hI⟩
def wl7 (w : World) (G : Gh) (id : Nat) (t : Ty) (xs : List (List t.den)) (sw : Option (Nat × Nat)) : Prop :=
 ∃ b c C E fz, ∃ rb : Nat -> List Nat, ∃ hs : Array Value, G.h id = some (.tuple #[.slice (some ⟨b, 0, none⟩) xs.length c, .agg hs]) /\ xs.length <= c /\ c <= C.size /\ w.heap[b]? = some (.cells C E fz) /\ yq5 C fz /\ b ∈ G.bs id /\
   (∀ i, i < xs.length -> ∀ b', b' ∈ rb i -> b' ∈ G.bs id /\ b' ≠ b) /\ (∀ i j, i < xs.length -> j < xs.length -> i ≠ j -> ∀ b', b' ∈ rb i -> b' ∉ rb j) /\
   (∀ (i : Nat) (x : List t.den), xs[i]? = some x -> RowOb w G.I t x (hs.getD i undef) (rb i)) /\ hs.size = xs.length /\
   (∀ i, i < xs.length -> C.toList.getD i undef = match sw with | none => hs.getD i undef | some (j, k) => if i = j then hs.getD k undef else hs.getD i undef) /\ ∀ j k, sw = some (j, k) -> j < xs.length /\ k < xs.length
def Ob (w : World) (G : Gh) (id : Nat) : Obj -> Prop
 | .box l => ∃ b C E fz, G.h id = some (.pointer (some ⟨b, 0, none⟩)) /\ G.bs id = [b] /\ w.heap[b]? = some (.cells C E fz) /\ yq5 C fz /\ LsRd w G.I G.h l C.toList
 | .buf t xs => (G.h id = some (.slice none 0 0) /\ xs = [] /\ G.bs id = []) \/
   ∃ b c C E fz, G.h id = some (.slice (some ⟨b, 0, none⟩) xs.length c) /\ G.bs id = [b] /\ xs.length <= c /\ w.heap[b]? = some (.cells C E fz) /\ yq5 C fz /\
    c * t.sz <= C.size /\ ∀ (i : Nat) (x : t.den), xs[i]? = some x -> Rd w G.I t x ((C.toList.drop (i * t.sz)).take t.sz)
 | .clos f l => ∃ cs : Array Value, G.h id = some (.func (.func f) #[] cs) /\ G.bs id = [] /\ cs.size = l.length /\
   ∀ (i : Nat) (v : LV) (x : Value), l[i]? = some v -> cs[i]? = some x -> cell1 x = true /\ LRd w G.I G.h v [x]
 | .grid t xs hole => ∃ b c C E fz, ∃ rb : Nat -> List Nat, G.h id = some (.slice (some ⟨b, 0, none⟩) xs.length c) /\ xs.length <= c /\ c <= C.size /\ w.heap[b]? = some (.cells C E fz) /\ yq5 C fz /\ b ∈ G.bs id /\
   (∀ i, i < xs.length -> ∀ b', b' ∈ rb i -> b' ∈ G.bs id /\ b' ≠ b) /\ (∀ i j, i < xs.length -> j < xs.length -> i ≠ j -> ∀ b', b' ∈ rb i -> b' ∉ rb j) /\
   (∀ (i : Nat) (x : List t.den), xs[i]? = some x -> hole ≠ some i -> RowOb w G.I t x (C.toList.getD i undef) (rb i)) /\ ∀ i, hole = some i -> rb i = []
 | .mat t xs sw => (G.h id = some (.tuple #[.slice none 0 0, .agg #[]]) /\ xs = [] /\ G.bs id = [] /\ sw = none) \/ wl7 w G id t xs sw
def SlotsRd (w : World) (G : Gh) (l : List (Nat × AV)) (tm : Array Value) : Prop :=
 ∀ t v, look t l = some v -> ARd w G.I G.h v (tm.getD t undef)
def SavedRd (w : World) (G : Gh) : List (List (Nat × AV)) -> List (Array Value) -> Prop
 | [], [] => True
 | l :: ls, tm :: tms => SlotsRd w G l tm /\ SavedRd w G ls tms
 | _, _ => False
structure St extends World where
 I0 : Nat -> Prop
 h0 : Hv
def NN (v : Option Value) : Prop := ∃ b n c, v = some (.slice (some b) n c)
def PinOk (h0 h : Hv) (i : Nat) : Prop := if i < nnB then h i = h0 i else NN (h (i - nnB))
theorem PinOk.ext {h0 h h' : Hv} {i : Nat} (k : PinOk h0 h i) (e : ∀ i, h' i = h i) : PinOk h0 h' i := by
 unfold PinOk at *
 rw [e, e]; exact k
theorem PinOk.off {h0 h h' : Hv} {i b : Nat} (k : PinOk h0 h i) (e : ∀ i, i ≠ b -> h' i = h i) (h1 : i ≠ b) (h2 : i ≠ nnc b) : PinOk h0 h' i := by
 unfold PinOk at *
 split
 ·rename_i hi
  rw [if_pos hi] at k
  rw [e i h1]; exact k
 ·rename_i hi
  rw [if_neg hi] at k
  rw [e _ (fun hb => h2 (by rw [<- hb]; exact (Nat.sub_add_cancel (Nat.not_lt.1 hi)).symm))]; exact k
theorem yy6 {h0 h : Hv} {id : Nat} (k : PinOk h0 h (nnc id)) : NN (h id) := by
 unfold PinOk nnc at k
 rw [if_neg (Nat.not_lt.2 (Nat.le_add_left _ _)), Nat.add_sub_cancel] at k
 exact k
theorem w6p {h0 h : Hv} {id : Nat} (k : NN (h id)) : PinOk h0 h (nnc id) := by
 unfold PinOk nnc
 rw [if_neg (Nat.not_lt.2 (Nat.le_add_left _ _)), Nat.add_sub_cancel]
 exact k
structure Rel (P : Nat -> Prop) (w0 : St) (stk : List (Array Value)) (s : MS) (tm : Array Value) (w : World) (G : Gh) : Prop where
 keep : Keep P w0.toWorld w
 old : ∀ b, P b -> G.I b -> w0.I0 b
 isz : ∀ b, G.I b -> b < w.heap.size
 ob : ∀ id o, s.obj id = some o -> Ob w G id o
 sep : ∀ id o b, s.obj id = some o -> b ∈ G.bs id -> ¬ P b /\ ¬ G.I b /\ b < w.heap.size
 dis : ∀ id id' o o' b, s.obj id = some o -> s.obj id' = some o' -> b ∈ G.bs id -> b ∈ G.bs id' -> id = id'
 slots : SlotsRd w G s.slots tm
 saved : SavedRd w G s.saved stk
 pin : ∀ i, i ∈ s.pin -> PinOk w0.h0 G.h i
theorem w4q {w : World} {G : Gh} {id : Nat} {t : Ty} {xs : List (List t.den)} {sw : Option (Nat × Nat)} {a : Addr} {n c : Nat} {R : Value} (k : Ob w G id (.mat t xs sw)) (h : G.h id = some (.tuple #[.slice (some a) n c, R])) : wl7 w G id t xs sw := by
 rcases k with ⟨k1, _⟩ | k
 ·rw [h] at k1
  simp at k1
 ·exact k
theorem yk3 {w : World} {G : Gh} {id : Nat} {t : Ty} {xs : List (List t.den)} {sw : Option (Nat × Nat)} {o v : Value} {hs : Array Value} {i : Nat} (k : Ob w G id (.mat t xs sw)) (h : G.h id = some (.tuple #[o, .agg hs])) (h2 : hs[i]? = some v) : wl7 w G id t xs sw := by
 rcases k with ⟨k1, _⟩ | k
 ·rw [h] at k1
  simp only [Option.some.injEq, Value.tuple.injEq, Array.mk.injEq, List.cons.injEq, Value.agg.injEq, and_true] at k1
  rw [k1.2] at h2
  simp at h2
 ·exact k
theorem wt6 {w : World} {G : Gh} {id : Nat} {t : Ty} {xs : List (List t.den)} {sw : Option (Nat × Nat)} {i : Nat} (k : Ob w G id (.mat t xs sw)) (h : i < xs.length) : wl7 w G id t xs sw := by
 rcases k with ⟨_, k2, _⟩ | k
 ·rw [k2] at h; simp at h
 ·exact k
theorem LRd.congr {w : World} {I : Nat -> Prop} {h h' : Hv} {v : LV} {cs : List Value} (e : ∀ i, v.has i = true -> h' i = h i) (k : LRd w I h v cs) : LRd w I h' v cs := by
 cases v with
 | own id =>
  obtain ⟨A, n, c, h1, h2⟩ := k
  exact ⟨A, n, c, by rw [e id (by simp [LV.has])]; exact h1, h2⟩
 | pre id m =>
  obtain ⟨A, n, c, h1, h2⟩ := k
  exact ⟨A, n, c, by rw [e id (by simp [LV.has])]; exact h1, h2⟩
 | vw id t lo m =>
  obtain ⟨A, n, c, h1, h2⟩ := k
  exact ⟨A, n, c, by rw [e id (by simp [LV.has])]; exact h1, h2⟩
 | pbox id o =>
  obtain ⟨b, h1, h2⟩ := k
  exact ⟨b, by rw [e id (by simp [LV.has])]; exact h1, h2⟩
 | pboxA id o u n i =>
  obtain ⟨h0, h0', b, h1, h2⟩ := k
  exact ⟨h0, h0', b, by rw [e id (by simp [LV.has])]; exact h1, h2⟩
 | pbuf id t i fp =>
  obtain ⟨h0, b, n, c, q, u, h1, h2⟩ := k
  exact ⟨h0, b, n, c, q, u, by rw [e id (by simp [LV.has])]; exact h1, h2⟩
 | clos id =>
  obtain ⟨f, c, h1, h2⟩ := k
  exact ⟨f, c, by rw [e id (by simp [LV.has])]; exact h1, h2⟩
 | val t x => exact k
 | nil => exact k
 | nilp => exact k
 | pimm t x => exact k
 | func f => exact k
 | grd id => obtain ⟨A, n, c, R, h1, h2⟩ := k; exact ⟨A, n, c, R, by rw [e id (by simp [LV.has])]; exact h1, h2⟩
 | gpre id m => obtain ⟨A, n, c, R, h1, h2⟩ := k; exact ⟨A, n, c, R, by rw [e id (by simp [LV.has])]; exact h1, h2⟩
 | pgrd id t i => obtain ⟨h0, b, n, c, R, h1, h2⟩ := k; exact ⟨h0, b, n, c, R, by rw [e id (by simp [LV.has])]; exact h1, h2⟩
 | row id t i => obtain ⟨h0, o, hs, A, n, c, h1, h2⟩ := k; exact ⟨h0, o, hs, A, n, c, by rw [e id (by simp [LV.has])]; exact h1, h2⟩
 | prow id t i j => obtain ⟨h0, h0', o, hs, b, n, c, h1, h2⟩ := k; exact ⟨h0, h0', o, hs, b, n, c, by rw [e id (by simp [LV.has])]; exact h1, h2⟩
theorem ArRd.imp {α : Type} {R R' : α -> List Value -> Prop} : ∀ {xs : List α} {cs}, (∀ x cs, x ∈ xs -> R x cs -> R' x cs) -> ArRd R xs cs -> ArRd R' xs cs
 | [], _, _, k => k
 | _ :: _, _, h, ⟨c1, c2, e, r, k⟩ => ⟨c1, c2, e, h _ _ (List.mem_cons_self ..) r, ArRd.imp (fun x cs hx => h x cs (List.mem_cons_of_mem _ hx)) k⟩
theorem LsRd.congr {w : World} {I : Nat -> Prop} {h h' : Hv} {l : List LV} {cs : List Value} (e : ∀ i, l.any (LV.has i) = true -> h' i = h i) (k : LsRd w I h l cs) : LsRd w I h' l cs :=
 ArRd.imp (fun v _ hv => LRd.congr fun i hi => e i (List.any_eq_true.2 ⟨v, hv, hi⟩)) k
theorem ARd.congr {w : World} {I : Nat -> Prop} {h h' : Hv} {v : AV} {x : Value} (e : ∀ i, v.has i = true -> h' i = h i) (k : ARd w I h v x) : ARd w I h' v x := by
 cases v with
 | undef => trivial
 | one v => exact ⟨k.1, k.2.congr e⟩
 | agg l => obtain ⟨cs, e', k⟩ := k; exact ⟨cs, e', k.congr e⟩
 | tup l =>
  obtain ⟨vs, e', hl, k⟩ := k
  refine ⟨vs, e', hl, fun i p y hp hy => ?_⟩
  have := k i p y hp hy
  have hm : ∀ j, p.2.any (LV.has j) = true -> h' j = h j := fun j hj => e j (List.any_eq_true.2 ⟨p, List.mem_of_getElem? hp, hj⟩)
  cases hb : p.1 <;> simp only [hb, if_true, if_false, Bool.false_eq_true] at this ⊢
  ·exact ⟨this.1, this.2.congr hm⟩
  ·obtain ⟨cs, e, k⟩ := this; exact ⟨cs, e, k.congr hm⟩
theorem Ob.congr {w : World} {G G' : Gh} {id : Nat} {o : Obj} (hI : G'.I = G.I) (h1 : G'.h id = G.h id) (h2 : G'.bs id = G.bs id) (e : ∀ i, o.has i = true -> G'.h i = G.h i)
  (k : Ob w G id o) : Ob w G' id o := by
 cases o with
 | box l =>
  obtain ⟨b, C, E, fz, k1, k2, k3, k4, k5⟩ := k
  exact ⟨b, C, E, fz, h1.trans k1, h2.trans k2, k3, k4, by rw [hI]; exact k5.congr e⟩
 | buf t xs =>
  rcases k with ⟨k1, k2, k3⟩ | ⟨b, c, C, E, fz, k1, k2, k3, k4, k5, k6, k7⟩
  ·exact .inl ⟨h1.trans k1, k2, h2.trans k3⟩
  ·exact .inr ⟨b, c, C, E, fz, h1.trans k1, h2.trans k2, k3, k4, k5, k6, by rw [hI]; exact k7⟩
 | clos f l =>
  obtain ⟨cs, k1, k2, k3, k4⟩ := k
  refine ⟨cs, h1.trans k1, h2.trans k2, k3, fun i v x hv hx => ⟨(k4 i v x hv hx).1, ?_⟩⟩
  rw [hI]
  exact (k4 i v x hv hx).2.congr fun j hj => e j (List.any_eq_true.2 ⟨v, List.mem_of_getElem? hv, hj⟩)
 | grid t xs hole =>
  obtain ⟨b, c, C, E, fz, rb, k1, k2, k3, k4, k5, k6, k7, k8, k9, k10⟩ := k
  exact ⟨b, c, C, E, fz, rb, h1.trans k1, k2, k3, k4, k5, by rw [h2]; exact k6, fun i hi b' hb' => by rw [h2]; exact k7 i hi b' hb', k8, by rw [hI]; exact k9, k10⟩
 | mat t xs sw =>
  rcases k with ⟨k1, k2, k3, k4⟩ | ⟨b, c, C, E, fz, rb, hs, k1, k2, k3, k4, k5, k6, k7, k8, k9, k10⟩
  ·exact .inl ⟨h1.trans k1, k2, h2.trans k3, k4⟩
  exact .inr ⟨b, c, C, E, fz, rb, hs, h1.trans k1, k2, k3, k4, k5, by rw [h2]; exact k6, fun i hi b' hb' => by rw [h2]; exact k7 i hi b' hb', k8, by rw [hI]; exact k9, k10⟩
theorem Ob.mono {w w' : World} {G : Gh} {I' : Nat -> Prop} {id : Nat} {o : Obj} (hw : ∀ b, G.I b -> w'.heap[b]? = w.heap[b]?) (hI : ∀ b, G.I b -> I' b)
  (hb : ∀ b, b ∈ G.bs id -> w'.heap[b]? = w.heap[b]?) (k : Ob w G id o) : Ob w' { G with I := I' } id o := by
 cases o with
 | box l =>
  obtain ⟨b, C, E, fz, k1, k2, k3, k4, k5⟩ := k
  exact ⟨b, C, E, fz, k1, k2, (hb b (by rw [k2]; simp)).trans k3, k4, k5.mono hw hI⟩
 | buf t xs =>
  rcases k with ⟨k1, k2, k3⟩ | ⟨b, c, C, E, fz, k1, k2, k3, k4, k5, k6, k7⟩
  ·exact .inl ⟨k1, k2, k3⟩
  ·exact .inr ⟨b, c, C, E, fz, k1, k2, k3, (hb b (by rw [k2]; simp)).trans k4, k5, k6, fun i x hx => (k7 i x hx).mono hw hI⟩
 | clos f l =>
  obtain ⟨cs, k1, k2, k3, k4⟩ := k
  exact ⟨cs, k1, k2, k3, fun i v x hv hx => ⟨(k4 i v x hv hx).1, (k4 i v x hv hx).2.mono hw hI⟩⟩
 | grid t xs hole =>
  obtain ⟨b, c, C, E, fz, rb, k1, k2, k3, k4, k5, k6, k7, k8, k9, k10⟩ := k
  exact ⟨b, c, C, E, fz, rb, k1, k2, k3, (hb b k6).trans k4, k5, k6, k7, k8, fun i x hx hh => (k9 i x hx hh).mono hw hI fun b' hb' => hb b' (k7 i (List.getElem?_eq_some_iff.1 hx).1 b' hb').1, k10⟩
 | mat t xs sw =>
  rcases k with k | ⟨b, c, C, E, fz, rb, hs, k1, k2, k3, k4, k5, k6, k7, k8, k9, k10⟩
  ·exact .inl k
  exact .inr ⟨b, c, C, E, fz, rb, hs, k1, k2, k3, (hb b k6).trans k4, k5, k6, k7, k8, fun i x hx => (k9 i x hx).mono hw hI fun b' hb' => hb b' (k7 i (List.getElem?_eq_some_iff.1 hx).1 b' hb').1, k10⟩
theorem SlotsRd.mono {w w' : World} {G : Gh} {I' : Nat -> Prop} {l : List (Nat × AV)} {tm : Array Value} (hw : ∀ b, G.I b -> w'.heap[b]? = w.heap[b]?) (hI : ∀ b, G.I b -> I' b)
  (k : SlotsRd w G l tm) : SlotsRd w' { G with I := I' } l tm := fun t v h => (k t v h).mono hw hI
theorem SavedRd.mono {w w' : World} {G : Gh} {I' : Nat -> Prop} (hw : ∀ b, G.I b -> w'.heap[b]? = w.heap[b]?) (hI : ∀ b, G.I b -> I' b) :
  ∀ {l : List (List (Nat × AV))} {tms : List (Array Value)}, SavedRd w G l tms -> SavedRd w' { G with I := I' } l tms
 | [], [], _ => trivial
 | _ :: _, _ :: _, ⟨h, k⟩ => ⟨h.mono hw hI, SavedRd.mono hw hI k⟩
 | [], _ :: _, h => h.elim
 | _ :: _, [], h => h.elim
theorem Rel.mono {P : Nat -> Prop} {w0 : St} {w w' : World} {stk : List (Array Value)} {s : MS} {tm : Array Value} {G : Gh} {I' : Nat -> Prop} (k : Rel P w0 stk s tm w G)
  (hk : Keep P w w') (hw : ∀ b, G.I b -> w'.heap[b]? = w.heap[b]?) (hI : ∀ b, G.I b -> I' b) (hz : ∀ b, I' b -> b < w'.heap.size)
  (ho : ∀ id o b, s.obj id = some o -> b ∈ G.bs id -> w'.heap[b]? = w.heap[b]? /\ ¬ I' b) (hf : ∀ b, P b -> I' b -> w0.I0 b) : Rel P w0 stk s tm w' { G with I := I' } where
 keep := k.keep.trans hk fun _ h => h
 old := hf
 isz := hz
 ob := fun id o h => (k.ob id o h).mono hw hI fun b hb => (ho id o b h hb).1
 sep := fun id o b h hb => ⟨(k.sep id o b h hb).1, (ho id o b h hb).2, Nat.lt_of_lt_of_le (k.sep id o b h hb).2.2 hk.size⟩
 dis := k.dis
 slots := k.slots.mono hw hI
 saved := k.saved.mono hw hI
 pin := k.pin
theorem Rel.grow {P : Nat -> Prop} {w0 : St} {w w' : World} {stk : List (Array Value)} {s : MS} {tm : Array Value} {G : Gh} {I' : Nat -> Prop} (k : Rel P w0 stk s tm w G)
  (hP : ∀ b, P b -> b < w.heap.size) (hg : Grow w w') (hI : ∀ b, G.I b -> I' b) (hz : ∀ b, I' b -> b < w'.heap.size)
  (hn : ∀ b, I' b -> G.I b \/ w.heap.size <= b) : Rel P w0 stk s tm w' { G with I := I' } :=
 k.mono ⟨hg.os, hg.tape, hg.output, hg.size, fun b hb => hg.block b (hP b hb)⟩ (fun b hb => hg.block b (k.isz b hb)) hI hz (fun id o b h hb =>
   ⟨hg.block b (k.sep id o b h hb).2.2, fun hi => (hn b hi).elim (k.sep id o b h hb).2.1 fun hl => Nat.lt_irrefl _ (Nat.lt_of_lt_of_le (k.sep id o b h hb).2.2 hl)⟩)
  fun b hb hi => (hn b hi).elim (k.old b hb) fun hl => absurd (hP b hb) (Nat.not_lt.2 hl)
theorem z1m {α : Type} (n : Nat) (a : α) (l : List (Nat × α)) : look n ((n, a) :: l) = some a := by simp [look]
theorem z16 {α : Type} {n m : Nat} (a : α) (l : List (Nat × α)) (h : n ≠ m) : look n ((m, a) :: l) = look n l := by simp [look, h]
theorem Rel.get {P : Nat -> Prop} {w0 : St} {w : World} {stk : List (Array Value)} {s : MS} {tm : Array Value} {G : Gh} (k : Rel P w0 stk s tm w G) (t : Nat) :
  ARd w G.I G.h (s.get t) (tm.getD t undef) := by
 unfold MS.get
 cases h : look t s.slots with
 | none => trivial
 | some v => exact k.slots t v h
theorem y5v (tm : Array Value) (d : Nat) (x : Value) (h : d < tm.size) : (tm.setIfInBounds d x).getD d undef = x := by
 simp [Array.getD, h]
theorem getD_set_ne (tm : Array Value) (d t : Nat) (x : Value) (h : t ≠ d) : (tm.setIfInBounds d x).getD t undef = tm.getD t undef := by
 have h' : d ≠ t := fun e => h e.symm
 simp only [Array.getD_eq_getD_getElem?, Array.getElem?_setIfInBounds, h', if_false]
theorem Rel.put {P : Nat -> Prop} {w0 : St} {w : World} {stk : List (Array Value)} {s : MS} {tm : Array Value} {G : Gh} (k : Rel P w0 stk s tm w G) {d : Nat} {v : AV} {x : Value}
  (hd : d < tm.size) (hx : ARd w G.I G.h v x) : Rel P w0 stk { s with slots := (d, v) :: s.slots } (tm.setIfInBounds d x) w G :=
 ⟨k.keep, k.old, k.isz, k.ob, k.sep, k.dis, fun t u h => by
     by_cases e : t = d
     · subst e
       rw [z1m] at h
       cases h
       rw [y5v _ _ _ hd]; exact hx
     · rw [z16 _ _ e] at h
       rw [getD_set_ne _ _ _ _ e]; exact k.slots t u h, k.saved, k.pin⟩
theorem Rel.retell {P : Nat -> Prop} {w0 : St} {w : World} {stk : List (Array Value)} {s : MS} {tm : Array Value} {G : Gh} (k : Rel P w0 stk s tm w G) {d : Nat} {v : AV}
  (hx : ARd w G.I G.h v (tm.getD d undef)) : Rel P w0 stk { s with slots := (d, v) :: s.slots } tm w G :=
 ⟨k.keep, k.old, k.isz, k.ob, k.sep, k.dis, fun t u h => by
     by_cases e : t = d
     · subst e
       rw [z1m] at h
       cases h
       exact hx
     · rw [z16 _ _ e] at h
       exact k.slots t u h, k.saved, k.pin⟩
theorem z59 {α β : Type} (f : α -> β) (n : Nat) : ∀ l : List (Nat × α), look n (l.map fun p => (p.1, f p.2)) = (look n l).map f
 | [] => rfl
 | (m, a) :: l => by
  simp only [List.map_cons, look]
  split
  ·rfl
  ·exact z59 f n l
theorem zp0 (id t : Nat) (l : List (Nat × AV)) : look t (y48 id l) = (look t l).map fun v => if v.has id then .undef else v := by
 unfold y48; exact z59 (fun v : AV => if v.has id then .undef else v) t l
theorem w8h (id t : Nat) (l : List (Nat × Option Obj)) :
  look t (wy7 id l) = (look t l).map fun o => match o with | some o => if o.has id then none else some o | none => none := by
 unfold wy7; exact z59 (fun o : Option Obj => match o with | some o => if o.has id then none else some o | none => none) t l
theorem z8r (s : MS) (id t : Nat) : (s.kill id).obj t = if t = id then none else (s.obj t).bind fun o => if o.has id then none else some o := by
 unfold MS.obj MS.kill
 by_cases e : t = id
 ·subst e; simp [z1m]
 ·simp only [z16 _ _ e, w8h, e, if_false]
  cases look t s.objs with
  | none => rfl
  | some o => cases o <;> rfl
theorem z0w {s : MS} {id t : Nat} {o : Obj} (h : (s.kill id).obj t = some o) : t ≠ id /\ s.obj t = some o /\ o.has id = false := by
 rw [z8r] at h
 by_cases e : t = id
 ·simp [e] at h
 ·simp only [e, if_false] at h
  cases ho : s.obj t with
  | none => simp [ho] at h
  | some o' =>
   simp only [ho, Option.bind_some] at h
   cases hh : o'.has id
   ·simp [hh] at h; subst h; exact ⟨e, rfl, hh⟩
   ·simp [hh] at h
theorem SlotsRd.kill {w : World} {G : Gh} {l : List (Nat × AV)} {tm : Array Value} (id : Nat) (k : SlotsRd w G l tm) : SlotsRd w G (y48 id l) tm := by
 intro t v h
 rw [zp0] at h
 cases hl : look t l with
 | none => simp [hl] at h
 | some u =>
  simp only [hl, Option.map_some, Option.some.injEq] at h
  subst h
  split
  ·trivial
  ·exact k t u hl
theorem SavedRd.kill {w : World} {G : Gh} (id : Nat) : ∀ {l : List (List (Nat × AV))} {tms : List (Array Value)}, SavedRd w G l tms -> SavedRd w G (l.map (y48 id)) tms
 | [], [], _ => trivial
 | _ :: _, _ :: _, ⟨h, k⟩ => ⟨h.kill id, SavedRd.kill id k⟩
 | [], _ :: _, h => h.elim
 | _ :: _, [], h => h.elim
theorem Rel.kill {P : Nat -> Prop} {w0 : St} {w : World} {stk : List (Array Value)} {s : MS} {tm : Array Value} {G : Gh} (k : Rel P w0 stk s tm w G) (id : Nat) :
  Rel P w0 stk (s.kill id) tm w G where
 keep := k.keep
 old := k.old
 isz := k.isz
 ob := fun t o h => k.ob t o (z0w h).2.1
 sep := fun t o b h => k.sep t o b (z0w h).2.1
 dis := fun t t' o o' b h h' => k.dis t t' o o' b (z0w h).2.1 (z0w h').2.1
 slots := k.slots.kill id
 saved := k.saved.kill id
 pin := k.pin
structure Unnamed (s : MS) (id : Nat) : Prop where
 slots : ∀ t v, look t s.slots = some v -> v.has id = false
 objs : ∀ t o, s.obj t = some o -> t ≠ id -> o.has id = false
 saved : ∀ l, l ∈ s.saved -> ∀ t v, look t l = some v -> v.has id = false
theorem zo4 {α : Type} {n : Nat} {a : α} : ∀ {l : List (Nat × α)}, look n l = some a -> (n, a) ∈ l
 | (m, b) :: l, h => by
  by_cases e : n = m
  ·subst e; rw [z1m] at h; cases h; exact List.mem_cons_self ..
  ·rw [z16 _ _ e] at h; exact List.mem_cons_of_mem _ (zo4 h)
 | [], h => by simp [look] at h
theorem wz7 {s : MS} {t : Nat} {o : Obj} (h : s.obj t = some o) : (t, some o) ∈ s.objs := by
 unfold MS.obj at h
 cases hl : look t s.objs with
 | none => simp [hl] at h
 | some x => cases x with
  | none => simp [hl] at h
  | some o' => simp [hl] at h; subst h; exact zo4 hl
theorem y6c {s : MS} {id : Nat} (h : s.mentions id = false) : Unnamed s id := by
 unfold MS.mentions at h
 simp only [Bool.or_eq_false_iff, List.any_eq_false] at h
 obtain ⟨⟨h1, h2⟩, h3⟩ := h
 refine ⟨fun t v hv => by simpa using h1 _ (zo4 hv), fun t o ho _ => by simpa using h2 _ (wz7 ho), fun l hl t v hv => ?_⟩
 have := h3 l hl
 simp only [List.any_eq_true, not_exists, not_and] at this
 simpa using this _ (zo4 hv)
theorem AV.has_kill (v : AV) (id : Nat) : AV.has id (if v.has id then .undef else v) = false := by
 cases h : v.has id
 ·simpa using h
 ·rfl
theorem z47 (s : MS) (id : Nat) : Unnamed (s.kill id) id where
 slots := fun t v h => by
  have h : look t (y48 id s.slots) = some v := h
  rw [zp0] at h
  cases hl : look t s.slots with
  | none => simp [hl] at h
  | some u => simp only [hl, Option.map_some, Option.some.injEq] at h; subst h; exact AV.has_kill u id
 objs := fun t o h _ => (z0w h).2.2
 saved := fun l hl t v h => by
  have hl : l ∈ s.saved.map (y48 id) := hl
  obtain ⟨l', _, rfl⟩ := List.mem_map.1 hl
  rw [zp0] at h
  cases hl : look t l' with
  | none => simp [hl] at h
  | some u => simp only [hl, Option.map_some, Option.some.injEq] at h; subst h; exact AV.has_kill u id
theorem zh6 (s : MS) (id t : Nat) (o : Obj) : (s.upd id o).obj t = if t = id then some o else s.obj t := by
 unfold MS.obj MS.upd
 by_cases e : t = id
 ·subst e; simp [z1m]
 ·simp [z16 _ _ e, e]
def Gh.at (G : Gh) (id : Nat) (v : Value) (bs : List Nat) : Gh :=
 { I := G.I, h := fun i => if i = id then some v else G.h i, bs := fun i => if i = id then bs else G.bs i }
theorem SavedRd.imp {w : World} {G G' : Gh} (hI : G'.I = G.I) : ∀ {l : List (List (Nat × AV))} {tms : List (Array Value)},
  (∀ m, m ∈ l -> ∀ t v, look t m = some v -> ∀ i, v.has i = true -> G'.h i = G.h i) -> SavedRd w G l tms -> SavedRd w G' l tms
 | [], [], _, _ => trivial
 | m :: _, _ :: _, e, ⟨h, k⟩ => ⟨fun t v hv => by rw [hI]; exact (h t v hv).congr (e m (List.mem_cons_self ..) t v hv), SavedRd.imp hI (fun m hm => e m (List.mem_cons_of_mem _ hm)) k⟩
 | [], _ :: _, _, h => h.elim
 | _ :: _, [], _, h => h.elim
theorem Rel.add {P : Nat -> Prop} {w0 : St} {w : World} {stk : List (Array Value)} {s : MS} {tm : Array Value} {G : Gh} (k : Rel P w0 stk s tm w G) {id : Nat} (hu : Unnamed s id) {o : Obj}
  {v : Value} {bs : List Nat} (ho : Ob w (G.at id v bs) id o)
  (hs : ∀ b, b ∈ bs -> ¬ P b /\ ¬ G.I b /\ b < w.heap.size) (hd : ∀ b, b ∈ bs -> ∀ id' o', id' ≠ id -> s.obj id' = some o' -> b ∉ G.bs id') : Rel P w0 stk ((s.upd id o).unpin id) tm w (G.at id v bs) where
 keep := k.keep
 old := k.old
 isz := k.isz
 ob := fun t o' h => by
  replace h : (s.upd id o).obj t = some o' := h
  rw [zh6] at h
  by_cases e : t = id
  ·subst e; simp at h; subst h; exact ho
  ·simp only [e, if_false] at h
   refine Ob.congr (G := G) (G' := G.at id v bs) rfl (by simp [Gh.at, e]) (by simp [Gh.at, e]) (fun i hi => ?_) (k.ob t o' h)
   have : i ≠ id := by rintro rfl; rw [hu.objs t o' h e] at hi; cases hi
   simp [Gh.at, this]
 sep := fun t o' b h hb => by
  replace h : (s.upd id o).obj t = some o' := h
  rw [zh6] at h
  by_cases e : t = id
  ·subst e; simp [Gh.at] at hb; exact hs b hb
  ·simp only [e, if_false] at h
   simp [Gh.at, e] at hb
   exact k.sep t o' b h hb
 dis := fun t t' o1 o2 b h h' hb hb' => by
  replace h : (s.upd id o).obj t = some o1 := h
  replace h' : (s.upd id o).obj t' = some o2 := h'
  rw [zh6] at h h'
  by_cases e : t = id <;> by_cases e' : t' = id
  ·exact e.trans e'.symm
  ·simp only [e', if_false] at h'; simp [Gh.at, e] at hb; simp [Gh.at, e'] at hb'; exact absurd hb' (hd b hb t' o2 e' h')
  ·simp only [e, if_false] at h; simp [Gh.at, e] at hb; simp [Gh.at, e'] at hb'; exact absurd hb (hd b hb' t o1 e h)
  ·simp only [e, e', if_false] at h h'; simp [Gh.at, e] at hb; simp [Gh.at, e'] at hb'; exact k.dis t t' o1 o2 b h h' hb hb'
 slots := fun t u h => (k.slots t u h).congr fun i hi => by
  have : i ≠ id := by rintro rfl; rw [hu.slots t u h] at hi; cases hi
  simp [Gh.at, this]
 saved := SavedRd.imp (G := G) (G' := G.at id v bs) rfl (fun m hm t u h i hi => by
   have : i ≠ id := by rintro rfl; rw [hu.saved m hm t u h] at hi; cases hi
   simp [Gh.at, this]) k.saved
 pin := fun i hi => by
  have hi : i ∈ s.pin.filter (fun i => i != id && i != nnc id) := hi
  rw [List.mem_filter, Bool.and_eq_true, bne_iff_ne, bne_iff_ne] at hi
  exact (k.pin i hi.1).off (fun j hj => by simp [Gh.at, hj]) hi.2.1 hi.2.2
theorem Rel.pinNN {P : Nat -> Prop} {w0 : St} {w : World} {stk : List (Array Value)} {s : MS} {tm : Array Value} {G : Gh} (k : Rel P w0 stk s tm w G) {id : Nat} (h : NN (G.h id)) : Rel P w0 stk (s.pinNN id) tm w G :=
 ⟨k.keep, k.old, k.isz, k.ob, k.sep, k.dis, k.slots, k.saved, fun i hi => by
   rcases List.mem_cons.1 (show i ∈ nnc id :: s.pin from hi) with rfl | hi
   · exact w6p h
   · exact k.pin i hi⟩
theorem Rel.turn {P : Nat -> Prop} {w0 : St} {w w' : World} {stk : List (Array Value)} {s : MS} {tm : Array Value} {G : Gh} (k : Rel P w0 stk s tm w G) {id : Nat} {o o' : Obj}
  (h : s.obj id = some o) (hk : ∀ b, b ∉ G.bs id -> w'.heap[b]? = w.heap[b]?) (hz : w'.heap.size = w.heap.size) (hos : w'.os = w.os) (htape : w'.tape = w.tape) (hout : w'.output = w.output)
  (ho : Ob w' G id o') : Rel P w0 stk (s.upd id o') tm w' G := by
 have hP : Keep P w w' := ⟨hos, htape, hout, Nat.le_of_eq hz.symm, fun b hb => hk b fun hm => (k.sep id o b h hm).1 hb⟩
 have hI : ∀ b, G.I b -> w'.heap[b]? = w.heap[b]? := fun b hb => hk b fun hm => (k.sep id o b h hm).2.1 hb
 exact {
   keep := k.keep.trans hP fun _ h => h
   old := k.old
   isz := fun b hb => by rw [hz]; exact k.isz b hb
   ob := fun t o1 h1 => by
     rw [zh6] at h1
     by_cases e : t = id
     · subst e; simp at h1; subst h1; exact ho
     · simp only [e, if_false] at h1
       exact (k.ob t o1 h1).mono hI (fun _ h => h) fun b hb => hk b fun hm => e (k.dis t id o1 o b h1 h hb hm)
   sep := fun t o1 b h1 hb => by
     rw [hz]
     rw [zh6] at h1
     by_cases e : t = id
     · subst e; exact k.sep t o b h hb
     · simp only [e, if_false] at h1; exact k.sep t o1 b h1 hb
   dis := fun t t' o1 o2 b h1 h2 hb hb' => by
     rw [zh6] at h1 h2
     by_cases e : t = id <;> by_cases e' : t' = id
     · exact e.trans e'.symm
     · simp only [e', if_false] at h2; subst e; exact k.dis t t' o o2 b h h2 hb hb'
     · simp only [e, if_false] at h1; subst e'; exact k.dis t t' o1 o b h1 h hb hb'
     · simp only [e, e', if_false] at h1 h2; exact k.dis t t' o1 o2 b h1 h2 hb hb'
   slots := k.slots.mono hI fun _ h => h
   saved := k.saved.mono hI fun _ h => h
   pin := k.pin }
end Vm
/- More that keeps the relation: owned slices that become plain data, names that turn; plain data out of leaves. -/
namespace Vm
open Go
def Gh.with (G : Gh) (l : List Nat) : Gh := { G with I := fun b => G.I b \/ b ∈ l }
def hdr : Option Value -> Option Value
 | some (.tuple a) => a[0]?
 | v => v
theorem w6d {h : Option Value} {A : Option Addr} {n c : Nat} (e : h = some (.slice A n c)) : hdr h = some (.slice A n c) := by rw [e]; rfl
def y6j (w : World) (G : Gh) (id : Nat) (t : Ty) (xs : List t.den) : Prop := (hdr (G.h id) = some (.slice none 0 0) /\ xs = []) \/
 ∃ b c C E fz, hdr (G.h id) = some (.slice (some ⟨b, 0, none⟩) xs.length c) /\ b ∈ G.bs id /\ xs.length <= c /\ w.heap[b]? = some (.cells C E fz) /\
  c * t.sz <= C.size /\ ∀ (i : Nat) (x : t.den), xs[i]? = some x -> Rd w (G.with (G.bs id)).I t x ((C.toList.drop (i * t.sz)).take t.sz)
theorem RowOb.rd {w : World} {I : Nat -> Prop} {t : Ty} {x : List t.den} {v : Value} {bs : List Nat} (k : RowOb w I t x v bs) : Rd w (fun b => I b \/ b ∈ bs) (.slice t) x [v] := by
 rcases k with ⟨rfl, rfl, k3⟩ | ⟨b, c, C, E, fz, rfl, k2, k3, k4, k5, k6, k7⟩
 ·exact ⟨none, 0, 0, rfl, rfl, rfl, rfl⟩
 ·refine ⟨_, _, c, rfl, rfl, k3, .inr ⟨rfl, .inr (by rw [k2]; simp), C, E, fz, k4, by simpa using k6, fun i y hy => ?_⟩⟩
  simp only [Nat.zero_add]
  exact (k7 i y hy).mono (fun _ _ => rfl) fun b hb => .inl hb
theorem one_cell {C : Array Value} {i : Nat} (h : i < C.size) : (C.toList.drop i).take 1 = [C.toList.getD i undef] := by
 have h' : i < C.toList.length := by simpa using h
 rw [List.drop_eq_getElem_cons h', List.take_succ_cons, List.take_zero, List.getD_eq_getElem?_getD, List.getElem?_eq_getElem h']
 rfl
theorem zy1 {w : World} {G : Gh} {id : Nat} {o : Obj} {t : Ty} {xs : List t.den} (k : Ob w G id o) (h : o.rows = some ⟨t, xs⟩) : y6j w G id t xs := by
 cases o with
 | box l => cases h
 | clos f l => cases h
 | buf t' xs' =>
  simp only [Obj.rows, Option.some.injEq] at h
  cases h
  rcases k with ⟨k1, k2, k3⟩ | ⟨b, c', C, E, fz, k1, k2, k3, k4, k5, k6, k7⟩
  ·exact .inl ⟨w6d k1, k2⟩
  ·exact .inr ⟨b, c', C, E, fz, w6d k1, by rw [k2]; simp, k3, k4, k6, fun i x hx => (k7 i x hx).mono (fun _ _ => rfl) fun b hb => .inl hb⟩
 | grid t' xs' hole =>
  cases hole with
  | some j => cases h
  | none =>
   simp only [Obj.rows, Option.some.injEq] at h
   cases h
   obtain ⟨b, c, C, E, fz, rb, k1, k2, k3, k4, k5, k6, k7, k8, k9, k10⟩ := k
   have h1 : (Ty.slice t').sz = 1 := rfl
   refine .inr ⟨b, c, C, E, fz, w6d k1, k6, k2, k4, by rw [h1, Nat.mul_one]; exact k3, fun i x hx => ?_⟩
   have hi : i < xs'.length := (List.getElem?_eq_some_iff.1 hx).1
   rw [h1, Nat.mul_one, one_cell (by omega)]
   exact (k9 i x hx (by simp)).rd.mono (fun _ _ => rfl) fun b' hb' => hb'.elim .inl fun hb' => .inr (k7 i hi b' hb').1
 | mat t' xs' sw =>
  cases sw with
  | some j => cases h
  | none =>
   simp only [Obj.rows, Option.some.injEq] at h
   cases h
   rcases k with ⟨k1, k2, _⟩ | ⟨b, c, C, E, fz, rb, hs, k1, k2, k3, k4, k5, k6, k7, k8, k9, k10, k11, k12⟩
   ·exact .inl ⟨by rw [k1]; rfl, k2⟩
   have h1 : (Ty.slice t').sz = 1 := rfl
   refine .inr ⟨b, c, C, E, fz, by rw [k1]; rfl, k6, k2, k4, by rw [h1, Nat.mul_one]; exact k3, fun i x hx => ?_⟩
   have hi : i < xs'.length := (List.getElem?_eq_some_iff.1 hx).1
   rw [h1, Nat.mul_one, one_cell (by omega), k11 i hi]
   exact (k9 i x hx).rd.mono (fun _ _ => rfl) fun b' hb' => hb'.elim .inl fun hb' => .inr (k7 i hi b' hb').1
theorem yy7 {w : World} {G : Gh} {id : Nat} {t : Ty} {xs : List t.den} (k : y6j w G id t xs) {A : Option Addr} {n c m : Nat} (hh : hdr (G.h id) = some (.slice A n c)) (hm : m <= n) :
  Rd w (G.with (G.bs id)).I (.slice t) (xs.take m) [.slice A m c] /\ n = xs.length := by
 rcases k with ⟨k1, k2⟩ | ⟨b, c', C, E, fz, k1, k2, k3, k4, k6, k7⟩
 ·rw [k1] at hh
  cases hh
  subst k2
  have : m = 0 := by omega
  subst this
  exact ⟨⟨none, 0, 0, rfl, rfl, by simp⟩, rfl⟩
 ·rw [k1] at hh
  cases hh
  refine ⟨⟨_, m, c, rfl, by simp; omega, by omega, .inr ⟨rfl, .inr k2, C, E, fz, k4, by simpa using k6, fun i x hx => ?_⟩⟩, rfl⟩
  have hx' : xs[i]? = some x := by
   rw [List.getElem?_take] at hx
   split at hx
   ·exact hx
   ·cases hx
  simp only [Nat.zero_add]
  exact k7 i x hx'
theorem ya7 {w : World} {G : Gh} {id : Nat} {t : Ty} {xs : List t.den} (k : y6j w G id t xs) {A : Option Addr} {n c m : Nat} (hh : G.h id = some (.slice A n c)) (hm : m <= n) :
  Rd w (G.with (G.bs id)).I (.slice t) (xs.take m) [.slice A m c] /\ n = xs.length := yy7 k (w6d hh) hm
theorem w0v (b off k : Nat) : (⟨b, off, none⟩ : Addr).add k = ⟨b, off + k, none⟩ := by simp [Addr.add]
theorem ye2 {α : Type} {w : World} {I : Nat -> Prop} {sz : Nat} {R : α -> List Value -> Prop} {A : Option Addr} {n c l h : Nat} {xs : List α} (k : SlRd w I sz R A n c xs) (h1 : l <= h) (h2 : h <= n) :
  SlRd w I sz R (if c = l then A else A.map (·.add (l * sz))) (h - l) (c - l) ((xs.take h).drop l) /\ (A = none ↔ (if c = l then A else A.map (·.add (l * sz))) = none) := by
 obtain ⟨hn, k⟩ := k
 refine ⟨⟨by simp; omega, ?_⟩, by split <;> simp⟩
 cases A with
 | none =>
  obtain ⟨rfl, rfl⟩ := k
  simp
 | some a =>
  obtain ⟨k3, k⟩ := k
  by_cases hc : c = l
  ·rw [if_pos hc]
   exact ⟨by omega, .inl (by omega)⟩
  ·rw [if_neg hc]
   rcases k with k | ⟨k1, k2, C, T, fz, k4, k5, k6⟩
   ·exact absurd (by omega : c = l) hc
   obtain ⟨b, off, sp⟩ := a
   simp only at k1
   subst k1
   simp only [Option.map_some, w0v]
   refine ⟨by omega, .inr ⟨trivial, k2, C, T, fz, k4, ?_, ?_⟩⟩
   ·have : l * sz + (c - l) * sz = c * sz := by rw [<- Nat.add_mul]; congr 1; omega
    simp only at k5 ⊢; omega
   ·intro i x hx
    rw [List.getElem?_drop] at hx
    rw [List.getElem?_take] at hx
    split at hx
    ·have := k6 (l + i) x hx
     simp only at this ⊢
     rw [Nat.add_mul, <- Nat.add_assoc] at this
     exact this
    ·cases hx
theorem wf8 {w : World} {G : Gh} {id : Nat} {t : Ty} {xs : List (List t.den)} (k : Ob w G id (.mat t xs none)) {b n c : Nat} {R : Value} (h : G.h id = some (.tuple #[.slice (some ⟨b, 0, none⟩) n c, R])) :
  ∃ (hs C : Array Value) (T : TypeId) (fz : Nat × Nat), w.heap[b]? = some (.cells C T fz) /\ n = xs.length /\ R = .agg hs /\ (∀ i, i < n -> ∃ A n' c', hs[i]? = some (.slice A n' c') /\ C.toList.getD i undef = .slice A n' c') /\ n <= C.size /\ yq5 C fz := by
 obtain ⟨b', c', C, E, fz, rb, hs, k1, k2, k3, k4, k5, k6, k7, k8, k9, k10, k11, k12⟩ := w4q k h
 rw [h] at k1
 simp only [Option.some.injEq, Value.tuple.injEq, Array.mk.injEq, List.cons.injEq, Value.slice.injEq, Addr.mk.injEq, and_true] at k1
 obtain ⟨⟨rfl, rfl, rfl⟩, rfl⟩ := k1
 refine ⟨hs, C, E, fz, k4, rfl, rfl, fun i hi => ?_, by omega, k5⟩
 have hx : xs[i]? = some (xs.getD i []) := by rw [List.getD_eq_getElem?_getD, List.getElem?_eq_getElem hi]; rfl
 have hg : hs[i]? = some (hs.getD i undef) := by rw [Array.getD_eq_getD_getElem?, Array.getElem?_eq_getElem (by omega)]; rfl
 have h11 := k11 i hi
 simp only at h11
 rcases k9 i _ hx with ⟨e, _⟩ | ⟨b, c, C', E', fz', e, _⟩
 ·exact ⟨_, _, _, by rw [hg, e], by rw [h11, e]⟩
 ·exact ⟨_, _, _, by rw [hg, e], by rw [h11, e]⟩
theorem w4r {w : World} {G : Gh} {id : Nat} {t : Ty} {xs : List (List t.den)} {sw : Option (Nat × Nat)} (k : Ob w G id (.mat t xs sw)) {o : Value} {hs : Array Value} {i b n c : Nat} (h : G.h id = some (.tuple #[o, .agg hs])) (h2 : hs[i]? = some (.slice (some ⟨b, 0, none⟩) n c)) (h3 : 0 < n) :
  ∃ (C : Array Value) (T : TypeId) (fz : Nat × Nat), i < xs.length /\ n = (xs.getD i []).length /\ w.heap[b]? = some (.cells C T fz) /\ n <= c /\ c * t.sz <= C.size /\ (∀ (j : Nat) (y : t.den), (xs.getD i [])[j]? = some y -> Rd w G.I t y ((C.toList.drop (j * t.sz)).take t.sz)) /\ yq5 C fz /\ b ∈ G.bs id := by
 obtain ⟨b', c', C, E, fz, rb, hs', k1, k2, k3, k4, k5, k6, k7, k8, k9, k10, k11, k12⟩ := yk3 k h h2
 rw [h] at k1
 simp only [Option.some.injEq, Value.tuple.injEq, Array.mk.injEq, List.cons.injEq, Value.agg.injEq, and_true] at k1
 obtain ⟨rfl, rfl⟩ := k1
 have hi : i < xs.length := by rw [<- k10]; exact (Array.getElem?_eq_some_iff.1 h2).1
 have hx : xs[i]? = some (xs.getD i []) := by rw [List.getD_eq_getElem?_getD, List.getElem?_eq_getElem hi]; rfl
 have hr := k9 i _ hx
 rw [Array.getD_eq_getD_getElem?, h2] at hr
 rcases hr with ⟨e, _⟩ | ⟨b1, c1, C1, E1, fz1, e, e2, e3, e4, e5, e6, e7⟩
 ·cases e
 ·have e : Value.slice (some ⟨b, 0, none⟩) n c = .slice (some ⟨b1, 0, none⟩) (xs.getD i []).length c1 := e
  simp only [Value.slice.injEq, Option.some.injEq, Addr.mk.injEq, and_true] at e
  obtain ⟨rfl, rfl, rfl⟩ := e
  exact ⟨C1, E1, fz1, hi, rfl, e4, e3, e6, e7, e5, (k7 i hi b (by rw [e2]; simp)).1⟩
theorem wf9 {w : World} {G : Gh} {id : Nat} {t : Ty} {xs : List (List t.den)} {sw : Option (Nat × Nat)} (k : Ob w G id (.mat t xs sw)) {o : Value} {hs : Array Value} {i n c : Nat} {A : Option Addr} (h : G.h id = some (.tuple #[o, .agg hs])) (h2 : hs[i]? = some (.slice A n c)) : i < xs.length /\ n = (xs.getD i []).length := by
 obtain ⟨b', c', C, E, fz, rb, hs', k1, k2, k3, k4, k5, k6, k7, k8, k9, k10, k11, k12⟩ := yk3 k h h2
 rw [h] at k1
 simp only [Option.some.injEq, Value.tuple.injEq, Array.mk.injEq, List.cons.injEq, Value.agg.injEq, and_true] at k1
 obtain ⟨rfl, rfl⟩ := k1
 have hi : i < xs.length := by rw [<- k10]; exact (Array.getElem?_eq_some_iff.1 h2).1
 have hx : xs[i]? = some (xs.getD i []) := by rw [List.getD_eq_getElem?_getD, List.getElem?_eq_getElem hi]; rfl
 have hr := k9 i _ hx
 rw [Array.getD_eq_getD_getElem?, h2] at hr
 refine ⟨hi, ?_⟩
 rcases hr with ⟨e, e', _⟩ | ⟨b1, c1, C1, E1, fz1, e, _⟩
 ·rw [e']; cases e; rfl
 ·have e : Value.slice A n c = .slice (some ⟨b1, 0, none⟩) (xs.getD i []).length c1 := e
  simp only [Value.slice.injEq] at e
  exact e.2.1
theorem w52 {w : World} {G : Gh} {id : Nat} {t : Ty} {xs : List t.den} (k : y6j w G id t xs) {A : Option Addr} {n c lo m : Nat} (hh : G.h id = some (.slice A n c)) (hm : lo + m <= n) :
  Rd w (G.with (G.bs id)).I (.slice t) ((xs.take (lo + m)).drop lo) [.slice (if c = lo then A else A.map (·.add (lo * t.sz))) m (c - lo)] := by
 obtain ⟨h1, h2⟩ := ya7 k hh (Nat.le_refl n)
 rw [h2, List.take_length] at h1
 obtain ⟨A', n', c', e, hs⟩ := h1
 simp only [List.cons.injEq, Value.slice.injEq, and_true] at e
 obtain ⟨rfl, rfl, rfl⟩ := e
 have := (ye2 hs (Nat.le_add_right lo m) (by omega)).1
 rw [Nat.add_sub_cancel_left] at this
 exact ⟨_, _, _, rfl, this⟩
theorem LRd.solid {w : World} {G : Gh} {id : Nat} {t : Ty} {xs : List t.den} (k : y6j w G id t xs) {v : LV} {cs : List Value} (h : LRd w G.I G.h v cs) :
  LRd w (G.with (G.bs id)).I G.h (v.solid id t xs) cs := by
 have hm : ∀ {v : LV} {cs : List Value}, LRd w G.I G.h v cs -> LRd w (G.with (G.bs id)).I G.h v cs := fun h => h.mono (fun _ _ => rfl) fun _ hb => .inl hb
 cases v with
 | own i =>
  simp only [LV.solid]
  split
  ·rename_i e
   subst e
   obtain ⟨A, n, c, h1, rfl⟩ := h
   obtain ⟨h2, h3⟩ := ya7 k h1 (Nat.le_refl _)
   rw [h3, List.take_length] at h2
   rw [h3]
   exact h2
  ·exact hm h
 | pre i m =>
  simp only [LV.solid]
  split
  ·rename_i e
   subst e
   obtain ⟨A, n, c, h1, h2, rfl⟩ := h
   exact (ya7 k h1 h2).1
  ·exact hm h
 | vw i u lo m =>
  simp only [LV.solid]
  split
  ·rename_i e
   obtain ⟨rfl, rfl⟩ := e
   obtain ⟨A, n, c, h1, h2, rfl⟩ := h
   exact w52 k h1 h2
  ·exact hm h
 | grd i =>
  simp only [LV.solid]
  split
  ·rename_i e
   subst e
   obtain ⟨A, n, c, R, h1, rfl⟩ := h
   obtain ⟨h2, h3⟩ := yy7 k (A := A) (n := n) (c := c) (by rw [h1]; rfl) (Nat.le_refl _)
   rw [h3, List.take_length] at h2
   rw [h3]
   exact h2
  ·exact hm h
 | _ => exact hm h
theorem LsRd.solid {w : World} {G : Gh} {id : Nat} {t : Ty} {xs : List t.den} (k : y6j w G id t xs) : ∀ {l : List LV} {cs : List Value}, LsRd w G.I G.h l cs ->
  LsRd w (G.with (G.bs id)).I G.h (l.map (LV.solid id t xs)) cs
 | [], _, h => h
 | _ :: _, _, ⟨c1, c2, e, r, h⟩ => ⟨c1, c2, e, r.solid k, LsRd.solid k h⟩
theorem ARd.solid {w : World} {G : Gh} {id : Nat} {t : Ty} {xs : List t.den} (k : y6j w G id t xs) {v : AV} {x : Value} (h : ARd w G.I G.h v x) :
  ARd w (G.with (G.bs id)).I G.h (v.solid id t xs) x := by
 cases v with
 | undef => trivial
 | one v => exact ⟨h.1, h.2.solid k⟩
 | agg l => obtain ⟨cs, e, h⟩ := h; exact ⟨cs, e, h.solid k⟩
 | tup l =>
  obtain ⟨vs, e, hl, h⟩ := h
  refine ⟨vs, e, by simpa using hl, fun i p y hp hy => ?_⟩
  simp only [List.getElem?_map] at hp
  cases hq : l[i]? with
  | none => simp [hq] at hp
  | some q =>
   simp only [hq, Option.map_some, Option.some.injEq] at hp
   subst hp
   have := h i q y hq hy
   cases hb : q.1 <;> simp only [hb, if_true, if_false, Bool.false_eq_true] at this ⊢
   ·exact ⟨this.1, LsRd.solid k this.2⟩
   ·obtain ⟨cs, e, h⟩ := this; exact ⟨cs, e, LsRd.solid k h⟩
theorem Ob.solid {w : World} {G : Gh} {id : Nat} {t : Ty} {xs : List t.den} (k : y6j w G id t xs) {id' : Nat} {o : Obj} (h : Ob w G id' o) :
  Ob w (G.with (G.bs id)) id' (o.solid id t xs) := by
 cases o with
 | box l =>
  obtain ⟨b, C, E, fz, h1, h2, h3, h4, h5⟩ := h
  exact ⟨b, C, E, fz, h1, h2, h3, h4, h5.solid k⟩
 | buf u ys =>
  rcases h with ⟨h1, h2, h3⟩ | ⟨b, c, C, E, fz, h1, h2, h3, h4, h5, h6, h7⟩
  ·exact .inl ⟨h1, h2, h3⟩
  ·exact .inr ⟨b, c, C, E, fz, h1, h2, h3, h4, h5, h6, fun i x hx => (h7 i x hx).mono (fun _ _ => rfl) fun _ hb => .inl hb⟩
 | grid u ys hole => exact Ob.mono (I' := (G.with (G.bs id)).I) (fun _ _ => rfl) (fun _ hb => .inl hb) (fun _ _ => rfl) h
 | mat u ys sw => exact Ob.mono (I' := (G.with (G.bs id)).I) (fun _ _ => rfl) (fun _ hb => .inl hb) (fun _ _ => rfl) h
 | clos f l =>
  obtain ⟨cs, h1, h2, h3, h4⟩ := h
  refine ⟨cs, h1, h2, by simpa [Obj.solid] using h3, fun i v x hv hx => ?_⟩
  simp only [List.getElem?_map] at hv
  cases hq : l[i]? with
  | none => simp [hq] at hv
  | some u =>
   simp only [hq, Option.map_some, Option.some.injEq] at hv
   subst hv
   exact ⟨(h4 i u x hq hx).1, (h4 i u x hq hx).2.solid k⟩
theorem SavedRd.solid {w : World} {G : Gh} {id : Nat} {t : Ty} {xs : List t.den} (k : y6j w G id t xs) : ∀ {l : List (List (Nat × AV))} {tms : List (Array Value)}, SavedRd w G l tms ->
  SavedRd w (G.with (G.bs id)) (l.map fun l => l.map fun p => (p.1, p.2.solid id t xs)) tms
 | [], [], _ => trivial
 | m :: _, _ :: _, ⟨h, k'⟩ => ⟨fun u v hv => by
     rw [z59 (fun v : AV => v.solid id t xs)] at hv
     cases hq : look u m with
     | none => simp [hq] at hv
     | some v' => simp only [hq, Option.map_some, Option.some.injEq] at hv; subst hv; exact (h u v' hq).solid k, SavedRd.solid k k'⟩
 | [], _ :: _, h => h.elim
 | _ :: _, [], h => h.elim
theorem Rel.solid {P : Nat -> Prop} {w0 : St} {w : World} {stk : List (Array Value)} {s : MS} {tm : Array Value} {G : Gh} (k : Rel P w0 stk s tm w G) (id : Nat) :
  ∃ G', Rel P w0 stk (s.solid id) tm w G' /\ (∀ b, G.I b -> G'.I b) /\ (∀ o r, s.obj id = some o -> o.rows = some r -> ∀ b, b ∈ G.bs id -> G'.I b) /\
   (∀ b, G'.I b -> G.I b \/ b ∈ G.bs id) /\ G'.h = G.h /\ G'.bs = G.bs := by
 unfold MS.solid
 split
 ·rename_i t xs hor
  obtain ⟨o0, ho, hr⟩ := Option.bind_eq_some_iff.1 hor
  have hob := zy1 (k.ob id _ ho) hr
  have hm : ∀ u o, (MS.obj { slots := s.slots.map fun p => (p.1, p.2.solid id t xs), objs := s.objs.map fun p => (p.1, p.2.map (Obj.solid id t xs)), saved := s.saved.map fun l => l.map fun p => (p.1, p.2.solid id t xs) } u) = some o ->
    ∃ o', s.obj u = some o' /\ o = o'.solid id t xs := by
   intro u o h
   unfold MS.obj at h
   simp only at h
   rw [z59 (fun o : Option Obj => o.map (Obj.solid id t xs))] at h
   unfold MS.obj
   cases hl : look u s.objs with
   | none => simp [hl] at h
   | some x => cases x with
    | none => simp [hl] at h
    | some o' => simp [hl] at h; exact ⟨o', rfl, h.symm⟩
  refine ⟨G.with (G.bs id), ⟨k.keep, fun b hp hb => hb.elim (k.old b hp) fun hb => absurd hp (k.sep id _ b ho hb).1, ?_, ?_, ?_, ?_, ?_, ?_, k.pin⟩, fun b hb => .inl hb, fun _ _ _ _ b hb => .inr hb, fun b hb => hb, rfl, rfl⟩
  ·rintro b (hb | hb)
   ·exact k.isz b hb
   ·exact (k.sep id _ b ho hb).2.2
  ·intro u o h
   obtain ⟨o', h1, rfl⟩ := hm u o (z0w h).2.1
   exact Ob.solid hob (k.ob u o' h1)
  ·intro u o b h hb
   obtain ⟨o', h1, rfl⟩ := hm u o (z0w h).2.1
   obtain ⟨h2, h3, h4⟩ := k.sep u o' b h1 hb
   exact ⟨h2, fun h => h.elim h3 fun h => (z0w ‹_›).1 (k.dis u id o' _ b h1 ho hb h), h4⟩
  ·intro u u' o1 o2 b h h' hb hb'
   obtain ⟨o1', h1, _⟩ := hm u o1 (z0w h).2.1
   obtain ⟨o2', h2, _⟩ := hm u' o2 (z0w h').2.1
   exact k.dis u u' o1' o2' b h1 h2 hb hb'
  ·refine SlotsRd.kill id fun u v hv => ?_
   rw [z59 (fun v : AV => v.solid id t xs)] at hv
   cases hq : look u s.slots with
   | none => simp [hq] at hv
   | some v' => simp only [hq, Option.map_some, Option.some.injEq] at hv; subst hv; exact (k.slots u v' hq).solid hob
  ·exact SavedRd.kill id (k.saved.solid hob)
 ·rename_i hn
  exact ⟨G, k.kill id, fun _ h => h, fun o r h hr => (hn r.1 r.2 (by rw [h]; exact hr)).elim, fun b hb => .inl hb, rfl, rfl⟩
def ownB (s : MS) (G : Gh) (l : List LV) (b : Nat) : Prop := ∃ v, v ∈ l /\ ∃ id, id ∈ v.refs /\ (∃ o r, s.obj id = some o /\ o.rows = some r) /\ b ∈ G.bs id
theorem wq3 {o : Obj} {r : (t : Ty) × List t.den} (h : o.rows = some r) (id : Nat) : o.has id = false := by
 cases o with
 | box l => cases h
 | clos f l => cases h
 | buf t xs => rfl
 | grid t xs hole => rfl
 | mat t xs sw => rfl
theorem w8s {o : Obj} {r : (t : Ty) × List t.den} (h : o.rows = some r) (id : Nat) (t : Ty) (xs : List t.den) : o.solid id t xs = o := by
 cases o with
 | box l => cases h
 | clos f l => cases h
 | buf t xs => rfl
 | grid t xs hole => rfl
 | mat t xs sw => rfl
theorem zt4 {s : MS} {id id' : Nat} {o : Obj} {r : (t : Ty) × List t.den} (h : s.obj id' = some o) (hr : o.rows = some r) (hne : id' ≠ id) : (s.solid id).obj id' = some o := by
 have hk : ∀ s : MS, s.obj id' = some o -> (s.kill id).obj id' = some o := by
  intro s h
  rw [z8r]; simp [hne, h, wq3 hr]
 unfold MS.solid
 split
 ·rename_i t xs _
  refine hk _ ?_
  unfold MS.obj at h ⊢
  simp only
  rw [z59 (fun o : Option Obj => o.map _)]
  cases hl : look id' s.objs with
  | none => simp [hl] at h
  | some x => cases x with
   | none => simp [hl] at h
   | some o' =>
    simp [hl] at h
    subst h
    simp [w8s hr]
 ·exact hk s h
theorem w53 (v : LV) : v.refs = [] \/ ∃ i, v.refs = [i] := by
 cases v <;> first | exact .inl rfl | exact .inr ⟨_, rfl⟩
theorem Rel.solids {P : Nat -> Prop} {w0 : St} {w : World} {stk : List (Array Value)} {tm : Array Value} : ∀ (l : List LV) {s : MS} {G : Gh}, Rel P w0 stk s tm w G ->
  ∃ G', Rel P w0 stk (s.solids l) tm w G' /\ (∀ b, G.I b \/ ownB s G l b -> G'.I b) /\ G'.h = G.h /\ G'.bs = G.bs
 | [], s, G, k => ⟨G, k, (fun b hb => hb.elim (fun h => h) (fun ⟨v, hv, _⟩ => by cases hv)), rfl, rfl⟩
 | v :: l, s, G, k => by
  have key : ∃ s1 G1, s1 = v.refs.foldl MS.solid s /\ Rel P w0 stk s1 tm w G1 /\ (∀ b, G.I b -> G1.I b) /\ (∀ id o r, id ∈ v.refs -> s.obj id = some o -> o.rows = some r -> ∀ b, b ∈ G.bs id -> G1.I b) /\
    (∀ id o r, id ∉ v.refs -> s.obj id = some o -> o.rows = some r -> s1.obj id = some o) /\ G1.h = G.h /\ G1.bs = G.bs := by
   rcases w53 v with e | ⟨i, e⟩
   ·exact ⟨s, G, by rw [e]; rfl, k, fun _ h => h, (fun id o r h => by rw [e] at h; cases h), fun _ _ _ _ h _ => h, rfl, rfl⟩
   ·obtain ⟨G1, h1, h2, h3, h4, h5, h6⟩ := k.solid i
    refine ⟨s.solid i, G1, by rw [e]; rfl, h1, h2, fun id o r h hs hr b hb => ?_, fun id o r h hs hr => ?_, h5, h6⟩
    ·rw [e] at h
     obtain rfl : id = i := by simpa using h
     exact h3 o r hs hr b hb
    ·rw [e] at h
     exact zt4 hs hr (by simpa using h)
  obtain ⟨s1, G1, e1, k1, h1, h2, h3, h4, h5⟩ := key
  obtain ⟨G2, k2, g1, g2, g3⟩ := Rel.solids l k1
  refine ⟨G2, by rw [e1] at k2; exact k2, ?_, g2.trans h4, g3.trans h5⟩
  rintro b (hb | ⟨u, hu, id, hid, ⟨o, r, ho, hr⟩, hb⟩)
  ·exact g1 b (.inl (h1 b hb))
  ·by_cases hv : id ∈ v.refs
   ·exact g1 b (.inl (h2 id o r hv ho hr b hb))
   ·rcases List.mem_cons.1 hu with rfl | hu
    ·exact absurd hid hv
    ·exact g1 b (.inr ⟨u, hu, id, hid, ⟨o, r, h3 id o r hv ho hr, hr⟩, by rw [h5]; exact hb⟩)
theorem z2w {t' t : Ty} {x : t'.den} {y : t.den} (h : zf6 t x = some y) : ∃ e : t' = t, y = e ▸ x := by
 unfold zf6 at h
 split at h
 ·rename_i e; exact ⟨e, by simpa using h.symm⟩
 ·cases h
theorem yy8 {P : Nat -> Prop} {w0 : St} {w : World} {stk : List (Array Value)} {s : MS} {tm : Array Value} {G : Gh} (k : Rel P w0 stk s tm w G) {t : Ty} {v : LV} {x : t.den} {cs : List Value}
  (h : conv s t v = some x) (hv : LRd w G.I G.h v cs) : Rd w (fun b => G.I b \/ ownB s G [v] b) t x cs := by
 have hm : ∀ {t : Ty} {x : t.den} {cs : List Value}, Rd w G.I t x cs -> Rd w (fun b => G.I b \/ ownB s G [v] b) t x cs := fun h => h.mono (fun _ _ => rfl) fun _ hb => .inl hb
 have hval : ∀ {u t : Ty} {y : u.den} {x : t.den}, zf6 t y = some x -> Rd w G.I u y cs -> Rd w (fun b => G.I b \/ ownB s G [v] b) t x cs := by
  intro u t y x h hv
  obtain ⟨e, rfl⟩ := z2w h
  subst e
  exact hm hv
 have hown : ∀ {id n' : Nat} {u t' : Ty} {xs : List u.den} {A : Option Addr} {n c : Nat} {x : List t'.den} {o : Obj}, v.refs = [id] -> s.obj id = some o -> o.rows = some ⟨u, xs⟩ -> G.h id = some (.slice A n c) -> n' <= n ->
   zf6 (.slice t') (t' := .slice u) (xs.take n') = some x -> Rd w (fun b => G.I b \/ ownB s G [v] b) (.slice t') x [.slice A n' c] := by
  intro id n' u t' xs A n c x o hr ho hrow hh hle h
  obtain ⟨e, rfl⟩ := z2w h
  cases e
  refine (ya7 (zy1 (k.ob id _ ho) hrow) hh hle).1.mono (fun _ _ => rfl) fun b hb => hb.elim .inl fun hb => .inr ⟨v, List.mem_singleton_self _, id, by rw [hr]; simp, ⟨o, _, ho, hrow⟩, hb⟩
 unfold conv at h
 split at h
 ·cases h; rw [show cs = _ from hv]; exact ⟨none, 0, 0, rfl, rfl, rfl, rfl⟩
 ·cases h; rw [show cs = _ from hv]; exact ⟨none, 0, 0, rfl, ⟨rfl, rfl, rfl⟩, by simp⟩
 ·rename_i t u y
  obtain ⟨A, n, c, h1, h2, _⟩ := hv
  exact hval (u := .slice u) h ⟨A, n, c, h1, h2⟩
 ·rename_i t id
  split at h
  ·rename_i u xs ho
   obtain ⟨A, n, c, h1, rfl⟩ := hv
   have hn := (ya7 (zy1 (k.ob id _ ho) rfl) h1 (Nat.le_refl _)).2
   exact hown rfl ho rfl h1 (Nat.le_refl _) (by rw [hn, List.take_length]; exact h)
  ·rename_i u xs ho
   obtain ⟨A, n, c, h1, rfl⟩ := hv
   have hn := (ya7 (zy1 (k.ob id _ ho) rfl) h1 (Nat.le_refl _)).2
   exact hown (u := .slice u) (xs := xs) rfl ho rfl h1 (Nat.le_refl _) (by rw [hn, List.take_length]; exact h)
  ·cases h
 ·rename_i t id
  split at h
  ·rename_i u xs ho
   obtain ⟨A, n, c, R, h1, rfl⟩ := hv
   obtain ⟨e, rfl⟩ := z2w h
   cases e
   obtain ⟨h2, h3⟩ := yy7 (zy1 (k.ob id _ ho) rfl) (A := A) (n := n) (c := c) (by rw [h1]; rfl) (Nat.le_refl _)
   rw [h3, List.take_length] at h2
   rw [h3]
   exact h2.mono (fun _ _ => rfl) fun b hb => hb.elim .inl fun hb => .inr ⟨_, List.mem_singleton_self _, id, by simp [LV.refs], ⟨_, _, ho, rfl⟩, hb⟩
  ·cases h
 ·rename_i t id u i
  split at h
  ·rename_i u' xs ho
   split at h
   ·rename_i e
    subst e
    obtain ⟨i0, o, hs, A, n, c, h1, h2, rfl⟩ := hv
    obtain ⟨e, rfl⟩ := z2w h
    cases e
    obtain ⟨b, c', C, E, fz, rb, hs', k1, k2, k3, k4, k5, k6, k7, k8, k9, k10, k11, k12⟩ := yk3 (k.ob id _ ho) h1 h2
    rw [h1] at k1
    simp only [Option.some.injEq, Value.tuple.injEq, Array.mk.injEq, List.cons.injEq, Value.agg.injEq, and_true] at k1
    obtain ⟨rfl, rfl⟩ := k1
    have hi : i.toNat < xs.length := by rw [<- k10]; exact (Array.getElem?_eq_some_iff.1 h2).1
    have hx : xs[i.toNat]? = some (xs.getD i.toNat []) := by rw [List.getD_eq_getElem?_getD, List.getElem?_eq_getElem hi]; rfl
    have hr := (k9 i.toNat _ hx).rd
    rw [Array.getD_eq_getD_getElem?, h2] at hr
    exact hr.mono (fun _ _ => rfl) fun b hb => hb.elim .inl fun hb => .inr ⟨_, List.mem_singleton_self _, id, by simp [LV.refs], ⟨_, _, ho, rfl⟩, (k7 _ hi b hb).1⟩
   ·cases h
  ·cases h
 ·rename_i t id n
  split at h
  ·rename_i u xs ho
   obtain ⟨A, m, c, h1, h2, rfl⟩ := hv
   exact hown rfl ho rfl h1 h2 h
  ·cases h
 ·rename_i t id u lo n
  split at h
  ·rename_i u' xs ho
   split at h
   ·rename_i e
    subst e
    obtain ⟨A, m, c, h1, h2, rfl⟩ := hv
    obtain ⟨e, rfl⟩ := z2w h
    cases e
    exact (w52 (zy1 (k.ob id _ ho) rfl) h1 h2).mono (fun _ _ => rfl) fun b hb => hb.elim .inl fun hb => .inr ⟨_, List.mem_singleton_self _, id, by simp [LV.refs], ⟨_, _, ho, rfl⟩, hb⟩
   ·cases h
  ·cases h
 ·rename_i t id
  split at h
  ·rename_i hc
   split at h
   ·rename_i u xs ho
    obtain ⟨ys, h1, rfl⟩ := Option.map_eq_some_iff.1 h
    obtain ⟨A, n, c, h2, rfl⟩ := hv
    have hn := (ya7 (zy1 (k.ob id _ ho) rfl) h2 (Nat.le_refl _)).2
    obtain ⟨A', n', c', e1, e2⟩ := hown (t' := t) rfl ho rfl h2 (Nat.le_refl _) (by rw [hn, List.take_length]; exact h1)
    cases e1
    obtain ⟨b, n2, c2, e3⟩ := yy6 (k.pin _ (List.contains_iff_mem.1 hc))
    rw [h2] at e3
    cases e3
    exact ⟨_, n, c, rfl, e2, by simp⟩
   ·cases h
  ·cases h
 ·exact hval h hv
 ·cases h
theorem ownB.cons {s : MS} {G : Gh} {v : LV} {l : List LV} {b : Nat} : ownB s G [v] b \/ ownB s G l b -> ownB s G (v :: l) b := by
 rintro (⟨u, hu, r⟩ | ⟨u, hu, r⟩)
 ·exact ⟨u, by rw [List.mem_singleton.1 hu]; exact List.mem_cons_self .., r⟩
 ·exact ⟨u, List.mem_cons_of_mem _ hu, r⟩
theorem wq2 {P : Nat -> Prop} {w0 : St} {w : World} {stk : List (Array Value)} {s : MS} {tm : Array Value} {G : Gh} (k : Rel P w0 stk s tm w G) : ∀ {t : Ty} {l r : List LV} {x : t.den} {cs : List Value},
  w2u s t l = some (x, r) -> LsRd w G.I G.h l cs -> ∃ c1 c2, cs = c1 ++ c2 /\ Rd w (fun b => G.I b \/ ownB s G l b) t x c1 /\ LsRd w G.I G.h r c2 /\ ∀ b, ownB s G r b -> ownB s G l b := by
 have base : ∀ {t : Ty} {l r : List LV} {x : t.den} {cs : List Value}, (match l with | [] => none | v :: l => (conv s t v).bind fun x => some (x, l)) = some (x, r) -> LsRd w G.I G.h l cs ->
   ∃ c1 c2, cs = c1 ++ c2 /\ Rd w (fun b => G.I b \/ ownB s G l b) t x c1 /\ LsRd w G.I G.h r c2 /\ ∀ b, ownB s G r b -> ownB s G l b := by
  intro t l r x cs h hl
  cases l with
  | nil => cases h
  | cons v l =>
   obtain ⟨c1, c2, e, h1, h2⟩ := hl
   simp only [Option.bind_eq_some_iff, Option.some.injEq, Prod.mk.injEq] at h
   obtain ⟨y, hy, rfl, rfl⟩ := h
   exact ⟨c1, c2, e, (yy8 k hy h1).mono (fun _ _ => rfl) fun b hb => hb.imp id fun hb => ownB.cons (.inl hb), h2, fun b hb => ownB.cons (.inr hb)⟩
 intro t
 induction t with
 | pair a b iha ihb =>
  intro l r x cs h hl
  simp only [w2u, Option.bind_eq_some_iff, Option.some.injEq, Prod.mk.injEq, Prod.exists] at h
  obtain ⟨y, l1, h1, z, l2, h2, rfl, rfl⟩ := h
  obtain ⟨c1, c2, e, k1, k2, k3⟩ := iha h1 hl
  obtain ⟨d1, d2, e', k4, k5, k6⟩ := ihb h2 k2
  exact ⟨c1 ++ d1, d2, by rw [e, e', List.append_assoc], ⟨c1, d1, rfl, k1, k4.mono (fun _ _ => rfl) fun b hb => hb.imp id (k3 b)⟩, k5, fun b hb => k3 b (k6 b hb)⟩
 | unit =>
  intro l r x cs h hl
  simp only [w2u, Option.some.injEq, Prod.mk.injEq] at h
  obtain ⟨_, rfl⟩ := h
  exact ⟨[], cs, rfl, rfl, hl, fun _ hb => hb⟩
 | _ =>
  intro l r x cs h hl
  refine base ?_ hl
  cases l with
  | nil => simp [w2u] at h
  | cons v l => simpa [w2u] using h
theorem z9s {P : Nat -> Prop} {w0 : St} {w : World} {stk : List (Array Value)} {s : MS} {tm : Array Value} {G : Gh} (k : Rel P w0 stk s tm w G) {t : Ty} {l : List LV} {x : t.den} {cs : List Value}
  (h : zt9 s t l = some x) (hl : LsRd w G.I G.h l cs) : Rd w (fun b => G.I b \/ ownB s G l b) t x cs := by
 unfold zt9 at h
 split at h
 ·rename_i y hy
  cases h
  obtain ⟨c1, c2, e, h1, h2, _⟩ := wq2 k hy hl
  have h2 : c2 = [] := h2
  subst h2
  simpa [e] using h1
 ·cases h
end Vm
/- The operations, first part: what touches no memory. -/
namespace Vm
open Go
structure TOk (P : Program) (E : Env) (t : TypeId) (ti : TI) : Prop where
 info : ∃ i, P.info? t = some i /\ i.size = ti.ty.sz /\ i.bytes = ti.bytes /\ ∃ z, i.zero = some z /\ (if ti.ty.agg then ∃ cs, z = .agg cs else cell1 z = true) /\
  (∀ w I, Rd w I ti.ty ti.ty.zero z.cells.toList) /\ ∀ l, E.zeroL 20 t = some l -> ∀ w I h, LsRd w I h l z.cells.toList
 und : ∃ d, P.underlying t = some d /\ (match d with | .struct _ | .array _ _ => true | _ => false) = ti.ty.agg /\ match ti.kd with
  | .sc => match ti.ty with
   | .bool => d = .bool
   | .int k => d = .int k
   | .str => d = .string
   | .err => ∃ ms, d = .interface ms
   | _ => False
  | .slice e => d = .slice e /\ ∃ te, E.ti e = some te /\ (ti.ty = .slice te.ty \/ ti.ty = .nsl te.ty)
  | .st fs => (fs.map fun t => (E.sz t).getD 0).sum = ti.ty.sz /\ ∃ fields, d = .struct fields /\ fields.size = fs.length /\ ∀ i f, fields[i]? = some f -> ∃ t' n, fs[i]? = some t' /\ E.fieldAt fs i = some (n, t') /\ f.type = t' /\ f.offset = n /\
    z4e ti.ty fs.length i = (E.ty? t').map fun u => (n, u)
  | .ar n e => d = .array n e /\ ∃ te, E.ti e = some te /\ ti.ty = .arr n te.ty
  | .ptr e => d = .pointer e /\ ti.ty = .opq
  | .other => ti.ty = .opq
 eqs : ∀ fs, ti.kd = .st fs -> E.intSt fs = true -> P.stoodInHeld t = false /\ P.eqGuardType P.depth t = false /\ ∀ f ∈ (P.fieldsOf t).toList, f.name ≠ "_"
 eqa : ∀ n e k, ti.kd = .ar n e -> E.ty? e = some (.int k) -> P.eqGuardType P.depth t = false
structure EOk (P : Program) (E : Env) : Prop where
 te : ∀ t ti, E.ti t = some ti -> TOk P E t ti
section
variable {P : Program} {o : Oper} {a : Act} {next : Act -> World -> Prop} {Q : Exit -> Act -> World -> Prop} {w w' : World}
theorem z3u {x : Value} (h : (execOp a.eval o).run P w = .ok (.value x) w') (hn : next (a.put o.dst x) w') : o.wp P a w next Q := by
 unfold Oper.wp; rw [h]; exact hn
theorem wr5 (h : (execOp a.eval o).run P w = .ok .skip w') (hn : next (a.put o.dst undef) w') : o.wp P a w next Q := by
 unfold Oper.wp; rw [h]; exact hn
end
theorem yr9 {v : Value} {l : LV} (h : yh3 v = some l) (w : World) (I : Nat -> Prop) (hv : Hv) : cell1 v = true /\ LRd w I hv l [v] := by
 unfold yh3 at h
 split at h <;> first | (cases h; done) | (cases h; exact ⟨rfl, rfl⟩) | (cases h; exact ⟨rfl, _, rfl, fun _ => rfl, fun h => by cases h⟩)
theorem w1b (w : World) (I : Nat -> Prop) (hv : Hv) : ∀ {vs : List Value} {l : List LV}, vs.mapM yh3 = some l -> LsRd w I hv l vs
 | [], l, h => by simp at h; subst h; rfl
 | v :: vs, l, h => by
  simp only [List.mapM_cons, Option.bind_eq_bind, Option.bind_eq_some_iff, Option.pure_def, Option.some.injEq] at h
  obtain ⟨x, hx, l', hl, rfl⟩ := h
  exact ⟨[v], vs, rfl, (yr9 hx w I hv).2, w1b w I hv hl⟩
theorem w7z (v : Value) (w : World) (I : Nat -> Prop) (hv : Hv) : ARd w I hv (w44 v) v := by
 unfold w44
 split
 ·split
  ·rename_i l h; exact ⟨_, rfl, w1b w I hv h⟩
  ·trivial
 ·split
  ·rename_i l h; exact yr9 h w I hv
  ·trivial
section
variable {Pr : Nat -> Prop} {w0 : St} {w : World} {stk : List (Array Value)} {s : MS} {a : Act} {G : Gh}
theorem Rel.ev (k : Rel Pr w0 stk s a.tmps w G) (x : Operand) : ARd w G.I G.h (s.ev x) (a.eval x) := by
 cases x with
 | tmp t => exact k.get t
 | const v => exact w7z v w _ _
 | global g => trivial
 | func f => exact ⟨rfl, rfl⟩
def zb2 {ρ : Type} (Pr : Nat -> Prop) (w0 : St) (stk : List (Array Value)) (o : Oper) (a : Act) (K : AV -> MS -> Option ρ) (r : ρ) (a' : Act) (w' : World) : Prop :=
 ∃ v s' x G', a' = a.put o.dst x /\ Rel Pr w0 stk s' a.tmps w' G' /\ ARd w' G'.I G'.h v x /\ K v s' = some r
theorem z4x {w : World} {I : Nat -> Prop} {h : Hv} {k : IntKind} {n : Int} {x : Value} (e : ARd w I h (.one (.val (.int k) n)) x) : x = .int k n := by
 have := e.2; simp only [LRd, Rd, List.cons.injEq, and_true] at this; exact this
theorem zi5 {w : World} {I : Nat -> Prop} {h : Hv} {b : Bool} {x : Value} (e : ARd w I h (.one (.val .bool b)) x) : x = .bool b := by
 have := e.2; simp only [LRd, Rd, List.cons.injEq, and_true] at this; exact this
theorem y14 {w : World} {I : Nat -> Prop} {h : Hv} {b : ByteArray} {x : Value} (e : ARd w I h (.one (.val .str b)) x) : x = .string b := by
 have := e.2; simp only [LRd, Rd, List.cons.injEq, and_true] at this; exact this
theorem zk4 {w : World} {I : Nat -> Prop} {h : Hv} {k : IntKind} {n : Int} : ARd w I h (i1 k n) (.int k n) := ⟨rfl, rfl⟩
theorem za9 {w : World} {I : Nat -> Prop} {h : Hv} {b : Bool} : ARd w I h (b1 b) (.bool b) := ⟨rfl, rfl⟩
theorem z0r {ρ : Type} {P : Program} {o : Oper} {Q : Exit -> Act -> World -> Prop} {K : AV -> MS -> Option ρ} {r : ρ} {v : AV} {x : Value} (k : Rel Pr w0 stk s a.tmps w G)
  (hrun : (execOp a.eval o).run P w = .ok (.value x) w) (hx : ARd w G.I G.h v x) (hK : K v s = some r) : o.wp P a w (zb2 Pr w0 stk o a K r) Q :=
 z3u hrun ⟨v, s, x, G, rfl, k, hx, hK⟩
theorem w1n {ρ : Type} {P : Program} {op : BinOp} {k : IntKind} {x y : Int} {K : AV -> Option ρ} {r : ρ} (hs : op ≠ .shl) (hs' : op ≠ .shr) (h : wy5 op k x y K = some r) (t : TypeId) (w : World)
  (I : Nat -> Prop) (hv : Hv) : ∃ z v, (∀ w, (Go.binOp op t (.int k x) (.int k y)).run P w = .ok z w) /\ ARd w I hv v z /\ K v = some r := by
 cases op <;> first | exact absurd rfl hs | exact absurd rfl hs' | skip
 all_goals simp only [wy5] at h
 all_goals
  first
  | (cases h; done)
  | (refine ⟨.int k _, _, ?_, zk4, h⟩; intro w; simp [Go.binOp, Op.intArith]; done)
  | (refine ⟨.bool _, _, ?_, za9, h⟩; intro w; simp [Go.binOp, Op.intCmp]; done)
  | (refine ⟨.int k _, _, ?_, zk4, h⟩; intro w; simp [Go.binOp, Op.intBits, yc1]; done)
  | (split at h
     · cases h
     · rename_i hy; refine ⟨.int k _, _, ?_, zk4, h⟩; intro w; simp [Go.binOp, Op.intDiv, hy])
theorem w2p {ρ : Type} {P : Program} {op : BinOp} {x y : ByteArray} {K : AV -> Option ρ} {r : ρ} (h : v0c op x y K = some r) (t : TypeId) (w : World)
  (I : Nat -> Prop) (hv : Hv) : ∃ z v, (∀ w, (Go.binOp op t (.string x) (.string y)).run P w = .ok z w) /\ ARd w I hv v z /\ K v = some r := by
 cases op <;> simp only [v0c] at h <;>
  first
  | (cases h; done)
  | (refine ⟨.bool _, _, ?_, za9, h⟩; intro w; simp [Go.binOp, Op.stringOp]; done)
  | (split at h
     · rename_i hy
       refine ⟨.string (x ++ y), .one (.val .str (x ++ y)), ?_, ⟨rfl, rfl⟩, h⟩
       have : ¬ (((x.size + y.size : Nat) : Int) > IntKind.i64.max) := by
         have e : IntKind.i64.max = 9223372036854775807 := rfl
         rw [e]; omega
       intro w; simp only [Go.binOp, Op.stringOp, this, if_false]; rfl
     · cases h)
end
end Vm
/- The operations, second part: comparisons, fields, tuples. -/
namespace Vm
open Go
section
variable {ρ : Type} {P : Program} {E : Env} {Pr : Nat -> Prop} {w0 : St} {w : World} {stk : List (Array Value)} {s : MS} {a : Act} {G : Gh} {o : Oper} {Q : Exit -> Act -> World -> Prop} {K : AV -> MS -> Option ρ} {r : ρ}
theorem EOk.sc (hE : EOk P E) {t : TypeId} {ti : TI} (h : E.ti t = some ti) (hk : ti.kd = .sc) (hb : ti.ty = .bool) : P.underlying t = some .bool := by
 obtain ⟨d, hd, _, hm⟩ := (hE.te t ti h).und
 rw [hk] at hm; simp only [hb] at hm; rw [hd, hm]
theorem z74 {t : TypeId} {u : Ty} (h : E.ty? t = some u) : ∃ ti, E.ti t = some ti /\ ti.ty = u := by
 unfold Env.ty? at h
 cases hh : E.ti t with
 | none => simp [hh] at h
 | some ti => simp [hh] at h; exact ⟨ti, rfl, h⟩
theorem ze3 {t : TypeId} {u : Kd} (h : E.kd? t = some u) : ∃ ti, E.ti t = some ti /\ ti.kd = u := by
 unfold Env.kd? at h
 cases hh : E.ti t with
 | none => simp [hh] at h
 | some ti => simp [hh] at h; exact ⟨ti, rfl, h⟩
theorem w7f (hE : EOk P E) {t : TypeId} (h : E.ty? t = some .bool) : P.underlying t = some .bool := by
 obtain ⟨ti, h1, h2⟩ := z74 h
 obtain ⟨d, hd, ha, hm⟩ := (hE.te t ti h1).und
 rw [h2] at ha
 cases hk : ti.kd with
 | sc => rw [hk, h2] at hm; rw [hd, hm]
 | slice e => rw [hk, h2] at hm; obtain ⟨_, te, _, h | h⟩ := hm <;> cases h
 | st fs =>
  rw [hk] at hm; obtain ⟨_, f, rfl, _⟩ := hm; cases ha
 | ar n e => rw [hk, h2] at hm; obtain ⟨_, te, _, h⟩ := hm; cases h
 | ptr e => rw [hk, h2] at hm; cases hm.2
 | other => rw [hk, h2] at hm; cases hm
theorem z2q {t : TypeId} {d : TypeDesc} (h : P.underlying t = some d) (w : World) : (underlying t).run P w = .ok d w := by
 simp [underlying, h]
theorem w84 (op : BinOp) (t : TypeId) (x y : Operand) (u v : Value) (h1 : u = .nilIface -> ∃ c, y = .const c) (h2 : ∀ cs, u ≠ .agg cs) :
  eqGuard op t x y u v = pure () := by
 cases op <;> first
  | rfl
  | (cases u <;> first
      | rfl
      | exact absurd rfl (h2 _)
      | (obtain ⟨c, rfl⟩ := h1 rfl
         cases v <;> first | rfl | (cases x <;> rfl)))
theorem z41 {op : BinOp} {t : TypeId} {x y : Operand} {yt : TypeId} (ho : o.op = .binOp op t x y yt) {z : Value} {w' : World}
  (h1 : a.eval x = .nilIface -> ∃ c, y = .const c) (h2 : ∀ cs, a.eval x ≠ .agg cs)
  (h : (Go.binOp op t (a.eval x) (a.eval y)).run P w = .ok z w') : (execOp a.eval o).run P w = .ok (.value z) w' := by
 unfold execOp
 simp only [ho, w84 op t x y (a.eval x) (a.eval y) h1 h2, pure_bind, Sem.run_bind, Result.andThen_ok, h, Sem.run_pure]
theorem w85 (d : Nat) (t e : TypeId) (A : Option Addr) (n c : Nat) (h : P.underlying t = some (.slice e)) : (Op.equalIn (d + 1) t (.slice A n c) (.slice none 0 0)).run P w = .ok A.isNone w := by
 cases A <;> simp [Op.equalIn, z2q h]
theorem wn5 (d : Nat) (t e : TypeId) (A : Option Addr) (h : P.underlying t = some (.pointer e)) : (Op.equalIn (d + 1) t (.pointer A) (.pointer none)).run P w = .ok A.isNone w := by
 cases A <;> simp [Op.equalIn, z2q h]
theorem wn4 (d : Nat) (t : TypeId) (ms) (h : P.underlying t = some (.interface ms)) : (Op.equalIn (d + 1) t .nilIface .nilIface).run P w = .ok true w := by
 simp [Op.equalIn, z2q h]
theorem wc3 (d : Nat) (t : TypeId) (ms) (T : TypeId) (u : Value) (h : P.underlying t = some (.interface ms)) : (Op.equalIn (d + 1) t (.iface T u) .nilIface).run P w = .ok false w := by
 simp [Op.equalIn, z2q h]
theorem wc2 (d : Nat) (t : TypeId) (x y : Bool) (h : P.underlying t = some .bool) : (Op.equalIn (d + 1) t (.bool x) (.bool y)).run P w = .ok (x == y) w := by
 simp [Op.equalIn, z2q h]
theorem yd3 {t : TypeId} {x y : Bool} (h : P.underlying t = some .bool) : (Go.binOp .eql t (.bool x) (.bool y)).run P w = .ok (.bool (x == y)) w /\ (Go.binOp .neq t (.bool x) (.bool y)).run P w = .ok (.bool (!(x == y))) w := by
 have := wc2 (P := P) (w := w) 9999 t x y h
 constructor <;> (simp only [Go.binOp]; simp [Op.equal, Op.maxDepth, this])
theorem w16 {t e : TypeId} {A : Option Addr} {n c : Nat} (h : P.underlying t = some (.slice e)) : (Go.binOp .eql t (.slice A n c) (.slice none 0 0)).run P w = .ok (.bool A.isNone) w /\
  (Go.binOp .neq t (.slice A n c) (.slice none 0 0)).run P w = .ok (.bool (!A.isNone)) w := by
 have := w85 (P := P) (w := w) 9999 t e A n c h
 constructor <;> (simp only [Go.binOp]; simp [Op.equal, Op.maxDepth, this])
theorem wa3 {t e : TypeId} {A : Option Addr} (h : P.underlying t = some (.pointer e)) : (Go.binOp .eql t (.pointer A) (.pointer none)).run P w = .ok (.bool A.isNone) w /\
  (Go.binOp .neq t (.pointer A) (.pointer none)).run P w = .ok (.bool (!A.isNone)) w := by
 have := wn5 (P := P) (w := w) 9999 t e A h
 constructor <;> (simp only [Go.binOp]; simp [Op.equal, Op.maxDepth, this])
theorem wa1 {t : TypeId} {ms} (h : P.underlying t = some (.interface ms)) : (Go.binOp .eql t .nilIface .nilIface).run P w = .ok (.bool true) w /\
  (Go.binOp .neq t .nilIface .nilIface).run P w = .ok (.bool false) w := by
 have := wn4 (P := P) (w := w) 9999 t ms h
 constructor <;> (simp only [Go.binOp]; simp [Op.equal, Op.maxDepth, this])
theorem w5r {t : TypeId} {ms} {T : TypeId} {u : Value} (h : P.underlying t = some (.interface ms)) : (Go.binOp .eql t (.iface T u) .nilIface).run P w = .ok (.bool false) w /\
  (Go.binOp .neq t (.iface T u) .nilIface).run P w = .ok (.bool true) w := by
 have := wc3 (P := P) (w := w) 9999 t ms T u h
 constructor <;> (simp only [Go.binOp]; simp [Op.equal, Op.maxDepth, this])
theorem y7y {t : TypeId} {ti : TI} {v : LV} {b : Bool} {y : Operand} (hE : EOk P E) (k : Rel Pr w0 stk s a.tmps w G) (ht : E.ti t = some ti) (hn : isNil s ti.kd ti.ty v = some b) (hc : y8v ti.kd y = true)
  {x : Value} (hx : LRd w G.I G.h v [x]) (w2 : World) :
  (Go.binOp .eql t x (a.eval y)).run P w2 = .ok (.bool b) w2 /\ (Go.binOp .neq t x (a.eval y)).run P w2 = .ok (.bool (!b)) w2 /\ (x = .nilIface -> ∃ c, y = .const c) /\ ∀ cs, x ≠ .agg cs := by
 obtain ⟨d, hd, ha, hm⟩ := (hE.te t ti ht).und
 unfold y8v at hc
 split at hc
 ·rename_i e hk
  rw [hk] at hn hm
  obtain ⟨rfl, _⟩ := hm
  have fin : ∀ (A : Option Addr) (n c : Nat), x = .slice A n c -> A.isNone = b -> (Go.binOp .eql t x (a.eval (.const (.slice none 0 0)))).run P w2 = .ok (.bool b) w2 /\
    (Go.binOp .neq t x (a.eval (.const (.slice none 0 0)))).run P w2 = .ok (.bool (!b)) w2 /\ (x = .nilIface -> ∃ c, Operand.const (.slice none 0 0) = .const c) /\ ∀ cs, x ≠ .agg cs := by
   rintro A n c rfl rfl
   exact ⟨(w16 hd).1, (w16 hd).2, (fun h => by cases h), (fun cs h => by cases h)⟩
  have hn : w4k s v = some b := hn
  cases v with
  | nil =>
   cases hn
   have hx : [x] = [Value.slice none 0 0] := hx
   simp only [List.cons.injEq, and_true] at hx
   exact fin _ _ _ hx rfl
  | val t' y =>
   cases t' <;> first | (cases hn; done) | skip
   cases hn; obtain ⟨A, n, c, h1, _, h3⟩ := hx
   simp only [List.cons.injEq, and_true] at h1
   refine fin _ _ _ h1 ?_
   cases y with
   | none => rw [h3.1 rfl]; rfl
   | some y => cases A with
    | none => cases h3.2 rfl
    | some A => rfl
  | own id =>
   simp only [w4k] at hn
   split at hn <;> first | (cases hn; done) | skip
   rename_i u z zs ho
   cases hn
   obtain ⟨A, n, c, h1, h2⟩ := hx
   simp only [List.cons.injEq, and_true] at h2
   refine fin _ _ _ h2 ?_
   rcases k.ob id _ ho with ⟨_, h, _⟩ | ⟨b, c', C, E', fz, h3, _⟩
   ·cases h
   ·rw [h3] at h1; cases h1; rfl
  | _ => cases hn
 ·rename_i e hk
  rw [hk] at hn hm
  obtain ⟨rfl, _⟩ := hm
  have fin : ∀ (A : Option Addr), x = .pointer A -> A.isNone = b -> (Go.binOp .eql t x (a.eval (.const (.pointer none)))).run P w2 = .ok (.bool b) w2 /\
    (Go.binOp .neq t x (a.eval (.const (.pointer none)))).run P w2 = .ok (.bool (!b)) w2 /\ (x = .nilIface -> ∃ c, Operand.const (.pointer none) = .const c) /\ ∀ cs, x ≠ .agg cs := by
   rintro A rfl rfl
   exact ⟨(wa3 hd).1, (wa3 hd).2, (fun h => by cases h), (fun cs h => by cases h)⟩
  have hn : we6 v = some b := hn
  cases v with
  | nilp =>
   cases hn
   have hx : [x] = [Value.pointer none] := hx
   simp only [List.cons.injEq, and_true] at hx
   exact fin _ hx rfl
  | pbox id off => cases hn; obtain ⟨b, h1, h2⟩ := hx; simp only [List.cons.injEq, and_true] at h2; exact fin _ h2 rfl
  | pbuf id u i fp => cases hn; obtain ⟨_, b, n, c, q, u, h1, _, _, h2⟩ := hx; simp only [List.cons.injEq, and_true] at h2; exact fin _ h2 rfl
  | pimm u y => cases hn; obtain ⟨q, C, E', fz, h2, _⟩ := hx; simp only [List.cons.injEq, and_true] at h2; exact fin _ h2 rfl
  | _ => cases hn
 ·rename_i hk
  rw [hk] at hn hm
  simp only [isNil] at hn
  split at hn
  ·rename_i hty
   simp only [hty] at hm
   obtain ⟨ms, rfl⟩ := hm
   cases v with
   | val t' bb =>
    cases t' <;> first | (cases hn; done) | skip
    cases hn
    obtain ⟨v, h1, h2, h3⟩ := hx
    simp only [List.cons.injEq, and_true] at h1
    subst h1
    cases bb with
    | false =>
     obtain rfl := h2 rfl
     exact ⟨(wa1 hd).1, (wa1 hd).2, fun _ => ⟨_, rfl⟩, (fun cs h => by cases h)⟩
    | true =>
     obtain ⟨T, u, rfl⟩ := h3 rfl
     exact ⟨(w5r hd).1, (w5r hd).2, (fun h => by cases h), (fun cs h => by cases h)⟩
   | _ => cases hn
  ·cases hn
 ·cases hc
theorem ys9 (k : Rel Pr w0 stk s a.tmps w G) {x : Operand} (ho : o.op = .move x \/ o.op = .assign x) (h : K (s.ev x) s = some r) : o.wp P a w (zb2 Pr w0 stk o a K r) Q := by
 refine z0r k ?_ (k.ev x) h
 rcases ho with ho | ho <;> (unfold execOp; simp only [ho]; rfl)
theorem w8p (k : Rel Pr w0 stk s a.tmps w G) {c x y : Operand} (ho : o.op = .pick c x y)
  (h : (match s.ev c with | .one (.val .bool c) => if c = true then K (s.ev x) s else K (s.ev y) s | _ => none) = some r) : o.wp P a w (zb2 Pr w0 stk o a K r) Q := by
 have kc := k.ev c
 split at h
 ·rename_i b e
  rw [e] at kc
  have vc := zi5 kc
  have hr : (execOp a.eval o).run P w = .ok (.value (if b then a.eval x else a.eval y)) w := by
   unfold execOp; simp only [ho, vc, asBool]; rfl
  cases b
  ·exact z0r k hr (k.ev y) (by simpa using h)
  ·exact z0r k hr (k.ev x) (by simpa using h)
 ·cases h
theorem w94 (k : Rel Pr w0 stk s a.tmps w G) {op : UnOp} {t : TypeId} {x : Operand} (ho : o.op = .unOp op t x) (h : v27 s op x (fun v => K v s) = some r) :
  o.wp P a w (zb2 Pr w0 stk o a K r) Q := by
 have kx := k.ev x
 have key : ∀ {z : Value} {v : AV}, (Op.unary op (a.eval x)).run P w = .ok z w -> ARd w G.I G.h v z -> K v s = some r -> o.wp P a w (zb2 Pr w0 stk o a K r) Q := fun h1 h2 h3 =>
  z0r k (by unfold execOp; simp only [ho, Sem.run_bind, h1, Result.andThen_ok, Sem.run_pure]) h2 h3
 unfold v27 at h
 split at h
 ·rename_i b e; rw [e] at kx; have vx := zi5 kx
  exact key (z := .bool !b) (by rw [vx]; rfl) za9 h
 ·rename_i kk n e; rw [e] at kx; have vx := z4x kx
  exact key (z := .int kk _) (by rw [vx]; rfl) zk4 h
 ·rename_i kk n e; rw [e] at kx; have vx := z4x kx
  exact key (z := .int kk _) (by rw [vx]; rfl) zk4 h
 ·cases h
theorem yq0 (k : Rel Pr w0 stk s a.tmps w G) {x : Operand} (ho : o.op = .nilCheck x)
  (h : (match s.ev x with | .one .nilp => none | .one (.pbox i j) => K (.one (.pbox i j)) s | .one (.pbuf i t j p) => K (.one (.pbuf i t j p)) s | .one (.pgrd i t j) => K (.one (.pgrd i t j)) s | .one (.prow i t j k) => K (.one (.prow i t j k)) s | .one (.pimm t x) => K (.one (.pimm t x)) s | .one (.val (.ptr t) x) => K (.one (.pimm t x)) s | _ => none) = some r) :
  o.wp P a w (zb2 Pr w0 stk o a K r) Q := by
 have kx := k.ev x
 have key : ∀ A, a.eval x = .pointer (some A) -> (execOp a.eval o).run P w = .ok (.value (a.eval x)) w := by
  intro A e; unfold execOp; simp only [ho, e]; rfl
 split at h
 ·cases h
 ·rename_i e; rw [e] at kx
  obtain ⟨b, h1, h2⟩ := kx.2
  simp only [List.cons.injEq, and_true] at h2
  exact z0r k (key _ h2) kx h
 ·rename_i e; rw [e] at kx
  obtain ⟨_, b, n, c, q, u, h1, _, _, h2⟩ := kx.2
  simp only [List.cons.injEq, and_true] at h2
  exact z0r k (key _ h2) kx h
 ·rename_i e; rw [e] at kx
  obtain ⟨_, b, n, c, R, h1, _, h2⟩ := kx.2
  simp only [List.cons.injEq, and_true] at h2
  exact z0r k (key _ h2) kx h
 ·rename_i e; rw [e] at kx
  obtain ⟨_, _, o, hs, b, n, c, h1, _, _, h2⟩ := kx.2
  simp only [List.cons.injEq, and_true] at h2
  exact z0r k (key _ h2) kx h
 ·rename_i e; rw [e] at kx
  obtain ⟨q, C, E', fz, h2, _⟩ := kx.2
  simp only [List.cons.injEq, and_true] at h2
  exact z0r k (key _ h2) kx h
 ·rename_i t x e; rw [e] at kx
  obtain ⟨q, C, E', fz, h2, h3⟩ := kx.2
  have h2' := h2
  simp only [List.cons.injEq, and_true] at h2'
  exact z0r k (key _ h2') (v := .one (.pimm t x)) ⟨kx.1, q, C, E', fz, h2, h3⟩ h
 ·cases h
theorem yx3 (k : Rel Pr w0 stk s a.tmps w G) {x : Operand} {i : Nat} (ho : o.op = .extract x i)
  (h : (match s.ev x with
  | .tup l => match l[i]? with
    | some (true, m) => K (.agg m) s
    | some (false, [v]) => K (.one v) s
    | _ => none
  | _ => none) = some r) : o.wp P a w (zb2 Pr w0 stk o a K r) Q := by
 have kx := k.ev x
 split at h
 ·rename_i l e
  rw [e] at kx
  obtain ⟨vs, hx, hl, hk⟩ := kx
  have key : ∀ {p : Bool × List LV}, l[i]? = some p -> ∃ y, vs[i]? = some y /\ (execOp a.eval o).run P w = .ok (.value y) w := by
   intro p hp
   have hi : i < vs.length := by
    rw [hl]; exact (List.getElem?_eq_some_iff.1 hp).1
   refine ⟨vs[i], List.getElem?_eq_getElem hi, ?_⟩
   unfold execOp
   simp only [ho, hx, Instr.extract]
   simp [List.getElem?_eq_getElem hi]
  split at h
  ·rename_i m hp
   obtain ⟨y, hy, hrun⟩ := key hp
   have := hk i _ y hp hy
   simp only [if_true] at this
   exact z0r (v := .agg m) k hrun this h
  ·rename_i v hp
   obtain ⟨y, hy, hrun⟩ := key hp
   have := hk i _ y hp hy
   simp only [Bool.false_eq_true, if_false] at this
   exact z0r (v := .one v) k hrun ⟨this.1, this.2.of_one⟩ h
  ·cases h
 ·cases h
theorem y6b : ∀ {l m : List LV} {n : Nat}, takeC l n = some m -> ∃ q, y5r l n = some q /\ l = m ++ q /\ cells m = n
 | l, m, 0, h => by
  cases l <;> (simp [takeC] at h; subst h; simp [y5r, cells])
 | [], m, n + 1, h => by simp [takeC] at h
 | v :: l, m, n + 1, h => by
  simp only [takeC] at h
  split at h
  ·cases h
  ·rename_i h0
   split at h
   ·rename_i hle
    cases ht : takeC l (n + 1 - v.sz) with
    | none => simp [ht] at h
    | some m' =>
     simp only [ht, Option.map_some, Option.some.injEq] at h
     subst h
     obtain ⟨q, h1, h2, h3⟩ := y6b ht
     refine ⟨q, ?_, by rw [h2]; rfl, ?_⟩
     ·simp only [y5r, h0, hle, if_true, if_false, h1]
     ·simp only [cells, List.map_cons, List.sum_cons] at h3 ⊢; omega
   ·cases h
theorem za0 : ∀ {l q : List LV} {n : Nat}, y5r l n = some q -> ∃ m, takeC l n = some m /\ l = m ++ q /\ cells m = n
 | l, q, 0, h => by
  cases l <;> (simp [y5r] at h; subst h; simp [takeC, cells])
 | [], m, n + 1, h => by simp [y5r] at h
 | v :: l, q, n + 1, h => by
  simp only [y5r] at h
  split at h
  ·cases h
  ·rename_i h0
   split at h
   ·rename_i hle
    obtain ⟨m, h1, h2, h3⟩ := za0 h
    refine ⟨v :: m, ?_, by rw [h2]; rfl, ?_⟩
    ·simp only [takeC, h0, hle, if_true, if_false, h1]; rfl
    ·simp only [cells, List.map_cons, List.sum_cons] at h3 ⊢; omega
   ·cases h
theorem zz4 {l m : List LV} {off n : Nat} (h : ws1 l off n = some m) : ∃ p q, l = p ++ (m ++ q) /\ cells p = off /\ cells m = n := by
 unfold ws1 at h
 simp only [Option.bind_eq_some_iff] at h
 obtain ⟨l', h1, h2⟩ := h
 obtain ⟨p, _, h3, h4⟩ := za0 h1
 obtain ⟨q, _, h5, h6⟩ := y6b h2
 exact ⟨p, q, by rw [h3, h5], h4, h6⟩
theorem LsRd.mid {I : Nat -> Prop} {h : Hv} {p m q : List LV} {cs : List Value} (k : LsRd w I h (p ++ (m ++ q)) cs) :
  LsRd w I h m ((cs.drop (cells p)).take (cells m)) /\ cells p + cells m <= cs.length := by
 obtain ⟨c1, c2, e, k1, k2⟩ := LsRd.split k
 obtain ⟨c3, c4, e', k3, k4⟩ := LsRd.split k2
 have l1 := k1.length
 have l3 := k3.length
 subst e; subst e'
 rw [<- l1, <- l3]
 simp only [List.drop_left, List.take_left, List.length_append]
 exact ⟨k3, by omega⟩
theorem yk9 {I : Nat -> Prop} {h : Hv} {u : Ty} {m : List LV} {x : Value} (k : LsRd w I h m x.cells.toList) (hx : if u.agg then ∃ cs, x = .agg cs else cell1 x = true) :
  ARd w I h (zi6 u m) x := by
 unfold zi6
 cases hu : u.agg
 ·simp only [hu, Bool.false_eq_true, if_false] at hx ⊢
  split
  ·rw [z34 hx] at k
   exact ⟨hx, LsRd.of_one k⟩
  ·trivial
 ·simp only [hu, if_true] at hx ⊢
  obtain ⟨cs, rfl⟩ := hx
  exact ⟨cs, rfl, k⟩
theorem wu9 {u : Ty} (hu : u.agg = false) : u.sz = 1 := by
 cases u <;> first | rfl | cases hu
theorem cell?_at {w : World} {b off : Nat} {C : Array Value} {T : TypeId} {fz : Nat × Nat} (h : w.heap[b]? = some (.cells C T fz)) : w.cell? ⟨b, off, none⟩ = C[off]? := by
 unfold World.cell?
 simp [h]
theorem addr_add (b off j : Nat) : (⟨b, off, none⟩ : Addr).add j = ⟨b, off + j, none⟩ := by
 unfold Addr.add; split <;> simp_all
theorem zb0 (hE : EOk P E) {t : TypeId} {u : Ty} (ht : E.ty? t = some u) {b off : Nat} {C : Array Value} {T : TypeId} {fz : Nat × Nat} (h : w.heap[b]? = some (.cells C T fz)) (hz : off + u.sz <= C.size)
  (h1 : ∀ c ∈ (C.toList.drop off).take u.sz, cell1 c = true) :
  ∃ x, (loadVar t ⟨b, off, none⟩).run P w = .ok x w /\ x.cells.toList = (C.toList.drop off).take u.sz /\ (if u.agg then ∃ cs, x = .agg cs else cell1 x = true) := by
 obtain ⟨ti, hti, rfl⟩ := z74 ht
 obtain ⟨i, hi, hs, _⟩ := (hE.te t ti hti).info
 obtain ⟨d, hd, ha, _⟩ := (hE.te t ti hti).und
 have hagg : (isAgg t).run P w = .ok ti.ty.agg w := by
  unfold isAgg
  simp only [Sem.run_bind, z2q hd, Result.andThen_ok]
  rw [<- ha]
  cases d <;> rfl
 have hsz : (Go.sizeOf t).run P w = .ok ti.ty.sz w := by
  simp [Go.sizeOf, typeInfo, hi, hs]
 unfold loadVar
 cases hu : ti.ty.agg
 ·have hs1 := wu9 hu
  rw [hs1] at hz h1 ⊢
  have ho : off < C.size := by omega
  have e : (C.toList.drop off).take 1 = [C[off]] := by
   rw [List.take_one, List.head?_drop]; simp [ho]
  rw [e] at h1 ⊢
  refine ⟨C[off], ?_, ?_, ?_⟩
  ·simp only [Sem.run_bind, hagg, hu, Result.andThen_ok, Bool.false_eq_true, if_false]
   rw [run_load, cell?_at h]
   simp [ho]
  ·rw [z34 (h1 _ (List.mem_singleton_self _))]
  ·simpa using h1
 ·refine ⟨.agg ((C.toList.drop off).take ti.ty.sz).toArray, ?_, rfl, by simp⟩
  have hl : ((C.toList.drop off).take ti.ty.sz).length = ti.ty.sz := by simp; omega
  have := run_loadCells_list (P := P) w ⟨b, off, none⟩ ((C.toList.drop off).take ti.ty.sz) (fun j v hv => by
    rw [addr_add, cell?_at h]
    rw [List.getElem?_take] at hv
    split at hv
    · rw [List.getElem?_drop] at hv; simpa using hv
    · cases hv)
  rw [hl] at this
  simp only [Sem.run_bind, hagg, hu, Result.andThen_ok, if_true, hsz, this, Sem.run_pure]
theorem y11 {t : TypeId} {x : Operand} (ho : o.op = .load t x) {b off : Nat} (hx : a.eval x = .pointer (some ⟨b, off, none⟩)) {z : Value}
  (h : (loadVar t ⟨b, off, none⟩).run P w = .ok z w) : (execOp a.eval o).run P w = .ok (.value z) w := by
 unfold execOp
 simp only [ho, hx, Instr.loadAt, Instr.sureAddr, Sem.run_bind, Sem.run_pure, Result.andThen_ok, h]
theorem w29 {I : Nat -> Prop} : ∀ {t : Ty} {x : t.den} {n i : Nat} {p : (t : Ty) × t.den} {cs : List Value}, zq9 t x n i = some p -> Rd w I t x cs ->
  ∃ k, z4e t n i = some (k, p.1) /\ Rd w I p.1 p.2 ((cs.drop k).take p.1.sz) /\ k + p.1.sz <= cs.length := by
 intro t
 induction t with
 | pair a b iha ihb =>
  intro x n i p cs h hr
  obtain ⟨c1, c2, rfl, h1, h2⟩ := hr
  match n, i, h with
  | n + 2, 0, h =>
   simp only [zq9, Option.some.injEq] at h
   subst h
   refine ⟨0, rfl, ?_, by simp [h1.length]⟩
   rw [List.drop_zero, <- h1.length, List.take_left]; exact h1
  | n + 2, i + 1, h =>
   simp only [zq9] at h
   obtain ⟨k, e, hk, hl⟩ := ihb h h2
   refine ⟨a.sz + k, by simp [z4e, e], ?_, by simp [h1.length]; omega⟩
   have e' : List.drop (a.sz + k) (c1 ++ c2) = List.drop k c2 := by
    rw [<- h1.length, <- List.drop_drop, List.drop_left]
   rw [e']; exact hk
  | 1, 0, h =>
   simp only [zq9, Option.some.injEq] at h
   subst h
   have hr : Rd w I (.pair a b) x (c1 ++ c2) := ⟨c1, c2, rfl, h1, h2⟩
   exact ⟨0, rfl, by rw [List.drop_zero, <- hr.length, List.take_length]; exact hr, by rw [hr.length]; simp⟩
  | 0, i, h => simp [zq9] at h
  | 1, i + 1, h => simp [zq9] at h
 | _ =>
  intro x n i p cs h hr
  match n, i, h with
  | 1, 0, h =>
   simp only [zq9, Option.some.injEq] at h
   subst h
   exact ⟨0, rfl, by rw [List.drop_zero, <- hr.length, List.take_length]; exact hr, by rw [hr.length]; simp⟩
  | 0, i, h => simp [zq9] at h
  | n + 2, i, h => simp [zq9] at h
  | 1, i + 1, h => simp [zq9] at h
theorem ArRd.at {α : Type} {R : α -> List Value -> Prop} {sz : Nat} (hl : ∀ x cs, R x cs -> cs.length = sz) : ∀ {xs : List α} {cs : List Value} {i : Nat} {x : α}, ArRd R xs cs -> xs[i]? = some x ->
  R x ((cs.drop (i * sz)).take sz)
 | [], cs, i, x, k, h => by simp at h
 | y :: xs, _, 0, x, ⟨c1, c2, e, r, k⟩, h => by
  simp at h
  subst h; subst e
  rw [Nat.zero_mul, List.drop_zero, <- hl _ _ r, List.take_left]; exact r
 | y :: xs, _, i + 1, x, ⟨c1, c2, e, r, k⟩, h => by
  simp only [List.getElem?_cons_succ] at h
  subst e
  have := ArRd.at hl k h
  have e' : List.drop ((i + 1) * sz) (c1 ++ c2) = List.drop (i * sz) c2 := by
   rw [Nat.add_mul, Nat.one_mul, Nat.add_comm, <- hl _ _ r, <- List.drop_drop, List.drop_left]
  rw [e']; exact this
theorem getD_some {α : Type} {xs : List α} {i : Nat} (d : α) (h : i < xs.length) : xs[i]? = some (xs.getD i d) := by
 simp [List.getD, List.getElem?_eq_getElem h]
theorem w51 {I : Nat -> Prop} : ∀ {p : List (Nat × Nat)} {t : Ty} {x : t.den} {q : (t : Ty) × t.den} {cs : List Value}, v24 t x p = some q -> Rd w I t x cs ->
  ∃ k, zc7 t p = some (k, q.1) /\ Rd w I q.1 q.2 ((cs.drop k).take q.1.sz) /\ k + q.1.sz <= cs.length
 | [], t, x, q, cs, h, hr => by
  simp only [v24, Option.some.injEq] at h
  subst h
  exact ⟨0, rfl, by rw [List.drop_zero, <- hr.length, List.take_length]; exact hr, by rw [hr.length]; simp⟩
 | (n, i) :: p, t, x, q, cs, h, hr => by
  simp only [v24] at h
  split at h
  ·rename_i t' x' hf
   obtain ⟨k, h1, h2, h3⟩ := w29 hf hr
   obtain ⟨k', g1, g2, g3⟩ := w51 h h2
   dsimp only at h1 h2 h3 g1 g2 g3
   refine ⟨k + k', by simp [zc7, h1, g1], ?_, ?_⟩
   ·have hlen := h2.length
    simp only [List.length_take, List.length_drop] at g3 hlen
    rw [List.drop_take, List.take_take, List.drop_drop] at g2
    rwa [Nat.min_eq_left (by omega)] at g2
   ·simp only [List.length_take, List.length_drop] at g3
    omega
  ·cases h
theorem z4i {α : Type} (l : List α) (i m j n : Nat) (h : j + n <= m) : (((l.drop i).take m).drop j).take n = (l.drop (i + j)).take n := by
 rw [List.drop_take, List.take_take, List.drop_drop, Nat.min_eq_left (by omega)]
theorem w8g (hE : EOk P E) (k : Rel Pr w0 stk s a.tmps w G) {t : TypeId} {x : Operand} (ho : o.op = .load t x)
  (h : (match s.ev x, E.ty? t with
  | .one p, some u => match yy2 s u p with
    | some l => K (zi6 u l) s
    | none => none
  | _, _ => none) = some r) : o.wp P a w (zb2 Pr w0 stk o a K r) Q := by
 have kx := k.ev x
 split at h
 ·rename_i p u ex ht
  rw [ex] at kx
  split at h
  ·rename_i l hl
   -- it is enough to know where the cells lie
   have key : ∀ {b off : Nat} {C : Array Value} {T : TypeId} {fz : Nat × Nat}, a.eval x = .pointer (some ⟨b, off, none⟩) -> w.heap[b]? = some (.cells C T fz) -> off + u.sz <= C.size ->
     LsRd w G.I G.h l ((C.toList.drop off).take u.sz) -> o.wp P a w (zb2 Pr w0 stk o a K r) Q := by
    intro b off C T fz h1 h2 h3 h4
    obtain ⟨z, g1, g2, g3⟩ := zb0 (w := w) hE ht h2 h3 h4.cell1
    exact z0r k (y11 ho h1 g1) (yk9 (by rw [g2]; exact h4) g3) h
   unfold yy2 at hl
   split at hl
   ·rename_i id off
    split at hl
    ·rename_i L hob
     obtain ⟨b, h1, h2⟩ := kx.2
     simp only [List.cons.injEq, and_true] at h2
     obtain ⟨b', C, T, fz, k1, k2, k3, k4, k5⟩ := k.ob id _ hob
     rw [h1] at k1; cases k1
     obtain ⟨p, q, e1, e2, e3⟩ := zz4 hl
     rw [e1] at k5
     obtain ⟨g1, g2⟩ := k5.mid
     rw [e2, e3] at g1 g2
     exact key h2 k3 (by simpa using g2) g1
    ·cases hl
   ·rename_i id off u' n i
    split at hl
    ·rename_i L hob
     split at hl
     ·rename_i n' v xs rest hd
      split at hl
      ·rename_i hc
       obtain ⟨rfl, rfl, hsz, hag⟩ := hc
       cases hl
       obtain ⟨i0, i1, b, h1, h2⟩ := kx.2
       simp only [List.cons.injEq, and_true] at h2
       obtain ⟨b', C, T, fz, k1, k2, k3, k4, k5⟩ := k.ob id _ hob
       rw [h1] at k1; cases k1
       obtain ⟨m, _, e1, e2⟩ := za0 hd
       have e1' : L = m ++ ([.val (.arr n' v) xs] ++ rest) := by simpa using e1
       rw [e1'] at k5
       obtain ⟨g1, g2⟩ := k5.mid
       have hcell : cells [LV.val (.arr n' v) xs] = n' * v.sz := by simp [cells, LV.sz, Ty.sz]
       rw [e2, hcell] at g1 g2
       obtain ⟨hlen, g1⟩ := LsRd.of_one g1
       have hi : i.toNat < xs.length := by omega
       have ge := ArRd.at (fun _ _ => Rd.length) g1 (getD_some v.zero hi)
       have hle : (i.toNat + 1) * v.sz <= n' * v.sz := Nat.mul_le_mul_right _ (by omega)
       rw [Nat.add_mul, Nat.one_mul] at hle
       rw [z4i _ _ _ _ _ hle] at ge
       have g2' : off + n' * v.sz <= C.size := by simpa using g2
       exact key h2 k3 (by rw [<- hsz]; omega) (by rw [<- hsz]; exact LsRd.leaves ge)
      ·cases hl
     ·cases hl
    ·cases hl
   ·rename_i id v i fp
    split at hl
    ·rename_i u' xs hob
     split at hl
     ·rename_i hv
      subst hv
      split at hl
      ·rename_i u2 y hy
       split at hl
       ·rename_i hc
        obtain ⟨hsz, hag⟩ := hc
        cases hl
        obtain ⟨i0, b, n, c, q, v2, h1, h2, h3, h4⟩ := kx.2
        simp only [List.cons.injEq, and_true] at h4
        rcases k.ob id _ hob with ⟨k1, _⟩ | ⟨b', c', C, T, fz, k1, k2, k3, k4, k5, k6, k7⟩
        ·rw [h1] at k1; cases k1
        ·rw [h1] at k1; cases k1
         have hi : i.toNat < xs.length := by omega
         have ge := k7 _ _ (getD_some u'.zero hi)
         obtain ⟨q', g1, g2, g3⟩ := w51 hy ge
         rw [h3] at g1
         cases g1
         dsimp only at g2 g3 h3
         have hlen := ge.length
         rw [hlen] at g3
         rw [z4i _ _ _ _ _ g3] at g2
         have hle : (i.toNat + 1) * u'.sz <= c * u'.sz := Nat.mul_le_mul_right _ (by omega)
         rw [Nat.add_mul, Nat.one_mul] at hle
         exact key h4 k4 (by rw [<- hsz]; omega) (by rw [<- hsz]; exact LsRd.leaves g2)
       ·cases hl
      ·cases hl
     ·cases hl
    ·cases hl
   ·rename_i u' y
    split at hl
    ·rename_i hc
     obtain ⟨hsz, hag⟩ := hc
     cases hl
     obtain ⟨A, C, T, fz, h2, hsp, hI, h3, h4, h5⟩ := kx.2
     simp only [List.cons.injEq, and_true] at h2
     obtain ⟨ab, aoff, asp⟩ := A
     simp only at hsp
     subst hsp
     exact key h2 h3 (by rw [<- hsz]; exact h4) (by rw [<- hsz]; exact LsRd.leaves h5)
    ·cases hl
   ·rename_i id v i
    split at hl
    ·rename_i u' xs hob
     split at hl
     ·rename_i hc
      obtain ⟨rfl, rfl⟩ := hc
      cases hl
      obtain ⟨i0, b, n, c, R, h1, h2, h3⟩ := kx.2
      simp only [List.cons.injEq, and_true] at h3
      obtain ⟨hs, C, T, fz, g1, g2, g3, g4, g5, _⟩ := wf8 (k.ob id _ hob) h1
      obtain ⟨A, n', c', e1, e2⟩ := g4 i.toNat (by omega)
      have hz1 : (Ty.slice u').sz = 1 := rfl
      exact key h3 g1 (by rw [hz1]; omega) (LsRd.one ⟨i0, _, hs, A, n', c', g3 ▸ h1, e1, by rw [hz1, one_cell (by omega), e2]⟩)
     ·cases hl
    ·cases hl
   ·rename_i id v i j
    split at hl
    ·rename_i u' xs sw hob
     split at hl
     ·rename_i hv
      subst hv
      split at hl
      ·rename_i hc
       obtain ⟨hsz, hag⟩ := hc
       cases hl
       obtain ⟨i0, j0, o', hs, b, n, c, h1, h2, h3, h4⟩ := kx.2
       simp only [List.cons.injEq, and_true] at h4
       obtain ⟨C, T, fz, hi, g1, g2, g3, g5, g4, _⟩ := w4r (k.ob id _ hob) h1 h2 (by omega)
       have hj : j.toNat < (xs.getD i.toNat []).length := by omega
       have ge := g4 _ _ (getD_some u'.zero hj)
       have hle : (j.toNat + 1) * u'.sz <= c * u'.sz := Nat.mul_le_mul_right _ (by omega)
       rw [Nat.add_mul, Nat.one_mul] at hle
       exact key h4 g2 (by rw [<- hsz]; omega) (by rw [<- hsz]; exact LsRd.leaves ge)
      ·cases hl
     ·cases hl
    ·cases hl
   ·cases hl
  ·cases h
 ·cases h
theorem z9t (hE : EOk P E) {t : TypeId} {ti : TI} {x : Operand} {i n : Nat} {t' : TypeId} {fs : List Nat} (ho : o.op = .fieldAddr t x i) (ht : E.ti t = some ti) (hk : ti.kd = .st fs)
  (hf : E.fieldAt fs i = some (n, t')) (hz : (E.sz t').getD 0 ≠ 0) {b off : Nat} (hx : a.eval x = .pointer (some ⟨b, off, none⟩)) :
  (execOp a.eval o).run P w = .ok (.value (.pointer (some ⟨b, off + n, none⟩))) w /\ z4e ti.ty fs.length i = (E.ty? t').map fun u => (n, u) := by
 obtain ⟨d, hd, ha, hm⟩ := (hE.te t ti ht).und
 rw [hk] at hm
 obtain ⟨_, fields, rfl, hsz, hall⟩ := hm
 have hi : i < fields.size := by
  rw [hsz]
  have : ∀ {fs : List Nat} {i : Nat} {p : Nat × Nat}, E.fieldAt fs i = some p -> i < fs.length := by
   intro fs
   induction fs with
   | nil => intro i p h; simp [Env.fieldAt] at h
   | cons t r ih =>
    intro i p h
    cases i with
    | zero => simp
    | succ i =>
     simp only [Env.fieldAt, Option.bind_eq_some_iff, Option.map_eq_some_iff] at h
     obtain ⟨m, _, q, h, _⟩ := h
     have := ih h
     simp; omega
  exact this hf
 obtain ⟨t2, n2, h1, h2, h3, h4, h5⟩ := hall i fields[i] (Array.getElem?_eq_getElem hi)
 rw [hf] at h2; cases h2
 refine ⟨?_, h5⟩
 unfold execOp
 simp only [ho, hx, Instr.fieldAt, Sem.run_bind, z2q hd, Result.andThen_ok, Array.getElem?_eq_getElem hi, Instr.sureAddr, Sem.run_pure, fieldPlace]
 have hs : ∃ m, (Go.sizeOf fields[i].type).run P w = .ok m w /\ m ≠ 0 := by
  unfold Env.sz at hz
  cases hty : E.ty? t' with
  | none => simp [hty] at hz
  | some u =>
   obtain ⟨ti', hti', rfl⟩ := z74 hty
   obtain ⟨j, hj, hjs, _⟩ := (hE.te t' ti' hti').info
   simp only [hty, Option.map_some, Option.getD_some] at hz
   exact ⟨ti'.ty.sz, by rw [h3]; simp [Go.sizeOf, typeInfo, hj, hjs], hz⟩
 obtain ⟨m, hm1, hm2⟩ := hs
 simp only [hm1, Result.andThen_ok, hm2, if_false, Sem.run_pure, addr_add, h4]
theorem ym1 : ∀ {p : List (Nat × Nat)} {t u v : Ty} {k m n i : Nat}, zc7 t p = some (k, u) -> z4e u n i = some (m, v) -> zc7 t (p ++ [(n, i)]) = some (k + m, v)
 | [], t, u, v, k, m, n, i, h, h' => by
  simp only [zc7, Option.some.injEq, Prod.mk.injEq] at h
  obtain ⟨rfl, rfl⟩ := h
  simp [zc7, h']
 | (n', i') :: p, t, u, v, k, m, n, i, h, h' => by
  simp only [zc7, Option.bind_eq_some_iff, Option.map_eq_some_iff, Prod.mk.injEq] at h
  obtain ⟨q, h1, r, h2, h3, h4⟩ := h
  obtain ⟨r1, r2⟩ := r
  simp only at h3 h4
  subst h4
  have := ym1 h2 h'
  simp only [List.cons_append, zc7, h1, Option.bind_some, this, Option.map_some, Option.some.injEq, Prod.mk.injEq, and_true]
  omega
theorem yi4 (hE : EOk P E) (k : Rel Pr w0 stk s a.tmps w G) {t : TypeId} {x : Operand} {i : Nat} (ho : o.op = .fieldAddr t x i)
  (h : (match E.kd? t, E.ty? t with
  | some (.st fs), some u => match E.fieldAt fs i with
    | some (n, t') => if (E.sz t').getD 0 = 0 then none else match s.ev x with
      | .one (.pbox id off) => K (.one (.pbox id (off + n))) s
      | .one (.pbuf id v k p) => match zc7 v p with
        | some (_, u') => if u' = u then K (.one (.pbuf id v k (p ++ [(fs.length, i)]))) s else none
        | none => none
      | .one (.pimm v y) => if v = u then (match zq9 v y fs.length i with
        | some ⟨u', x'⟩ => K (.one (.pimm u' x')) s
        | none => none) else none
      | _ => none
    | none => none
  | _, _ => none) = some r) : o.wp P a w (zb2 Pr w0 stk o a K r) Q := by
 have kx := k.ev x
 split at h
 ·rename_i fs u hkd hty
  obtain ⟨ti, ht, hk⟩ := ze3 hkd
  obtain ⟨ti', ht', hu⟩ := z74 hty
  rw [ht] at ht'; cases ht'
  split at h
  ·rename_i n t' hf
   split at h
   ·cases h
   ·rename_i hz
    split at h
    ·rename_i id off ex
     rw [ex] at kx
     obtain ⟨b, h1, h2⟩ := kx.2
     simp only [List.cons.injEq, and_true] at h2
     obtain ⟨g1, g2⟩ := z9t (w := w) hE ho ht hk hf hz h2
     exact z0r (v := .one (.pbox id (off + n))) k g1 ⟨rfl, b, h1, rfl⟩ h
    ·rename_i id v j p ex
     rw [ex] at kx
     split at h
     ·rename_i q u' hs
      split at h
      ·rename_i e
       obtain ⟨i0, b, m, c, q', u2, h1, h2, h3, h4⟩ := kx.2
       simp only [List.cons.injEq, and_true] at h4
       obtain ⟨g1, g2⟩ := z9t (w := w) hE ho ht hk hf hz h4
       rw [hs] at h3; cases h3
       cases hv : E.ty? t' with
       | none => simp [Env.sz, hv] at hz
       | some v' =>
        rw [hv, hu, <- e] at g2
        have := ym1 hs g2
        exact z0r (v := .one (.pbuf id v j (p ++ [(fs.length, i)]))) k g1 ⟨rfl, i0, b, m, c, _, _, h1, h2, this, by rw [Nat.add_assoc]⟩ h
      ·cases h
     ·cases h
    ·rename_i v y ex
     rw [ex] at kx
     split at h
     ·rename_i e
      split at h
      ·rename_i u' x' hy
       obtain ⟨A, C, T, fz, h2, hsp, hI, h3, h4, h5⟩ := kx.2
       simp only [List.cons.injEq, and_true] at h2
       obtain ⟨ab, aoff, asp⟩ := A
       simp only at hsp h4 h5
       subst hsp
       obtain ⟨g1, g2⟩ := z9t (w := w) hE ho ht hk hf hz h2
       obtain ⟨q, e1, e2, e3⟩ := w29 hy h5
       dsimp only at e1 e2 e3
       cases hv : E.ty? t' with
       | none => simp [Env.sz, hv] at hz
       | some v' =>
        rw [hv, hu, <- e, e1] at g2
        simp only [Option.map_some, Option.some.injEq, Prod.mk.injEq] at g2
        obtain ⟨rfl, rfl⟩ := g2
        have hlen := h5.length
        rw [hlen] at e3
        rw [z4i _ _ _ _ _ e3] at e2
        exact z0r (v := .one (.pimm u' x')) k g1 ⟨rfl, _, C, T, fz, rfl, rfl, hI, h3, by show aoff + q + u'.sz <= C.size; omega, e2⟩ h
      ·cases h
     ·cases h
    ·cases h
  ·cases h
 ·cases h
theorem v3j (hE : EOk P E) {t : TypeId} {kd : Kd} (h : E.kd? t = some kd) : ∃ ti d, E.ti t = some ti /\ ti.kd = kd /\ P.underlying t = some d /\ TOk P E t ti := by
 obtain ⟨ti, ht, hk⟩ := ze3 h
 obtain ⟨d, hd, _⟩ := (hE.te t ti ht).und
 exact ⟨ti, d, ht, hk, hd, hE.te t ti ht⟩
theorem z67 (hE : EOk P E) {t e : TypeId} (h : E.kd? t = some (.slice e)) : P.underlying t = some (.slice e) := by
 obtain ⟨ti, ht, hk⟩ := ze3 h
 obtain ⟨d, hd, _, hm⟩ := (hE.te t ti ht).und
 rw [hk] at hm; rw [hd, hm.1]
theorem yu1 (hE : EOk P E) {t n e : Nat} (h : E.kd? t = some (.ar n e)) : P.underlying t = some (.array n e) := by
 obtain ⟨ti, ht, hk⟩ := ze3 h
 obtain ⟨d, hd, _, hm⟩ := (hE.te t ti ht).und
 rw [hk] at hm; rw [hd, hm.1]
theorem yz8 (hE : EOk P E) {t : TypeId} (h : E.ty? t = some .str) : P.underlying t = some .string := by
 obtain ⟨ti, h1, h2⟩ := z74 h
 obtain ⟨d, hd, ha, hm⟩ := (hE.te t ti h1).und
 rw [h2] at ha
 cases hk : ti.kd with
 | sc => rw [hk, h2] at hm; rw [hd, hm]
 | slice e => rw [hk, h2] at hm; obtain ⟨_, te, _, h | h⟩ := hm <;> cases h
 | st fs => rw [hk] at hm; obtain ⟨_, f, rfl, _⟩ := hm; cases ha
 | ar n e => rw [hk, h2] at hm; obtain ⟨_, te, _, h⟩ := hm; cases h
 | ptr e => rw [hk, h2] at hm; cases hm.2
 | other => rw [hk, h2] at hm; cases hm
theorem ym3 (hE : EOk P E) {t : TypeId} {kk : IntKind} (h : E.ty? t = some (.int kk)) : P.underlying t = some (.int kk) := by
 obtain ⟨ti, h1, h2⟩ := z74 h
 obtain ⟨d, hd, ha, hm⟩ := (hE.te t ti h1).und
 rw [h2] at ha
 cases hk : ti.kd with
 | sc => rw [hk, h2] at hm; rw [hd, hm]
 | slice e => rw [hk, h2] at hm; obtain ⟨_, te, _, h | h⟩ := hm <;> cases h
 | st fs => rw [hk] at hm; obtain ⟨_, f, rfl, _⟩ := hm; cases ha
 | ar n e => rw [hk, h2] at hm; obtain ⟨_, te, _, h⟩ := hm; cases h
 | ptr e => rw [hk, h2] at hm; cases hm.2
 | other => rw [hk, h2] at hm; cases hm
theorem zg6 (hE : EOk P E) {t : TypeId} {z : Nat} (h : E.sz t = some z) (w : World) : (Go.sizeOf t).run P w = .ok z w := by
 unfold Env.sz at h
 cases hty : E.ty? t with
 | none => simp [hty] at h
 | some u =>
  obtain ⟨ti', hti', rfl⟩ := z74 hty
  obtain ⟨j, hj, hjs, _⟩ := (hE.te t ti' hti').info
  simp only [hty, Option.map_some, Option.some.injEq] at h
  simp [Go.sizeOf, typeInfo, hj, hjs, h]
theorem z5a (hE : EOk P E) {t e : TypeId} {z : Nat} {x y : Operand} (ho : o.op = .indexAddr t x y) (hk : E.kd? t = some (.slice e)) (hz : E.sz e = some z) {b off n c : Nat} {kk : IntKind} {i : Int}
  (hx : a.eval x = .slice (some ⟨b, off, none⟩) n c) (hy : a.eval y = .int kk i) (h0 : 0 <= i) (h1 : i < n) :
  (execOp a.eval o).run P w = .ok (.value (.pointer (some ⟨b, off + i.toNat * z, none⟩))) w := by
 unfold execOp
 simp only [ho, hx, hy, Instr.indexAt, asIntOf, Sem.run_bind, Sem.run_pure, Result.andThen_ok, z2q (z67 hE hk)]
 simp only [h0, h1, and_self, if_true, Sem.run_bind, zg6 hE hz, Result.andThen_ok, Sem.run_pure, addr_add]
theorem y4q (hE : EOk P E) {t n e : Nat} {z : Nat} {x y : Operand} (ho : o.op = .indexAddr t x y) (hk : E.kd? t = some (.ar n e)) (hz : E.sz e = some z) {b off : Nat} {kk : IntKind} {i : Int}
  (hx : a.eval x = .pointer (some ⟨b, off, none⟩)) (hy : a.eval y = .int kk i) (h0 : 0 <= i) (h1 : i < n) :
  (execOp a.eval o).run P w = .ok (.value (.pointer (some ⟨b, off + i.toNat * z, none⟩))) w := by
 unfold execOp
 simp only [ho, hx, hy, Instr.indexAt, asIntOf, Sem.run_bind, Sem.run_pure, Result.andThen_ok, z2q (yu1 hE hk), Instr.sureAddr]
 simp only [h0, h1, and_self, if_true, Sem.run_bind, zg6 hE hz, Result.andThen_ok, Sem.run_pure, addr_add]
theorem v20 {I : Nat -> Prop} {h : Hv} {t : Ty} {xs : List t.den} {A : Option Addr} {n c : Nat} {i : Int} (k : SlRd w I t.sz (Rd w I t) A n c xs) (h0 : 0 <= i) (h1 : i < xs.length) :
  ∃ b off, A = some ⟨b, off, none⟩ /\ i < n /\ LRd w I h (.pimm t (xs.getD i.toNat t.zero)) [.pointer (some ⟨b, off + i.toNat * t.sz, none⟩)] := by
 obtain ⟨hn, k⟩ := k
 cases A with
 | none => simp only at k; rw [k.1] at h1; simp at h1; omega
 | some A =>
  obtain ⟨hc, k⟩ := k
  rcases k with k | ⟨hsp, hI, C, T, fz, k1, k2, k3⟩
  ·omega
  obtain ⟨b, off, sp⟩ := A
  simp only at hsp
  subst hsp
  have hi : i.toNat < xs.length := by omega
  have hle : (i.toNat + 1) * t.sz <= c * t.sz := Nat.mul_le_mul_right _ (by omega)
  rw [Nat.add_mul, Nat.one_mul] at hle
  exact ⟨b, off, rfl, by omega, _, C, T, fz, rfl, rfl, hI, k1, by simp only at k2 ⊢; omega, k3 _ _ (getD_some t.zero hi)⟩
theorem yj1 (hE : EOk P E) (k : Rel Pr w0 stk s a.tmps w G) {t : TypeId} {x y : Operand} (ho : o.op = .indexAddr t x y)
  (h : (match E.kd? t, s.ev x, s.ev y with
  | some (.ar n e), .one v, .one (.val (.int _) i) => match E.sz e with
    | some z => we0 s z n v i fun v => K (.one v) s
    | none => none
  | some (.slice e), .one v, .one (.val (.int _) i) => match E.sz e with
    | some z => we2 s z v i fun v => K (.one v) s
    | none => none
  | _, _, _ => none) = some r) : o.wp P a w (zb2 Pr w0 stk o a K r) Q := by
 have kx := k.ev x
 have ky := k.ev y
 split at h
 ·rename_i n e v kk i hk ex ey
  rw [ex] at kx; rw [ey] at ky
  have vy := z4x ky
  split at h
  ·rename_i z hz
   unfold we0 at h
   split at h
   ·rename_i h0
    split at h
    ·rename_i h1
     split at h
     ·rename_i id off
      split at h
      ·rename_i L hob
       split at h
       ·rename_i n' u xs rest hd
        split at h
        ·rename_i hc
         obtain ⟨rfl, rfl⟩ := hc
         obtain ⟨b, g1, g2⟩ := kx.2
         simp only [List.cons.injEq, and_true] at g2
         exact z0r (v := .one (.pboxA id off u n' i)) k (y4q hE ho hk hz g2 vy h0 h1) ⟨rfl, h0, h1, b, g1, rfl⟩ h
        ·cases h
       ·cases h
      ·cases h
     ·rename_i n' u xs
      split at h
      ·rename_i hc
       obtain ⟨rfl, rfl⟩ := hc
       obtain ⟨A, C, T, fz, g2, hsp, hI, g3, g4, g5⟩ := kx.2
       simp only [List.cons.injEq, and_true] at g2
       obtain ⟨ab, aoff, asp⟩ := A
       simp only at hsp g4 g5
       subst hsp
       obtain ⟨hlen, g5⟩ := g5
       have hi : i.toNat < xs.length := by omega
       have ge := ArRd.at (fun _ _ => Rd.length) g5 (getD_some u.zero hi)
       have hle : (i.toNat + 1) * u.sz <= n' * u.sz := Nat.mul_le_mul_right _ (by omega)
       rw [Nat.add_mul, Nat.one_mul] at hle
       rw [z4i _ _ _ _ _ (show i.toNat * u.sz + u.sz <= (Ty.arr n' u).sz from hle)] at ge
       have g4' : aoff + n' * u.sz <= C.size := g4
       exact z0r (v := .one (.pimm u _)) k (y4q hE ho hk hz g2 vy h0 h1) ⟨rfl, _, C, T, fz, rfl, rfl, hI, g3, by simp only; omega, ge⟩ h
      ·cases h
     ·cases h
    ·cases h
   ·cases h
  ·cases h
 ·rename_i e v kk i hk ex ey
  rw [ex] at kx; rw [ey] at ky
  have vy := z4x ky
  split at h
  ·rename_i z hz
   unfold we2 at h
   split at h
   ·rename_i u xs
    split at h
    ·rename_i hu
     subst hu
     split at h
     ·rename_i h0
      split at h
      ·rename_i h1
       obtain ⟨A, n, c, g1, g2⟩ := kx.2
       simp only [List.cons.injEq, and_true] at g1
       obtain ⟨b, off, rfl, hn, g3⟩ := v20 (h := G.h) g2 h0 h1
       exact z0r (v := .one (.pimm u _)) k (z5a hE ho hk hz g1 vy h0 hn) ⟨rfl, g3⟩ h
      ·cases h
     ·cases h
    ·cases h
   ·rename_i u xs
    split at h
    ·rename_i hu
     subst hu
     split at h
     ·rename_i h0
      split at h
      ·rename_i h1
       obtain ⟨A, n, c, g1, g2, _⟩ := kx.2
       simp only [List.cons.injEq, and_true] at g1
       obtain ⟨b, off, rfl, hn, g3⟩ := v20 (h := G.h) g2 h0 h1
       exact z0r (v := .one (.pimm u _)) k (z5a hE ho hk hz g1 vy h0 hn) ⟨rfl, g3⟩ h
      ·cases h
     ·cases h
    ·cases h
   ·rename_i id
    split at h
    ·rename_i u xs hob
     split at h
     ·rename_i hu
      subst hu
      split at h
      ·rename_i h0
       split at h
       ·rename_i h1
        obtain ⟨A, n, c, g1, g2⟩ := kx.2
        simp only [List.cons.injEq, and_true] at g2
        rcases k.ob id _ hob with ⟨k1, rfl, _⟩ | ⟨b, c', C, T, fz, k1, k2, k3, k4, k5, k6, k7⟩
        ·simp at h1; omega
        ·rw [g1] at k1; cases k1
         have := z5a (w := w) hE ho hk hz g2 vy h0 h1
         exact z0r (v := .one (.pbuf id u i [])) k this ⟨rfl, h0, b, _, _, 0, u, g1, h1, rfl, by simp⟩ h
       ·cases h
      ·cases h
     ·cases h
    ·rename_i u xs hole hob
     split at h
     ·rename_i hu
      subst hu
      split at h
      ·rename_i h0
       split at h
       ·rename_i h1
        obtain ⟨A, n, c, g1, g2⟩ := kx.2
        simp only [List.cons.injEq, and_true] at g2
        obtain ⟨b, c', C, T, fz, rb, k1, k2, k3, k4, k5, k6, k7, k8, k9, k10⟩ := k.ob id _ hob
        rw [g1] at k1; cases k1
        have := z5a (w := w) hE ho hk hz g2 vy h0 h1
        exact z0r (v := .one (.pbuf id (.slice u) i [])) k this ⟨rfl, h0, b, _, _, 0, .slice u, g1, h1, rfl, by simp [Ty.sz]⟩ h
       ·cases h
      ·cases h
     ·cases h
    ·cases h
   ·rename_i id
    split at h
    ·rename_i u xs sw hob
     split at h
     ·rename_i hu
      subst hu
      split at h
      ·rename_i h0
       split at h
       ·rename_i h1
        obtain ⟨A, n, c, R, g1, g2⟩ := kx.2
        simp only [List.cons.injEq, and_true] at g2
        obtain ⟨b, c', C, T, fz, rb, hs, k1, k2⟩ := wt6 (i := i.toNat) (k.ob id _ hob) (by omega)
        rw [g1] at k1
        simp only [Option.some.injEq, Value.tuple.injEq, Array.mk.injEq, List.cons.injEq, Value.slice.injEq, and_true] at k1
        obtain ⟨⟨rfl, rfl, rfl⟩, rfl⟩ := k1
        have := z5a (w := w) hE ho hk hz g2 vy h0 h1
        exact z0r (v := .one (.pgrd id u i)) k this ⟨rfl, h0, b, _, _, _, g1, h1, by simp⟩ h
       ·cases h
      ·cases h
     ·cases h
    ·cases h
   ·rename_i id u' j
    split at h
    ·rename_i u xs sw hob
     split at h
     ·rename_i hu
      obtain ⟨rfl, hz'⟩ := hu
      subst hz'
      split at h
      ·rename_i h0
       split at h
       ·rename_i h1
        obtain ⟨j0, o', hs, A, n, c, g1, g3, g2⟩ := kx.2
        simp only [List.cons.injEq, and_true] at g2
        have hj : j.toNat < xs.length := by
         refine Decidable.byContradiction fun hn => ?_
         rw [List.getD_eq_getElem?_getD, List.getElem?_eq_none (by omega)] at h1
         simp at h1; omega
        obtain ⟨b, c', C, T, fz, rb, hs', k1, k2, k3, k4, k5, k6, k7, k8, k9, k10, k11⟩ := wt6 (k.ob id _ hob) hj
        rw [g1] at k1
        simp only [Option.some.injEq, Value.tuple.injEq, Array.mk.injEq, List.cons.injEq, Value.agg.injEq, and_true] at k1
        obtain ⟨rfl, rfl⟩ := k1
        have hr := k9 j.toNat _ (getD_some [] hj)
        rw [Array.getD_eq_getD_getElem?, g3] at hr
        rcases hr with ⟨e, e', _⟩ | ⟨b1, c1, C1, E1, fz1, e, e2⟩
        ·rw [e'] at h1; simp at h1; omega
        ·have e : Value.slice A n c = .slice (some ⟨b1, 0, none⟩) (xs.getD j.toNat []).length c1 := e
         simp only [Value.slice.injEq] at e
         obtain ⟨rfl, rfl, rfl⟩ := e
         have := z5a (w := w) hE ho hk hz g2 vy h0 h1
         exact z0r (v := .one (.prow id u j i)) k this ⟨rfl, j0, h0, _, hs, b1, _, _, g1, g3, h1, by simp⟩ h
       ·cases h
      ·cases h
     ·cases h
    ·cases h
   ·rename_i id m
    split at h
    ·rename_i u xs hob
     split at h
     ·rename_i hu
      subst hu
      split at h
      ·rename_i h0
       split at h
       ·rename_i h1
        obtain ⟨A, n, c, g1, gm, g2⟩ := kx.2
        simp only [List.cons.injEq, and_true] at g2
        rcases k.ob id _ hob with ⟨k1, rfl, _⟩ | ⟨b, c', C, T, fz, k1, k2, k3, k4, k5, k6, k7⟩
        ·rw [g1] at k1; cases k1; omega
        ·rw [g1] at k1; cases k1
         have := z5a (w := w) hE ho hk hz g2 vy h0 h1
         exact z0r (v := .one (.pbuf id u i [])) k this ⟨rfl, h0, b, _, _, 0, u, g1, by omega, rfl, by simp⟩ h
       ·cases h
      ·cases h
     ·cases h
    ·cases h
   ·rename_i id u' lo m
    split at h
    ·rename_i u xs hob
     split at h
     ·rename_i hu
      obtain ⟨hu, rfl⟩ := hu
      subst hu
      split at h
      ·rename_i h0
       split at h
       ·rename_i h1
        obtain ⟨A, n, c, g1, gm, g2⟩ := kx.2
        simp only [List.cons.injEq, and_true] at g2
        rcases k.ob id _ hob with ⟨k1, rfl, _⟩ | ⟨b, c', C, T, fz, k1, k2, k3, k4, k5, k6, k7⟩
        ·rw [g1] at k1; cases k1; omega
        ·rw [g1] at k1; cases k1
         rw [if_neg (by omega)] at g2
         simp only [Option.map_some, w0v, Nat.zero_add] at g2
         have := z5a (w := w) hE ho hk hz g2 vy h0 h1
         refine z0r (v := .one (.pbuf id u' (lo + i) [])) k this ⟨rfl, by omega, b, _, _, 0, u', g1, by omega, rfl, ?_⟩ h
         have : ((lo : Int) + i).toNat = lo + i.toNat := by omega
         rw [this, Nat.add_mul]; rfl
       ·cases h
      ·cases h
     ·cases h
    ·cases h
   ·cases h
  ·cases h
 ·cases h
theorem w2h (hE : EOk P E) {t : TypeId} {u : Ty} (ht : E.ty? t = some u) (w : World) : (isAgg t).run P w = .ok u.agg w := by
 obtain ⟨ti, hti, rfl⟩ := z74 ht
 obtain ⟨d, hd, ha, _⟩ := (hE.te t ti hti).und
 unfold isAgg
 simp only [Sem.run_bind, z2q hd, Result.andThen_ok]
 rw [<- ha]
 cases d <;> rfl
theorem ye1 (hE : EOk P E) {t : TypeId} {u : Ty} (ht : E.ty? t = some u) {C : Array Value} {off : Nat} (hz : off + u.sz <= C.size) (h1 : ∀ c ∈ (C.toList.drop off).take u.sz, cell1 c = true) :
  ∃ x, (part t C off).run P w = .ok x w /\ x.cells.toList = (C.toList.drop off).take u.sz /\ (if u.agg then ∃ cs, x = .agg cs else cell1 x = true) := by
 have hs : E.sz t = some u.sz := by simp [Env.sz, ht]
 unfold part
 cases hu : u.agg
 ·have hs1 := wu9 hu
  rw [hs1] at hz h1 ⊢
  have ho : off < C.size := by omega
  have e : (C.toList.drop off).take 1 = [C[off]] := by
   rw [List.take_one, List.head?_drop]; simp [ho]
  rw [e] at h1 ⊢
  refine ⟨C[off], ?_, ?_, ?_⟩
  ·simp only [Sem.run_bind, w2h hE ht, hu, Result.andThen_ok, Bool.false_eq_true, if_false, Array.getElem?_eq_getElem ho, Sem.run_pure]
  ·rw [z34 (h1 _ (List.mem_singleton_self _))]
  ·simpa using h1
 ·refine ⟨.agg (C.extract off (off + u.sz)), ?_, ?_, by simp⟩
  ·simp only [Sem.run_bind, w2h hE ht, hu, Result.andThen_ok, if_true, zg6 hE hs, Sem.run_pure]
  ·simp only [Value.cells, Array.toList_extract, List.extract_eq_take_drop]
   congr 1; omega
theorem w4h (hE : EOk P E) (k : Rel Pr w0 stk s a.tmps w G) {t : TypeId} {x y : Operand} (ho : o.op = .index t x y)
  (h : (match E.kd? t, s.ev x, s.ev y with
  | some .sc, .one (.val .str b), .one (.val (.int _) i) => if E.ty? t = some .str then (if 0 <= i then (if i < b.size then K (i1 .u8 ((b.data.getD i.toNat 0).toNat : Int)) s else none) else none) else none
  | some (.ar n e), .agg [.val (.arr n' u) xs], .one (.val (.int _) i) => if n' = n /\ E.ty? e = some u then (if 0 <= i then (if i < n then K (typed u (xs.getD i.toNat u.zero)) s else none) else none) else none
  | _, _, _ => none) = some r) : o.wp P a w (zb2 Pr w0 stk o a K r) Q := by
 have kx := k.ev x
 have ky := k.ev y
 split at h
 ·rename_i b kk i hk ex ey
  rw [ex] at kx; rw [ey] at ky
  have vy := z4x ky
  have vx := y14 kx
  split at h
  ·rename_i ht
   split at h
   ·rename_i h0
    split at h
    ·rename_i h1
     have hi : i.toNat < b.size := (Int.toNat_lt h0).2 h1
     have hi' : i.toNat < b.data.size := hi
     refine z0r (x := .int .u8 ((b.data.getD i.toNat 0).toNat : Int)) k ?_ zk4 h
     unfold execOp
     simp only [ho, vx, vy, Instr.index, asIntOf, Sem.run_bind, Sem.run_pure, Result.andThen_ok, z2q (yz8 hE ht), h0, if_true]
     have : b[i.toNat]? = some (b.data.getD i.toNat 0) := by
      rw [getElem?_pos b i.toNat hi]
      congr 1
      simp only [Array.getD, hi', dite_true]; rfl
     simp only [this, Sem.run_pure, Result.andThen_ok]
    ·cases h
   ·cases h
  ·cases h
 ·rename_i n e n' u xs kk i hk ex ey
  rw [ex] at kx; rw [ey] at ky
  have vy := z4x ky
  split at h
  ·rename_i hc
   obtain ⟨rfl, hte⟩ := hc
   split at h
   ·rename_i h0
    split at h
    ·rename_i h1
     obtain ⟨cs, vx, kl⟩ := kx
     obtain ⟨hlen, kl⟩ := LsRd.of_one kl
     have hi : i.toNat < xs.length := by rw [hlen]; exact (Int.toNat_lt h0).2 h1
     have ge := ArRd.at (fun _ _ => Rd.length) kl (getD_some u.zero hi)
     have hcs := ArRd.length (sz := u.sz) (fun _ _ => Rd.length) kl
     have hle : (i.toNat + 1) * u.sz <= n' * u.sz := Nat.mul_le_mul_right _ (by omega)
     rw [Nat.add_mul, Nat.one_mul] at hle
     rw [Array.length_toList, hlen] at hcs
     obtain ⟨z, g1, g2, g3⟩ := ye1 (w := w) hE hte (C := cs) (off := i.toNat * u.sz) (by omega) ge.cell1
     refine z0r k ?_ (ARd.typed (by rw [g2]; exact ge) g3) h
     unfold execOp
     have hs : E.sz e = some u.sz := by simp [Env.sz, hte]
     simp only [ho, vx, vy, Instr.index, asIntOf, Sem.run_bind, Sem.run_pure, Result.andThen_ok, z2q (yu1 hE hk)]
     simp only [h0, h1, and_self, if_true, Sem.run_bind, zg6 hE hs, Result.andThen_ok, g1]
    ·cases h
   ·cases h
  ·cases h
 ·cases h
theorem w4e (hE : EOk P E) (k : Rel Pr w0 stk s a.tmps w G) {t : TypeId} {x : Operand} {i : Nat} (ho : o.op = .field t x i)
  (h : (match E.kd? t, s.ev x with
  | some (.st fs), .agg l => match E.fieldAt fs i with
    | some (n, t') => match E.ty? t' with
      | some u => match ws1 l n u.sz with
        | some m => K (zi6 u m) s
        | none => none
      | none => none
    | none => none
  | _, _ => none) = some r) : o.wp P a w (zb2 Pr w0 stk o a K r) Q := by
 have kx := k.ev x
 split at h
 ·rename_i fs l hk ex
  rw [ex] at kx
  split at h
  ·rename_i n t' hf
   split at h
   ·rename_i u hu
    split at h
    ·rename_i m hm
     obtain ⟨cs, vx, kl⟩ := kx
     obtain ⟨p, q, e1, e2, e3⟩ := zz4 hm
     rw [e1] at kl
     obtain ⟨g1, g2⟩ := kl.mid
     rw [e2, e3] at g1 g2
     rw [Array.length_toList] at g2
     obtain ⟨ti, ht, hkd⟩ := ze3 hk
     obtain ⟨d, hd, ha, hmm⟩ := (hE.te t ti ht).und
     rw [hkd] at hmm
     obtain ⟨_, fields, rfl, hsz, hall⟩ := hmm
     have hi : i < fields.size := by
      rw [hsz]
      have : ∀ {fs : List Nat} {i : Nat} {p : Nat × Nat}, E.fieldAt fs i = some p -> i < fs.length := by
       intro fs
       induction fs with
       | nil => intro i p h; simp [Env.fieldAt] at h
       | cons t r ih =>
        intro i p h
        cases i with
        | zero => simp
        | succ i =>
         simp only [Env.fieldAt, Option.bind_eq_some_iff, Option.map_eq_some_iff] at h
         obtain ⟨m, _, q, h, _⟩ := h
         have := ih h
         simp; omega
      exact this hf
     obtain ⟨t2, n2, h1, h2, h3, h4, h5⟩ := hall i fields[i] (Array.getElem?_eq_getElem hi)
     rw [hf] at h2; cases h2
     obtain ⟨z, y1, y2, y3⟩ := ye1 (w := w) hE hu g2 g1.cell1
     refine z0r k ?_ (yk9 (by rw [y2]; exact g1) y3) h
     unfold execOp
     simp only [ho, vx, Instr.field, Sem.run_bind, z2q hd, Result.andThen_ok, Array.getElem?_eq_getElem hi, asAgg, Sem.run_pure, h3, h4, y1]
    ·cases h
   ·cases h
  ·cases h
 ·cases h
theorem v2r {v : LV} {n : Nat} {x : Value} (k : Rel Pr w0 stk s a.tmps w G) (h : lenOf s v = some n) (h1 : ∀ b, v ≠ .val .str b) (h2 : ∀ m u xs, v ≠ .val (.arr m u) xs) (hx : LRd w G.I G.h v [x]) :
  ∃ A c, x = .slice A n c := by
 cases v with
 | nil => cases h; have hx : [x] = [Value.slice none 0 0] := hx; simp only [List.cons.injEq, and_true] at hx; exact ⟨_, _, hx⟩
 | val t y =>
  cases t <;> first | (cases h; done) | exact absurd rfl (h1 _) | exact absurd rfl (h2 _ _ _) | skip
  ·cases h
   obtain ⟨A, n, c, e, hn, _⟩ := hx
   simp only [List.cons.injEq, and_true] at e
   exact ⟨A, c, by rw [e, hn]⟩
  ·cases h
   obtain ⟨A, n, c, e, ⟨hn, _⟩, _⟩ := hx
   simp only [List.cons.injEq, and_true] at e
   exact ⟨A, c, by rw [e, hn]⟩
 | own id =>
  simp only [lenOf] at h
  split at h <;> first | (cases h; done) | skip
  ·rename_i u xs hob
   cases h
   obtain ⟨A, n, c, g1, g2⟩ := hx
   simp only [List.cons.injEq, and_true] at g2
   have := (ya7 (zy1 (k.ob id _ hob) rfl) g1 (Nat.le_refl _)).2
   exact ⟨A, c, by rw [g2, this]⟩
  ·rename_i u xs hole hob
   cases h
   obtain ⟨A, n, c, g1, g2⟩ := hx
   simp only [List.cons.injEq, and_true] at g2
   obtain ⟨b, c', C, T, fz, rb, k1, _⟩ := k.ob id _ hob
   rw [g1] at k1; cases k1
   exact ⟨_, c, g2⟩
 | pre id m =>
  cases h
  obtain ⟨A, n, c, g1, _, g2⟩ := hx
  simp only [List.cons.injEq, and_true] at g2
  exact ⟨A, c, g2⟩
 | vw id t lo m =>
  cases h
  obtain ⟨A, n, c, g1, _, g2⟩ := hx
  simp only [List.cons.injEq, and_true] at g2
  exact ⟨_, _, g2⟩
 | grd id =>
  simp only [lenOf] at h
  split at h <;> first | (cases h; done) | skip
  rename_i u xs sw hob
  cases h
  obtain ⟨A, n, c, R, g1, g2⟩ := hx
  simp only [List.cons.injEq, and_true] at g2
  rcases k.ob id _ hob with ⟨k1, k2, _⟩ | ⟨b, c', C, T, fz, rb, hs, k1, _⟩
  ·rw [g1] at k1
   simp only [Option.some.injEq, Value.tuple.injEq, Array.mk.injEq, List.cons.injEq, Value.slice.injEq, and_true] at k1
   exact ⟨_, c, by rw [g2, k1.1.2.1, k2]; rfl⟩
  ·rw [g1] at k1
   simp only [Option.some.injEq, Value.tuple.injEq, Array.mk.injEq, List.cons.injEq, Value.slice.injEq, and_true] at k1
   exact ⟨_, c, by rw [g2, k1.1.2.1]⟩
 | row id t i =>
  simp only [lenOf] at h
  split at h <;> first | (cases h; done) | skip
  rename_i u xs sw hob
  split at h <;> first | (cases h; done) | skip
  rename_i hu
  subst hu
  cases h
  obtain ⟨i0, o', hs, A, n, c, g1, g3, g2⟩ := hx
  simp only [List.cons.injEq, and_true] at g2
  exact ⟨A, c, by rw [g2, (wf9 (k.ob id _ hob) g1 g3).2]⟩
 | _ => cases h
theorem we9 {t ty : TypeId} {ts : List TypeId} {x : Value} {n : Nat} {d : TypeDesc} (hd : P.underlying t = some d) (hm : match d, x with
      | .string, .string s => (n : Int) = s.size
      | .array m _, _ => (n : Int) = m
      | .slice _, .slice _ m _ => (n : Int) = m
      | _, _ => False) : (Builtin.len_ (t :: ts).toArray ty #[x]).run P w = .ok (.int .i64 n) w := by
 unfold Builtin.len_
 simp only [List.getElem?_toArray, List.getElem?_cons_zero, Sem.run_bind]
 cases d <;> first | exact hm.elim | skip
 all_goals (cases x <;> first | exact hm.elim | skip)
 all_goals (simp only at hm; simp [z2q hd, hm, goInt])
theorem w6i (hE : EOk P E) (k : Rel Pr w0 stk s a.tmps w G) {t ty : TypeId} {ts : List TypeId} {v : AV} {x : Value} {n : Nat} (hv : ARd w G.I G.h v x) (h : v1m E s t v = some n) (w2 : World) :
  (Builtin.len_ (t :: ts).toArray ty #[x]).run P w2 = .ok (.int .i64 n) w2 := by
 unfold v1m at h
 split at h
 ·rename_i b hk
  split at h
  ·rename_i ht
   cases h
   have := y14 hv
   subst this
   exact we9 (yz8 hE ht) rfl
  ·cases h
 ·rename_i v e hk
  have : lenOf s v = some n /\ (∀ b, v ≠ .val .str b) /\ ∀ m u xs, v ≠ .val (.arr m u) xs := by
   split at h
   ·cases h
   ·cases h
   ·rename_i h1 h2
    exact ⟨h, fun b e => h1 b e, fun m u xs e => h2 m u xs e⟩
  obtain ⟨A, c, rfl⟩ := v2r k this.1 this.2.1 this.2.2 hv.2
  exact we9 (z67 hE hk) rfl
 ·rename_i m u xs m' e hk
  split at h
  ·rename_i e'
   cases h; subst e'
   have hd := yu1 hE hk
   unfold Builtin.len_
   simp [z2q hd, goInt]
  ·cases h
 ·rename_i m e hk
  cases h
  have hd := yu1 hE hk
  unfold Builtin.len_
  simp [z2q hd, goInt]
 ·cases h
theorem z40 {c : Call} {b : Builtin} (ho : o.op = .call c) (hc : c.callee = .builtin b) {x : Value} {w' : World}
  (h : ∀ consts, (Go.builtin b c.argTypes o.type consts (c.args.map a.eval)).run P w = .ok (.value x) w') : (execOp a.eval o).run P w = .ok (.value x) w' := by
 unfold execOp
 simp only [ho, resolve, hc, pure_bind]
 exact h _
theorem wv6 {c : Call} {x : Operand} (h : c.args.toList = [x]) : c.args.map a.eval = #[a.eval x] := by
 have : c.args = #[x] := by rw [<- Array.toArray_toList (xs := c.args), h]
 rw [this]; simp
theorem yw0 {c : Call} {x y : Operand} (h : c.args.toList = [x, y]) : c.args.map a.eval = #[a.eval x, a.eval y] := by
 have : c.args = #[x, y] := by rw [<- Array.toArray_toList (xs := c.args), h]
 rw [this]; simp
theorem wf0 (hE : EOk P E) (k : Rel Pr w0 stk s a.tmps w G) {c : Call} {x : Operand} {t : TypeId} {ts : List TypeId} (ho : o.op = .call c) (hc : c.callee = .builtin .len) (hx : c.args.toList = [x])
  (ht : c.argTypes.toList = t :: ts) (h : (match v1m E s t (s.ev x) with | some n => K (i1 .i64 n) s | none => none) = some r) : o.wp P a w (zb2 Pr w0 stk o a K r) Q := by
 split at h
 ·rename_i n hn
  refine z0r (x := .int .i64 n) k (z40 ho hc fun _ => ?_) zk4 h
  have ht' : c.argTypes = (t :: ts).toArray := by rw [<- ht]
  simp only [Go.builtin, Sem.run_bind, wv6 hx, ht', w6i hE k (k.ev x) hn w, Result.andThen_ok, Sem.run_pure]
 ·cases h
theorem w9y (hE : EOk P E) (k : Rel Pr w0 stk s a.tmps w G) {c : Call} {x : Operand} {t : TypeId} {ts : List TypeId} (ho : o.op = .call c) (hc : c.callee = .builtin .cap) (hx : c.args.toList = [x])
  (ht : c.argTypes.toList = t :: ts) (h : (match s.ev x, E.kd? t with | .one .nil, some (.slice _) => K (i1 .i64 0) s | _, _ => none) = some r) : o.wp P a w (zb2 Pr w0 stk o a K r) Q := by
 split at h
 ·rename_i e hv hk
  have hx' : a.eval x = .slice none 0 0 := by
   have := (hv ▸ k.ev x : ARd w G.I G.h (.one .nil) (a.eval x)).2
   simpa [LRd] using this
  refine z0r (x := .int .i64 0) k (z40 ho hc fun _ => ?_) zk4 h
  have ht' : c.argTypes = (t :: ts).toArray := by rw [<- ht]
  simp only [Go.builtin, Sem.run_bind, wv6 hx, ht', hx']
  simp [Builtin.cap_, z2q (z67 hE hk), goInt]
 ·cases h
theorem w6n (k : Rel Pr w0 stk s a.tmps w G) {c : Call} {x y : Operand} {m : Bool} (ho : o.op = .call c) (hc : c.callee = .builtin (if m then .max else .min)) (hx : c.args.toList = [x, y])
  (h : mm m s x y K = some r) : o.wp P a w (zb2 Pr w0 stk o a K r) Q := by
 have kx := k.ev x
 have ky := k.ev y
 unfold mm at h
 split at h
 ·rename_i k1 n1 k2 n2 e1 e2
  rw [e1] at kx; rw [e2] at ky
  have vx := z4x kx
  have vy := z4x ky
  split at h
  ·rename_i e
   subst e
   cases m
   ·simp only [Bool.false_eq_true, if_false] at h hc
    refine z0r (x := .int k1 _) k (z40 ho hc fun _ => ?_) zk4 h
    simp [Go.builtin, yw0 hx, vx, vy, Builtin.min_, Builtin.min2]
   ·simp only [if_true] at h hc
    refine z0r (x := .int k1 _) k (z40 ho hc fun _ => ?_) zk4 h
    simp [Go.builtin, yw0 hx, vx, vy, Builtin.max_, Builtin.max2]
  ·cases h
 ·cases h
end
end Vm
/- The operations that make memory. -/
namespace Vm
open Go
section
variable {ρ : Type} {P : Program} {E : Env} {Pr : Nat -> Prop} {w0 : St} {w : World} {stk : List (Array Value)} {s : MS} {a : Act} {G : Gh} {o : Oper} {Q : Exit -> Act -> World -> Prop} {K : AV -> MS -> Option ρ} {r : ρ} {tm : Array Value}
def push (w : World) (o : Go.Obj) : World := { w with heap := w.heap.push o }
theorem y3e {w : World} {o : Go.Obj} {b : Nat} (h : b < w.heap.size) : (push w o).heap[b]? = w.heap[b]? := by
 unfold push
 simp only [Array.getElem?_push]
 rw [if_neg (by omega)]
theorem zt5 {w : World} {o : Go.Obj} : (push w o).heap[w.heap.size]? = some o := by
 unfold push
 simp
theorem z89 {w : World} {o : Go.Obj} : (push w o).heap.size = w.heap.size + 1 := by
 unfold push; simp
theorem zt6 (w : World) (o : Go.Obj) : Grow w (push w o) := ⟨rfl, rfl, rfl, by rw [z89]; omega, fun _ h => y3e h⟩
theorem y3v {still : Bool} {id : Nat} {ob : Obj} {s' : MS} (h : s.mk? still id ob = some s') : ob.has id = false /\ ∃ s1, s' = (s1.upd id ob).unpin id /\ Unnamed s1 id /\ (s1 = s \/ s1 = s.kill id) := by
 unfold MS.mk? at h
 cases hh : ob.has id
 case true => simp [hh] at h
 simp only [hh, Bool.false_eq_true, if_false] at h
 refine ⟨rfl, ?_⟩
 cases still
 ·simp only [Option.some.injEq, Bool.false_eq_true, if_false] at h
  exact ⟨s.kill id, h.symm, z47 s id, .inr rfl⟩
 ·simp only [if_true] at h
  split at h
  ·cases h
  ·rename_i hm
   cases h
   exact ⟨s, rfl, y6c (by simpa using hm), .inl rfl⟩
theorem yy4 (hP : ∀ b, Pr b -> b < w0.heap.size) (k : Rel Pr w0 stk s tm w G) {still : Bool} {id : Nat} {ob : Obj} {s' : MS} (h : s.mk? still id ob = some s') {C : Array Value} {T : TypeId} {fz : Nat × Nat} {v : Value}
  (ho : Ob (push w (.cells C T fz)) (G.at id v [w.heap.size]) id ob) : Rel Pr w0 stk s' tm (push w (.cells C T fz)) (G.at id v [w.heap.size]) := by
 obtain ⟨_, s1, rfl, hu, hs⟩ := y3v h
 have k1 : Rel Pr w0 stk s1 tm w G := by
  rcases hs with rfl | rfl
  ·exact k
  ·exact k.kill id
 have k2 : Rel Pr w0 stk s1 tm (push w (.cells C T fz)) G :=
  k1.grow (I' := G.I) (fun b hb => Nat.lt_of_lt_of_le (hP b hb) k.keep.size) (zt6 _ _) (fun _ h => h) (fun b hb => by rw [z89]; have := k.isz b hb; omega) (fun b hb => .inl hb)
 refine k2.add hu ho (fun b hb => ?_) (fun b hb id' o' hne ho' hb' => ?_)
 ·rw [List.mem_singleton] at hb
  subst hb
  refine ⟨fun h => ?_, fun h => ?_, by rw [z89]; omega⟩
  ·have := hP _ h; have := k.keep.size; omega
  ·have := k.isz _ h; omega
 ·rw [List.mem_singleton] at hb
  subst hb
  have := (k1.sep id' o' _ ho' hb').2.2
  omega
theorem wp3 (k : Rel Pr w0 stk s tm w G) {still : Bool} {id : Nat} {ob : Obj} {s' : MS} (h : s.mk? still id ob = some s') {v : Value} (ho : Ob w (G.at id v []) id ob) :
  Rel Pr w0 stk s' tm w (G.at id v []) := by
 obtain ⟨_, s1, rfl, hu, hs⟩ := y3v h
 have k1 : Rel Pr w0 stk s1 tm w G := by
  rcases hs with rfl | rfl
  ·exact k
  ·exact k.kill id
 exact k1.add hu ho (fun b hb => by cases hb) (fun b hb => by cases hb)
theorem y1x (G : Gh) (id : Nat) (v : Value) (bs : List Nat) : (G.at id v bs).h id = some v := by simp [Gh.at]
theorem zu0 (G : Gh) (id : Nat) (v : Value) (bs : List Nat) : (G.at id v bs).bs id = bs := by simp [Gh.at]
theorem LsRd.at {l : List LV} {id : Nat} (hu : ∀ i, l.any (LV.has i) = true -> i ≠ id) {v : Value} {bs : List Nat} {cs : List Value} (k : LsRd w G.I G.h l cs) : LsRd w (G.at id v bs).I (G.at id v bs).h l cs :=
 k.congr fun i hi => by simp [Gh.at, hu i hi]
theorem y94 (t : TypeId) (v : Value) (w : World) : (newVar t v).run P w = .ok ⟨w.heap.size, 0, none⟩ (push w (.cells v.cells t)) := by
 simp [newVar, newRow, push]
theorem zc6 (t : TypeId) (C : Array Value) (w : World) : (newRow t C).run P w = .ok ⟨w.heap.size, 0, none⟩ (push w (.cells C t)) := by
 simp [newRow, push]
theorem yi9 (C : Array Value) : yq5 C (0, 0) := .inl (Nat.le_refl _)
theorem y7z (hE : EOk P E) {t : TypeId} {ti : TI} (h : E.ti t = some ti) (w : World) : ∃ z, (zeroValue t).run P w = .ok z w /\ (if ti.ty.agg then ∃ cs, z = .agg cs else cell1 z = true) /\
  (∀ w I, Rd w I ti.ty ti.ty.zero z.cells.toList) /\ (∀ l, E.zeroL 20 t = some l -> ∀ w I h, LsRd w I h l z.cells.toList) := by
 obtain ⟨i, hi, _, _, z, hz, h1, h2, h3⟩ := (hE.te t ti h).info
 exact ⟨z, by simp [zeroValue, typeInfo, hi, hz], h1, h2, h3⟩
theorem w7l {n : Nat} {t : TypeId} {l : List LV} (h : E.zeroL n t = some l) : ∃ ti, E.ti t = some ti := by
 cases n with
 | zero => cases h
 | succ n =>
  simp only [Env.zeroL, Option.bind_eq_some_iff] at h
  obtain ⟨ti, h, _⟩ := h
  exact ⟨ti, h⟩
theorem wr8 {l : List LV} {id : Nat} (h : l.any (LV.has id) = false) : ∀ i, l.any (LV.has i) = true -> i ≠ id := by
 rintro i hi rfl; rw [h] at hi; cases hi
theorem LsRd.push {l : List LV} {cs : List Value} {ob : Go.Obj} (k : Rel Pr w0 stk s tm w G) (h : LsRd w G.I G.h l cs) : LsRd (push w ob) G.I G.h l cs :=
 h.mono (fun b hb => y3e (k.isz b hb)) fun _ h => h
theorem yk6 (hP : ∀ b, Pr b -> b < w0.heap.size) (k : Rel Pr w0 stk s a.tmps w G) {still : Bool} {id : Nat} {l : List LV} {s' : MS} (hm : s.mk? still id (.box l) = some s') {v : Value} {t : TypeId}
  (hl : LsRd w G.I G.h l v.cells.toList) (hrun : (execOp a.eval o).run P w = .ok (.value (.pointer (some ⟨w.heap.size, 0, none⟩))) (push w (.cells v.cells t))) (h : K (.one (.pbox id 0)) s' = some r) :
  o.wp P a w (zb2 Pr w0 stk o a K r) Q := by
 obtain ⟨hh, _⟩ := y3v hm
 have ho : Ob (push w (.cells v.cells t)) (G.at id (.pointer (some ⟨w.heap.size, 0, none⟩)) [w.heap.size]) id (.box l) :=
  ⟨w.heap.size, v.cells, t, (0, 0), y1x .., zu0 .., zt5, yi9 _, (LsRd.at (wr8 hh) (LsRd.push k hl))⟩
 exact z3u hrun ⟨.one (.pbox id 0), s', _, _, rfl, yy4 hP k hm ho, ⟨rfl, _, y1x .., rfl⟩, h⟩
theorem w3r (hE : EOk P E) (hP : ∀ b, Pr b -> b < w0.heap.size) (k : Rel Pr w0 stk s a.tmps w G) {still : Bool} {t : TypeId} (ho : o.op = .alloc t)
  (h : (match E.zeroL 20 t with
  | some l => match s.mk? still (s.nm o.dst) (.box l) with
    | some s' => K (.one (.pbox (s.nm o.dst) 0)) s'
    | none => none
  | none => none) = some r) : o.wp P a w (zb2 Pr w0 stk o a K r) Q := by
 split at h
 ·rename_i l hl
  split at h
  ·rename_i s' hm
   obtain ⟨ti, hti⟩ := w7l hl
   obtain ⟨z, hz, _, _, hzl⟩ := y7z hE hti w
   refine yk6 hP k hm (hzl l hl w G.I G.h) (t := t) ?_ h
   unfold execOp
   simp only [ho, Instr.alloc, Sem.run_bind, hz, Result.andThen_ok, y94, Sem.run_pure]
  ·cases h
 ·cases h
theorem w9v (_ : EOk P E) (hP : ∀ b, Pr b -> b < w0.heap.size) (k : Rel Pr w0 stk s a.tmps w G) {still : Bool} {t : TypeId} {x : Operand} (ho : o.op = .box t x)
  (h : (match (s.ev x).leaves?, E.sz t with
  | some l, some n => if cells l = n then (match s.mk? still (s.nm o.dst) (.box l) with
    | some s' => K (.one (.pbox (s.nm o.dst) 0)) s'
    | none => none) else none
  | _, _ => none) = some r) : o.wp P a w (zb2 Pr w0 stk o a K r) Q := by
 split at h
 ·rename_i l n hl hn
  split at h
  ·split at h
   ·rename_i s' hm
    refine yk6 hP k hm ((k.ev x).leaves hl) (t := t) ?_ h
    unfold execOp
    simp only [ho, Instr.box, Sem.run_bind, Result.andThen_ok, y94, Sem.run_pure]
   ·cases h
  ·cases h
 ·cases h
theorem w9z (k : Rel Pr w0 stk s a.tmps w G) : ∀ {xs : List Operand} {l : List LV}, (xs.mapM fun x => match s.ev x with | .one v => some v | _ => none) = some l ->
  xs.length = l.length /\ ∀ (i : Nat) (v : LV) (y : Value), l[i]? = some v -> (xs.map a.eval)[i]? = some y -> cell1 y = true /\ LRd w G.I G.h v [y]
 | [], l, h => by simp at h; subst h; exact ⟨rfl, fun i v y hv => by simp at hv⟩
 | x :: xs, l, h => by
  simp only [List.mapM_cons, Option.bind_eq_bind, Option.bind_eq_some_iff, Option.pure_def, Option.some.injEq] at h
  obtain ⟨v, hv, l', hl, rfl⟩ := h
  obtain ⟨h1, h2⟩ := w9z k hl
  refine ⟨by simp [h1], fun i u y hu hy => ?_⟩
  cases i with
  | zero =>
   simp at hu hy
   subst hu; subst hy
   have := k.ev x
   split at hv
   ·rename_i v' e; cases hv; rw [e] at this; exact this
   ·cases hv
  | succ i => exact h2 i u y (by simpa using hu) (by simpa using hy)
theorem yp9 (k : Rel Pr w0 stk s a.tmps w G) {still : Bool} {f : FuncId} {first caps : Array Operand} (ho : o.op = .makeFunc (.func f) first caps)
  (h : (if first.size = 0 then
    match caps.toList.mapM fun x => match s.ev x with | .one v => some v | _ => none with
    | some l => match s.mk? still (s.nm o.dst) (.clos f l) with
      | some s' => K (.one (.clos (s.nm o.dst))) s'
      | none => none
    | none => none
  else none) = some r) : o.wp P a w (zb2 Pr w0 stk o a K r) Q := by
 split at h
 ·rename_i hf
  split at h
  ·rename_i l hl
   split at h
   ·rename_i s' hm
    obtain ⟨hh, _⟩ := y3v hm
    obtain ⟨h1, h2⟩ := w9z k hl
    have hfirst : first = #[] := Array.eq_empty_of_size_eq_zero hf
    have hob : Ob w (G.at (s.nm o.dst) (.func (.func f) #[] (caps.map a.eval)) []) (s.nm o.dst) (.clos f l) := by
     refine ⟨caps.map a.eval, y1x .., zu0 .., by simpa using h1, fun i v x hv hx => ?_⟩
     have := h2 i v x hv (by simpa using hx)
     refine ⟨this.1, this.2.congr fun j hj => ?_⟩
     have : j ≠ s.nm o.dst := wr8 hh j (List.any_eq_true.2 ⟨v, List.mem_of_getElem? hv, hj⟩)
     simp [Gh.at, this]
    have hrun : (execOp a.eval o).run P w = .ok (.value (.func (.func f) #[] (caps.map a.eval))) w := by
     unfold execOp
     simp [ho, Instr.makeFunc, hfirst]
    exact z3u hrun ⟨.one (.clos (s.nm o.dst)), s', _, _, rfl, wp3 k hm hob, ⟨rfl, _, _, y1x .., rfl⟩, h⟩
   ·cases h
  ·cases h
 ·cases h
theorem yi8 (off : Nat) : ∀ (vs : List Value) (n : Nat) (cs : Array Value), ∀ j,
  ((vs.zipIdx n).foldl (fun cs (p : Value × Nat) => cs.setIfInBounds (off + p.2) p.1) cs)[j]? = if off + n <= j /\ j < off + n + vs.length /\ j < cs.size then vs[j - (off + n)]? else cs[j]?
 | [], n, cs, j => by simp; intro h1 h2; omega
 | v :: vs, n, cs, j => by
  simp only [List.zipIdx_cons, List.foldl_cons]
  rw [yi8 off vs (n + 1) _ j]
  simp only [Array.size_setIfInBounds, Array.getElem?_setIfInBounds, List.length_cons]
  by_cases h1 : j = off + n
  ·subst h1
   rw [if_neg (by omega), if_pos rfl]
   by_cases hs : off + n < cs.size
   ·rw [if_pos hs, if_pos ⟨Nat.le_refl _, by omega, hs⟩]; simp
   ·rw [if_neg hs, if_neg (by omega), Array.getElem?_eq_none (by omega)]
  ·by_cases h2 : off + (n + 1) <= j /\ j < off + (n + 1) + vs.length /\ j < cs.size
   ·rw [if_pos h2, if_pos ⟨by omega, by omega, h2.2.2⟩]
    rw [show j - (off + n) = (j - (off + (n + 1))) + 1 by omega, List.getElem?_cons_succ]
   ·rw [if_neg h2, if_neg (by omega)]
    rw [if_neg (by omega)]
end
end Vm
