/- The abstract machine: definitions of values, states and steps. -/
import GoSem.Core.Code
import GoSem.Core.Program
import GoSem.Core.View
import GoSem.Core.Region
import GoSem.Op.String
set_option linter.unusedVariables false
set_option linter.unusedSimpArgs false
namespace Go.AM
open Go
inductive PV where
 | lit (v : Value)
 | agg (cs : List PV)
 | sl (nl : Option Bool) (sz : Nat) (rows : List (List PV))
 | pp (cells : List PV)
 | fn (f : FuncId)
 | ifc (t : TypeId) (v : PV)
 | tup (cs : List PV)
inductive AV where
 | undef
 | p (v : PV)
 | own (sz : Nat) (rows : List (List PV))
 | agg (cs : List AV)
 | tup (cs : List AV)
 | asl (ow : Bool) (sz : Nat) (rows : List (List AV))
 | ap (cells : List AV)
 | ms (id gen sz off len : Nat)
 | ptr (id off : Nat)
 | ep (id gen i j : Nat)
 | mp (id : Nat)
 | fn (f : FuncId) (cap : List AV)
 | yld (id : Nat)
 | nms (id sz : Nat)
 | ifc (t : TypeId) (v : AV)
abbrev Env := List (Nat × AV)
inductive AObj where
 | cells (cs : List AV)
 | arr (gen : Nat) (sz : Nat) (rows : List (List AV))
 | map (kt : Option IntKind) (kvs : List (Value × PV))
 | loop (st : Nat) (pend : Option Code) (nt : Nat) (f : FuncId) (env : Env) (params : List Nat) (assign body : Code)
 | dead
 | gone
 | hid
inductive TD where
 | int (k : IntKind) | bool | str | ptr (e : TypeId) | sl (e : TypeId) | arr (n : Nat) (e : TypeId) | map (k e : TypeId)
 | st (fs : List (Nat × TypeId)) | fn | ifc | tup (ts : List TypeId) | other
structure TI where
 d : TD
 size : Nat
 bytes : Nat
 zero : List PV
 eq : Bool
structure Tab where
 ty : List TI
 gl : List (Nat × List PV)
def Tab.at (T : Tab) (t : TypeId) : TI := T.ty.getD t ⟨.other, 0, 0, [], false⟩
def TD.agg? : TD → Option Bool
 | .st _ => some true
 | .arr _ _ => some true
 | .other => none
 | _ => some false
def zeroOk (T : Tab) (t : TypeId) : Bool :=
 match (T.at t).d.agg? with
 | some _ => decide ((T.at t).zero.length = (T.at t).size)
 | none => false
def sizedOk (T : Tab) (t : TypeId) : Bool :=
 match (T.at t).d.agg? with
 | some _ => decide (0 < (T.at t).size)
 | none => false
def buildOk (T : Tab) (t : TypeId) : Bool :=
 match (T.at t).d with
 | .st _ => zeroOk T t
 | .arr _ e => zeroOk T t && sizedOk T e
 | _ => false
def globOf : List (Nat × List PV) → Nat → Option (List PV)
 | [], _ => none
 | (k, v) :: r, g => if k == g then some v else globOf r g
structure FH where
 mv : List Nat := []
 nw : List Nat := []
 fz : List Nat := []
 heads : List (Nat × List Nat) := []
 outs : List (Nat × List Nat) := []
 ok : Bool := false
 pu : Bool := true
 sh : List Nat := []
 esc : Bool := false
 nt : Nat := 0
 ro : Bool := false
 op : List Nat := []
 rd : Bool := false
 rm : Bool := false
 rc : Bool := false
 ap : List Nat := []
 lo : List (Nat × Nat) := []
 so : List (Nat × Nat) := []
 fr : List (Nat × Nat) := []
 lm : List (Nat × Nat) := []
 dp : List (Nat × Nat) := []
 pr : Option (List AV → Option AV) := none
 df : Bool := false
def allPure : List AV → Option (List PV)
 | [] => some []
 | .p v :: r => match allPure r with | some l => some (v :: l) | none => none
 | _ :: _ => none
def mkAgg (cs : List AV) : AV := match allPure cs with | some ps => .p (.agg ps) | none => .agg cs
def mkTup (cs : List AV) : AV := match allPure cs with | some ps => .p (.tup ps) | none => .tup cs
def allRows : List (List AV) → Option (List (List PV))
 | [] => some []
 | r :: rs => match allPure r, allRows rs with | some l, some ls => some (l :: ls) | _, _ => none
def mkOwn (sz : Nat) (rows : List (List AV)) : AV := match allRows rows with | some ps => .own sz ps | none => .asl true sz rows
def mkSl (sz : Nat) (rows : List (List AV)) : AV := match allRows rows with | some ps => .p (.sl none sz ps) | none => .asl false sz rows
def copyV : AV → AV
 | .own sz rows => .p (.sl none sz rows)
 | .asl _ sz rows => .asl false sz rows
 | v => v
def copyL : List AV → List AV
 | [] => []
 | v :: r => copyV v :: copyL r
def copyA : AV → AV
 | .agg cs => mkAgg (copyL cs)
 | .tup cs => mkTup (copyL cs)
 | v => copyV v
mutual
def ltV (n : Nat) : AV → Bool
 | .agg cs | .tup cs | .ap cs => ltL n cs
 | .fn _ cap => ltL n cap
 | .asl _ _ rows => ltR n rows
 | .ms id _ _ _ _ | .ptr id _ | .ep id _ _ _ | .mp id | .yld id | .nms id _ => decide (id < n)
 | .ifc _ v => ltV n v
 | _ => true
def ltL (n : Nat) : List AV → Bool
 | [] => true
 | v :: r => ltV n v && ltL n r
def ltR (n : Nat) : List (List AV) → Bool
 | [] => true
 | r :: rs => ltL n r && ltR n rs
end
def litOk : Value → Bool
 | .bool _ | .int _ _ | .float _ _ | .complex _ _ _ | .string _ | .pointer none | .map none | .chan none | .nilFunc | .nilIface => true
 | _ => false
def constC : Value → Option PV
 | .slice none 0 0 => some (.sl (some true) 0 [])
 | v => if litOk v then some (.lit v) else none
def constL : List Value → Option (List PV)
 | [] => some []
 | v :: r => match constC v, constL r with | some p, some l => some (p :: l) | _, _ => none
def ofConst : Value → AV
 | .agg cs => match constL cs.toList with | some l => .p (.agg l) | none => .undef
 | v => match constC v with | some p => .p p | none => .undef
structure S where
 env : Env
 σ : List AObj
 dfs : List (AV × List AV) := []
 pv : Option PV := none
 rcv : Bool := false
def get : Env → Nat → AV
 | [], _ => .undef
 | (k, v) :: r, t => if k == t then v else get r t
def rd (T : Tab) (env : Env) : Operand → AV
 | .tmp t => get env t
 | .const v => ofConst v
 | .global g => match globOf T.gl g with | some cs => .p (.pp cs) | none => .undef
 | .func f => .p (.fn f)
def rdc (T : Tab) (env : Env) (x : Operand) : AV := copyA (rd T env x)
def putE (env : Env) (d : Option Nat) (v : AV) : Env :=
 match d with
 | some d => (d, v) :: env
 | none => env
def S.put (s : S) (d : Option Nat) (v : AV) : S := { s with env := putE s.env d v }
def strip (env : Env) (x : Operand) : Env :=
 match x with
 | .tmp t => match get env t with
  | .p _ | .undef => env
  | v => (t, copyA v) :: env
 | _ => env
def S.strip (s : S) (x : Operand) : S := { s with env := AM.strip s.env x }
def cellsOf : AV → List AV
 | .p (.agg ps) => ps.map .p
 | .agg cs => cs
 | v => [v]
def storable : AV → Bool
 | .undef => false
 | .tup _ => false
 | .p (.tup _) => false
 | _ => true
def setCells (cs : List AV) (off : Nat) (vs : List AV) : List AV := cs.take off ++ vs ++ cs.drop (off + vs.length)
def pickAgg (T : Tab) (t : TypeId) (cs : List AV) (off : Nat) : Option AV :=
 match (T.at t).d.agg? with
 | some true => if off + (T.at t).size ≤ cs.length then some (mkAgg ((cs.drop off).take (T.at t).size)) else none
 | some false => cs[off]?
 | none => none
def pickPure (T : Tab) (t : TypeId) (cs : List PV) : Option PV :=
 match (T.at t).d.agg? with
 | some true => if (T.at t).size ≤ cs.length then some (.agg (cs.take (T.at t).size)) else none
 | some false => cs[0]?
 | none => none
def readAt (σ : List AObj) : AV → Option (List AV × Nat)
 | .ptr id off => match σ[id]? with | some (.cells cs) => some (cs, off) | _ => none
 | .ep id g i j => match σ[id]? with
  | some (.arr g' _ rows) => if g == g' then (match rows[i]? with | some r => some (r, j) | none => none) else none
  | _ => none
 | _ => none
def writeAt (σ : List AObj) (a : AV) (r : List AV) : List AObj :=
 match a with
 | .ptr id _ => σ.set id (.cells r)
 | .ep id g i _ => match σ[id]? with
  | some (.arr _ sz rows) => σ.set id (.arr g sz (rows.set i r))
  | _ => σ
 | _ => σ
def idOf : AV → Nat
 | .ptr id _ | .ep id _ _ _ => id
 | _ => 0
def bAnd (k : IntKind) (x y : Int) : Int := k.wrap (BitVec.ofInt k.bits x &&& BitVec.ofInt k.bits y).toNat
def bOr (k : IntKind) (x y : Int) : Int := k.wrap (BitVec.ofInt k.bits x ||| BitVec.ofInt k.bits y).toNat
def bXor (k : IntKind) (x y : Int) : Int := k.wrap (BitVec.ofInt k.bits x ^^^ BitVec.ofInt k.bits y).toNat
def bAnn (k : IntKind) (x y : Int) : Int := k.wrap (BitVec.ofInt k.bits x &&& ~~~ BitVec.ofInt k.bits y).toNat
def shlI (k : IntKind) (x y : Int) : Int := k.wrap (x * 2 ^ (min y.toNat k.bits))
def shrI (k : IntKind) (x y : Int) : Int := x.fdiv (2 ^ (min y.toNat k.bits))
def binSh (op : BinOp) (k : IntKind) (x y : Int) : Option Value :=
 match op with
 | .shl => if y < 0 then none else some (.int k (shlI k x y))
 | .shr => if y < 0 then none else some (.int k (shrI k x y))
 | _ => none
def binInt (op : BinOp) (k : IntKind) (x y : Int) : Option Value :=
 match op with
 | .quo => if y = 0 then none else some (.int k (k.wrap (x.tdiv y)))
 | .rem => if y = 0 then none else some (.int k (x.tmod y))
 | .and => some (.int k (bAnd k x y))
 | .or => some (.int k (bOr k x y))
 | .xor => some (.int k (bXor k x y))
 | .andNot => some (.int k (bAnn k x y))
 | .shl => binSh .shl k x y
 | .shr => binSh .shr k x y
 | .add => some (.int k (k.wrap (x + y)))
 | .sub => some (.int k (k.wrap (x - y)))
 | .mul => some (.int k (k.wrap (x * y)))
 | .eql => some (.bool (x == y))
 | .neq => some (.bool (x != y))
 | .lss => some (.bool (decide (x < y)))
 | .leq => some (.bool (decide (x ≤ y)))
 | .gtr => some (.bool (decide (x > y)))
 | .geq => some (.bool (decide (x ≥ y)))
def binStr (op : BinOp) (x y : ByteArray) : Option Value :=
 match op with
 | .add => if x.size + y.size ≤ 2 ^ 47 then some (.string (x ++ y)) else none
 | .eql => some (.bool (x.toList == y.toList))
 | .neq => some (.bool !(x.toList == y.toList))
 | _ => none
def binBool (op : BinOp) (x y : Bool) : Option Value :=
 match op with
 | .eql => some (.bool (x == y))
 | .neq => some (.bool (x != y))
 | _ => none
def binLit (tb : Bool) (op : BinOp) (v w : Value) : Option Value :=
 match v with
 | .int k x => match w with
  | .int k' y => if k = k' then binInt op k x y else binSh op k x y
  | _ => none
 | .string x => match w with
  | .string y => binStr op x y
  | _ => none
 | .bool x => match w with
  | .bool y => if tb = true then binBool op x y else none
  | _ => none
 | _ => none
def litP : Option Value → Option AV
 | some v => some (.p (.lit v))
 | none => none
def tyBool (T : Tab) (t : TypeId) : Bool := match (T.at t).d with | .bool => true | _ => false
def eqLit (T : Tab) (t : TypeId) (v w : PV) : Option Bool :=
 match v with
 | .lit v => match w with
  | .lit w => match v with
   | .int k x => match w with
    | .int k' y => match (T.at t).d with
     | .int _ => if k = k' then some (x == y) else none
     | _ => none
    | _ => none
   | .bool x => match w with
    | .bool y => match (T.at t).d with
     | .bool => some (x == y)
     | _ => none
    | _ => none
   | .string x => match w with
    | .string y => match (T.at t).d with
     | .str => some (x.toList == y.toList)
     | _ => none
    | _ => none
   | _ => none
  | _ => none
 | _ => none
def eqOpt (T : Tab) (t : TypeId) : Option PV → Option PV → Option Bool
 | some v, some w => eqLit T t v w
 | _, _ => none
def eqThen (r : Option Bool) : Option Bool → Option Bool
 | some true => r
 | x => x
def eqFs (T : Tab) (cs ds : List PV) : List (Nat × TypeId) → Option Bool
 | [] => some true
 | (off, t) :: fs => eqThen (eqFs T cs ds fs) (eqOpt T t cs[off]? ds[off]?)
def notO (b : Bool) : Option Bool → Option AV
 | some r => some (.p (.lit (.bool (b == r))))
 | none => none
def stEq (T : Tab) (t : TypeId) (op : BinOp) (cs ds : List PV) : Option AV :=
 if (T.at t).eq then match (T.at t).d with
  | .st fs => match op with
   | .eql => notO true (eqFs T cs ds fs)
   | .neq => notO false (eqFs T cs ds fs)
   | _ => none
  | _ => none
 else none
def binV (tb : Bool) (op : BinOp) (a b : AV) : Option AV :=
 match a with
 | .p (.lit v) => match b with
  | .p (.lit w) => litP (binLit tb op v w)
  | _ => none
 | _ => none
inductive Out where
 | ret (v : AV)
 | pan (v : PV)
def Out.isRet : Out → Bool
 | .ret _ => true
 | .pan _ => false
inductive Cal where
 | fn (f : FuncId)
 | yld (id : Nat)
def binA (T : Tab) (t : TypeId) (op : BinOp) (a b : AV) : Option AV :=
 match a with
 | .p (.agg cs) => match b with
  | .p (.agg ds) => stEq T t op cs ds
  | _ => none
 | _ => binV (tyBool T t) op a b
def nilR {α : Type} : List α → Option Bool
 | [] => none
 | _ :: _ => some false
def nilB (nl : Option Bool) (rows : List (List PV)) : Option Bool :=
 match nl with
 | some b => some b
 | none => nilR rows
def nilL : Value → Option Bool
 | .pointer none => some true
 | .map none => some true
 | .nilFunc => some true
 | .nilIface => some true
 | _ => none
def nilV : PV → Option Bool
 | .sl nl _ rows => nilB nl rows
 | .pp _ => some false
 | .fn _ => some false
 | .ifc _ _ => some false
 | .lit v => nilL v
 | _ => none
def nilQ : AV → Option Bool
 | .p v => nilV v
 | .own _ rows => nilR rows
 | .asl _ _ rows => nilR rows
 | .ms .. => some false
 | .nms .. => some true
 | .ap _ => some false
 | .ptr .. => some false
 | .ep .. => some false
 | .mp _ => some false
 | .fn .. => some false
 | .ifc .. => some false
 | _ => none
def nilC : Operand → Bool
 | .const (.slice none 0 0) | .const (.pointer none) | .const (.map none) | .const .nilFunc | .const .nilIface => true
 | _ => false
def nilTy (T : Tab) (t : TypeId) (x : Operand) : Bool :=
 match x with
 | .const c => (match (T.at t).d with
  | .sl _ => (match c with | .slice .. => true | _ => false)
  | .ptr _ => (match c with | .pointer _ => true | _ => false)
  | .map _ _ => (match c with | .map _ => true | _ => false)
  | .fn => (match c with | .nilFunc => true | _ => false)
  | .ifc => (match c with | .nilIface => true | _ => false)
  | _ => false)
 | _ => false
def nilPK : PV → Nat
 | .sl .. => 1
 | .pp _ => 2
 | .fn _ => 4
 | .lit (.pointer none) => 2
 | .lit (.map none) => 3
 | .lit .nilFunc => 4
 | .ifc .. => 6
 | .lit .nilIface => 6
 | _ => 0
def nilAK : AV → Nat
 | .p v => nilPK v
 | .own .. => 1
 | .asl .. => 1
 | .ms .. => 1
 | .nms .. => 1
 | .ap _ => 2
 | .ptr .. => 2
 | .ep .. => 2
 | .mp _ => 3
 | .fn .. => 4
 | .ifc .. => 6
 | _ => 0
def nilCK : Operand → Nat
 | .const (.slice ..) => 1
 | .const (.pointer _) => 2
 | .const (.map _) => 3
 | .const .nilFunc => 4
 | .const .nilIface => 6
 | _ => 5
def nilCmp (op : BinOp) : Option Bool → Option AV
 | some b => (match op with
  | .eql => some (.p (.lit (.bool b)))
  | .neq => some (.p (.lit (.bool !b)))
  | _ => none)
 | none => none
abbrev CallF := Cal → List AV → List AObj → Option (Out × List AObj)
inductive Rs where
 | ok (s : S)
 | pan (v : PV) (s : S)
structure Cx where
 T : Tab
 H : FuncId → FH
 C : CallF
 h : FH
 base : Nat
def slOf (T : Tab) (t : TypeId) : Option TypeId :=
 match (T.at t).d with
 | TD.sl e => some e
 | _ => none
def nilS (T : Tab) (t : TypeId) (nl : Option Bool) (sz : Nat) (rows : List (List PV)) : AV :=
 match nl with
 | some true => (match (T.at t).d with
  | .sl e => .own (T.at e).size []
  | _ => .p (.sl (some true) sz rows))
 | some false => .p (.sl (some false) sz rows)
 | none => .p (.sl none sz rows)
def nilP (T : Tab) (t : TypeId) : PV → AV
 | .sl nl sz rows => nilS T t nl sz rows
 | v => .p v
def nilT (T : Tab) (t : TypeId) : AV → AV
 | .p v => nilP T t v
 | v => v
def nilX (T : Tab) (t : TypeId) (x : Operand) (v : AV) : AV :=
 match x with
 | .const _ => nilT T t v
 | _ => v
def nilO (T : Tab) (ow : Bool) (t : TypeId) (x : Operand) (v : AV) : AV :=
 match x with
 | .const _ => if ow = true then nilT T t v else copyA (nilT T t v)
 | _ => v
def nilTs (T : Tab) (op : List Nat) : Nat → List TypeId → List Operand → List AV → List AV
 | i, t :: ts, x :: xs, v :: vs => nilO T (op.contains i) t (if op.contains (i + 1000) = true then .tmp 0 else x) v :: nilTs T op (i + 1) ts xs vs
 | _, _, _, vs => vs
def opOf (H : FuncId → FH) : AV → List Nat
 | .p (.fn f) => (H f).op
 | .fn f _ => (H f).op
 | _ => []
def zA : PV → AV
 | .sl _ sz rows => .own sz rows
 | v => .p v
def zAF (fz : Bool) : PV → AV
 | p => if fz = true then .p p else zA p
def fzO (h : FH) : Option Nat → Bool
 | some d => h.fz.contains d
 | none => false
def unown : AV → AV
 | .own sz rows => .p (.sl none sz rows)
 | v => v
def nilF (fz : Bool) (T : Tab) (t : TypeId) (x : Operand) (v : AV) : AV := if fz = true then unown (nilX T t x v) else nilX T t x v
def bN : Option Bool → Nat → List (List PV) → AV
 | some false, sz, rows => .own sz rows
 | nl, sz, rows => .p (.sl nl sz rows)
def bP : PV → AV
 | .sl nl sz rows => bN nl sz rows
 | v => .p v
def bV : AV → AV
 | .agg cs => .agg cs
 | .p v => bP v
 | v => copyA v
def flV (fz : Bool) (v : AV) : AV :=
 if fz = true then (match v with
  | .own sz rows => .p (.sl (some false) sz rows)
  | v => v) else v
def rdB (T : Tab) (env : Env) (x : Operand) : AV := bV (rd T env x)
def TD.conc : TD → Bool
 | .ifc => false
 | .other => false
 | _ => true
def byteRows (b : ByteArray) : List (List PV) := b.data.toList.map fun u => [PV.lit (.int .u8 u.toNat)]
def copyR : List (List AV) → List (List AV)
 | [] => []
 | r :: rs => copyL r :: copyR rs
def shOf (h : FH) : Operand → Bool
 | .tmp t => h.sh.contains t
 | _ => false
def mvV (T : Tab) (h : FH) (env : Env) (x : Operand) : AV := if shOf h x = true then rdc T env x else rd T env x
def stripM (h : FH) (env : Env) (x : Operand) : Env := if shOf h x = true then env else strip env x
def S.stripM (h : FH) (s : S) (x : Operand) : S := { s with env := AM.stripM h s.env x }
def argsV (T : Tab) (h : FH) : Env → List Operand → List AV
 | _, [] => []
 | env, x :: xs => mvV T h env x :: argsV T h (stripM h env x) xs
def stripsM (h : FH) : Env → List Operand → Env
 | env, [] => env
 | env, x :: xs => stripsM h (stripM h env x) xs
def rowsOf (σ : List AObj) : AV → Option (Nat × List (List AV))
 | .p (.lit (.string b)) => some (1, (byteRows b).map (·.map .p))
 | .p (.sl _ sz rows) | .own sz rows => some (sz, rows.map (·.map .p))
 | .asl _ sz rows => some (sz, rows)
 | .ms id g _ off len => match σ[id]? with
  | some (.arr g' sz rows) => if g == g' && decide (off + len ≤ rows.length) then some (sz, copyR ((rows.drop off).take len)) else none
  | _ => none
 | _ => none
def prowsOf (σ : List AObj) : AV → Option (Nat × List (List PV))
 | .p (.lit (.string b)) => some (1, byteRows b)
 | .p (.sl _ sz rows) | .own sz rows => some (sz, rows)
 | .ms id g _ off len => match σ[id]? with
  | some (.arr g' sz rows) => if g == g' && decide (off + len ≤ rows.length) then (match allRows ((rows.drop off).take len) with | some l => some (sz, l) | none => none) else none
  | _ => none
 | _ => none
def cutV (n : Nat) : AV → Option AV
 | .p (.sl _ sz rows) => some (.p (.sl none sz (rows.take n)))
 | .ms id g sz off len => some (.ms id g sz off (min n len))
 | _ => none
def lenOf : AV → Option Nat
 | .p (.sl _ _ rows) | .own _ rows => some rows.length
 | .asl _ _ rows => some rows.length
 | .ms _ _ _ _ len => some len
 | .nms _ _ => some 0
 | .p (.lit (.string s)) => some s.size
 | _ => none
def putRes (s : S) (d : Option Nat) : Option AV → Option Rs
 | some v => some (.ok (s.put d v))
 | none => none
def copyS (σ : List AObj) (size : Nat) (x y : AV) : Option (Nat × List AObj) :=
 match x, lenOf y with
 | .ms id g _ off len, some m =>
  match σ[id]?, cutV (min m len) y with
  | some (.arr g' sz2 rows), some yc => (match prowsOf σ yc with
   | some (sz', ys) => if g == g' && sz2 == size && decide (off + len ≤ rows.length) && (ys.isEmpty || sz' == size) then some (ys.length, σ.set id (.arr g size (rows.take off ++ ys.map (·.map AV.p) ++ rows.drop (off + ys.length)))) else none
   | none => none)
  | _, _ => none
 | _, _ => none
def boundOk (n bytes : Nat) : Bool := decide (0 < bytes ∧ n * bytes ≤ 2 ^ 46)
def appendRows (size bytes : Nat) (nl : Bool) (sz : Nat) (rows : List (List PV)) (ys : Option (Nat × List (List PV))) (zs : Option (Nat × List (List AV))) : Option AV :=
 match ys with
 | some (sz', ys) =>
  if boundOk (rows.length + ys.length) bytes && (nl || sz == size) && (ys.isEmpty || sz' == size) then
   (if nl then (match ys with | [] => some (.p (.sl (some true) sz [])) | _ => some (.own size ys)) else some (.own size (rows ++ ys)))
  else none
 | none => match zs with
  | some (sz', zs) => if boundOk (rows.length + zs.length) bytes && (nl || sz == size) && sz' == size && !zs.isEmpty then some (.asl true size (rows.map (·.map .p) ++ zs)) else none
  | none => none
def appendV (base : Nat) (σ : List AObj) (nw : Bool) (size bytes : Nat) (s x : AV) : Option (AV × List AObj) :=
 match s with
 | .p (.sl (some true) sz _) =>
  if nw then (match rowsOf σ x with
   | some (sz', ys) => if boundOk ys.length bytes && sz' == size && !ys.isEmpty then some (.ms σ.length 0 size 0 ys.length, σ ++ [AObj.arr 0 size ys]) else none
   | none => none)
  else match appendRows size bytes true sz [] (prowsOf σ x) (rowsOf σ x) with
   | some v => some (v, σ)
   | none => none
 | .own sz rows => match appendRows size bytes false sz rows (prowsOf σ x) (rowsOf σ x) with
  | some v => some (v, σ)
  | none => none
 | .asl true sz rows => match rowsOf σ x with
  | some (sz', ys) => if boundOk (rows.length + ys.length) bytes && sz == size && (ys.isEmpty || sz' == size) then some (.asl true size (rows ++ ys), σ) else none
  | none => none
 | .ms id g _ off len => if nw = false then none else match σ[id]?, rowsOf σ x with
  | some (.arr g' sz rows), some (sz', ys) =>
   if g == g' && off == 0 && decide (len ≤ rows.length) && boundOk (len + ys.length) bytes && sz == size && (ys.isEmpty || sz' == size) && (decide (id ≥ base) || ltR id ys) then
    some (.ms id (g + 1) size 0 (len + ys.length), σ.set id (.arr (g + 1) size (rows.take len ++ ys)))
   else none
  | _, _ => none
 | .nms id _ => if nw = false then none else match σ[id]?, rowsOf σ x with
  | some .dead, some (sz', ys) =>
   if boundOk ys.length bytes && sz' == size && !ys.isEmpty && (decide (id ≥ base) || ltR id ys) then some (.ms id 1 size 0 ys.length, σ.set id (.arr 1 size ys)) else none
  | _, _ => none
 | _ => none
def fieldOf (T : Tab) (t : TypeId) (f : Nat) : Option (Nat × TypeId) :=
 match (T.at t).d with
 | TD.st fs => fs[f]?
 | _ => none
def elemOf (T : Tab) (t : TypeId) : TypeId :=
 match (T.at t).d with
 | TD.sl e | TD.arr _ e | TD.ptr e => e
 | _ => 0
def fillV (place : Nat → Option (Nat × Nat)) : List (Nat × AV) → List AV → Option (List AV)
 | [], cs => some cs
 | (i, x) :: r, cs =>
  match place i with
  | some (off, size) => if (cellsOf x).length = size ∧ off + size ≤ cs.length ∧ storable x = true then fillV place r (setCells cs off (cellsOf x)) else none
  | none => none
def placeOf (T : Tab) (t : TypeId) (i : Nat) : Option (Nat × Nat) :=
 match (T.at t).d with
 | TD.st fs => match fs[i]? with
  | some (off, ft) => some (off, (T.at ft).size)
  | none => none
 | TD.arr _ e => some (i * (T.at e).size, (T.at e).size)
 | _ => none
def fillR (size : Nat) : List (Nat × AV) → List (List AV) → Option (List (List AV))
 | [], rows => some rows
 | (i, x) :: r, rows => if (cellsOf x).length = size ∧ i < rows.length ∧ storable x = true then fillR size r (rows.set i (cellsOf x)) else none
def sub (lo hi : Nat) {α : Type} (l : List α) : List α := (l.take hi).drop lo
def bnd (T : Tab) (env : Env) (d : Nat) : Option Operand → Option Nat
 | none => some d
 | some x => match rd T env x with
  | .p (.lit (.int _ i)) => if 0 ≤ i then some i.toNat else none
  | _ => none
def nlS : Option Bool → Option Bool
 | some true => some true
 | _ => none
def sliceV (v : AV) (lo hi : Nat) : Option AV :=
 match v with
 | .p (.lit (.string s)) => if lo ≤ hi ∧ hi ≤ s.size then some (.p (.lit (.string (s.extract lo hi)))) else none
 | .p (.sl nl sz rows) => if lo ≤ hi ∧ hi ≤ rows.length then some (.p (.sl (nlS nl) sz (sub lo hi rows))) else none
 | .own sz rows => if lo ≤ hi ∧ hi ≤ rows.length then some (.p (.sl none sz (sub lo hi rows))) else none
 | .asl _ sz rows => if lo ≤ hi ∧ hi ≤ rows.length then some (.asl false sz (sub lo hi rows)) else none
 | .ms id g sz off len => if lo ≤ hi ∧ hi ≤ len then some (.ms id g sz (off + lo) (hi - lo)) else none
 | .nms id sz => if lo = 0 ∧ hi = 0 then some (.nms id sz) else none
 | _ => none
def isLit : AV → Bool
 | .p (.lit _) => true
 | _ => false
def fullS (nl : Option Bool) (sz : Nat) (rows : List (List PV)) : AV :=
 match nl with
 | some true => .p (.sl (some true) sz rows)
 | some false => .own sz rows
 | none => .own sz rows
def fullP : PV → AV
 | .sl nl sz rows => fullS nl sz rows
 | v => .p v
def fullV : AV → AV
 | .p v => fullP v
 | v => v
def sliceOk (T : Tab) (t : TypeId) : AV → Bool
 | .p (.lit (.string _)) => match (T.at t).d with
  | TD.str => true
  | _ => false
 | .p (.sl _ sz rows) | .own sz rows => match (T.at t).d with
  | TD.sl e => sizedOk T e && (sz == (T.at e).size || rows.isEmpty)
  | _ => false
 | .asl _ sz rows => match (T.at t).d with
  | TD.sl e => sizedOk T e && (sz == (T.at e).size || rows.isEmpty)
  | _ => false
 | .ms _ _ sz _ _ => match (T.at t).d with
  | TD.sl e => sizedOk T e && sz == (T.at e).size
  | _ => false
 | .nms _ _ => match (T.at t).d with
  | TD.sl e => sizedOk T e
  | _ => false
 | _ => false
def lenOk (T : Tab) (t : TypeId) : AV → Bool
 | .p (.lit (.string _)) => match (T.at t).d with
  | TD.str => true
  | _ => false
 | _ => (slOf T t).isSome
def appOk (T : Tab) (t : TypeId) : AV → Bool
 | .p (.lit (.string _)) => match (T.at t).d with
  | TD.str => true
  | _ => false
 | _ => (slOf T t).isSome
def indexAddrV (T : Tab) (t : TypeId) (x : AV) (i : Int) : Option AV :=
 if 0 ≤ i then
  match (T.at t).d with
  | TD.sl e => if sizedOk T e = false then none else match x with
   | .p (.sl _ sz rows) | .own sz rows => if sz = (T.at e).size then (match rows[i.toNat]? with | some r => some (.p (.pp r)) | none => none) else none
   | .asl _ sz rows => if sz = (T.at e).size then (match rows[i.toNat]? with | some r => some (.ap r) | none => none) else none
   | .ms id g sz off len => if sz = (T.at e).size ∧ i.toNat < len then some (.ep id g (off + i.toNat) 0) else none
   | _ => none
  | TD.arr n e => if i.toNat < n ∧ sizedOk T e = true then
   (match x with
   | .p (.pp cs) => some (.p (.pp (cs.drop (i.toNat * (T.at e).size))))
   | .ap cs => some (.ap (cs.drop (i.toNat * (T.at e).size)))
   | .ptr id off => some (.ptr id (off + i.toNat * (T.at e).size))
   | .ep id g k j => some (.ep id g k (j + i.toNat * (T.at e).size))
   | _ => none) else none
  | _ => none
 else none
def fieldAddrV (off : Nat) : AV → Option AV
 | .p (.pp cs) => some (.p (.pp (cs.drop off)))
 | .ap cs => some (.ap (cs.drop off))
 | .ptr id o => some (.ptr id (o + off))
 | .ep id g i j => some (.ep id g i (j + off))
 | _ => none
def loadV (T : Tab) (σ : List AObj) (t : TypeId) (a : AV) : Option AV :=
 match a with
 | .p (.pp cs) => match pickPure T t cs with | some v => some (.p v) | none => none
 | .ap cs => pickAgg T t cs 0
 | a => match readAt σ a with | some (cs, off) => pickAgg T t cs off | none => none
def pureArg : AV → Bool
 | .p _ => true
 | .own _ _ => true
 | _ => false
def pureArgs : List AV → Bool
 | [] => true
 | v :: r => pureArg v && pureArgs r
def endCall (s : S) (d : Option Nat) (σ : List AObj) : Out → Rs
 | .ret v => .ok ({ s with σ := σ }.put d v)
 | .pan v => .pan v ({ s with σ := σ }.put d .undef)
def eqValB : Value → Value → Bool
 | .int k n, .int k' n' => decide (k = k') && decide (n = n')
 | .bool b, .bool b' => b == b'
 | _, _ => false
theorem eqValB_ok {v w : Value} (h : eqValB v w = true) : w = v := by
 unfold eqValB at h
 split at h
 ·simp only [Bool.and_eq_true, decide_eq_true_eq] at h; rw [h.1, h.2]
 ·rw [beq_iff_eq] at h; rw [h]
 ·cases h
mutual
def eqPB : PV → PV → Bool
 | .lit v, .lit w => eqValB v w
 | .agg cs, .agg ds => eqPL cs ds
 | .sl nl sz rows, .sl nl' sz' rows' => decide (nl = nl') && decide (sz = sz') && eqPR rows rows'
 | _, _ => false
def eqPL : List PV → List PV → Bool
 | [], [] => true
 | x :: r, y :: q => eqPB x y && eqPL r q
 | _, _ => false
def eqPR : List (List PV) → List (List PV) → Bool
 | [], [] => true
 | x :: r, y :: q => eqPL x y && eqPR r q
 | _, _ => false
end
mutual
theorem eqPB_ok : ∀ {v w : PV}, eqPB v w = true → w = v
 | .lit v, .lit w, h => by rw [eqPB] at h; rw [eqValB_ok h]
 | .agg cs, .agg ds, h => by rw [eqPB] at h; rw [eqPL_ok h]
 | .sl nl sz rows, .sl nl' sz' rows', h => by
  rw [eqPB] at h
  simp only [Bool.and_eq_true, decide_eq_true_eq] at h
  rw [h.1.1, h.1.2, eqPR_ok h.2]
 | .lit _, .agg _, h | .lit _, .sl _ _ _, h | .lit _, .pp _, h | .lit _, .fn _, h | .lit _, .ifc _ _, h | .lit _, .tup _, h => by simp [eqPB] at h
 | .agg _, .lit _, h | .agg _, .sl _ _ _, h | .agg _, .pp _, h | .agg _, .fn _, h | .agg _, .ifc _ _, h | .agg _, .tup _, h => by simp [eqPB] at h
 | .sl _ _ _, .lit _, h | .sl _ _ _, .agg _, h | .sl _ _ _, .pp _, h | .sl _ _ _, .fn _, h | .sl _ _ _, .ifc _ _, h | .sl _ _ _, .tup _, h => by simp [eqPB] at h
 | .pp _, _, h | .fn _, _, h | .ifc _ _, _, h | .tup _, _, h => by simp [eqPB] at h
theorem eqPL_ok : ∀ {v w : List PV}, eqPL v w = true → w = v
 | [], [], _ => rfl
 | x :: r, y :: q, h => by
  rw [eqPL, Bool.and_eq_true] at h
  rw [eqPB_ok h.1, eqPL_ok h.2]
 | [], _ :: _, h | _ :: _, [], h => by simp [eqPL] at h
theorem eqPR_ok : ∀ {v w : List (List PV)}, eqPR v w = true → w = v
 | [], [], _ => rfl
 | x :: r, y :: q, h => by
  rw [eqPR, Bool.and_eq_true] at h
  rw [eqPL_ok h.1, eqPR_ok h.2]
 | [], _ :: _, h | _ :: _, [], h => by simp [eqPR] at h
end
def eqAB : AV → AV → Bool
 | .p v, .p w => eqPB v w
 | _, _ => false
theorem eqAB_ok {v w : AV} (h : eqAB v w = true) : w = v := by
 unfold eqAB at h
 split at h
 ·rw [eqPB_ok h]
 ·cases h
def eqAL : List AV → List AV → Bool
 | [], [] => true
 | x :: r, y :: q => eqAB x y && eqAL r q
 | _, _ => false
theorem eqAL_ok : ∀ {v w : List AV}, eqAL v w = true → w = v
 | [], [], _ => rfl
 | x :: r, y :: q, h => by
  rw [eqAL, Bool.and_eq_true] at h
  rw [eqAB_ok h.1, eqAL_ok h.2]
 | [], _ :: _, h | _ :: _, [], h => by simp [eqAL] at h
def eqAR : List (List AV) → List (List AV) → Bool
 | [], [] => true
 | x :: r, y :: q => eqAL x y && eqAR r q
 | _, _ => false
theorem eqAR_ok : ∀ {v w : List (List AV)}, eqAR v w = true → w = v
 | [], [], _ => rfl
 | x :: r, y :: q, h => by
  rw [eqAR, Bool.and_eq_true] at h
  rw [eqAL_ok h.1, eqAR_ok h.2]
 | [], _ :: _, h | _ :: _, [], h => by simp [eqAR] at h
def eqOB : AObj → AObj → Bool
 | .cells cs, .cells ds => eqAL cs ds
 | .arr g k rows, .arr g' k' rows' => decide (g = g') && decide (k = k') && eqAR rows rows'
 | .dead, .dead => true
 | .gone, .gone => true
 | _, _ => false
theorem eqOB_ok {v w : AObj} (h : eqOB v w = true) : w = v := by
 unfold eqOB at h
 split at h
 ·rw [eqAL_ok h]
 ·simp only [Bool.and_eq_true, decide_eq_true_eq] at h
  rw [h.1.1, h.1.2, eqAR_ok h.2]
 ·rfl
 ·rfl
 ·cases h
def eqOL : List AObj → List AObj → Bool
 | [], [] => true
 | x :: r, y :: q => eqOB x y && eqOL r q
 | _, _ => false
theorem eqOL_ok : ∀ {v w : List AObj}, eqOL v w = true → w = v
 | [], [], _ => rfl
 | x :: r, y :: q, h => by
  rw [eqOL, Bool.and_eq_true] at h
  rw [eqOB_ok h.1, eqOL_ok h.2]
 | [], _ :: _, h | _ :: _, [], h => by simp [eqOL] at h
noncomputable def rdOk (rd : Bool) (σ σ' : List AObj) : Bool := !rd || (eqOL σ σ' || @decide (σ' = σ) (Classical.propDecidable _))
theorem rdOk_f (σ σ' : List AObj) : rdOk false σ σ' = true := rfl
theorem rdOk_self (b : Bool) (σ : List AObj) : rdOk b σ σ = true := by unfold rdOk; simp
theorem rdOk_eq {σ σ' : List AObj} (h : rdOk true σ σ' = true) : σ' = σ := by
 unfold rdOk at h
 simp only [Bool.not_true, Bool.false_or, Bool.or_eq_true, decide_eq_true_eq] at h
 exact h.elim eqOL_ok id
def rmId : List AV → Option Nat
 | [] => none
 | .ms id _ _ _ _ :: _ => some id
 | .ptr id _ :: _ => some id
 | _ :: r => rmId r
def rmArg (id : Nat) : AV → Option AV
 | .p v => some (.p v)
 | .own k r => some (.own k r)
 | .ms id' g sz off len => if id' = id then some (.ms 0 g sz off len) else none
 | .ptr id' off => if id' = id then some (.ptr 0 off) else none
 | .nms _ sz => some (.p (.sl none sz []))
 | _ => none
def rmArgs (id : Nat) : List AV → Option (List AV)
 | [] => some []
 | v :: r => match rmArg id v, rmArgs id r with | some w, some l => some (w :: l) | _, _ => none
def ltO : Out → Bool
 | .ret v => ltV 0 v
 | .pan _ => false
noncomputable section
def rmEnd (s : S) (d : Option Nat) (ob : AObj) : Option (Out × List AObj) → Option Rs
 | some (o, σ1) => if rdOk true [ob] σ1 = true ∧ ltO o = true then some (endCall s d s.σ o) else none
 | none => none
def rmEnd0 (s : S) (d : Option Nat) : Option (Out × List AObj) → Option Rs
 | some (o, _) => if ltO o = true then some (endCall s d s.σ o) else none
 | none => none
def lookupN : List (Nat × Nat) → Nat → Option Nat
 | [], _ => none
 | (k, v) :: r, d => if k == d then some v else lookupN r d
def frOf (h : FH) : Option Nat → Option Nat
 | some d => lookupN h.fr d
 | none => none
def rmOb (rc : Bool) : AObj → Bool
 | .arr _ _ rows => ltR 0 rows
 | .cells cs => rc && ltL 0 cs
 | _ => false
def rmRun (rc : Bool) (C : CallF) (s : S) (d : Option Nat) (f : FuncId) (args : List AV) : Option Rs :=
 match rmId args with
 | some id => match rmArgs id args with
  | some args' => match s.σ[id]? with
   | some ob => if rmOb rc ob = true then rmEnd s d ob (C (.fn f) args' [ob]) else none
   | none => none
  | none => none
 | none => match rmArgs 0 args with
  | some args' => if pureArgs args' = true then rmEnd0 s d (C (.fn f) args' []) else none
  | none => none
def callV (c : Cx) (s : S) (d : Option Nat) (f : AV) (args : List AV) : Option Rs :=
 match f with
 | .p (.fn f) =>
  if (c.H f).pu then
   if pureArgs args then
    match c.C (.fn f) args [] with
    | some (o, _) => some (endCall s d s.σ o)
    | none => none
   else none
  else if (c.H f).rm then rmRun ((c.H f).rc && (frOf c.h d).isNone) c.C s d f args
  else match c.C (.fn f) args s.σ with
   | some (o, σ) => if rdOk (c.H f).rd s.σ σ = true then some (endCall s d σ o) else none
   | none => none
 | .fn f cap => match c.C (.fn f) (args ++ cap) s.σ with
  | some (o, σ) => some (endCall s d σ o)
  | none => none
 | .yld id => match c.C (.yld id) args s.σ with
  | some (o, σ) => some (endCall s d σ o)
  | none => none
 | _ => none
def pickTup (cs : AV) (i : Nat) : Option AV :=
 match cs with
 | .p (.tup vs) => match vs[i]? with | some v => some (.p v) | none => none
 | .tup vs => vs[i]?
 | _ => none
def stripTup (v : AV) (i : Nat) : AV :=
 match v with
 | .tup vs => match vs[i]? with | some x => .tup (vs.set i (copyV x)) | none => v
 | v => v
def nilK (T : Tab) (t : TypeId) : Option Nat :=
 match (T.at t).zero with
 | [.sl _ k _] => some k
 | _ => none
def allocN (T : Tab) (h : FH) (t : TypeId) (σ : List AObj) : Option Nat → Option Nat
 | some d => if h.nw.contains d = true then (match σ with
  | [] => none
  | _ :: _ => nilK T t) else none
 | none => none
def minI (x y : Int) : Int := if y < x then y else x
def maxI (x y : Int) : Int := if x < y then y else x
def asgN (T : Tab) (h : FH) (t : TypeId) (σ : List AObj) (x : Operand) : Option Nat → Option Nat
 | some d => match x with
  | .const (.slice none 0 0) => if h.nw.contains d = true then (if σ.isEmpty = true then none else (match (T.at t).d with
   | .sl e => some (T.at e).size
   | _ => none)) else none
  | _ => none
 | none => none
def frzV (base : Nat) (σ : List AObj) (v : AV) : Option (PV × List AObj) :=
 match v with
 | .ms id g _ off len => if base ≤ id then (match σ[id]? with
  | some (.arr g' sz rows) => if g == g' && decide (off + len ≤ rows.length) then (match allRows (copyR ((rows.drop off).take len)) with
   | some l => some (.sl none sz l, σ.set id .gone)
   | none => none) else none
  | _ => none) else none
 | _ => none
def frzR (d : Option Nat) (s : S) : Option (PV × List AObj) → Option Rs
 | some (p, σ) => some (.ok ({ s with σ := σ }.put d (.p p)))
 | none => none
def atK (k : Nat) : AV → Bool
 | .ptr _ off => off == k
 | _ => false
def oneCell (T : Tab) (t : TypeId) : Bool := (T.at t).d.agg? == some false && (T.at t).size == 1
def offAt (T : Tab) (t : TypeId) (a : AV) : Option Nat → Bool
 | some k => atK k a && oneCell T t
 | none => true
def loOf (h : FH) : Option Nat → Option Nat
 | some d => lookupN h.lo d
 | none => none
def soOf (h : FH) : Operand → Option Nat
 | .tmp t => lookupN h.so t
 | _ => none
def lmOf (h : FH) : Option Nat → Option Nat
 | some d => lookupN h.lm d
 | none => none
def frId (base k : Nat) : Nat := if k < 1000 then base + k else if k < 2000 then base - (k - 1000) else k - 2000
def lmAt (base : Nat) (a : AV) : Option Nat → Bool
 | some k => (match a with
  | .ptr id _ => id == frId base k
  | _ => false)
 | none => true
def frEnd (id : Nat) (ob : AObj) : Option (Out × List AObj) → Option (Out × List AObj)
 | some (o, σ) => (match σ[id]? with
  | some .hid => some (o, σ.set id ob)
  | _ => none)
 | none => none
def frC (id : Nat) (C : CallF) : CallF := fun cal args σ => match σ[id]? with
 | some (.cells cs) => frEnd id (.cells cs) (C cal args (σ.set id .hid))
 | _ => none
def frK (k : Option Nat) (base : Nat) (C : CallF) : CallF :=
 match k with
 | some k => frC (frId base k) C
 | none => C
def Cx.frm (c : Cx) (o : Oper) : Cx := { c with C := frK (frOf c.h o.dst) c.base c.C }
def offOk (c : Cx) (o : Oper) (s : S) : Bool :=
 match o.op with
 | .load t a => offAt c.T t (rd c.T s.env a) (loOf c.h o.dst) && lmAt c.base (rd c.T s.env a) (lmOf c.h o.dst)
 | .store t a _ => offAt c.T t (rd c.T s.env a) (soOf c.h a)
 | _ => true
def apB (h : FH) (d : Nat) : Bool := h.ap.contains d && !h.nw.contains d
def bytesR : List (List PV) → Option (List Int)
 | [] => some []
 | r :: rs => match r, bytesR rs with
  | [.lit (.int .u8 n)], some ns => some (n :: ns)
  | _, _ => none
def bytesV : AV → Option (List Int)
 | .p (.sl _ sz rows) => if sz = 1 then bytesR rows else none
 | .own sz rows => if sz = 1 then bytesR rows else none
 | _ => none
def strOf (ns : List Int) : ByteArray := ⟨(ns.map fun n => UInt8.ofNat n.toNat).toArray⟩
def arrN (T : Tab) (h : FH) (t : TypeId) : Option Nat → Option (TypeId × Nat)
 | some d => if h.nw.contains d = true then (match (T.at t).d with
  | .arr n e => some (e, n)
  | _ => none) else none
 | none => none
def chunk (sz n : Nat) (zs : List PV) : List (List AV) := (List.range n).map fun i => ((zs.drop (i * sz)).take sz).map AV.p
def nwO (h : FH) : Option Nat → Bool
 | some d => h.nw.contains d
 | none => false
def sliceE (T : Tab) (σ : List AObj) (t : TypeId) (x : AV) (lo hi : Nat → Option Nat) : Option AV :=
 match (T.at t).d, x with
 | .arr n e, .ep id g i j => (match σ[id]?, lo 0, hi n with
  | some (.arr g' sz rows), some l, some h => if g = g' ∧ j = 0 ∧ sz = (T.at e).size ∧ sizedOk T e = true ∧ i + n ≤ rows.length ∧ l ≤ h ∧ h ≤ n then some (.ms id g sz (i + l) (h - l)) else none
  | _, _, _ => none)
 | _, _ => none
def nmF : AV → AV
 | .nms _ sz => .p (.sl (some true) sz [])
 | v => v
def nmO (fz : Bool) : Option AV → Option AV
 | some v => some (if fz = true then nmF v else v)
 | none => none
theorem nmO_some {fz : Bool} {a : Option AV} {v : AV} (h : nmO fz a = some v) : ∃ v0, a = some v0 ∧ v = (if fz = true then nmF v0 else v0) := by
 cases a with
 | none => cases h
 | some v0 => injection h with h; exact ⟨v0, rfl, h.symm⟩
def keyOf : AV → Option (Option IntKind × Value)
 | .p (.lit (.int k n)) => some (some k, .int k n)
 | .p (.lit (.string b)) => some (none, .string b)
 | _ => none
def sameKey : Value → Value → Bool
 | .int _ a, .int _ b => a == b
 | .string a, .string b => a == b
 | _, _ => false
def findKV (k : Value) : List (Value × PV) → Option PV
 | [] => none
 | (k', v) :: r => if sameKey k k' = true then some v else findKV k r
def setKV (k : Value) (v : PV) : List (Value × PV) → List (Value × PV)
 | [] => [(k, v)]
 | (k', v') :: r => if sameKey k k' = true then (k, v) :: r else (k', v') :: setKV k v r
def mapTy (T : Tab) (t : TypeId) : Option (Option IntKind × TypeId) :=
 match (T.at t).d with
 | .map k e => (match (T.at k).d with
  | .int kd => some (some kd, e)
  | .str => some (none, e)
  | _ => none)
 | _ => none
def mapAt (σ : List AObj) (kt : Option IntKind) : AV → Option (List (Value × PV))
 | .p (.lit (.map none)) => some []
 | .mp id => (match σ[id]? with
  | some (.map kt' kvs) => if kt = kt' then some kvs else none
  | _ => none)
 | _ => none
def mapRes (ok : Bool) (z : PV) : Option PV → AV
 | some v => if ok = true then .p (.tup [v, .lit (.bool true)]) else .p v
 | none => if ok = true then .p (.tup [z, .lit (.bool false)]) else .p z
def lookupV (T : Tab) (σ : List AObj) (t : TypeId) (x i : AV) (ok : Bool) : Option AV :=
 match mapTy T t, keyOf i with
 | some (kt, e), some (kk, key) => if kt = kk ∧ zeroOk T e = true then (match mapAt σ kt x, pickPure T e (T.at e).zero with
  | some kvs, some z => some (mapRes ok z (findKV key kvs))
  | _, _ => none) else none
 | _, _ => none
def mapSet (T : Tab) (σ : List AObj) (t : TypeId) (m k : AV) (v : TypeId → AV) : Option (List AObj) :=
 match mapTy T t, keyOf k, m with
 | some (kt, e), some (kk, key), .mp id => if kt = kk then (match v e, σ[id]? with
  | .p v, some (.map kt' kvs) => if kt = kt' then some (σ.set id (.map kt (setKV key v kvs))) else none
  | _, _ => none) else none
 | _, _, _ => none
def assertV (T : Tab) (u : TypeId) (ok : Bool) : AV → Option AV
 | .p (.ifc t v) => if t = u ∧ ok = true ∧ (T.at u).d.conc = true then some (.p (.tup [v, .lit (.bool true)])) else none
 | _ => none
def stepOp0 (c : Cx) (o : Oper) (s : S) : Option Rs :=
 match o.op with
 | .move x =>
  match o.dst with
  | some d => if c.h.fz.contains d then frzR o.dst s (frzV c.base s.σ (rd c.T s.env x)) else if c.h.mv.contains d then some (.ok ((s.stripM c.h x).put o.dst (mvV c.T c.h s.env x))) else some (.ok (s.put o.dst (rdc c.T s.env x)))
  | none => none
 | .assign x => match asgN c.T c.h o.type s.σ x o.dst with
  | some k => some (.ok ({ s with σ := s.σ ++ [AObj.dead] }.put o.dst (.nms s.σ.length k)))
  | none => some (.ok ((s.stripM c.h x).put o.dst (nilF (fzO c.h o.dst) c.T o.type x (mvV c.T c.h s.env x))))
 | .pick cnd a b =>
  match rd c.T s.env cnd with
  | .p (.lit (.bool t)) => some (.ok (s.put o.dst (if t then rdc c.T s.env a else rdc c.T s.env b)))
  | _ => none
 | .binOp op t x y _ => putRes s o.dst (if nilC y = true then (if nilTy c.T t y = true ∧ nilAK (rd c.T s.env x) = nilCK y then nilCmp op (nilQ (rd c.T s.env x)) else none) else binA c.T t op (rd c.T s.env x) (rd c.T s.env y))
 | .unOp op _ x =>
  match op, rd c.T s.env x with
  | .not, .p (.lit (.bool b)) => some (.ok (s.put o.dst (.p (.lit (.bool !b)))))
  | .neg, .p (.lit (.int k n)) => some (.ok (s.put o.dst (.p (.lit (.int k (k.wrap (0 - n)))))))
  | .xor, .p (.lit (.int k n)) => some (.ok (s.put o.dst (.p (.lit (.int k (bXor k (if k.signed then -1 else k.max) n))))))
  | _, _ => none
 | .alloc t => if zeroOk c.T t then (match arrN c.T c.h t o.dst with
  | some (e, n) => if n * (c.T.at e).size ≤ (c.T.at t).zero.length then some (.ok ({ s with σ := s.σ ++ [AObj.arr 0 (c.T.at e).size (chunk (c.T.at e).size n (c.T.at t).zero)] }.put o.dst (.ep s.σ.length 0 0 0))) else none
  | none => match allocN c.T c.h t s.σ o.dst with
  | none => some (.ok ({ s with σ := s.σ ++ [AObj.cells ((c.T.at t).zero.map (zAF (fzO c.h o.dst)))] }.put o.dst (.ptr s.σ.length 0)))
  | some k => some (.ok ({ s with σ := s.σ ++ [AObj.dead, AObj.cells [.nms s.σ.length k]] }.put o.dst (.ptr (s.σ.length + 1) 0)))) else none
 | .box t x => if (cellsOf (mvV c.T c.h s.env x)).length = (c.T.at t).size ∧ storable (mvV c.T c.h s.env x) = true then
  some (.ok ({ s.stripM c.h x with σ := s.σ ++ [AObj.cells (cellsOf (mvV c.T c.h s.env x))] }.put o.dst (.ptr s.σ.length 0))) else none
 | .build t parts =>
  if buildOk c.T t = false then none else
  match fillV (placeOf c.T t) (parts.toList.map fun p => (p.1, rdB c.T s.env p.2)) ((c.T.at t).zero.map zA) with
  | some cs => some (.ok (s.put o.dst (mkAgg cs)))
  | none => none
 | .buildSlice t n parts =>
  match slOf c.T t with
  | some e =>
   match o.dst, fillR (c.T.at e).size (parts.toList.map fun p => (p.1, copyA (nilX c.T e p.2 (rdc c.T s.env p.2)))) (List.replicate n ((c.T.at e).zero.map AV.p)) with
   | some d, some rows =>
    if zeroOk c.T e = false then none else
    if n * (c.T.at e).size ≤ 16777216 then
     if c.h.nw.contains d then some (.ok ({ s with σ := s.σ ++ [AObj.arr 0 (c.T.at e).size rows] }.put o.dst (.ms s.σ.length 0 (c.T.at e).size 0 n)))
     else some (.ok (s.put o.dst (flV (c.h.fz.contains d) (mkOwn (c.T.at e).size rows))))
    else none
   | _, _ => none
  | none => none
 | .nilCheck x =>
  match rd c.T s.env x with
  | .p (.pp cs) => some (.ok (s.put o.dst (.p (.pp cs))))
  | .ptr id off => some (.ok (s.put o.dst (.ptr id off)))
  | .ep id g i j => some (.ok (s.put o.dst (.ep id g i j)))
  | .ap cs => some (.ok (s.put o.dst (.ap cs)))
  | .p (.fn f) => some (.ok (s.put o.dst (.p (.fn f))))
  | .fn f cap => some (.ok (s.put o.dst (.fn f cap)))
  | .yld i => some (.ok (s.put o.dst (.yld i)))
  | _ => none
 | .indexAddr t x i =>
  match rd c.T s.env i with
  | .p (.lit (.int _ i)) => putRes s o.dst (indexAddrV c.T t (rd c.T s.env x) i)
  | _ => none
 | .fieldAddr t x f =>
  match fieldOf c.T t f with
  | some (off, ft) => if sizedOk c.T ft then putRes s o.dst (fieldAddrV off (rd c.T s.env x)) else none
  | none => none
 | .field t x f =>
  match fieldOf c.T t f with
  | some (off, ft) => match rd c.T s.env x with
   | .p (.agg cs) => if off ≤ cs.length then (match pickPure c.T ft (cs.drop off) with | some v => some (.ok (s.put o.dst (.p v))) | none => none) else none
   | .agg cs => match pickAgg c.T ft cs off with | some v => some (.ok (s.put o.dst v)) | none => none
   | _ => none
  | none => none
 | .index t x i =>
  match rd c.T s.env i with
  | .p (.lit (.int _ i)) =>
   if 0 ≤ i then
    match rd c.T s.env x with
    | .p (.lit (.string b)) => match (c.T.at t).d with
     | TD.str => match b[i.toNat]? with | some u => some (.ok (s.put o.dst (.p (.lit (.int .u8 u.toNat))))) | none => none
     | _ => none
    | .p (.agg cs) => match (c.T.at t).d with
     | TD.arr n e => if i.toNat < n ∧ sizedOk c.T e = true then (match pickPure c.T e (cs.drop (i.toNat * (c.T.at e).size)) with | some v => some (.ok (s.put o.dst (.p v))) | none => none) else none
     | _ => none
    | _ => none
   else none
  | _ => none
 | .load t a =>
  match loadV c.T s.σ t (rd c.T s.env a) with
  | some v => match o.dst with
   | some d =>
    if c.h.mv.contains d && (c.T.at t).d.agg? == some false then
     match readAt s.σ (rd c.T s.env a) with
     | some (cs, off) => some (.ok ({ s with σ := writeAt s.σ (rd c.T s.env a) (setCells cs off [copyV v]) }.put o.dst v))
     | none => some (.ok (s.put o.dst (copyA v)))
    else some (.ok (s.put o.dst (copyA v)))
   | none => none
  | none => none
 | .store t a x =>
  match readAt s.σ (rd c.T s.env a) with
  | some (cs, off) =>
   if (c.T.at t).d.agg?.isSome && storable (mvV c.T c.h s.env x) && decide (off + (cellsOf (mvV c.T c.h s.env x)).length ≤ cs.length) && (decide ((cellsOf (mvV c.T c.h s.env x)).length = (c.T.at t).size)) && (decide (idOf (rd c.T s.env a) ≥ c.base) || ltV (idOf (rd c.T s.env a) + 1) (mvV c.T c.h s.env x)) then
    some (.ok { s.stripM c.h x with σ := writeAt s.σ (rd c.T s.env a) (setCells cs off (cellsOf (mvV c.T c.h s.env x))) })
   else none
  | none => none
 | .slice t x lo hi mx =>
  if nwO c.h o.dst = true then (match mx with
   | none => putRes s o.dst (sliceE c.T s.σ t (rd c.T s.env x) (fun d => bnd c.T s.env d lo) (fun d => bnd c.T s.env d hi))
   | some _ => none) else
  if sliceOk c.T t (rd c.T s.env x) = false then none else
  match lenOf (rd c.T s.env x) with
  | some n => match bnd c.T s.env 0 lo, bnd c.T s.env n hi, mx with
   | some l, some h, none => putRes s o.dst (nmO (fzO c.h o.dst) (sliceV (rd c.T s.env x) l h))
   | some l, some h, some m => match bnd c.T s.env 0 (some m) with
    | some m' => if m' = h ∧ hi.isSome = true ∧ isLit (rd c.T s.env x) = false then (match sliceV (rdc c.T s.env x) l h with
     | some v => some (.ok (s.put o.dst (fullV v)))
     | none => none) else none
    | none => none
   | _, _, _ => none
  | none => none
 | .convert src dst x =>
  match (c.T.at src).d, (c.T.at dst).d, rd c.T s.env x with
  | TD.int _, TD.int k, .p (.lit (.int _ n)) => some (.ok (s.put o.dst (.p (.lit (.int k (k.wrap n))))))
  | TD.str, TD.str, .p (.lit (.string b)) => some (.ok (s.put o.dst (.p (.lit (.string b)))))
  | TD.sl e, TD.str, v => (match (c.T.at e).d, bytesV v with
   | TD.int .u8, some ns => some (.ok (s.put o.dst (.p (.lit (.string (strOf ns))))))
   | _, _ => none)
  | _, _, _ => none
 | .extract x i =>
  match pickTup (rd c.T s.env x) i, x with
  | some v, .tmp t => if shOf c.h x = true then some (.ok (s.put o.dst (copyA v))) else match rd c.T s.env x with
   | .p _ => some (.ok (s.put o.dst v))
   | tv => some (.ok ({ s with env := (t, stripTup tv i) :: s.env }.put o.dst v))
  | _, _ => none
 | .makeFunc (.func f) first caps =>
  if first.isEmpty then
   match caps.toList with
   | [] => some (.ok (s.put o.dst (.p (.fn f))))
   | cs => some (.ok (s.put o.dst (.fn f (cs.map (fun x => rdc c.T s.env x)))))
  else none
 | .typeAssert x _ u ok => putRes s o.dst (assertV c.T u ok (rdc c.T s.env x))
 | .makeInterface t x => if (c.T.at t).d.conc = false then none else match rdc c.T s.env x with
  | .p v => some (.ok (s.put o.dst (.p (.ifc t v))))
  | v => some (.ok (s.put o.dst (.ifc t v)))
 | .makeSlice t l k =>
  match slOf c.T t with
  | some e =>
   match rd c.T s.env l, rd c.T s.env k, o.dst with
   | .p (.lit (.int _ n)), .p (.lit (.int _ m)), some d =>
    if 0 ≤ n ∧ n ≤ m ∧ boundOk m.toNat (c.T.at e).bytes ∧ zeroOk c.T e then
     if c.h.nw.contains d then
      some (.ok ({ s with σ := s.σ ++ [AObj.arr 0 (c.T.at e).size (List.replicate n.toNat ((c.T.at e).zero.map (zAF (c.h.fz.contains d))))] }.put o.dst (.ms s.σ.length 0 (c.T.at e).size 0 n.toNat)))
     else some (.ok (s.put o.dst (.own (c.T.at e).size (List.replicate n.toNat (c.T.at e).zero))))
    else none
   | _, _, _ => none
  | none => none
 | .panic x => match rdc c.T s.env x with
  | .p (.ifc t v) => some (.pan (.ifc t v) s)
  | _ => none
 | .makeMap t r =>
  match mapTy c.T t, r with
  | some (kt, _), none => some (.ok ({ s with σ := s.σ ++ [AObj.map kt []] }.put o.dst (.mp s.σ.length)))
  | _, _ => none
 | .lookup t x i ok => putRes s o.dst (lookupV c.T s.σ t (rd c.T s.env x) (rd c.T s.env i) ok)
 | .mapUpdate t m k x =>
  match mapSet c.T s.σ t (rd c.T s.env m) (rd c.T s.env k) (fun e => nilX c.T e x (rdc c.T s.env x)) with
  | some σ => some (.ok { s with σ := σ })
  | none => none
 | .call cl =>
  match cl.callee with
  | .value f => callV c { s with env := stripsM c.h s.env cl.args.toList } o.dst (rd c.T s.env f) (nilTs c.T (opOf c.H (rd c.T s.env f)) 0 cl.argTypes.toList cl.args.toList (argsV c.T c.h s.env cl.args.toList))
  | .builtin .len => match cl.args.toList, cl.argTypes.toList with
   | [x], t :: _ => match lenOf (rd c.T s.env x) with
    | some n => if lenOk c.T t (rd c.T s.env x) = true then some (.ok (s.put o.dst (.p (.lit (.int .i64 n))))) else none
    | none => none
   | _, _ => none
  | .builtin .append =>
   match cl.args.toList, cl.argTypes.toList, o.dst with
   | [x, y], [t, t'], some d =>
    match slOf c.T t with
    | some e =>
     if appOk c.T t' (rdc c.T s.env y) && zeroOk c.T e then
      match appendV c.base (if apB c.h d = true then [] else s.σ) (c.h.nw.contains d) (c.T.at e).size (c.T.at e).bytes (mvV c.T c.h s.env x) (rdc c.T s.env y) with
      | some (v, σ) => some (.ok ({ s.stripM c.h x with σ := if apB c.h d = true then s.σ else σ }.put o.dst v))
      | none => none
     else none
    | none => none
   | _, _, _ => none
  | .builtin .copy =>
   match cl.args.toList, cl.argTypes.toList with
   | [x, y], [t, t'] =>
    match slOf c.T t, slOf c.T t' with
    | some e, some _ =>
     if zeroOk c.T e = true then
      match copyS s.σ (c.T.at e).size (rd c.T s.env x) (rdc c.T s.env y) with
      | some (n, σ) => some (.ok ({ s with σ := σ }.put o.dst (.p (.lit (.int .i64 n)))))
      | none => none
     else none
    | _, _ => none
   | _, _ => none
  | .builtin .min => match cl.args.toList.map (rd c.T s.env) with
   | [.p (.lit (.int k x)), .p (.lit (.int _ y))] => some (.ok (s.put o.dst (.p (.lit (.int k (minI x y))))))
   | _ => none
  | .builtin .max => match cl.args.toList.map (rd c.T s.env) with
   | [.p (.lit (.int k x)), .p (.lit (.int _ y))] => some (.ok (s.put o.dst (.p (.lit (.int k (maxI x y))))))
   | _ => none
  | _ => none
 | _ => none
def stepOp (c : Cx) (o : Oper) (s : S) : Option Rs := if offOk c o s = true then stepOp0 (c.frm o) o s else none
def udV : AV := .p (.tup [])
def guardOf (ops : List Oper) (env : Env) (o : Oper) : Option (Option (Nat × Option Bool × Bool)) :=
 match o.guard with
 | none => some none
 | some (j, want) => match ops[j]? with
  | some oj => match oj.dst with
   | some d => match get env d with
    | .p (.lit (.bool b)) => some (some (d, some b, want))
    | .p (.tup []) => some (some (d, none, want))
    | _ => none
   | none => none
  | none => none
def gv : Option Bool → Bool → AV
 | some _, w => .p (.lit (.bool !w))
 | none, _ => udV
def thenR (K : S → Option Rs) : Option Rs → Option Rs
 | some (.ok s) => K s
 | r => r
def stepOps (c : Cx) (all : List Oper) : List Oper → S → Option Rs
 | [], s => some (.ok s)
 | o :: os, s =>
  match guardOf all s.env o with
  | none => none
  | some none => thenR (stepOps c all os) (stepOp c o s)
  | some (some (d, b, want)) =>
   if b = some want then thenR (stepOps c all os) (stepOp c o (s.put (some d) (.p (.lit (.bool want)))))
   else stepOps c all os ((s.put (some d) (gv b want)).put o.dst udV)
inductive Ex where
 | normal | exit (id : Nat) | ret | pan (v : PV)
def lookupL : List (Nat × List Nat) → Nat → Option (List Nat)
 | [], _ => none
 | (k, l) :: r, b => if k == b then some l else lookupL r b
def maskEnv (env : Env) (l : List Nat) : Env := l.map fun t => (t, get env t)
def S.mask (s : S) : Option (List Nat) → S
 | some l => { s with env := maskEnv s.env l }
 | none => s
def ltEnv (n : Nat) : Env → Bool
 | [] => true
 | (_, v) :: r => ltV n v && ltEnv n r
def copyEnv : Env → Env
 | [] => []
 | (k, v) :: r => (k, copyA v) :: copyEnv r
def pur (base : Nat) (σ : List AObj) : Nat → AV → Option PV
 | 0, _ => none
 | k + 1, v =>
  match v with
  | .p v => some v
  | .nms _ sz => some (.sl none sz [])
  | .own sz rows => some (.sl none sz rows)
  | .agg cs => match cs.mapM (pur base σ k) with | some l => some (.agg l) | none => none
  | .asl _ sz rows => match rows.mapM (fun r => r.mapM (pur base σ k)) with | some l => some (.sl none sz l) | none => none
  | .ap cs => match cs.mapM (pur base σ k) with | some l => some (.pp l) | none => none
  | .ifc t v => match pur base σ k v with | some v => some (.ifc t v) | none => none
  | .ptr id off => if base ≤ id then (match σ[id]? with
   | some (.cells cs) => match cs.mapM (pur base σ k) with | some l => some (.pp (l.drop off)) | none => none
   | _ => none) else none
  | .ms id g _ off len => if base ≤ id then (match σ[id]? with
   | some (.arr g' sz rows) => if g == g' && decide (off + len ≤ rows.length) then
    (match ((rows.drop off).take len).mapM (fun r => r.mapM (pur base σ k)) with | some l => some (.sl none sz l) | none => none) else none
   | _ => none) else none
  | _ => none
def retC (base : Nat) (σ : List AObj) (v : AV) : Option AV :=
 if ltV base v then some v
 else match pur base σ 6 v with
  | some v => some (.p v)
  | none => none
def retL (base : Nat) (σ : List AObj) : List AV → Option (List AV)
 | [] => some []
 | v :: r => match retC base σ v, retL base σ r with | some v, some l => some (v :: l) | _, _ => none
def retV (base : Nat) (σ : List AObj) (v : AV) : Option AV :=
 match v with
 | .tup cs => match retL base σ cs with | some l => some (mkTup l) | none => none
 | v => retC base σ v
def copyAs : List AV → List AV
 | [] => []
 | v :: r => copyA v :: copyAs r
def resOf (T : Tab) (s : S) : ResultVar → Option AV
 | .tmp t => some (get s.env t)
 | .cell a t => match loadV T s.σ t (get s.env a) with | some v => some (copyA v) | none => none
def resL (T : Tab) (s : S) : List ResultVar → Option (List AV)
 | [] => some []
 | r :: l => match resOf T s r, resL T s l with | some v, some vs => some (v :: vs) | _, _ => none
def resultsOf (T : Tab) (s : S) (l : List ResultVar) : Option AV :=
 match l with
 | [r] => resOf T s r
 | l => match resL T s l with | some vs => some (mkTup (copyAs vs)) | none => none
def envOf : Nat → List AV → Env
 | _, [] => []
 | i, v :: r => (i, v) :: envOf (i + 1) r
def finN (h : FH) (base : Nat) (s : S) : Nat := if (h.esc && !h.pu) = true then s.σ.length else base
def roV (h : FH) (v : AV) : AV := if h.ro = true then v else copyA v
def finish (T : Tab) (h : FH) (base : Nat) (rs : List ResultVar) (s : S) : Option (Out × List AObj) :=
 match resultsOf T s rs with
 | some v => match retV (finN h base s) s.σ (roV h v) with
  | some v => some (.ret v, s.σ.take (finN h base s))
  | none => none
 | none => none
abbrev EvT := FuncId → Nat → Nat → Code → S → Option (Ex × S)
abbrev BodyT := Cal → List AV → List AObj → Option PV → Option (Out × List AObj × Bool)
abbrev DfsT := Option PV → S → Option (Option PV × S)
inductive DR where
 | no | bad
 | cut (id : Nat)
def drOf (h : FH) (base id : Nat) (d : Bool) : DR := if d = true then (match lookupN h.dp id with
 | some k => .cut (frId base k)
 | none => .bad) else .no
def exPan (v : PV) (s : S) : DR → Option (Ex × S)
 | .no => some (.pan v, s)
 | .bad => none
 | .cut n => some (.pan v, { s with env := [], σ := s.σ.set n .hid })
def exOf (draw : DR) : Option Rs → Option (Ex × S)
 | some (.ok s) => some (.normal, s)
 | some (.pan v s) => exPan v s draw
 | none => none
def thenS (K : S → Option (Ex × S)) : Option (Ex × S) → Option (Ex × S)
 | some (.normal, s) => K s
 | r => r
def blockEx (id : Nat) (outs : Option (List Nat)) : Option (Ex × S) → Option (Ex × S)
 | some (.exit i, s) => if i = id then some (.normal, s.mask outs) else some (.exit i, s)
 | some (.normal, s) => some (.normal, s.mask outs)
 | r => r
def cutS (blk : Nat) (outs : Option (List Nat)) (n i : Nat) (s : S) : S :=
 if i = blk then (match outs with
  | some o => if ltEnv n (maskEnv s.env o) = true then { s with env := maskEnv s.env o, σ := s.σ.take n } else s
  | none => s) else s
def cutX (blk : Nat) (outs : Option (List Nat)) (n : Nat) : Option (Ex × S) → Option (Ex × S)
 | some (.exit i, s) => some (.exit i, cutS blk outs n i s)
 | r => r
def roundEnd (n : Nat) (live : List Nat) (s : S) : Option S :=
 if ltEnv n (maskEnv s.env live) then some { s with env := maskEnv s.env live, σ := s.σ.take n } else none
def rangeEnd (n : Nat) : Option Rs → Option (Ex × S)
 | some (.ok s') => match s'.σ[n]? with
  | some (.loop st pend _ _ _ _ _ _) =>
   if st = 1 then none else
   match pend with
   | none => some (.normal, { s' with σ := s'.σ.take n })
   | some (.exit id) => some (.exit id, { s' with σ := s'.σ.take n })
   | some .ret => some (.ret, { s' with σ := s'.σ.take n })
   | _ => none
  | _ => none
 | some (.pan _ _) => none
 | none => none
def isYld : AV → Bool
 | .yld _ => true
 | _ => false
def evF (T : Tab) (H : FuncId → FH) (E : EvT) (C : CallF) (fi : FuncId) (base blk : Nat) (c : Code) (s : S) : Option (Ex × S) :=
 match c with
 | .skip => some (.normal, s)
 | .region id ops d => exOf (drOf (H fi) base id d) (stepOps ⟨T, H, C, H fi, base⟩ ops.toList ops.toList s)
 | .seq a b => thenS (E fi base blk b) (E fi base blk a s)
 | .cond c a b =>
  match rd T s.env c with
  | .p (.lit (.bool t)) => if t = true then E fi base blk a s else E fi base blk b s
  | _ => none
 | .block id c => blockEx id (lookupL (H fi).outs id) (E fi base id c s)
 | .loop c =>
  match lookupL (H fi).heads blk with
  | some live => thenS (fun s' => (roundEnd s.σ.length live s').bind (E fi base blk (.loop c))) (cutX blk (lookupL (H fi).outs blk) s.σ.length (E fi s.σ.length blk c (s.mask (some live))))
  | none => thenS (E fi base blk (.loop c)) (E fi base blk c s)
 | .exit id => some (.exit id, s)
 | .ret => some (.ret, s)
 | .scope c => E fi base blk c s
 | .label _ => some (.normal, s)
 | .rangeFunc f params assign body =>
  if isYld (rd T s.env f) = true then none else rangeEnd s.σ.length (callV ⟨T, H, C, H fi, base⟩ { s with σ := s.σ ++ [AObj.loop 0 none (H fi).nt fi (copyEnv s.env) params.toList assign body] } none (rd T s.env f) [.yld s.σ.length])
 | _ => none
def hands (h : FH) (x : Operand) : List Nat :=
 if shOf h x = true then [] else match x with
  | .tmp t => [t]
  | _ => []
def wOf (h : FH) (o : Oper) : List Nat :=
 match o.op with
 | .store _ _ x => hands h x
 | .mapUpdate .. => []
 | .move x => o.dst.toList ++ hands h x
 | .assign x => o.dst.toList ++ hands h x
 | .box _ x => o.dst.toList ++ hands h x
 | .extract (.tmp t) _ => o.dst.toList ++ (if shOf h (.tmp t) = true then [] else [t])
 | .call cl => o.dst.toList ++ (match cl.callee with
  | .builtin .append => (match cl.args.toList with
   | x :: _ => hands h x
   | [] => [])
  | .value _ => cl.args.toList.flatMap (hands h)
  | _ => [])
 | _ => o.dst.toList
def clsP (H : FuncId → FH) (h : FH) (o : Oper) : Bool :=
 match o.op with
 | .move _ => !fzO h o.dst
 | .assign _ => !nwO h o.dst
 | .pick .. | .binOp .. | .unOp .. | .nilCheck _ | .indexAddr .. | .fieldAddr .. | .field .. | .index .. | .convert .. | .makeInterface .. | .makeFunc .. | .build .. | .extract .. => true
 | .slice .. => !nwO h o.dst
 | .buildSlice .. | .makeSlice .. => (match o.dst with | some d => !h.nw.contains d | none => false)
 | .call cl => (match cl.callee with
  | .value (.func f) => (H f).pu
  | .builtin .len | .builtin .min | .builtin .max => true
  | .builtin .append => (match o.dst with | some d => apB h d | none => false)
  | _ => false)
 | _ => false
def clsR (h : FH) (o : Oper) : Bool :=
 match o.op with
 | .load .. => (match o.dst with | some d => !h.mv.contains d | none => true)
 | .lookup .. => true
 | .call cl => (match cl.callee with
  | .builtin .append => (match o.dst with | some d => !h.nw.contains d && !apB h d | none => false)
  | _ => false)
 | _ => false
def clsRm (H : FuncId → FH) (o : Oper) : Bool :=
 match o.op with
 | .call cl => (match cl.callee with
  | .value (.func f) => (H f).rm && !(H f).pu && !(H f).rc
  | _ => false)
 | _ => false
def clsRc (H : FuncId → FH) (o : Oper) : Bool :=
 match o.op with
 | .call cl => (match cl.callee with
  | .value (.func f) => (H f).rm && !(H f).pu
  | _ => false)
 | _ => false
def clsL (h : FH) (o : Oper) : Bool :=
 match o.op with
 | .load .. => (match o.dst with | some d => !h.mv.contains d | none => true)
 | _ => false
def clsM (H : FuncId → FH) (o : Oper) : Bool :=
 match o.op with
 | .load .. => true
 | .call cl => (match cl.callee with
  | .value (.func f) => (H f).rd && !(H f).pu && !(H f).rm
  | _ => false)
 | _ => false
def clsN (h : FH) (o : Oper) : Bool :=
 match o.op with
 | .box .. => true
 | .makeMap .. => true
 | .alloc _ => (match o.dst with | some d => !h.nw.contains d | none => true)
 | .buildSlice .. | .makeSlice .. => (match o.dst with | some d => h.nw.contains d | none => false)
 | _ => false
def rOf (o : Oper) : List Nat := o.op.operands.toList.filterMap fun | .tmp t => some t | _ => none
def pairB (Px Rx Lx Mx : Bool) (rx wx : List Nat) (Py Ry Ny Ly My : Bool) (ry wy : List Nat) : Bool :=
 (Px || Py || (Rx && (Ry || Ny)) || (Lx && My) || (Mx && Ly)) && wx.all (fun t => !ry.contains t && !wy.contains t) && wy.all (fun t => !rx.contains t)
def gOf (all : List Oper) (o : Oper) : List Nat :=
 match o.guard with
 | none => []
 | some (j, _) => match all[j]? with
  | some oj => oj.dst.toList
  | none => []
def clsO (h : FH) (o : Oper) : Option Nat :=
 match o.op, o.guard with
 | .load _ _, none => (match o.dst with
  | some d => if h.mv.contains d then none else lookupN h.lo d
  | none => none)
 | _, _ => none
def clsS (h : FH) (o : Oper) : Option Nat :=
 match o.op, o.guard with
 | .store _ a _, none => soOf h a
 | _, _ => none
def osK : Option Nat → Option Nat → Bool
 | some k, some k' => k != k'
 | _, _ => false
def disB (rx wx ry wy : List Nat) : Bool := wx.all (fun t => !ry.contains t && !wy.contains t) && wy.all (fun t => !rx.contains t)
def clsK (h : FH) (o : Oper) : Option Nat :=
 match o.op, o.guard with
 | .load _ _, none => lmOf h o.dst
 | _, _ => none
def clsF (h : FH) (o : Oper) : Option Nat :=
 match o.op, o.guard with
 | .call cl, none => (match cl.callee with
  | .value _ => frOf h o.dst
  | _ => none)
 | _, _ => none
def clsC (h : FH) (o : Oper) : Option (Nat × Nat) :=
 match o.op, o.guard with
 | .load _ _, none => (match lmOf h o.dst, loOf h o.dst with
  | some k, some off => some (k, off)
  | _, _ => none)
 | _, _ => none
def ccK : Option (Nat × Nat) → Option (Nat × Nat) → Bool
 | some (k, o), some (k', o') => k == k' && o != o'
 | _, _ => false
def clsZ (h : FH) (o : Oper) : Bool :=
 match o.op, o.guard with
 | .move _, none => fzO h o.dst
 | _, _ => false
def zkK : Bool → Option Nat → Bool
 | true, some _ => true
 | _, _ => false
def fkK : Option Nat → Option Nat → Bool
 | some k, some k' => k == k'
 | _, _ => false
def pairG (c : Cx) (all : List Oper) (x y : Oper) : Bool :=
 (osK (clsO c.h x) (clsS c.h y) || osK (clsO c.h y) (clsS c.h x)) && disB (rOf x) (wOf c.h x) (rOf y) (wOf c.h y) ||
 (zkK (clsRm c.H x) (clsK c.h y) || zkK (clsRm c.H y) (clsK c.h x)) && disB (gOf all x ++ rOf x) (wOf c.h x) (gOf all y ++ rOf y) (wOf c.h y) ||
 (zkK (clsZ c.h x) (clsK c.h y) || zkK (clsZ c.h y) (clsK c.h x)) && disB (rOf x) (wOf c.h x) (rOf y) (wOf c.h y) ||
 ccK (clsC c.h x) (clsC c.h y) && disB (rOf x) (wOf c.h x) (rOf y) (wOf c.h y) ||
 (fkK (clsF c.h x) (clsK c.h y) || fkK (clsF c.h y) (clsK c.h x)) && disB (rOf x) (wOf c.h x) (rOf y) (wOf c.h y) ||
 pairB (clsP c.H c.h x) (clsR c.h x || clsRc c.H x) (clsL c.h x) (clsM c.H x) (gOf all x ++ rOf x) (wOf c.h x) (clsP c.H c.h y) (clsR c.h y || clsRc c.H y) (clsN c.h y) (clsL c.h y) (clsM c.H y) (gOf all y ++ rOf y) (wOf c.h y)
def ancB (ops : Array Oper) : Nat → Nat → Nat → Bool
 | 0, _, _ => false
 | n + 1, i, j => match ops[j]? with
  | some y => y.after.toList.any fun e => Region.binds .any e && (e.on == i || ancB ops n i e.on)
  | none => false
def cxOf (H : FuncId → FH) (h : FH) : Cx := ⟨⟨[], []⟩, H, fun _ _ _ => none, h, 0⟩
def drawOkB (H : FuncId → FH) (h : FH) (ops : Array Oper) : Bool :=
 ops.toList.all (fun o => match o.dst with | none => true | some d => (wOf h o).contains d) &&
 (List.range ops.size).all (fun j => match ops[j]? with
  | none => true
  | some y => y.after.toList.all (fun e => !Region.binds .any e || decide (e.on < j)) &&
   (List.range j).all (fun i => match ops[i]? with
    | none => true
    | some x => pairG (cxOf H h) ops.toList x y || ancB ops ops.size i j))
def canPan (o : Oper) : Bool :=
 match o.op with
 | .call cl => (match cl.callee with
  | .value _ => true
  | _ => false)
 | .panic _ => true
 | _ => false
def panOkB (H : FuncId → FH) (h : FH) (ops : Array Oper) (k : Nat) : Bool :=
 (List.range ops.size).any fun i => match ops[i]? with
  | none => false
  | some x => clsF h x == some k && (List.range ops.size).all fun j => match ops[j]? with
   | none => true
   | some y => j == i || (!canPan y && y.guard.isNone && (if i < j then ancB ops ops.size i j else (ancB ops ops.size j i || ((fkK (some k) (clsK h y) || clsP H h y) && (wOf h y).all fun t => !(rOf x).contains t))))
def xOk (N : Nat) : Operand → Bool
 | .tmp t => decide (t < N)
 | _ => true
def opOk (N : Nat) (o : Oper) : Bool :=
 (match o.dst with | some d => decide (d < N) | none => true) &&
 (match o.guard with | some _ => true | none => true) &&
 (match o.op with
  | .box _ x => (match o.dst, x with | some d, .tmp t => d != t | _, _ => true)
  | .store _ _ _ => o.dst.isNone
  | .mapUpdate _ _ _ _ => o.dst.isNone
  | .extract _ _ => o.dst.isSome
  | .call cl => (match cl.callee with
   | .value _ => cl.args.toList.all (xOk N) && o.dst.isSome
   | _ => true)
  | _ => true)
def codeOk (H : FuncId → FH) (h : FH) (N : Nat) : Code → Bool
 | .region id ops d => ops.toList.all (opOk N) && (!d || (drawOkB H h ops && (match lookupN h.dp id with
  | none => true
  | some k => panOkB H h ops k)))
 | .seq a b => codeOk H h N a && codeOk H h N b
 | .cond _ a b => codeOk H h N a && codeOk H h N b
 | .block _ c => codeOk H h N c
 | .loop c => codeOk H h N c
 | .scope c => codeOk H h N c
 | .rangeFunc _ _ a b => decide (h.nt ≤ N) && codeOk H h N a && codeOk H h N b
 | _ => true
def yldOk (H : FuncId → FH) (f : FuncId) (nt : Nat) (ps : List Nat) (a b : Code) : Bool :=
 codeOk H (H f) nt a && codeOk H (H f) nt b && ps.all (fun t => decide (t < nt)) && decide ps.Nodup
def setSt (old : Nat) (σ : List AObj) (id st : Nat) (pend : Option (Option Code)) : Option (List AObj) :=
 match σ[id]? with
 | some (.loop st0 p nt f env ps a b) => if st0 = old then some (σ.set id (.loop st (pend.getD p) nt f env ps a b)) else none
 | _ => none
def yldRet (n : Nat) (b : Bool) : Option (List AObj) → Option (Out × List AObj × Bool)
 | some σ => some (.ret (.p (.lit (.bool b))), σ.take n, false)
 | none => none
def endYield (id n : Nat) : Ex × S → Option (Out × List AObj × Bool)
 | (.normal, s) => yldRet n true (setSt 1 s.σ id 0 (some none))
 | (.exit i, s) => yldRet n false (setSt 1 s.σ id 2 (some (some (.exit i))))
 | (.ret, s) => yldRet n false (setSt 1 s.σ id 2 (some (some .ret)))
 | (.pan _, _) => none
def yldBody (E : EvT) (id n : Nat) (f : FuncId) (body : Code) : Ex × S → Option (Out × List AObj × Bool)
 | (.normal, s) => match setSt 0 s.σ id 1 none with
  | some σ1 => (E f n 0 body { s with σ := σ1 }).bind (endYield id n)
  | none => none
 | _ => none
def endBody (T : Tab) (h : FH) (base : Nat) (rs : List ResultVar) : Option (Option PV × S) → Option (Out × List AObj × Bool)
 | some (none, s) => match finish T h base rs s with
  | some (o, σ') => some (o, σ', s.rcv)
  | none => none
 | some (some v, s) => some (.pan v, s.σ.take base, s.rcv)
 | none => none
def panOf : Ex × S → Option (Option PV × S)
 | (.normal, s) | (.ret, s) => some (none, s)
 | (.pan v, s) => some (some v, s)
 | _ => none
def noRF : Code → Bool
 | .seq a b => noRF a && noRF b
 | .cond _ a b => noRF a && noRF b
 | .block _ c => noRF c
 | .loop c => noRF c
 | .scope c => noRF c
 | .rangeFunc .. => false
 | _ => true
def splitD : Code → Option (Code × List Oper × Call × Code)
 | .seq a (.seq (.region _ ops false) b) => match ops.toList with
  | [o] => match o.op, o.dst, o.guard with
   | .defer cl, none, none => some (a, [o], cl, b)
   | _, _, _ => none
  | _ => none
 | _ => none
def fnArgs (T : Tab) (env : Env) (cl : Call) : Option (FuncId × List AV) :=
 match cl.callee with
 | .value f => match rd T env f with
  | .p (.fn g) => some (g, cl.args.toList.map (fun x => rdc T env x))
  | .fn g cap => some (g, cl.args.toList.map (fun x => rdc T env x) ++ cap)
  | _ => none
 | _ => none
def splitR : Code → Option (Nat × Code)
 | .seq (.region _ ops false) b => match ops.toList with
  | [o] => match o.op, o.dst, o.guard with
   | .call cl, some d, none => match cl.callee with
    | .builtin .recover => some (d, b)
    | _ => none
   | _, _, _ => none
  | _ => none
 | _ => none
def pvA : Option PV → AV
 | none => .p (.lit .nilIface)
 | some v => .p v
def guardEnd (n : Nat) : Ex × S → Option (List AObj)
 | (.normal, s) | (.ret, s) => some (s.σ.take n)
 | _ => none
def guardF (P : Program) (H : FuncId → FH) (E : EvT) (g : FuncId) (args : List AV) (σ : List AObj) (pv : Option PV) : Option (List AObj) :=
 match P.funcs[g]? with
 | some fn => match fn.body with
  | some c => match splitR c with
   | some (d, b) => if (H g).ok = true ∧ (H g).df = false ∧ fn.results.toList = [] ∧ d < fn.ntmps ∧ args.length ≤ d ∧ noRF b = true then (E g σ.length 0 b { env := (d, pvA pv) :: envOf 0 args, σ := σ }).bind (guardEnd σ.length) else none
   | none => none
  | none => none
 | none => none
def endD (P : Program) (T : Tab) (H : FuncId → FH) (E : EvT) (f : FuncId) (rs : List ResultVar) (base : Nat) (g : FuncId) (args : List AV) : Ex × S → Option (Out × List AObj)
 | (.normal, s) | (.ret, s) => (guardF P H E g args s.σ none).bind fun σ => finish T (H f) base rs { s with σ := σ }
 | (.pan v, s) => (guardF P H E g args s.σ (some v)).bind fun σ => finish T (H f) base rs { s with σ := σ }
 | _ => none
def deferD (P : Program) (T : Tab) (H : FuncId → FH) (E : EvT) (f : FuncId) (rs : List ResultVar) (base : Nat) (cl : Call) (b : Code) : Ex × S → Option (Out × List AObj)
 | (.normal, s) => (fnArgs T s.env cl).bind fun q => (E f base 0 b s).bind (endD P T H E f rs base q.1 q.2)
 | _ => none
def preD (T : Tab) (H : FuncId → FH) (f : FuncId) (base : Nat) (all : List Oper) : Ex × S → Option (Ex × S)
 | (.normal, s) => exOf .no (stepOps ⟨T, H, fun _ _ _ => none, H f, base⟩ all all.dropLast s)
 | _ => none
def retO (σ : Option (Out × List AObj)) : Option (Out × List AObj × Bool) := σ.map fun q => (q.1, q.2, false)
def bodyD (P : Program) (T : Tab) (H : FuncId → FH) (E : EvT) (f : FuncId) (rs : List ResultVar) (c : Code) (args : List AV) (σ : List AObj) : Option (Out × List AObj × Bool) :=
 match splitD c with
 | some (a, all, cl, b) => retO ((E f σ.length 0 a { env := envOf 0 args, σ := σ }).bind fun r => (preD T H f σ.length all r).bind (deferD P T H E f rs σ.length cl b))
 | none => none
def bodyC (P : Program) (T : Tab) (H : FuncId → FH) (E : EvT) (D : DfsT) (f : FuncId) (args : List AV) (σ : List AObj) (pv : Option PV) : Option (Out × List AObj × Bool) :=
 match P.funcs[f]? with
 | some fn =>
  match fn.body with
  | some c => if (H f).ok = false then none else if (H f).df = true then bodyD P T H E f fn.results.toList c args σ else (E f σ.length 0 c { env := envOf 0 args, σ := σ, pv := pv }).bind fun r => (panOf r).bind fun q => endBody T (H f) σ.length fn.results.toList (D q.1 q.2)
  | none => none
 | none => none
def primO (σ : List AObj) : Option AV → Option (Out × List AObj × Bool)
 | some v => if ltV 0 v = true then some (.ret v, σ, false) else none
 | none => none
def bodyF (P : Program) (T : Tab) (H : FuncId → FH) (E : EvT) (D : DfsT) (cal : Cal) (args : List AV) (σ : List AObj) (pv : Option PV) : Option (Out × List AObj × Bool) :=
 match cal with
 | .fn f =>
  match (H f).pr with
  | some p => primO σ (p args)
  | none => bodyC P T H E D f args σ pv
 | .yld id =>
  match σ[id]? with
  | some (.loop st _ nt f env ps assign body) =>
   if st = 0 ∧ ps.length = args.length ∧ yldOk H f nt ps assign body = true then
    (E f σ.length 0 assign { env := ps.zip (copyAs args) ++ env, σ := σ }).bind (yldBody E id σ.length f body)
   else none
  | _ => none
def dfsF (B : BodyT) (D : DfsT) (pv : Option PV) (s : S) : Option (Option PV × S) :=
 match s.dfs with
 | [] => some (pv, s)
 | _ => none
mutual
def evC (P : Program) (T : Tab) (H : FuncId → FH) : Nat → EvT
 | 0 => fun _ _ _ _ _ => none
 | k + 1 => evF T H (evC P T H k) (callK P T H k)
def callK (P : Program) (T : Tab) (H : FuncId → FH) : Nat → CallF
 | 0 => fun _ _ _ => none
 | k + 1 => fun cal args σ => (bodyK P T H k cal args σ none).bind fun r => some (r.1, r.2.1)
def bodyK (P : Program) (T : Tab) (H : FuncId → FH) : Nat → BodyT
 | 0 => fun _ _ _ _ => none
 | k + 1 => bodyF P T H (evC P T H k) (dfsK P T H k)
def dfsK (P : Program) (T : Tab) (H : FuncId → FH) : Nat → DfsT
 | 0 => fun _ _ => none
 | k + 1 => dfsF (bodyK P T H k) (dfsK P T H k)
end
end
end Go.AM
