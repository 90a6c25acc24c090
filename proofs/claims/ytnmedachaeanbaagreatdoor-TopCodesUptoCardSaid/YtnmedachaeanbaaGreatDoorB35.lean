/- Merged texts. -/
import Derived.Calls
import Derived.Orders
import Derived.Laws.Cells
import Derived.Laws.World
import Derived.Extends
set_option linter.unusedVariables false
set_option linter.unusedSimpArgs false
namespace Go.Sy
inductive Tr (α:Type) where
 | nil
 | node (l:Tr α) (v:Option α) (r:Tr α)
noncomputable def Tr.get {α:Type} (t:Tr α):Nat→Option α:=
 Tr.rec (motive:=fun _=>Nat→Option α) (fun _=>none)
  (fun _ v _ ihl ihr n=>Nat.rec (motive:=fun _=>Option α) v (fun m _=>Bool.rec (motive:=fun _=>Option α) (ihr (Nat.div m 2)) (ihl (Nat.div m 2)) (Nat.beq (Nat.mod m 2) 0)) n) t
noncomputable def Tr.path {α:Type} (x:Option α) (k:Nat):Nat→Tr α:=
 Nat.rec (motive:=fun _=>Nat→Tr α) (fun _=>.nil)
  (fun _ ih n=>Nat.rec (motive:=fun _=>Tr α) (.node .nil x .nil) (fun m _=>Bool.rec (motive:=fun _=>Tr α) (.node .nil none (ih (Nat.div m 2))) (.node (ih (Nat.div m 2)) none .nil) (Nat.beq (Nat.mod m 2) 0)) n) k
noncomputable def Tr.set {α:Type} (t:Tr α) (n:Nat) (x:Option α):Tr α:=
 Tr.rec (motive:=fun _=>Nat→Tr α) (fun n=>Tr.path x (Nat.succ n) n)
  (fun l v r ihl ihr n=>Nat.rec (motive:=fun _=>Tr α) (.node l x r) (fun m _=>Bool.rec (motive:=fun _=>Tr α) (.node l v (ihr (Nat.div m 2))) (.node (ihl (Nat.div m 2)) v r) (Nat.beq (Nat.mod m 2) 0)) n) t n
noncomputable def Tr.put {α:Type} (t:Tr α) (n:Nat) (x:α):Tr α:=t.set n (some x)
noncomputable def Tr.del {α:Type} (t:Tr α) (n:Nat):Tr α:=t.set n none
noncomputable def listT {α:Type} (l:List α):Nat→Tr α→Tr α:=
 List.rec (motive:=fun _=>Nat→Tr α→Tr α) (fun _ t=>t) (fun a _ ih i t=>ih (Nat.succ i) (t.put i a)) l
noncomputable def tyT (P:Program):Tr TypeInfo:=listT P.types.toList 0 .nil
noncomputable def fnT (P:Program):Tr Func:=listT P.funcs.toList 0 .nil
noncomputable def tyA (P:Program) (t:TypeId):Option TypeInfo:=(tyT P).get t
noncomputable def fnA (P:Program) (f:FuncId):Option Func:=(fnT P).get f
noncomputable def undId (P:Program) (d:TypeDesc):Option TypeDesc:=
 match d with
 | .named _ u=>(tyA P u).map (·.desc)
 | d=>some d
noncomputable def undA (P:Program) (t:TypeId):Option TypeDesc:=
 match tyA P t with
 | some i=>undId P i.desc
 | none=>none
inductive AV where
 | lit (v:Value)
 | ptr (b off:Nat)
 | slc (b off len cap:Nat)
 | clo (f:FuncId) (l:List AV)
 | yld (b:Nat)
 | mp (b:Nat)
 | agg (l:List AV)
 | tup (l:List AV)
 deriving Inhabited
noncomputable def unk:Nat:=2 ^ 63
noncomputable def anyCap:Nat:=2 ^ 63+1
noncomputable def noOff:Nat:=2 ^ 63+2
inductive Blk where
 | cells (e:TypeId) (l:List AV)
 | str (s:ByteArray) (pos:Nat)
 | mp (es:List (Value×AV×Nat)) (clock:Nat)
 | defd
 | loop (st:LoopState) (pend:Option Code) (fn:FuncId) (nt:Nat) (tm:Tr AV) (params:List Tmp) (assign body:Code) (dfr:Nat)
noncomputable def conv:Value→AV
 | .agg cs=>.agg (cs.toList.map .lit)
 | .tuple cs=>.tup (cs.toList.map .lit)
 | .func (.func f) fs cs=>if fs.isEmpty&&cs.isEmpty then .clo f [] else .lit (.func (.func f) fs cs)
 | v=>.lit v
noncomputable def gndL:List AV→Option (List Value)
 | []=>some []
 | .lit v::t=>match gndL t with|some l=>some (v::l)|none=>none
 | _=>none
noncomputable def gnd:AV→Option Value
 | .lit v=>some v
 | .agg l=>match gndL l with|some l=>some (.agg ⟨l⟩)|none=>none
 | _=>none
noncomputable def evA (tm:Tr AV) (x:Operand):Option AV:=
 Operand.rec (motive:=fun _=>Tr AV→Option AV) (fun t tm=>tm.get t) (fun v _=>some (conv v)) (fun g _=>some (.lit (.pointer (some ⟨g,0,none⟩)))) (fun f _=>some (.clo f [])) x tm
noncomputable def pureRun (P:Program):Sem Next→Option Value
 | .pure (.value v)=>some v
 | .program k=>pureRun P (k P)
 | _=>none
noncomputable def allGnd (ev:Operand→Option AV) (l:List Operand):Bool:=
 l.all fun x=>match ev x with|some v=>(gnd v).isSome|none=>false
noncomputable def toVal (ev:Operand→Option AV) (x:Operand):Value:=
 match ev x with
 | some v=>(gnd v).getD undef
 | none=>undef
noncomputable def groundOp (P:Program) (ev:Operand→Option AV) (o:Oper):Option Value:=
 match allGnd ev o.op.operands.toList with
 | true=>pureRun P (execOp (toVal ev) o)
 | false=>none
noncomputable def consO (a:AV):Option (List AV)→Option (List AV)
 | some t=>some (a::t)
 | none=>none
noncomputable def takeN (n:Nat):List AV→Option (List AV):=
 Nat.rec (motive:=fun _=>List AV→Option (List AV)) (fun _=>some [])
  (fun _ ih l=>List.rec (motive:=fun _=>Option (List AV)) none (fun a l _=>consO a (ih l)) l) n
noncomputable def dropN (n:Nat):List AV→List AV:=
 Nat.rec (motive:=fun _=>List AV→List AV) (fun l=>l) (fun _ ih l=>List.rec (motive:=fun _=>List AV) [] (fun _ l _=>ih l) l) n
noncomputable def over (xs:List AV):List AV→Option (List AV):=
 List.rec (motive:=fun _=>List AV→Option (List AV)) (fun l=>some l)
  (fun x _ ih l=>List.rec (motive:=fun _=>Option (List AV)) none (fun _ l _=>consO x (ih l)) l) xs
noncomputable def splice (k:Nat):List AV→List AV→Option (List AV):=
 Nat.rec (motive:=fun _=>List AV→List AV→Option (List AV)) (fun l xs=>over xs l)
  (fun _ ih l xs=>List.rec (motive:=fun _=>Option (List AV)) none (fun a l _=>consO a (ih l xs)) l) k
noncomputable def isCell:AV→Bool
 | .lit (.agg _) | .lit (.tuple _)=>false
 | .agg _ | .tup _=>false
 | _=>true
noncomputable def cellsOf:AV→List AV
 | .agg l=>l
 | .lit v=>v.cells.toList.map .lit
 | v=>[v]
noncomputable def loadC (H:Nat→Option Blk) (b off n:Nat):Option (List AV):=
 match H b with
 | some (.cells _ l)=>takeN n (dropN off l)
 | _=>none
noncomputable def isAggT (P:Program) (t:TypeId):Option Bool:=
 match undA P t with
 | some (.struct _)|some (.array _ _)=>some true
 | some _=>some false
 | none=>none
noncomputable def szT (P:Program) (t:TypeId):Option Nat:=
 match tyA P t with
 | some i=>some i.size
 | none=>none
noncomputable def zeroOf (size:Nat):Option Value→Option (List AV)
 | some v=>match Nat.beq v.cells.size size with
   | true=>some (v.cells.toList.map .lit)
   | false=>none
 | none=>none
noncomputable def zeroT (P:Program) (t:TypeId):Option (List AV):=
 match tyA P t with
 | some i=>zeroOf i.size i.zero
 | none=>none
noncomputable def loadV (P:Program) (H:Nat→Option Blk) (t:TypeId) (b off:Nat):Option AV:=
 match isAggT P t with
 | some true=>match szT P t with
   | some n=>match loadC H b off n with|some l=>some (.agg l)|none=>none
   | none=>none
 | some false=>match loadC H b off 1 with|some [v]=>some v|_=>none
 | none=>none
noncomputable def partA (P:Program) (t:TypeId) (l:List AV) (off:Nat):Option AV:=
 match isAggT P t with
 | some true=>match szT P t with
   | some n=>match takeN n (dropN off l) with|some l=>some (.agg l)|none=>none
   | none=>none
 | some false=>(dropN off l).head?
 | none=>none
noncomputable def rep (l:List AV):Nat→List AV
 | 0=>[]
 | n+1=>l++rep l n
noncomputable def fillA (place:Nat→Option (Nat×Nat)) (cells:List AV):List (Nat×AV)→Option (List AV)
 | []=>some cells
 | (i,v)::rest=>match place i with
   | none=>none
   | some (off,size)=>
     match Nat.beq (cellsOf v).length size with
     | true=>match splice off cells (cellsOf v) with
       | some cells=>fillA place cells rest
       | none=>none
     | false=>none
noncomputable def evPairs (ev:Operand→Option AV):List (Nat×Operand)→Option (List (Nat×AV))
 | []=>some []
 | (i,x)::rest=>match ev x,evPairs ev rest with
   | some v,some l=>some ((i,v)::l)
   | _,_=>none
noncomputable def evL (ev:Operand→Option AV):List Operand→Option (List AV)
 | []=>some []
 | x::rest=>match ev x,evL ev rest with
   | some v,some l=>some (v::l)
   | _,_=>none
noncomputable def intA:Option AV→Option Nat
 | some (.lit (.int _ (.ofNat n)))=>some n
 | _=>none
noncomputable def optInt (ev:Operand→Option AV) (d:Nat):Option Operand→Option Nat
 | none=>some d
 | some x=>intA (ev x)
noncomputable def findA (kind:TypeDesc) (k:Value):List (Value×AV×Nat)→Nat→Option (Option (Nat×AV))
 | [],_=>some none
 | e::es,i=>match Instr.sameNow kind k e.1 with
   | some true=>some (some (i,e.2.1))
   | some false=>findA kind k es (i+1)
   | none=>none
noncomputable def plainKey:TypeDesc→Bool
 | .string | .int _=>true
 | _=>false
noncomputable def bytesA:List AV→Option (List Int)
 | []=>some []
 | .lit (.int .u8 n)::t=>match bytesA t with|some l=>some (n::l)|none=>none
 | _=>none
noncomputable def strOf (ns:List Int):ByteArray:=ns.foldl (fun r n=>r.push (UInt8.ofNat n.toNat)) ByteArray.empty
noncomputable def vOnly:Option AV→Option (AV×Option Blk)
 | some v=>some (v,none)
 | none=>none
noncomputable def vConv:Option Value→Option (AV×Option Blk)
 | some v=>some (conv v,none)
 | none=>none
noncomputable def flPick (ev:Operand→Option AV) (a b:Operand):Option AV→Option (AV×Option Blk)
 | some (.lit (.bool true))=>vOnly (ev a)
 | some (.lit (.bool false))=>vOnly (ev b)
 | _=>none
noncomputable def flAlloc (e:TypeId) (id:Nat):Option (List AV)→Option (AV×Option Blk)
 | some l=>some (.ptr id 0,some (.cells e l))
 | none=>none
noncomputable def flBox (e:TypeId) (id:Nat):Option AV→Option (AV×Option Blk)
 | some v=>some (.ptr id 0,some (.cells e (cellsOf v)))
 | none=>none
noncomputable def placeOf (P:Program):Option Field→Option (Nat×Nat)
 | some f=>match szT P f.type with
   | some n=>some (f.offset,n)
   | none=>none
 | none=>none
noncomputable def fieldPlaceA (P:Program) (fields:Array Field) (i:Nat):Option (Nat×Nat):=placeOf P fields[i]?
noncomputable def flBuild (P:Program):Option (List (Nat×AV))→Option (List AV)→Option TypeDesc→Option (AV×Option Blk)
 | some ps,some z,some (.struct fields)=>match fields.toList.all (fun f=>(szT P f.type).isSome),fillA (fieldPlaceA P fields) z ps with
   | true,some l=>some (.agg l,none)
   | _,_=>none
 | some ps,some z,some (.array _ elem)=>match szT P elem with
   | some n=>match fillA (fun i=>some (i*n,n)) z ps with
     | some l=>some (.agg l,none)
     | none=>none
   | none=>none
 | _,_,_=>none
noncomputable def flBuildSlice (P:Program) (len id:Nat):Option (List (Nat×AV))→Option TypeDesc→Option (AV×Option Blk)
 | some ps,some (.slice elem)=>match szT P elem,zeroT P elem with
   | some n,some z=>match Nat.ble (len*n) (2 ^ 20)&&Nat.ble len (2 ^ 20) with
     | true=>match fillA (fun i=>some (i*n,n)) (rep z len) ps with
       | some l=>some (.slc id 0 len len,some (.cells elem l))
       | none=>none
     | false=>none
   | _,_=>none
 | _,_=>none
noncomputable def flLoad (P:Program) (H:Nat→Option Blk) (t:TypeId):Option AV→Option (AV×Option Blk)
 | some (.ptr b off)=>vOnly (loadV P H t b off)
 | _=>none
noncomputable def flNil (P:Program) (ev:Operand→Option AV) (o:Oper):Option AV→Option (AV×Option Blk)
 | some (.ptr b off)=>some (.ptr b off,none)
 | some (.clo f l)=>some (.clo f l,none)
 | _=>vConv (groundOp P ev o)
noncomputable def cmpA (op:BinOp) (a b:Nat):Option Bool:=
 match op with
 | .eql=>some (Nat.beq a b)
 | .neq=>some (!(Nat.beq a b))
 | .lss=>some (Nat.blt a b)
 | .leq=>some (Nat.ble a b)
 | .gtr=>some (Nat.blt b a)
 | .geq=>some (Nat.ble b a)
 | _=>none
noncomputable def isI64:IntKind→Bool
 | .i64=>true
 | _=>false
noncomputable def refNil (op:BinOp):Option (AV×Option Blk):=
 match op with
 | .eql=>some (.lit (.bool false),none)
 | .neq=>some (.lit (.bool true),none)
 | _=>none
noncomputable def flArith (op:BinOp) (a b:Nat) (other:Option (AV×Option Blk)):Option (AV×Option Blk):=
 match op with
 | .add=>match Nat.ble (a+b) (2 ^ 62) with
   | true=>some (.lit (.int .i64 (.ofNat (a+b))),none)
   | false=>other
 | .sub=>match Nat.ble b a&&Nat.ble a (2 ^ 62) with
   | true=>some (.lit (.int .i64 (.ofNat (a-b))),none)
   | false=>other
 | _=>other
noncomputable def flInt (op:BinOp) (j:IntKind) (a b:Nat) (other:Option (AV×Option Blk)):Option (AV×Option Blk):=
 match cmpA op a b with
 | some t=>some (.lit (.bool t),none)
 | none=>match isI64 j with
   | true=>flArith op a b other
   | false=>other
noncomputable def eqNil:Option TypeDesc→AV→AV→Bool
 | some (.pointer _),.ptr ..,.lit (.pointer none)|some (.pointer _),.lit (.pointer none),.ptr .. => true
 | some (.slice _),.slc ..,.lit (.slice none _ _)|some (.slice _),.lit (.slice none _ _),.slc .. => true
 | some (.func ..),.clo ..,.lit .nilFunc|some (.func ..),.lit .nilFunc,.clo .. => true
 | some (.map ..),.mp ..,.lit (.map none)|some (.map ..),.lit (.map none),.mp .. => true
 | _,_,_=>false
noncomputable def flBin (P:Program) (ev:Operand→Option AV) (o:Oper) (op:BinOp) (t:TypeId):Option AV→Option AV→Option (AV×Option Blk)
 | some (.lit (.int j (.ofNat a))),some (.lit (.int k (.ofNat b)))=>match decide (j=k) with
   | true=>flInt op j a b (vConv (groundOp P ev o))
   | false=>vConv (groundOp P ev o)
 | some x,some y=>match eqNil (undA P t) x y with
   | true=>refNil op
   | false=>vConv (groundOp P ev o)
 | _,_=>none
noncomputable def flFunc (f:FuncId):Bool→Option (List AV)→Option (AV×Option Blk)
 | true,some l=>some (.clo f l,none)
 | _,_=>none
noncomputable def flMake (P:Program) (id:Nat):Option TypeDesc→Option Nat→Option Nat→Option (AV×Option Blk)
 | some (.slice elem),some l,some c=>match tyA P elem,zeroT P elem with
   | some i,some z=>match Nat.ble l c&&Nat.ble (i.bytes*c) (2 ^ 30)&&Nat.ble c (2 ^ 20) with
     | true=>some (.slc id 0 l c,some (.cells elem (rep z c)))
     | false=>none
   | _,_=>none
 | _,_,_=>none
noncomputable def mxInt (ev:Operand→Option AV) (cap:Nat):Option Operand→Option Operand→Option Nat
 | _,none=>some cap
 | some _,some x=>intA (ev x)
 | none,some _=>none
noncomputable def slcMost (cap len m:Nat):Bool:=
 match Nat.ble unk cap with
 | true=>Nat.ble m len && !(Nat.beq cap noOff)
 | false=>Nat.ble m cap
noncomputable def sliceS (n b off len cap l h m:Nat) (named:Bool):Option (AV×Option Blk):=
 match Nat.ble l h with
 | false=>none
 | true=>match Nat.ble unk m with
   | false=>match Nat.ble h m&&slcMost cap len m with
     | true=>some (.slc b (match Nat.beq m l with|true=>off|false=>off+l*n) (h-l) (m-l),none)
     | false=>none
   | true=>match !named&&Nat.ble h len with
     | true=>match Nat.beq l 0 with
       | true=>some (.slc b off h cap,none)
       | false=>match Nat.blt l len with
         | true=>some (.slc b (off+l*n) (h-l) anyCap,none)
         | false=>some (.slc b 0 0 noOff,none)
     | false=>none
noncomputable def sliceA (n b off m l h:Nat):Option (AV×Option Blk):=
 match Nat.ble l h&&Nat.ble h m&&Nat.ble m (2 ^ 40) with
 | true=>some (.slc b (match Nat.beq m l with|true=>off|false=>off+l*n) (h-l) (m-l),none)
 | false=>none
noncomputable def flSlice (P:Program) (ev:Operand→Option AV) (o:Oper) (t:TypeId) (lo hi mx:Option Operand):Option AV→Option (AV×Option Blk)
 | some (.slc b off len cap)=>match undA P t with
   | some (.slice elem)=>match szT P elem,optInt ev 0 lo,optInt ev len hi,mxInt ev cap hi mx with
     | some n,some l,some h,some m=>sliceS n b off len cap l h m mx.isSome
     | _,_,_,_=>none
   | _=>none
 | some (.ptr b off)=>match undA P t with
   | some (.array m elem)=>match szT P elem,optInt ev 0 lo,optInt ev m hi,mx with
     | some n,some l,some h,none=>sliceA n b off m l h
     | _,_,_,_=>none
   | _=>none
 | _=>vConv (groundOp P ev o)
noncomputable def flFieldAddr (P:Program) (f:Nat):Option AV→Option TypeDesc→Option (AV×Option Blk)
 | some (.ptr b off),some (.struct fields)=>match fieldPlaceA P fields f with
   | some (d,_+1)=>some (.ptr b (off+d),none)
   | _=>none
 | _,_=>none
noncomputable def flField (P:Program) (f:Nat):Option AV→Option TypeDesc→Option (AV×Option Blk)
 | some (.agg l),some (.struct fields)=>match fields[f]? with
   | some fd=>vOnly (partA P fd.type l fd.offset)
   | none=>none
 | _,_=>none
noncomputable def flIndexAddr (P:Program):Option AV→Option TypeDesc→Option Nat→Option (AV×Option Blk)
 | some (.slc b off len _),some (.slice elem),some i=>match Nat.blt i len,szT P elem with
   | true,some n=>some (.ptr b (off+i*n),none)
   | _,_=>none
 | some (.ptr b off),some (.array len elem),some i=>match Nat.blt i len,szT P elem with
   | true,some n=>some (.ptr b (off+i*n),none)
   | _,_=>none
 | _,_,_=>none
noncomputable def flIndex (P:Program) (ev:Operand→Option AV) (o:Oper):Option AV→Option TypeDesc→Option Nat→Option (AV×Option Blk)
 | some (.agg l),some (.array len elem),some i=>match Nat.blt i len,szT P elem with
   | true,some n=>vOnly (partA P elem l (i*n))
   | _,_=>none
 | _,_,_=>vConv (groundOp P ev o)
noncomputable def flExtract (i:Nat):Option AV→Option (AV×Option Blk)
 | some (.tup l)=>vOnly (dropN i l).head?
 | _=>none
noncomputable def zeroV (P:Program) (t:TypeId):Option AV:=
 match tyA P t with
 | some i=>match i.zero with
   | some v=>some (conv v)
   | none=>none
 | none=>none
noncomputable def foundA (P:Program) (elem:TypeId):Option (Nat×AV)→Option (AV×Bool)
 | some (_,v)=>some (v,true)
 | none=>match zeroV P elem with
   | some z=>some (z,false)
   | none=>none
noncomputable def mapFind (P:Program) (key:TypeId) (k:Value) (es:List (Value×AV×Nat)):Option (Option (Nat×AV)):=
 match undA P key with
 | some kd=>match plainKey kd with
   | true=>findA kd k es 0
   | false=>none
 | none=>none
noncomputable def flLookup (P:Program) (H:Nat→Option Blk) (ok:Bool):Option AV→Option TypeDesc→Option AV→Option (AV×Option Blk)
 | some (.mp b),some (.map key elem),some (.lit k)=>match H b with
   | some (.mp es _)=>match mapFind P key k es with
     | some r=>match foundA P elem r with
       | some (v,found)=>match ok with
         | true=>some (.tup [v,.lit (.bool found)],none)
         | false=>some (v,none)
       | none=>none
     | none=>none
   | _=>none
 | _,_,_=>none
noncomputable def flRange (id:Nat):Option AV→Option TypeDesc→Option (AV×Option Blk)
 | some (.lit (.string s)),some .string=>some (.ptr id 0,some (.str s 0))
 | _,_=>none
noncomputable def isU8 (P:Program) (e:TypeId):Bool:=
 match undA P e with
 | some (.int .u8)=>true
 | _=>false
noncomputable def flBytes (P:Program) (H:Nat→Option Blk) (b off len:Nat):Option TypeDesc→Option TypeDesc→Option (AV×Option Blk)
 | some (.slice e),some .string=>match isU8 P e,loadC H b off len with
   | true,some l=>match bytesA l with
     | some bs=>some (.lit (.string (strOf bs)),none)
     | none=>none
   | _,_=>none
 | _,_=>none
noncomputable def flConvert (P:Program) (H:Nat→Option Blk) (ev:Operand→Option AV) (o:Oper) (src dst:TypeId):Option AV→Option (AV×Option Blk)
 | some (.slc b off len _)=>flBytes P H b off len (undA P src) (undA P dst)
 | _=>vConv (groundOp P ev o)
noncomputable def flLen (P:Program) (H:Nat→Option Blk) (ev:Operand→Option AV) (o:Oper):Option AV→Option TypeDesc→Option (AV×Option Blk)
 | some (.slc _ _ len _),some (.slice _)=>some (.lit (goInt len),none)
 | some (.mp b),some (.map _ _)=>match H b with
   | some (.mp es _)=>some (.lit (goInt es.length),none)
   | _=>none
 | some _,some (.array n _)=>some (.lit (goInt n),none)
 | _,_=>vConv (groundOp P ev o)
noncomputable def flCap (P:Program) (ev:Operand→Option AV) (o:Oper):Option AV→Option TypeDesc→Option (AV×Option Blk)
 | some (.slc _ _ _ cap),some (.slice _)=>match Nat.ble unk cap with
   | false=>some (.lit (goInt cap),none)
   | true=>none
 | _,_=>vConv (groundOp P ev o)
noncomputable def flBuiltin (P:Program) (H:Nat→Option Blk) (ev:Operand→Option AV) (o:Oper) (args:Array Operand) (ts:Array TypeId):Builtin→Option (AV×Option Blk)
 | .len=>flLen P H ev o ((args[0]?).bind ev) ((ts[0]?).bind (undA P))
 | .cap=>flCap P ev o ((args[0]?).bind ev) ((ts[0]?).bind (undA P))
 | .min | .max=>vConv (groundOp P ev o)
 | _=>none
noncomputable def flCall (P:Program) (H:Nat→Option Blk) (ev:Operand→Option AV) (o:Oper) (args:Array Operand) (ts:Array TypeId):Callee→Option (AV×Option Blk)
 | .builtin b=>flBuiltin P H ev o args ts b
 | _=>none
noncomputable def flMakeFunc (ev:Operand→Option AV) (first captured:Array Operand):Fn→Option (AV×Option Blk)
 | .func f=>flFunc f first.isEmpty (evL ev captured.toList)
 | _=>none
noncomputable def flMakeMap (id:Nat):Option Operand→Option (AV×Option Blk)
 | none=>some (.mp id,some (.mp [] 0))
 | some _=>none
noncomputable def fl (P:Program) (H:Nat→Option Blk) (ev:Operand→Option AV) (o:Oper) (id:Nat) (op:Op):Option (AV×Option Blk):=
 Op.rec (motive:=fun _=>Program→(Nat→Option Blk)→(Operand→Option AV)→Oper→Nat→Option (AV×Option Blk))
  (fun x _ _ ev _ _=>vOnly (ev x))
  (fun x _ _ ev _ _=>vOnly (ev x))
  (fun c a b _ _ ev _ _=>flPick ev a b (ev c))
  (fun e P _ _ _ id=>flAlloc e id (zeroT P e))
  (fun e x _ _ ev _ id=>flBox e id (ev x))
  (fun t parts P _ ev _ _=>flBuild P (evPairs ev parts.toList) (zeroT P t) (undA P t))
  (fun t len parts P _ ev _ id=>flBuildSlice P len id (evPairs ev parts.toList) (undA P t))
  (fun _ _ _ _ _ _ _ _ _=>none)
  (fun t a P H ev _ _=>flLoad P H t (ev a))
  (fun _ _ _ _ _ _ _ _=>none)
  (fun _ _ _ _ _ _=>none)
  (fun _ _ _ _ _ _=>none)
  (fun x P _ ev o _=>flNil P ev o (ev x))
  (fun op t x y _ P _ ev o _=>flBin P ev o op t (ev x) (ev y))
  (fun _ _ _ P _ ev o _=>vConv (groundOp P ev o))
  (fun src dst x P H ev o _=>flConvert P H ev o src dst (ev x))
  (fun _ _ _ _ _ _ _=>none)
  (fun _ _ _ _ _ _ _=>none)
  (fun f first captured _ _ ev _ _=>flMakeFunc ev first captured f)
  (fun _ r _ _ _ _ id=>flMakeMap id r)
  (fun _ _ _ _ _ _ _=>none)
  (fun t l c P _ ev _ id=>flMake P id (undA P t) (intA (ev l)) (intA (ev c)))
  (fun t x lo hi mx P _ ev o _=>flSlice P ev o t lo hi mx (ev x))
  (fun s x f P _ ev _ _=>flFieldAddr P f (ev x) (undA P s))
  (fun t x f P _ ev _ _=>flField P f (ev x) (undA P t))
  (fun t x ix P _ ev _ _=>flIndexAddr P (ev x) (undA P t) (intA (ev ix)))
  (fun t x ix P _ ev o _=>flIndex P ev o (ev x) (undA P t) (intA (ev ix)))
  (fun t x ix ok P H ev _ _=>flLookup P H ok (ev x) (undA P t) (ev ix))
  (fun _ _ _ _ _ _ _ _ _=>none)
  (fun _ _ _ _ _ _ _ _=>none)
  (fun _ _ _ _ _ _ _ _ _=>none)
  (fun t x P _ ev _ id=>flRange id (ev x) (undA P t))
  (fun _ _ _ _ _ _ _=>none)
  (fun _ _ _ _ _ _=>none)
  (fun _ _ _ _ _ _ _ _ _=>none)
  (fun x i _ _ ev _ _=>flExtract i (ev x))
  (fun c P H ev o _=>flCall P H ev o c.args c.argTypes c.callee)
  (fun _ _ _ _ _ _=>none)
  (fun _ _ _ _ _ _=>none)
  (fun _ _ _ _ _ _=>none)
  (fun _ _ _ _ _ _ _=>none)
  (fun _ _ _ _ _ _ _ _=>none)
  (fun _ _ _ _ _ _ _=>none)
  op P H ev o id
inductive Ef where
 | val (v:AV) (hp:Tr Blk) (nx:Nat)
 | enter (f:FuncId) (args:List AV)
 | round (l:Nat) (args:List AV)
noncomputable def putC (hp:Tr Blk) (b off:Nat) (xs:List AV):Option (Tr Blk):=
 match xs.all isCell with
 | true=>match hp.get b with
   | some (.cells e l)=>match splice off l xs with
     | some l=>some (hp.put b (.cells e l))
     | none=>none
   | _=>none
 | false=>none
noncomputable def entersB (P:Program) (f:FuncId):Bool:=
 match fnA P f with
 | some fn => !(fn.name == "runtime.NumGoroutine")&&fn.body.isSome
 | none=>false
noncomputable def callA (P:Program):Option AV→Option (List AV)→Option Ef
 | some (.clo f l),some args=>match entersB P f with
   | true=>some (.enter f (args++l))
   | false=>none
 | some (.yld b),some args=>some (.round b args)
 | _,_=>none
noncomputable def srcA (H:Nat→Option Blk) (n size:Nat):AV→Option (List AV)
 | .slc b off _ _=>loadC H b off (n*size)
 | .lit (.slice none _ _)=>match n with|0=>some []|_=>none
 | .lit (.string s)=>match Nat.beq size 1 with
   | true=>some ((s.data.toList.take n).map fun b=>.lit (.int .u8 b.toNat))
   | false=>none
 | _=>none
noncomputable def lenA:AV→Option Nat
 | .slc _ _ len _=>some len
 | .lit (.slice none 0 _)=>some 0
 | .lit (.string s)=>some s.size
 | _=>none
noncomputable def appKnown (hp:Tr Blk) (nx:Nat) (elem:TypeId) (size b off len cap:Nat) (new:List AV) (n:Nat):Option Ef:=
 match Nat.ble (len+n) cap with
 | true=>match putC hp b (off+len*size) new with
   | some hp=>some (.val (.slc b off (len+n) cap) hp nx)
   | none=>none
 | false=>match loadC hp.get b off (len*size) with
   | some old=>some (.val (.slc nx 0 (len+n) unk) (hp.put nx (.cells elem (old++new))) (nx+1))
   | none=>none
noncomputable def appUnk (hp:Tr Blk) (nx:Nat) (elem:TypeId) (size b len:Nat) (new:List AV) (n:Nat):Option Ef:=
 match hp.get b with
 | some (.cells el l)=>match Nat.beq el elem&&new.all isCell,takeN (len*size) l with
   | true,some old=>some (.val (.slc nx 0 (len+n) unk) ((hp.del b).put nx (.cells elem (old++new))) (nx+1))
   | _,_=>none
 | _=>none
noncomputable def appNone (hp:Tr Blk) (nx:Nat) (s:AV):Option Ef:=
 match s with
 | .slc .. | .lit (.slice none 0 0)=>some (.val s hp nx)
 | _=>none
noncomputable def appSome (hp:Tr Blk) (nx:Nat) (elem:TypeId) (size:Nat) (s:AV) (new:List AV) (n:Nat):Option Ef:=
 match s with
 | .slc b off len cap=>match Nat.ble (len+n) 200 with
   | true=>match Nat.ble unk cap with
     | false=>appKnown hp nx elem size b off len cap new n
     | true=>match Nat.beq cap unk&&Nat.beq off 0 with
       | true=>appUnk hp nx elem size b len new n
       | false=>none
   | false=>none
 | .lit (.slice none 0 0)=>some (.val (.slc nx 0 n unk) (hp.put nx (.cells elem new)) (nx+1))
 | _=>none
noncomputable def appendA (hp:Tr Blk) (nx:Nat) (elem:TypeId) (size bytes:Nat) (s:AV) (new:List AV) (n:Nat):Option Ef:=
 match Nat.beq n 0 with
 | true=>appNone hp nx s
 | false=>match Nat.ble n 200&&Nat.ble bytes (2 ^ 20) with
   | true=>appSome hp nx elem size s new n
   | false=>none
noncomputable def efStore (hp:Tr Blk) (nx:Nat):Option AV→Option AV→Option Nat→Option Ef
 | some (.ptr b off),some v,some n=>match Nat.beq (cellsOf v).length n with
   | true=>match putC hp b off (cellsOf v) with
     | some hp=>some (.val (.tup []) hp nx)
     | none=>none
   | false=>none
 | _,_,_=>none
noncomputable def byteCells (s:ByteArray):List AV:=s.data.toList.map fun b=>.lit (.int .u8 b.toNat)
noncomputable def isOne:Option Nat→Bool
 | some 1=>true
 | _=>false
noncomputable def efConvert (P:Program) (hp:Tr Blk) (nx:Nat) (same:Bool):Option AV→Option TypeDesc→Option TypeDesc→Option Ef
 | some (.slc b off len cap),some (.slice _),some (.slice e)=>match same&&isU8 P e,hp.get b with
   | true,some (.cells t l)=>some (.val (.slc b off len cap) (hp.put b (.cells t l)) nx)
   | _,_=>none
 | some (.lit (.string s)),some .string,some (.slice e)=>match isU8 P e&&isOne (szT P e) with
   | true=>some (.val (.slc nx 0 s.size unk) (hp.put nx (.cells e (byteCells s))) (nx+1))
   | false=>none
 | _,_,_=>none
noncomputable def efMapUpdate (P:Program) (hp:Tr Blk) (nx:Nat):Option AV→Option TypeDesc→Option AV→Option AV→Option Ef
 | some (.mp b),some (.map key _),some (.lit kv),some v=>match hp.get b with
   | some (.mp es clock)=>match mapFind P key kv es with
     | some none=>some (.val (.tup []) (hp.put b (.mp (es++[(kv,v,clock)]) (clock+1))) nx)
     | _=>none
   | _=>none
 | _,_,_,_=>none
noncomputable def efNext (hp:Tr Blk) (nx:Nat):Bool→Option AV→Option Ef
 | true,some (.ptr b 0)=>match hp.get b with
   | some (.str s pos)=>match Nat.blt pos s.size with
     | true=>some (.val (.tup [.lit (.bool true),.lit (goInt pos),.lit (.int .i32 (Utf8.decode s pos).1)]) (hp.put b (.str s (pos+(Utf8.decode s pos).2))) nx)
     | false=>some (.val (.tup [.lit (.bool false)]) hp nx)
   | _=>none
 | _,_=>none
noncomputable def isIntT:TypeDesc→Bool
 | .int _=>true
 | _=>false
noncomputable def efAppend (P:Program) (hp:Tr Blk) (nx:Nat):Option AV→Option AV→Option TypeDesc→Option TypeDesc→Option Ef
 | some s,some x,some (.slice elem),some xt=>match tyA P elem,zeroT P elem,isIntT xt with
   | some i,some z,true=>match intA (some x) with
     | some n=>match Nat.ble n 200 with
       | true=>appendA hp nx elem i.size i.bytes s (rep z n) n
       | false=>none
     | none=>none
   | some i,some _,false=>match lenA x with
     | some n=>match srcA hp.get n i.size x with
       | some new=>appendA hp nx elem i.size i.bytes s new n
       | none=>none
     | none=>none
   | _,_,_=>none
 | _,_,_,_=>none
noncomputable def efCopy (P:Program) (hp:Tr Blk) (nx:Nat):Option AV→Option AV→Option TypeDesc→Option Ef
 | some (.slc b off len _),some x,some (.slice elem)=>match lenA x,szT P elem with
   | some m,some size=>match srcA hp.get (Nat.min m len) size x with
     | some cs=>match putC hp b off cs with
       | some hp=>some (.val (.lit (goInt (Nat.min m len))) hp nx)
       | none=>none
     | none=>none
   | _,_=>none
 | _,_,_=>none
noncomputable def efClear (P:Program) (hp:Tr Blk) (nx:Nat):Option AV→Option TypeDesc→Option Ef
 | some (.slc b off len _),some (.slice elem)=>match zeroT P elem with
   | some z=>match putC hp b off (rep z len) with
     | some hp=>some (.val (.tup []) hp nx)
     | none=>none
   | none=>none
 | some (.lit (.slice none _ _)),some (.slice _)=>some (.val (.tup []) hp nx)
 | _,_=>none
noncomputable def efDelete (P:Program) (hp:Tr Blk) (nx:Nat):Option AV→Option AV→Option TypeDesc→Option Ef
 | some (.mp b),some (.lit kv),some (.map key _)=>match hp.get b with
   | some (.mp es clock)=>match mapFind P key kv es with
     | some (some (i,_))=>some (.val (.tup []) (hp.put b (.mp (es.eraseIdx i) clock)) nx)
     | some none=>some (.val (.tup []) hp nx)
     | none=>none
   | _=>none
 | _,_,_=>none
noncomputable def efBuiltin (P:Program) (hp:Tr Blk) (nx:Nat) (ev:Operand→Option AV) (args:Array Operand) (ts:Array TypeId):Builtin→Option Ef
 | .append=>efAppend P hp nx ((args[0]?).bind ev) ((args[1]?).bind ev) ((ts[0]?).bind (undA P)) ((ts[1]?).bind (undA P))
 | .copy=>efCopy P hp nx ((args[0]?).bind ev) ((args[1]?).bind ev) ((ts[0]?).bind (undA P))
 | .clear=>efClear P hp nx ((args[0]?).bind ev) ((ts[0]?).bind (undA P))
 | .delete=>efDelete P hp nx ((args[0]?).bind ev) ((args[1]?).bind ev) ((ts[0]?).bind (undA P))
 | _=>none
noncomputable def efCall (P:Program) (hp:Tr Blk) (nx:Nat) (ev:Operand→Option AV) (args:Array Operand) (ts:Array TypeId):Callee→Option Ef
 | .value f=>callA P (ev f) (evL ev args.toList)
 | .builtin b=>efBuiltin P hp nx ev args ts b
 | _=>none
noncomputable def ef (P:Program) (hp:Tr Blk) (nx:Nat) (ev:Operand→Option AV) (op:Op):Option Ef:=
 Op.rec (motive:=fun _=>Program→Tr Blk→Nat→(Operand→Option AV)→Option Ef)
  (fun _ _ _ _ _=>none)
  (fun _ _ _ _ _=>none)
  (fun _ _ _ _ _ _ _=>none)
  (fun _ _ _ _ _=>none)
  (fun _ _ _ _ _ _=>none)
  (fun _ _ _ _ _ _=>none)
  (fun _ _ _ _ _ _ _=>none)
  (fun _ _ _ _ _ _ _ _=>none)
  (fun _ _ _ _ _ _=>none)
  (fun t a x P hp nx ev=>efStore hp nx (ev a) (ev x) (szT P t))
  (fun _ _ _ _ _=>none)
  (fun _ _ _ _ _=>none)
  (fun _ _ _ _ _=>none)
  (fun _ _ _ _ _ _ _ _ _=>none)
  (fun _ _ _ _ _ _ _=>none)
  (fun src dst x P hp nx ev=>efConvert P hp nx (Nat.beq src dst) (ev x) (undA P src) (undA P dst))
  (fun _ _ _ _ _ _=>none)
  (fun _ _ _ _ _ _=>none)
  (fun _ _ _ _ _ _ _=>none)
  (fun _ _ _ _ _ _=>none)
  (fun _ _ _ _ _ _=>none)
  (fun _ _ _ _ _ _ _=>none)
  (fun _ _ _ _ _ _ _ _ _=>none)
  (fun _ _ _ _ _ _ _=>none)
  (fun _ _ _ _ _ _ _=>none)
  (fun _ _ _ _ _ _ _=>none)
  (fun _ _ _ _ _ _ _=>none)
  (fun _ _ _ _ _ _ _ _=>none)
  (fun t m k x P hp nx ev=>efMapUpdate P hp nx (ev m) (undA P t) (ev k) (ev x))
  (fun _ _ _ _ _ _ _=>none)
  (fun _ _ _ _ _ _ _ _=>none)
  (fun _ _ _ _ _ _=>none)
  (fun it b _ hp nx ev=>efNext hp nx b (ev it))
  (fun _ _ _ _ _=>none)
  (fun _ _ _ _ _ _ _ _=>none)
  (fun _ _ _ _ _ _=>none)
  (fun c P hp nx ev=>efCall P hp nx ev c.args c.argTypes c.callee)
  (fun _ _ _ _ _=>none)
  (fun _ _ _ _ _=>none)
  (fun _ _ _ _ _=>none)
  (fun _ _ _ _ _ _=>none)
  (fun _ _ _ _ _ _ _=>none)
  (fun _ _ _ _ _ _=>none)
  op P hp nx ev
structure Dr where
 todo:List (Nat×Oper×Nat)
 done:Nat
 seen:List (Nat×Nat×Nat×List AV)
 cur:Option (Nat×Oper×Nat)
inductive AI where
 | code (c:Code)
 | inBlock (id:Nat)
 | inLoop (body:Code)
 | inScope (body:Code)
 | reg (ops:Array Oper) (rest:List Oper)
 | draw (ops:Array Oper) (d:Dr)
 | inRF (l:Nat)
 | endRF (l:Nat)
 | beginRound
structure Fx where
 fn:FuncId
 nt:Nat
 round:Option Nat
structure AF where
 fx:Fx
 tm:Tr AV
 todo:List AI
 defs:List Nat
 ret:Bool
structure AS where
 fr:AF
 cs:List AF
 hp:Tr Blk
 nx:Nat
noncomputable def putT (fx:Fx) (tm:Tr AV) (dst:Option Tmp) (v:AV):Option (Tr AV):=
 Option.rec (motive:=fun _=>Fx→Tr AV→AV→Option (Tr AV)) (fun _ tm _=>some tm)
  (fun d fx tm v=>Bool.rec (motive:=fun _=>Option (Tr AV)) none (some (tm.put d v)) (Nat.ble (Nat.succ d) fx.nt)) dst fx tm v
noncomputable def yieldedA (ops:Array Oper) (tm:Tr AV) (j:Nat):Option (Option Bool):=
 match (ops[j]?).bind (·.dst) with
 | none=>some none
 | some d=>match tm.get d with
   | some (.lit (.bool b))=>some (some b)
   | some (.tup _)=>some none
   | _=>none
noncomputable def wantedA (ops:Array Oper) (tm:Tr AV) (o:Oper):Option Bool:=
 match o.guard with
 | none=>some true
 | some (j,want)=>match yieldedA ops tm j with
   | some (some b)=>some (b==want)
   | some none=>some false
   | none=>none
noncomputable def AV.beq0:AV→AV→Bool
 | .lit (.int j a),.lit (.int k b)=>decide (j=k)&&decide (a=b)
 | .lit (.bool a),.lit (.bool b)=>a==b
 | .lit (.string a),.lit (.string b)=>decide (a.data.toList=b.data.toList)
 | .lit (.pointer none),.lit (.pointer none)=>true
 | .lit (.slice none a c),.lit (.slice none b d)=>Nat.beq a b&&Nat.beq c d
 | .lit .nilFunc,.lit .nilFunc=>true
 | .ptr a b,.ptr c d=>Nat.beq a c&&Nat.beq b d
 | .slc a b c d,.slc e f g h=>Nat.beq a e&&Nat.beq b f&&Nat.beq c g&&Nat.beq d h
 | .mp a,.mp b=>Nat.beq a b
 | _,_=>false
noncomputable def beqL0:List AV→List AV→Bool
 | [],[]=>true
 | a::l,b::m=>a.beq0 b&&beqL0 l m
 | _,_=>false
noncomputable def AV.beq:AV→AV→Bool
 | .clo a l,.clo b m=>Nat.beq a b&&beqL0 l m
 | a,b=>a.beq0 b
noncomputable def beqL:List AV→List AV→Bool
 | [],[]=>true
 | a::l,b::m=>a.beq b&&beqL l m
 | _,_=>false
noncomputable def seenOk (H:Nat→Option Blk):List (Nat×Nat×Nat×List AV)→Bool
 | []=>true
 | (_,b,off,l)::r=>(match loadC H b off l.length with|some l'=>beqL l l'|none=>false)&&seenOk H r
noncomputable def drAfter (hp:Tr Blk) (d:Dr) (i:Nat) (m:Nat):Option Dr:=
 match d.seen.filter (fun x => !(m.testBit x.1)) with
 | seen=>match seenOk hp.get seen with
   | true=>some { todo:=d.todo.filter (fun x => !(Nat.beq x.1 i)),done:=d.done|||2 ^ i,seen:=seen,cur:=none }
   | false=>none
noncomputable def finishReg (fx:Fx) (tm:Option (Tr AV)) (ops:Array Oper) (rest:List Oper) (k:List AI) (defs:List Nat):Option AF:=
 match tm with
 | some tm=>some ⟨fx,tm,.reg ops rest::k,defs,false⟩
 | none=>none
noncomputable def finishDraw (fx:Fx) (tm:Option (Tr AV)) (ops:Array Oper) (d:Option Dr) (k:List AI) (defs:List Nat):Option AF:=
 match tm,d with
 | some tm,some d=>some ⟨fx,tm,.draw ops d::k,defs,false⟩
 | _,_=>none
noncomputable def finishDr (fx:Fx) (tm:Tr AV) (ops:Array Oper) (d:Dr) (k:List AI) (defs:List Nat) (hp:Tr Blk) (v:AV):Option (Nat×Oper×Nat)→Option AF
 | some (i,o,m)=>finishDraw fx (putT fx tm o.dst v) ops (drAfter hp d i m) k defs
 | none=>none
noncomputable def AF.finish (hp:Tr Blk) (v:AV):AF→Option AF
 | ⟨fx,tm,.reg ops (o::rest)::k,defs,false⟩=>finishReg fx (putT fx tm o.dst v) ops rest k defs
 | ⟨fx,tm,.draw ops d::k,defs,false⟩=>finishDr fx tm ops d k defs hp v d.cur
 | ⟨fx,tm,.inRF l::k,defs,false⟩=>some ⟨fx,tm,.endRF l::k,defs,false⟩
 | _=>none
noncomputable def argsT (args:List AV):Nat→Tr AV→Tr AV:=
 match args with
 | []=>fun _ t=>t
 | a::r=>fun i t=>argsT r (i+1) (t.put i a)
noncomputable def enterFn (f:FuncId) (args:List AV) (fn:Func):Option Code→Option AF
 | some c=>some ⟨⟨f,max args.length fn.ntmps,none⟩,argsT args 0 .nil,[.code c],[],false⟩
 | none=>none
noncomputable def enterA (P:Program) (f:FuncId) (args:List AV):Option AF:=
 match fnA P f with
 | some fn=>enterFn f args fn fn.body
 | none=>none
noncomputable def putAll (nt:Nat) (tm:Tr AV):List Tmp→List AV→Option (Tr AV)
 | [],[]=>some tm
 | t::ts,v::vs=>match Nat.blt t nt with
   | true=>putAll nt (tm.put t v) ts vs
   | false=>none
 | _,_=>none
noncomputable def exitA (id:Nat):List AI→Option (List AI)
 | .inBlock id'::k=>match Nat.beq id' id with|true=>some k|false=>exitA id k
 | _::k=>exitA id k
 | []=>none
noncomputable def gotoA (l:Nat):List AI→Option (List AI)
 | .inScope body::k=>match findLabel body l with
   | some rest=>some (.code rest :: .inScope body::k)
   | none=>gotoA l k
 | _::k=>gotoA l k
 | []=>none
noncomputable def resA (P:Program) (H:Nat→Option Blk) (tm:Tr AV):List ResultVar→Option (List AV)
 | []=>some []
 | .tmp t::rest=>match tm.get t,resA P H tm rest with
   | some v,some l=>some (v::l)
   | _,_=>none
 | .cell a t::rest=>match tm.get a with
   | some (.ptr b off)=>match loadV P H t b off,resA P H tm rest with
     | some v,some l=>some (v::l)
     | _,_=>none
   | _=>none
noncomputable def oneOr:Option (List AV)→Option AV
 | some [v]=>some v
 | some l=>some (.tup l)
 | none=>none
noncomputable def resultA (P:Program) (H:Nat→Option Blk) (fn:FuncId) (tm:Tr AV):Option AV:=
 match fnA P fn with
 | some f=>oneOr (resA P H tm f.results.toList)
 | none=>none
noncomputable def backTo (cs:List AF) (hp:Tr Blk) (nx:Nat):Option AF→Option AS
 | some c=>some ⟨c,cs,hp,nx⟩
 | none=>none
noncomputable def isRet:Option Code→Bool
 | none=>true
 | some .ret=>true
 | _=>false
noncomputable def leaveTo (cs:List AF) (hp:Tr Blk) (nx:Nat) (b:Bool):Option AS:=
 match cs with
 | c::cs=>backTo cs hp nx (c.finish hp (.lit (.bool b)))
 | []=>none
noncomputable def loopEnd:Option Code→LoopState
 | none=>.ready
 | some _=>.done
noncomputable def leaveRound (l:Nat) (cs:List AF) (hp:Tr Blk) (nx:Nat) (jump:Option Code):Option Blk→Option AS
 | some (.loop _ _ fn nt tm ps as bd df)=>leaveTo cs (hp.put l (.loop (loopEnd jump) jump fn nt tm ps as bd df)) nx jump.isNone
 | _=>none
noncomputable def leaveA (fx:Fx) (tm:Tr AV) (todo:List AI) (defs:List Nat) (cs:List AF) (hp:Tr Blk) (nx:Nat) (jump:Option Code):Option AS:=
 match fx.round with
 | none=>match isRet jump with
   | true=>some ⟨⟨fx,tm,todo,defs,true⟩,cs,hp,nx⟩
   | false=>none
 | some l=>match defs with
   | []=>leaveRound l cs hp nx jump (hp.get l)
   | _=>none
noncomputable def beginLoop (l:Nat) (fr:AF) (cs:List AF) (hp:Tr Blk) (nx:Nat) (args:List AV):Option Blk→Option AS
 | some (.loop _ _ fn nt tm ps as bd _)=>match putAll nt tm ps args with
   | some tm=>some ⟨⟨⟨fn,nt,some l⟩,tm,[.code as,.beginRound,.code bd],[],false⟩,fr::cs,hp,nx⟩
   | none=>none
 | _=>none
noncomputable def pushF (fr:AF) (cs:List AF) (hp:Tr Blk) (nx:Nat):Option AF→Option AS
 | some f=>some ⟨f,fr::cs,hp,nx⟩
 | none=>none
noncomputable def applyA (P:Program) (fr:AF) (cs:List AF) (hp:Tr Blk) (nx:Nat):Option Ef→Option AS
 | some (.val v hp nx)=>backTo cs hp nx (fr.finish hp v)
 | some (.enter f args)=>pushF fr cs hp nx (enterA P f args)
 | some (.round l args)=>beginLoop l fr cs hp nx args (hp.get l)
 | none=>none
noncomputable def masks (acc:Tr Nat) (i:Nat):List Oper→Option (List (Nat×Oper×Nat))
 | []=>some []
 | o::r=>
   match o.after.toList.foldl (fun (s:Option Nat) e=>match Region.binds .any e with
    | true=>match s,acc.get e.on with|some s,some m=>some (s|||2 ^ e.on|||m)|_,_=>none
    | false=>s) (some 0) with
   | some m=>match masks (acc.put i m) (i+1) r with
     | some l=>some ((i,o,m)::l)
     | none=>none
   | none=>none
noncomputable def apartB (ops:Array Oper) (l:List (Nat×Oper×Nat)):Bool:=
 l.all fun x=>l.all fun y => !(Nat.blt x.1 y.1) || y.2.2.testBit x.1 || x.2.1.apart ops y.2.1
inductive Pick where
 | fl (i:Nat) (o:Oper) (m:Nat) (v:AV) (b:Option Blk)
 | ef (i:Nat) (o:Oper) (m:Nat)
 | over
 | lost
noncomputable def quietB (ev:Operand→Option AV) (o:Oper):Bool:=
 match o.op with
 | .lookup .. => false
 | .convert _ _ x=>match ev x with|some (.slc ..)=>false|_=>true
 | .call { callee:=.builtin .len,args,.. }=>match (args[0]?).bind ev with|some (.mp _)=>false|_=>true
 | _=>true
noncomputable def efOr (P:Program) (hp:Tr Blk) (nx:Nat) (ev:Operand→Option AV) (o:Oper):Option Ef:=
 match ef P hp nx ev o.op with
 | some e=>some e
 | none=>match fl P hp.get ev o nx o.op with
   | some (v,none)=>some (.val v hp nx)
   | _=>none
noncomputable def pickA (P:Program) (ops:Array Oper) (H:Nat→Option Blk) (tm:Tr AV) (done:Nat) (id:Nat):List (Nat×Oper×Nat)→Pick→Pick
 | [],p=>p
 | (i,o,m)::r,p=>match Nat.beq (Nat.land m done) m with
   | false=>pickA P ops H tm done id r p
   | true=>match wantedA ops tm o with
     | none=>.lost
     | some false=>.fl i o m (.tup []) none
     | some true=>match (match quietB (evA tm) o with|true=>fl P H (evA tm) o id o.op|false=>none) with
       | some (v,b)=>.fl i o m v b
       | none=>match p with
         | .over=>pickA P ops H tm done id r (.ef i o m)
         | _=>.lost
noncomputable def seenOf (H:Nat→Option Blk) (P:Program) (tm:Tr AV) (o:Oper):Option (List (Nat×Nat×List AV)):=
 match o.op with
 | .load t a=>match evA tm a with
   | some (.ptr b off)=>match (match isAggT P t with|some true=>szT P t|some false=>some 1|none=>none) with
     | some n=>match loadC H b off n with
       | some l=>some [(b,off,l)]
       | none=>none
     | none=>none
   | _=>none
 | _=>some []
noncomputable def drFl (fx:Fx) (d:Dr) (k:List AI) (defs:List Nat) (cs:List AF) (hp:Tr Blk) (nx:Nat) (ops:Array Oper) (i:Nat) (b:Option Blk):Option (Tr AV)→Option (List (Nat×Nat×List AV))→Option AS
 | some tm,some sn=>match b with
   | some b=>some ⟨⟨fx,tm,.draw ops ⟨d.todo.filter (fun x => !(Nat.beq x.1 i)),d.done|||2 ^ i,sn.map (fun x=>(i,x))++d.seen,none⟩::k,defs,false⟩,cs,hp.put nx b,nx+1⟩
   | none=>some ⟨⟨fx,tm,.draw ops ⟨d.todo.filter (fun x => !(Nat.beq x.1 i)),d.done|||2 ^ i,sn.map (fun x=>(i,x))++d.seen,none⟩::k,defs,false⟩,cs,hp,nx⟩
 | _,_=>none
noncomputable def drEf (P:Program) (fx:Fx) (tm:Tr AV) (d:Dr) (k:List AI) (defs:List Nat) (cs:List AF) (hp:Tr Blk) (nx:Nat) (ops:Array Oper) (i:Nat) (o:Oper) (m:Nat):Option AS:=
 applyA P ⟨fx,tm,.draw ops ⟨d.todo,d.done,d.seen,some (i,o,m)⟩::k,defs,false⟩ cs hp nx (efOr P hp nx (evA tm) o)
noncomputable def seenIf (H:Nat→Option Blk) (P:Program) (tm:Tr AV) (o:Oper):Option Bool→Option (List (Nat×Nat×List AV))
 | some true=>seenOf H P tm o
 | _=>some []
noncomputable def stepDraw (P:Program) (fx:Fx) (tm:Tr AV) (ops:Array Oper) (d:Dr) (k:List AI) (defs:List Nat) (cs:List AF) (hp:Tr Blk) (nx:Nat):Pick→Option AS
 | .fl i o _ v b=>drFl fx d k defs cs hp nx ops i b (putT fx tm o.dst v) (seenIf hp.get P tm o (wantedA ops tm o))
 | .ef i o m=>drEf P fx tm d k defs cs hp nx ops i o m
 | .over=>match d.todo with
   | []=>some ⟨⟨fx,tm,k,defs,false⟩,cs,hp,nx⟩
   | _=>none
 | .lost=>none
noncomputable def regPut (ops:Array Oper) (rest:List Oper) (k:List AI) (fx:Fx) (defs:List Nat) (cs:List AF) (hp:Tr Blk) (nx:Nat) (tm:Option (Tr AV)):Option AS:=
 Option.rec (motive:=fun _=>Option AS) none (fun tm=>some ⟨⟨fx,tm,.reg ops rest::k,defs,false⟩,cs,hp,nx⟩) tm
noncomputable def regFl (r:Option (AV×Option Blk)) (P:Program) (fx:Fx) (tm:Tr AV) (ops:Array Oper) (o:Oper) (dst:Option Tmp) (op:Op) (rest:List Oper) (k:List AI) (defs:List Nat) (cs:List AF) (hp:Tr Blk) (nx:Nat):Option AS:=
 Option.rec (motive:=fun _=>Option AS)
  (applyA P ⟨fx,tm,.reg ops (o::rest)::k,defs,false⟩ cs hp nx (ef P hp nx (evA tm) op))
  (fun p=>Prod.rec (motive:=fun _=>Option AS)
   (fun v b=>Option.rec (motive:=fun _=>Option AS) (regPut ops rest k fx defs cs hp nx (putT fx tm dst v))
    (fun b=>regPut ops rest k fx defs cs (hp.put nx b) (Nat.succ nx) (putT fx tm dst v)) b) p) r
noncomputable def regIf (w:Option Bool) (P:Program) (fx:Fx) (tm:Tr AV) (ops:Array Oper) (o:Oper) (dst:Option Tmp) (op:Op) (rest:List Oper) (k:List AI) (defs:List Nat) (cs:List AF) (hp:Tr Blk) (nx:Nat):Option AS:=
 Option.rec (motive:=fun _=>Option AS) none
  (fun w=>Bool.rec (motive:=fun _=>Option AS) (regPut ops rest k fx defs cs hp nx (putT fx tm dst (.tup [])))
   (regFl (fl P hp.get (evA tm) o nx op) P fx tm ops o dst op rest k defs cs hp nx) w) w
noncomputable def stepOp (o:Oper) (rest:List Oper) (ops:Array Oper) (k:List AI) (P:Program) (fx:Fx) (tm:Tr AV) (defs:List Nat) (cs:List AF) (hp:Tr Blk) (nx:Nat):Option AS:=
 Oper.rec (motive:=fun _=>Oper→List Oper→Array Oper→List AI→Program→Fx→Tr AV→List Nat→List AF→Tr Blk→Nat→Option AS)
  (fun dst op _ _ _ g o rest ops k P fx tm defs cs hp nx=>Option.rec (motive:=fun _=>Option AS)
   (regFl (fl P hp.get (evA tm) o nx op) P fx tm ops o dst op rest k defs cs hp nx)
   (fun _=>regIf (wantedA ops tm o) P fx tm ops o dst op rest k defs cs hp nx) g) o o rest ops k P fx tm defs cs hp nx
noncomputable def exitOr (fx:Fx) (tm:Tr AV) (todo:List AI) (defs:List Nat) (cs:List AF) (hp:Tr Blk) (nx:Nat) (c:Code):Option (List AI)→Option AS
 | some k=>some ⟨⟨fx,tm,k,defs,false⟩,cs,hp,nx⟩
 | none=>leaveA fx tm todo defs cs hp nx (some c)
noncomputable def condA (fx:Fx) (tm:Tr AV) (k:List AI) (defs:List Nat) (cs:List AF) (hp:Tr Blk) (nx:Nat) (a b:Code):Option AV→Option AS
 | some (.lit (.bool true))=>some ⟨⟨fx,tm,.code a::k,defs,false⟩,cs,hp,nx⟩
 | some (.lit (.bool false))=>some ⟨⟨fx,tm,.code b::k,defs,false⟩,cs,hp,nx⟩
 | _=>none
noncomputable def drawA (fx:Fx) (tm:Tr AV) (k:List AI) (defs:List Nat) (cs:List AF) (hp:Tr Blk) (nx:Nat) (ops:Array Oper):Bool→Option (List (Nat×Oper×Nat))→Option AS
 | true,some l=>match apartB ops l with
   | true=>some ⟨⟨fx,tm,.draw ops ⟨l,0,[],none⟩::k,defs,false⟩,cs,hp,nx⟩
   | false=>none
 | _,_=>none
noncomputable def pushIf (P:Program) (g:FuncId) (fr:AF) (cs:List AF) (hp:Tr Blk) (nx:Nat) (f:Option AF):Option AS:=
 match entersB P g with
 | true=>pushF fr cs hp nx f
 | false=>none
noncomputable def rfIn (P:Program) (fx:Fx) (tm:Tr AV) (k:List AI) (defs:List Nat) (cs:List AF) (hp:Tr Blk) (nx:Nat) (ps:List Tmp) (as bd:Code):Option Blk→Option AV→Option AS
 | some (.loop _ _ _ _ _ _ _ _ df),some (.clo g l)=>
   pushIf P g ⟨fx,tm,.inRF nx::k,defs,false⟩ cs (hp.put nx (.loop .ready none fx.fn fx.nt tm ps as bd df)) (nx+1) (enterA P g (.yld nx::l))
 | _,_=>none
noncomputable def rfOut (P:Program) (fx:Fx) (tm:Tr AV) (k:List AI) (defs:List Nat) (cs:List AF) (hp:Tr Blk) (nx:Nat) (ps:List Tmp) (as bd:Code):Option AV→Option AS
 | some (.clo g l)=>
   pushIf P g ⟨fx,tm,.inRF (nx+1)::k,nx::defs,false⟩ cs ((hp.put nx .defd).put (nx+1) (.loop .ready none fx.fn fx.nt tm ps as bd nx)) (nx+2) (enterA P g (.yld (nx+1)::l))
 | _=>none
noncomputable def rfA (P:Program) (fx:Fx) (tm:Tr AV) (k:List AI) (defs:List Nat) (cs:List AF) (hp:Tr Blk) (nx:Nat) (ps:List Tmp) (as bd:Code) (f:Option AV):Option Nat→Option AS
 | none=>rfOut P fx tm k defs cs hp nx ps as bd f
 | some l0=>rfIn P fx tm k defs cs hp nx ps as bd (hp.get l0) f
noncomputable def stepCode (c:Code) (k:List AI) (P:Program) (fx:Fx) (tm:Tr AV) (defs:List Nat) (cs:List AF) (hp:Tr Blk) (nx:Nat):Option AS:=
 Code.rec (motive:=fun _=>List AI→Program→Fx→Tr AV→List Nat→List AF→Tr Blk→Nat→Option AS)
  (fun k _ fx tm defs cs hp nx=>some ⟨⟨fx,tm,k,defs,false⟩,cs,hp,nx⟩)
  (fun _ ops draw k P fx tm defs cs hp nx=>Bool.rec (motive:=fun _=>Option AS) (some ⟨⟨fx,tm,.reg ops ops.toList::k,defs,false⟩,cs,hp,nx⟩)
   (drawA fx tm k defs cs hp nx ops (P.follows .mixedOrders) (masks .nil 0 ops.toList)) draw)
  (fun a b _ _ k _ fx tm defs cs hp nx=>some ⟨⟨fx,tm,.code a :: .code b::k,defs,false⟩,cs,hp,nx⟩)
  (fun c a b _ _ k _ fx tm defs cs hp nx=>condA fx tm k defs cs hp nx a b (evA tm c))
  (fun id b _ k _ fx tm defs cs hp nx=>some ⟨⟨fx,tm,.code b :: .inBlock id::k,defs,false⟩,cs,hp,nx⟩)
  (fun b _ k _ fx tm defs cs hp nx=>some ⟨⟨fx,tm,.code b :: .inLoop b::k,defs,false⟩,cs,hp,nx⟩)
  (fun f ps as bd _ _ k P fx tm defs cs hp nx=>rfA P fx tm k defs cs hp nx ps.toList as bd (evA tm f) fx.round)
  (fun id k _ fx tm defs cs hp nx=>exitOr fx tm (.code (.exit id)::k) defs cs hp nx (.exit id) (exitA id k))
  (fun b _ k _ fx tm defs cs hp nx=>some ⟨⟨fx,tm,.code b :: .inScope b::k,defs,false⟩,cs,hp,nx⟩)
  (fun _ k _ fx tm defs cs hp nx=>some ⟨⟨fx,tm,k,defs,false⟩,cs,hp,nx⟩)
  (fun l k _ fx tm defs cs hp nx=>exitOr fx tm (.code (.goto l)::k) defs cs hp nx (.goto l) (gotoA l k))
  (fun k _ fx tm defs cs hp nx=>leaveA fx tm (.code .ret::k) defs cs hp nx (some .ret))
  (fun _ _ _ _ _ _ _ _ _=>none)
  c k P fx tm defs cs hp nx
noncomputable def retDef (fx:Fx) (tm:Tr AV) (todo:List AI) (d:Nat) (ds:List Nat) (cs:List AF) (hp:Tr Blk) (nx:Nat):Option Blk→Option AS
 | some .defd=>some ⟨⟨fx,tm,todo,ds,true⟩,cs,hp.del d,nx⟩
 | _=>none
noncomputable def retTo (cs:List AF) (hp:Tr Blk) (nx:Nat):Option AV→Option AS
 | some v=>match cs with
   | c::cs=>backTo cs hp nx (c.finish hp v)
   | []=>none
 | none=>none
noncomputable def stepRet (P:Program) (fx:Fx) (tm:Tr AV) (todo:List AI) (cs:List AF) (hp:Tr Blk) (nx:Nat):List Nat→Option AS
 | d::ds=>retDef fx tm todo d ds cs hp nx (hp.get d)
 | []=>retTo cs hp nx (resultA P hp.get fx.fn tm)
noncomputable def isBusy:LoopState→Bool
 | .busy=>true
 | _=>false
noncomputable def endRFA (fx:Fx) (tm:Tr AV) (k:List AI) (defs:List Nat) (cs:List AF) (hp:Tr Blk) (nx:Nat) (l:Nat):Option Blk→Option AS
 | some (.loop st pend fn nt tm' ps as bd df)=>match isBusy st with
   | true=>none
   | false=>some ⟨⟨fx,tm,(match pend with|some c=>.code c::k|none=>k),defs,false⟩,cs,hp.put l (.loop .exhausted pend fn nt tm' ps as bd df),nx⟩
 | _=>none
noncomputable def beginA (fx:Fx) (tm:Tr AV) (k:List AI) (defs:List Nat) (cs:List AF) (hp:Tr Blk) (nx:Nat) (l:Nat):Option Blk→Option AS
 | some (.loop .ready pend fn nt tm' ps as bd df)=>some ⟨⟨fx,tm,k,defs,false⟩,cs,hp.put l (.loop .busy pend fn nt tm' ps as bd df),nx⟩
 | _=>none
noncomputable def beginIf (fx:Fx) (tm:Tr AV) (k:List AI) (defs:List Nat) (cs:List AF) (hp:Tr Blk) (nx:Nat):Option Nat→Option AS
 | some l=>beginA fx tm k defs cs hp nx l (hp.get l)
 | none=>none
noncomputable def stepTodo (todo:List AI) (P:Program) (fx:Fx) (tm:Tr AV) (defs:List Nat) (cs:List AF) (hp:Tr Blk) (nx:Nat):Option AS:=
 List.rec (motive:=fun _=>Program→Fx→Tr AV→List Nat→List AF→Tr Blk→Nat→Option AS)
  (fun _ fx tm defs cs hp nx=>leaveA fx tm [] defs cs hp nx none)
  (fun a k _=>AI.rec (motive:=fun _=>List AI→Program→Fx→Tr AV→List Nat→List AF→Tr Blk→Nat→Option AS)
   stepCode
   (fun _ k _ fx tm defs cs hp nx=>some ⟨⟨fx,tm,k,defs,false⟩,cs,hp,nx⟩)
   (fun b k _ fx tm defs cs hp nx=>some ⟨⟨fx,tm,.code b :: .inLoop b::k,defs,false⟩,cs,hp,nx⟩)
   (fun _ k _ fx tm defs cs hp nx=>some ⟨⟨fx,tm,k,defs,false⟩,cs,hp,nx⟩)
   (fun ops rest k=>List.rec (motive:=fun _=>Array Oper→List AI→Program→Fx→Tr AV→List Nat→List AF→Tr Blk→Nat→Option AS)
    (fun _ k _ fx tm defs cs hp nx=>some ⟨⟨fx,tm,k,defs,false⟩,cs,hp,nx⟩)
    (fun o rest _=>stepOp o rest) rest ops k)
   (fun ops d k P fx tm defs cs hp nx=>stepDraw P fx tm ops d k defs cs hp nx (pickA P ops hp.get tm d.done nx d.todo .over))
   (fun _ _ _ _ _ _ _ _ _=>none)
   (fun l k _ fx tm defs cs hp nx=>endRFA fx tm k defs cs hp nx l (hp.get l))
   (fun k _ fx tm defs cs hp nx=>beginIf fx tm k defs cs hp nx fx.round) a k) todo P fx tm defs cs hp nx
noncomputable def stepA (P:Program) (s:AS):Option AS:=
 AS.rec (motive:=fun _=>Program→Option AS)
  (fun fr cs hp nx P=>AF.rec (motive:=fun _=>Program→List AF→Tr Blk→Nat→Option AS)
   (fun fx tm todo defs ret P cs hp nx=>Bool.rec (motive:=fun _=>Option AS) (stepTodo todo P fx tm defs cs hp nx) (stepRet P fx tm todo cs hp nx defs) ret) fr P cs hp nx) s P
noncomputable def goOn (P:Program) (go:Option AS→Option AS) (s:Option AS):Option AS:=
 Option.rec (motive:=fun _=>Option AS) none (fun s=>go (stepA P s)) s
noncomputable def runA (P:Program) (n:Nat):Option AS→Option AS:=
 Nat.rec (motive:=fun _=>Option AS→Option AS) (fun s=>s) (fun _ ih s=>goOn P ih s) n
end Go.Sy
namespace Go.Sy
/-! ### The trie -/
theorem Tr.get_nil {α:Type} (n:Nat):(Tr.nil:Tr α).get n=none:=rfl
theorem Tr.get_zero {α:Type} (l:Tr α) (v:Option α) (r:Tr α):(Tr.node l v r).get 0=v:=rfl
theorem Tr.get_succ {α:Type} (l:Tr α) (v:Option α) (r:Tr α) (m:Nat):(Tr.node l v r).get (m+1)=if m % 2=0 then l.get (m / 2) else r.get (m / 2):=by
 show Bool.rec (motive:=fun _=>Option α) (r.get (Nat.div m 2)) (l.get (Nat.div m 2)) (Nat.beq (Nat.mod m 2) 0)=_
 by_cases h:m % 2=0
 ·have:Nat.beq (Nat.mod m 2) 0=true:=by rw [Nat.beq_eq];exact h
  rw [this,if_pos h];rfl
 ·have:Nat.beq (Nat.mod m 2) 0=false:=by
   cases hb:Nat.beq (Nat.mod m 2) 0 with
   | false=>rfl
   | true=>exact absurd (Nat.beq_eq ▸ hb) h
  rw [this,if_neg h];rfl
theorem Tr.path_succ {α:Type} (x:Option α) (k m:Nat):Tr.path x (k+1) (m+1)=if m % 2=0 then .node (Tr.path x k (m / 2)) none .nil else .node .nil none (Tr.path x k (m / 2)):=by
 show Bool.rec (motive:=fun _=>Tr α) (.node .nil none (Tr.path x k (Nat.div m 2))) (.node (Tr.path x k (Nat.div m 2)) none .nil) (Nat.beq (Nat.mod m 2) 0)=_
 by_cases h:m % 2=0
 ·have:Nat.beq (Nat.mod m 2) 0=true:=by rw [Nat.beq_eq];exact h
  rw [this,if_pos h];rfl
 ·have:Nat.beq (Nat.mod m 2) 0=false:=by
   cases hb:Nat.beq (Nat.mod m 2) 0 with
   | false=>rfl
   | true=>exact absurd (Nat.beq_eq ▸ hb) h
  rw [this,if_neg h];rfl
theorem Tr.get_path {α:Type} (x:Option α):∀ (k n m:Nat),n<k→(Tr.path x k n).get m=if n=m then x else none
 | 0,n,_,h=>absurd h (Nat.not_lt_zero n)
 | k+1,0,m,_=>by
   show (Tr.node .nil x .nil).get m=_
   cases m with
   | zero=>rw [Tr.get_zero];simp
   | succ m=>rw [Tr.get_succ];simp [Tr.get_nil]
 | k+1,n+1,m,h=>by
   rw [Tr.path_succ]
   have hk:n / 2<k:=by omega
   cases m with
   | zero=>split<;>(rw [Tr.get_zero];simp)
   | succ m=>
     by_cases h2:n % 2=0
     ·rw [if_pos h2,Tr.get_succ,Tr.get_path x k _ _ hk,Tr.get_nil]
      by_cases hm:m % 2=0
      ·rw [if_pos hm];by_cases hq:n / 2=m / 2
       ·rw [if_pos hq,if_pos (by omega)]
       ·rw [if_neg hq,if_neg (by omega)]
      ·rw [if_neg hm,if_neg (by omega)]
     ·rw [if_neg h2,Tr.get_succ,Tr.get_path x k _ _ hk,Tr.get_nil]
      by_cases hm:m % 2=0
      ·rw [if_pos hm,if_neg (by omega)]
      ·rw [if_neg hm];by_cases hq:n / 2=m / 2
       ·rw [if_pos hq,if_pos (by omega)]
       ·rw [if_neg hq,if_neg (by omega)]
theorem Tr.set_succ {α:Type} (l:Tr α) (v:Option α) (r:Tr α) (m:Nat) (x:Option α):(Tr.node l v r).set (m+1) x=if m % 2=0 then .node (l.set (m / 2) x) v r else .node l v (r.set (m / 2) x):=by
 show Bool.rec (motive:=fun _=>Tr α) (.node l v (r.set (Nat.div m 2) x)) (.node (l.set (Nat.div m 2) x) v r) (Nat.beq (Nat.mod m 2) 0)=_
 by_cases h:m % 2=0
 ·have:Nat.beq (Nat.mod m 2) 0=true:=by rw [Nat.beq_eq];exact h
  rw [this,if_pos h];rfl
 ·have:Nat.beq (Nat.mod m 2) 0=false:=by
   cases hb:Nat.beq (Nat.mod m 2) 0 with
   | false=>rfl
   | true=>exact absurd (Nat.beq_eq ▸ hb) h
  rw [this,if_neg h];rfl
theorem Tr.get_set {α:Type}:∀ (t:Tr α) (n:Nat) (x:Option α) (m:Nat),(t.set n x).get m=if n=m then x else t.get m
 | .nil,n,x,m=>by
   show (Tr.path x (Nat.succ n) n).get m=_
   rw [Tr.get_path x _ _ _ (Nat.lt_succ_self n),Tr.get_nil]
 | .node l v r,0,x,m=>by
   show (Tr.node l x r).get m=_
   cases m with
   | zero=>rw [Tr.get_zero];simp
   | succ m=>rw [Tr.get_succ,Tr.get_succ];simp
 | .node l v r,n+1,x,m=>by
   rw [Tr.set_succ]
   cases m with
   | zero=>split<;>(rw [Tr.get_zero,Tr.get_zero];simp)
   | succ m=>
     by_cases h2:n % 2=0
     ·rw [if_pos h2,Tr.get_succ,Tr.get_succ,Tr.get_set l]
      by_cases hm:m % 2=0
      ·rw [if_pos hm];by_cases hq:n / 2=m / 2
       ·rw [if_pos hq,if_pos (by omega)]
       ·rw [if_neg hq,if_neg (by omega),if_pos hm]
      ·rw [if_neg hm,if_neg (by omega),if_neg hm]
     ·rw [if_neg h2,Tr.get_succ,Tr.get_succ,Tr.get_set r]
      by_cases hm:m % 2=0
      ·rw [if_pos hm,if_neg (by omega),if_pos hm]
      ·rw [if_neg hm];by_cases hq:n / 2=m / 2
       ·rw [if_pos hq,if_pos (by omega)]
       ·rw [if_neg hq,if_neg (by omega),if_neg hm]
theorem Tr.get_put {α:Type} (t:Tr α) (n:Nat) (x:α) (m:Nat):(t.put n x).get m=if n=m then some x else t.get m:=Tr.get_set t n (some x) m
theorem Tr.get_del {α:Type} (t:Tr α) (n m:Nat):(t.del n).get m=if n=m then none else t.get m:=Tr.get_set t n none m
theorem Z6z {α:Type}:∀ (l:List α) (i:Nat) (t:Tr α) (n:Nat),(listT l i t).get n=if i≤n∧n<i+l.length then l[n-i]? else t.get n
 | [],i,t,n=>by
   show t.get n=_
   rw [if_neg (by simp only [List.length_nil];omega)]
 | a::l,i,t,n=>by
   show (listT l (Nat.succ i) (t.put i a)).get n=_
   rw [Z6z l,Tr.get_put]
   by_cases h:i=n
   ·subst h
    rw [if_neg (by omega),if_pos rfl,if_pos (by simp only [List.length_cons];omega),Nat.sub_self];rfl
   ·by_cases h2:i+1≤n∧n<i+1+l.length
    ·rw [if_pos h2,if_pos (by simp only [List.length_cons];omega),show n-i=(n-Nat.succ i)+1 by omega];rfl
    ·rw [if_neg h2,if_neg h,if_neg (by simp only [List.length_cons];omega)]
theorem Z3O {P:Program} {t:TypeId} {i:TypeInfo} (h:tyA P t=some i):P.info? t=some i:=by
 unfold tyA tyT at h
 rw [Z6z] at h
 simp only [Tr.get_nil,Nat.zero_le,true_and,Nat.zero_add,Nat.sub_zero] at h
 split at h
 ·rename_i hl
  simp only [Tables.info?]
  rw [if_pos (by simpa using hl)]
  simpa using h
 ·cases h
theorem Y4i (P:Program) (f:FuncId):fnA P f=P.funcs[f]? := by
 unfold fnA fnT
 rw [Z6z]
 simp only [Tr.get_nil,Nat.zero_le,true_and,Nat.zero_add,Nat.sub_zero]
 split
 ·simp
 ·rename_i h;rw [Array.getElem?_eq_none (by simpa using h)]
theorem Z1W {P:Program} {t:TypeId} {d:TypeDesc} (h:undA P t=some d):P.underlying t=some d:=by
 unfold undA undId at h
 unfold Program.underlying
 cases ht:tyA P t with
 | none=>simp [ht] at h
 | some i=>
   rw [Z3O ht]
   simp only [ht] at h
   obtain ⟨desc,_⟩:=i
   cases desc with
   | named n u=>
     simp only [Option.map_eq_some_iff] at h ⊢
     obtain ⟨j,hj,rfl⟩:=h
     exact ⟨j,Z3O hj,rfl⟩
   | _=>simpa using h
/-! ### Values -/
structure Env where
 ρ:Nat→Option Nat
 κ:Nat→Option Nat
structure Env.le (e e':Env):Prop where
 ρ:∀ b c,e.ρ b=some c→e'.ρ b=some c
 κ:∀ b c,e.κ b=some c→e'.κ b=some c
theorem Env.le.refl (e:Env):e.le e:=⟨fun _ _ h=>h,fun _ _ h=>h⟩
theorem Env.le.trans {e e' e'':Env} (h:e.le e') (h':e'.le e''):e.le e'':=⟨fun b c x=>h'.ρ b c (h.ρ b c x),fun b c x=>h'.κ b c (h.κ b c x)⟩
mutual
inductive VR (e:Env):AV→Value→Prop
 | lit (v:Value):VR e (.lit v) v
 | ptr {b c off:Nat} (h:e.ρ b=some c):VR e (.ptr b off) (.pointer (some ⟨c,off,none⟩))
 | slc {b c off len cap:Nat} (h:e.ρ b=some c) (hl:len≤cap) (hc:cap<unk):VR e (.slc b off len cap) (.slice (some ⟨c,off,none⟩) len cap)
 | slcU {b c off len n:Nat} (h:e.ρ b=some c) (hk:e.κ b=some n) (hl:len≤n):VR e (.slc b off len unk) (.slice (some ⟨c,off,none⟩) len n)
 | slcA {b c off len n:Nat} (h:e.ρ b=some c) (hl:len≤n):VR e (.slc b off len anyCap) (.slice (some ⟨c,off,none⟩) len n)
 | slcE {b c off off' n:Nat} (h:e.ρ b=some c):VR e (.slc b off 0 noOff) (.slice (some ⟨c,off',none⟩) 0 n)
 | clo {f:FuncId} {l:List AV} {vs:List Value} (h:VRs e l vs):VR e (.clo f l) (.func (.func f) #[] ⟨vs⟩)
 | yld {b c:Nat} (h:e.ρ b=some c):VR e (.yld b) (.func (.yield c) #[] #[])
 | mp {b c:Nat} (h:e.ρ b=some c):VR e (.mp b) (.map (some c))
 | agg {l:List AV} {vs:List Value} (h:VRs e l vs):VR e (.agg l) (.agg ⟨vs⟩)
 | tup {l:List AV} {vs:List Value} (h:VRs e l vs):VR e (.tup l) (.tuple ⟨vs⟩)
inductive VRs (e:Env):List AV→List Value→Prop
 | nil:VRs e [] []
 | cons {a:AV} {v:Value} {l:List AV} {vs:List Value} (h:VR e a v) (t:VRs e l vs):VRs e (a::l) (v::vs)
end
mutual
theorem VR.mono {e e':Env} (hle:e.le e'):∀ {a:AV} {v:Value},VR e a v→VR e' a v
 | _,_,.lit v=>.lit v
 | _,_,.ptr h=>.ptr (hle.ρ _ _ h)
 | _,_,.slc h hl hc=>.slc (hle.ρ _ _ h) hl hc
 | _,_,.slcU h hk hl=>.slcU (hle.ρ _ _ h) (hle.κ _ _ hk) hl
 | _,_,.slcA h hl=>.slcA (hle.ρ _ _ h) hl
 | _,_,.slcE h=>.slcE (hle.ρ _ _ h)
 | _,_,.clo h=>.clo (VRs.mono hle h)
 | _,_,.yld h=>.yld (hle.ρ _ _ h)
 | _,_,.mp h=>.mp (hle.ρ _ _ h)
 | _,_,.agg h=>.agg (VRs.mono hle h)
 | _,_,.tup h=>.tup (VRs.mono hle h)
theorem VRs.mono {e e':Env} (hle:e.le e'):∀ {l:List AV} {vs:List Value},VRs e l vs→VRs e' l vs
 | _,_,.nil=>.nil
 | _,_,.cons h t=>.cons (VR.mono hle h) (VRs.mono hle t)
end
theorem VRs.lits {e:Env}:∀ (l:List Value),VRs e (l.map .lit) l
 | []=>.nil
 | v::l=>.cons (.lit v) (VRs.lits l)
theorem VRs.length {e:Env}:∀ {l:List AV} {vs:List Value},VRs e l vs→l.length=vs.length
 | _,_,.nil=>rfl
 | _,_,.cons _ t=>by simp [VRs.length t]
theorem VRs.append {e:Env}:∀ {l:List AV} {vs:List Value} {m:List AV} {us:List Value},VRs e l vs→VRs e m us→VRs e (l++m) (vs++us)
 | _,_,_,_,.nil,h=>h
 | _,_,_,_,.cons h t,h'=>.cons h (VRs.append t h')
theorem VRs.get {e:Env}:∀ {l:List AV} {vs:List Value},VRs e l vs→∀ {i:Nat} {a:AV},l[i]? = some a→∃ v,vs[i]? = some v∧VR e a v
 | _,_,.cons h t,0,a,ha=>by
   simp at ha;subst ha;exact ⟨_,rfl,h⟩
 | _,_,.cons h t,i+1,a,ha=>by
   simp at ha
   obtain ⟨v,hv,hr⟩:=t.get ha
   exact ⟨v,by simpa using hv,hr⟩
theorem Y0f (e:Env) (v:Value):VR e (conv v) v:=by
 unfold conv
 split
 ·rename_i cs;cases cs with|mk l=>exact .agg (VRs.lits l)
 ·rename_i cs;cases cs with|mk l=>exact .tup (VRs.lits l)
 ·rename_i f fs cs
  split
  ·rename_i h
   simp only [Bool.and_eq_true,Array.isEmpty_iff] at h
   obtain ⟨rfl,rfl⟩:=h
   exact .clo .nil
  ·exact .lit _
 ·exact .lit _
theorem Y4j {e:Env}:∀ {l:List AV} {vs us:List Value},VRs e l vs→gndL l=some us→vs=us
 | _,_,us,.nil,h=>by simp [gndL] at h;exact h.symm
 | _,_,us,.cons hv t,h=>by
   cases hv with
   | lit v=>
     simp only [gndL] at h
     split at h
     ·rename_i l' hl
      have:=Y4j t hl
      simp at h;rw [this];exact h
     ·cases h
   | _=>simp [gndL] at h
theorem Y8J {e:Env} {a:AV} {v u:Value} (h:VR e a v) (hg:gnd a=some u):v=u:=by
 cases h with
 | lit v=>simp [gnd] at hg;exact hg
 | agg hs=>
   simp only [gnd] at hg
   split at hg
   ·rename_i l hl
    have:=Y4j hs hl
    simp at hg;rw [←hg,this]
   ·cases hg
 | _=>simp [gnd] at hg
/-! ### Blocks, heaps, frames -/
def TR (e:Env) (nt:Nat) (tm:Tr AV) (tmps:Array Value):Prop:=
 tmps.size=nt∧∀ t a,tm.get t=some a→∃ v,tmps[t]? = some v∧VR e a v
def ER (e:Env):List (Value×AV×Nat)→List MapEntry→Prop
 | [],[]=>True
 | (k,a,n)::l,m::ms=>k=m.key∧VR e a m.val∧n=m.born∧ER e l ms
 | _,_=>False
def CR (e:Env) (l:List AV) (c:Array Value):Prop := ∀ (i:Nat) (a:AV),l[i]? = some a→∃ v,c[i]? = some v∧VR e a v
def BR (P:Program) (e:Env) (id:Nat):Blk→Obj→Prop
 | .cells t l,.cells c t' fz=>t=t'∧CR e l c∧(fz.1=fz.2∨c.size≤fz.1)∧∀ n,e.κ id=some n→∃ i,P.info? t=some i∧c.size=n*i.size
 | .str s pos,.stringIter s' pos'=>s=s'∧pos=pos'
 | .mp es clock,.map entries clock'=>ER e es entries.toList∧clock=clock'
 | .defd,.deferred (some [])=>True
 | .loop st pend fn nt tm ps as bd df,.loop l=>l.state=st∧l.pending=pend∧l.fn=fn∧TR e nt tm l.tmps∧l.params.toList=ps∧l.assign=as∧l.body=bd∧e.ρ df=some l.defers
 | _,_=>False
theorem TR.mono {e e':Env} (hle:e.le e') {nt:Nat} {tm:Tr AV} {tmps:Array Value} (h:TR e nt tm tmps):TR e' nt tm tmps:=
 ⟨h.1,fun t a ha=>let ⟨v,hv,hr⟩:=h.2 t a ha;⟨v,hv,hr.mono hle⟩⟩
theorem CR.mono {e e':Env} (hle:e.le e') {l:List AV} {c:Array Value} (h:CR e l c):CR e' l c:=
 fun i a ha=>let ⟨v,hv,hr⟩:=h i a ha;⟨v,hv,hr.mono hle⟩
theorem ER.mono {e e':Env} (hle:e.le e'):∀ {l:List (Value×AV×Nat)} {ms:List MapEntry},ER e l ms→ER e' l ms
 | [],[],_=>trivial
 | (k,a,n)::l,m::ms,h=>⟨h.1,h.2.1.mono hle,h.2.2.1,ER.mono hle h.2.2.2⟩
 | [],_::_,h=>h.elim
 | _::_,[],h=>by cases ‹Value×AV×Nat›;exact h.elim
theorem BR.mono {P:Program} {e e':Env} (hle:e.le e') {id:Nat} (hk:e'.κ id=e.κ id) {b:Blk} {o:Obj} (h:BR P e id b o):BR P e' id b o:=by
 unfold BR at h ⊢
 split at h
 ·exact ⟨h.1,h.2.1.mono hle,h.2.2.1,by rw [hk];exact h.2.2.2⟩
 ·exact h
 ·exact ⟨h.1.mono hle,h.2⟩
 ·trivial
 ·exact ⟨h.1,h.2.1,h.2.2.1,h.2.2.2.1.mono hle,h.2.2.2.2.1,h.2.2.2.2.2.1,h.2.2.2.2.2.2.1,hle.ρ _ _ h.2.2.2.2.2.2.2⟩
 ·exact h.elim
def HR (P:Program) (e:Env) (H:Nat→Option Blk) (w:World):Prop:=
 ∀ id b c,H id=some b→e.ρ id=some c→∃ o,w.heap[c]? = some o∧BR P e id b o
def Inj (e:Env) (H:Nat→Option Blk):Prop:=
 ∀ i j c,H i≠none→H j≠none→e.ρ i=some c→e.ρ j=some c→i=j
end Go.Sy
namespace Go.Sy
/-! ### Lists -/
theorem Y2u (l:List AV):takeN 0 l=some []:=rfl
theorem Y2v (n:Nat) (a:AV) (l:List AV):takeN (n+1) (a::l)=consO a (takeN n l):=rfl
theorem Z3P:∀ (n:Nat) (l:List AV),dropN n l=l.drop n
 | 0,l=>by rw [List.drop_zero];rfl
 | n+1,[]=>rfl
 | n+1,a::l=>by
   show dropN n l=_
   rw [Z3P n l];rfl
theorem Z4V {a:AV} {x:Option (List AV)} {m:List AV} (h:consO a x=some m):∃ t,x=some t∧m=a::t:=by
 cases x with
 | none=>cases h
 | some t=>exact ⟨t,rfl,(Option.some.inj h).symm⟩
theorem Z2U:∀ (n:Nat) (l m:List AV),takeN n l=some m→n≤l.length∧m=l.take n
 | 0,l,m,h=>by
   rw [Y2u] at h;cases h;simp
 | n+1,[],m,h=>by cases h
 | n+1,a::l,m,h=>by
   rw [Y2v] at h
   obtain ⟨t,ht,rfl⟩:=Z4V h
   obtain ⟨h1,h2⟩:=Z2U n l t ht
   exact ⟨by simp;exact h1,by simp [h2]⟩
theorem Y52 (l:List AV):over [] l=some l:=rfl
theorem Y4k (x:AV) (xs:List AV) (a:AV) (l:List AV):over (x::xs) (a::l)=consO x (over xs l):=rfl
theorem Z89:∀ (xs l m:List AV),over xs l=some m→xs.length≤l.length∧m=xs++l.drop xs.length
 | [],l,m,h=>by rw [Y52] at h;cases h;simp
 | x::xs,[],m,h=>by cases h
 | x::xs,a::l,m,h=>by
   rw [Y4k] at h
   obtain ⟨t,ht,rfl⟩:=Z4V h
   obtain ⟨h1,h2⟩:=Z89 xs l t ht
   exact ⟨by simp;exact h1,by simp [h2]⟩
theorem Y0g (l xs:List AV):splice 0 l xs=over xs l:=rfl
theorem Y0h (k:Nat) (a:AV) (l xs:List AV):splice (k+1) (a::l) xs=consO a (splice k l xs):=rfl
theorem Z35:∀ (k:Nat) (l xs m:List AV),splice k l xs=some m→k+xs.length≤l.length∧m=l.take k++xs++l.drop (k+xs.length)
 | 0,l,xs,m,h=>by
   rw [Y0g] at h
   obtain ⟨h1,h2⟩:=Z89 xs l m h
   exact ⟨by simpa using h1,by simpa using h2⟩
 | k+1,[],xs,m,h=>by cases h
 | k+1,a::l,xs,m,h=>by
   rw [Y0h] at h
   obtain ⟨t,ht,rfl⟩:=Z4V h
   obtain ⟨h1,h2⟩:=Z35 k l xs t ht
   refine ⟨by simp;omega,?_⟩
   rw [h2,show k+1+xs.length=(k+xs.length)+1 by omega]
   simp
/-! ### The model's small reads -/
section
variable {P:Program} {w:World} {t:TypeId}
theorem Z0w {d:TypeDesc} (h:undA P t=some d):(underlying t).run P w=.ok d w:=by simp [underlying,Z1W h]
theorem Z7j {i:TypeInfo} (h:tyA P t=some i):(typeInfo t).run P w=.ok i w:=by simp [typeInfo,Z3O h]
theorem Z2j {n:Nat} (h:szT P t=some n):(sizeOf t).run P w=.ok n w:=by
 unfold szT at h
 cases hi:tyA P t with
 | none=>simp [hi] at h
 | some i=>simp [hi] at h;simp [sizeOf,Z7j hi,h]
theorem Z5e {l:List AV} (h:zeroT P t=some l):∃ v,(zeroValue t).run P w=.ok v w∧l=v.cells.toList.map .lit∧szT P t=some v.cells.size:=by
 unfold zeroT at h
 cases hi:tyA P t with
 | none=>simp [hi] at h
 | some i=>
   simp only [hi,zeroOf] at h
   cases hz:i.zero with
   | none=>simp [hz] at h
   | some v=>
     simp only [hz] at h
     split at h
     ·rename_i hb
      have hb:=Nat.eq_of_beq_eq_true hb
      simp at h
      exact ⟨v,by simp [zeroValue,Z7j hi,hz],h.symm,by simp [szT,hi,hb]⟩
     ·cases h
theorem Z4s {b:Bool} (h:isAggT P t=some b):(isAgg t).run P w=.ok b w:=by
 unfold isAggT at h
 cases hu:undA P t with
 | none=>simp [hu] at h
 | some d=>cases d<;>simp_all [isAgg,Z0w hu]
theorem Z2F (c off n:Nat):Addr.add ⟨c,off,none⟩ n=⟨c,off+n,none⟩:=by
 unfold Addr.add;split
 ·subst_vars;rfl
 ·rfl
end
theorem Y7G {P:Program} {e:Env} {H:Nat→Option Blk} {w:World} (hH:HR P e H w) {b c t:Nat} {l:List AV} (hb:e.ρ b=some c) (h:H b=some (.cells t l)) {i:Nat} {a:AV} (ha:l[i]? = some a) :
 ∃ v,w.cell? ⟨c,i,none⟩=some v∧VR e a v∧w.frozen? ⟨c,i,none⟩=false:=by
 obtain ⟨o,ho,hr⟩:=hH b _ c h hb
 cases o<;>simp only [BR] at hr<;>try exact hr.elim
 rename_i cs t' fz
 obtain ⟨v,hv,hvr⟩:=hr.2.1 i a ha
 have hi:i<cs.size:=by
  rcases Nat.lt_or_ge i cs.size with h'|h'
  ·exact h'
  ·rw [Array.getElem?_eq_none h'] at hv;cases hv
 refine ⟨v,by simp [World.cell?,ho,hv],hvr,?_⟩
 simp only [World.frozen?,ho]
 have h3:=hr.2.2.1
 rcases h3 with h3|h3<;>simp<;>omega
theorem Z72 {P:Program} {e:Env} {H:Nat→Option Blk} {w:World} (hH:HR P e H w) {b c off n:Nat} {l:List AV} (hb:e.ρ b=some c) (h:loadC H b off n=some l) :
 ∃ vs,VRs e l vs∧vs.length=n∧∀ (j:Nat) (v:Value),vs[j]? = some v→w.cell? (Addr.add ⟨c,off,none⟩ j)=some v:=by
 unfold loadC at h
 cases hb':H b with
 | none=>simp [hb'] at h
 | some blk=>
   cases blk<;>simp [hb'] at h
   rename_i t l0
   rw [Z3P] at h
   obtain ⟨h1,h2⟩:=Z2U _ _ _ h
   have key:∀ (k:Nat),k≤n→∃ vs,VRs e ((l0.drop off).take k) vs∧∀ (j:Nat) (v:Value),vs[j]? = some v→w.cell? (Addr.add ⟨c,off,none⟩ j)=some v:=by
    intro k
    induction k with
    | zero=>exact fun _=>⟨[],by simpa using VRs.nil,by simp⟩
    | succ k ih=>
      intro hk
      obtain ⟨vs,hvs,hc⟩:=ih (by omega)
      have hlt:k<(l0.drop off).length:=by omega
      have hg:(l0.drop off)[k]? = some (l0.drop off)[k]:=List.getElem?_eq_getElem hlt
      have hg':l0[off+k]? = some (l0.drop off)[k]:=by rw [←hg,List.getElem?_drop]
      obtain ⟨v,hv,hvr,_⟩:=Y7G hH hb hb' hg'
      refine ⟨vs++[v],?_,?_⟩
      ·rw [List.take_add_one,hg]
       exact VRs.append hvs (.cons hvr .nil)
      ·have hlen:vs.length=k:=by rw [←hvs.length,List.length_take];omega
       intro j u hu
       by_cases hj:j<vs.length
       ·exact hc j u (by rwa [List.getElem?_append_left hj] at hu)
       ·rw [List.getElem?_append_right (by omega)] at hu
        have:j=k:=by
         rcases Nat.lt_or_ge (j-vs.length) 1 with h'|h'
         ·omega
         ·rw [List.getElem?_eq_none (by simpa using h')] at hu;cases hu
        subst this
        rw [hlen,Nat.sub_self] at hu
        simp at hu;subst hu
        rw [Z2F];exact hv
   obtain ⟨vs,hvs,hc⟩:=key n (Nat.le_refl n)
   rw [←h2] at hvs
   exact ⟨vs,hvs,by rw [←hvs.length,h2,List.length_take];omega,hc⟩
theorem Z1b {P:Program} {e:Env} {H:Nat→Option Blk} {w:World} (hH:HR P e H w) {b c off n:Nat} {l:List AV} (hb:e.ρ b=some c) (h:loadC H b off n=some l) :
 ∃ vs,VRs e l vs∧vs.length=n∧(loadCells ⟨c,off,none⟩ n).run P w=.ok ⟨vs⟩ w:=by
 obtain ⟨vs,h1,h2,h3⟩:=Z72 hH hb h
 refine ⟨vs,h1,h2,?_⟩
 have:=run_loadCells_list (P:=P) (w:=w) ⟨c,off,none⟩ vs h3
 rw [h2] at this
 simpa using this
theorem Z3X {P:Program} {e:Env} {H:Nat→Option Blk} {w:World} (hH:HR P e H w) {t b c off:Nat} {a:AV} (hb:e.ρ b=some c) (h:loadV P H t b off=some a) :
 ∃ v,VR e a v∧(loadVar t ⟨c,off,none⟩).run P w=.ok v w:=by
 unfold loadV at h
 cases hg:isAggT P t with
 | none=>simp [hg] at h
 | some g=>
   cases g with
   | true=>
     simp only [hg] at h
     cases hs:szT P t with
     | none=>simp [hs] at h
     | some n=>
       simp only [hs] at h
       cases hl:loadC H b off n with
       | none=>simp [hl] at h
       | some l=>
         simp [hl] at h;subst h
         obtain ⟨vs,h1,_,h3⟩:=Z1b hH hb hl
         exact ⟨_,.agg h1,by simp [loadVar,Z4s hg,Z2j hs,h3]⟩
   | false=>
     simp only [hg] at h
     cases hl:loadC H b off 1 with
     | none=>simp [hl] at h
     | some l=>
       simp only [hl] at h
       obtain ⟨vs,h1,h2,h3⟩:=Z72 hH hb hl
       cases h1 with
       | nil=>simp at h
       | cons hv ht=>
         cases ht with
         | cons _ _=>simp at h
         | nil=>
           simp at h;subst h
           have:=h3 0 _ rfl
           rw [Z2F,Nat.add_zero] at this
           exact ⟨_,hv,by simp [loadVar,Z4s hg,this]⟩
end Go.Sy
