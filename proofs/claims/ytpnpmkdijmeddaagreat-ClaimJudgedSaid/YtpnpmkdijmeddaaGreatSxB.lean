/- The interpreter: operations, regions, code, calls. -/
import Derived.Test.YtpnpmkdijmeddaaGreatSxA
set_option maxRecDepth 100000
namespace Go.Sx
inductive RowK where
 |words (k:IntKind)
 |rows (sh:List Sh)
 |cells
inductive Kd where
 |struct (fs:List (Nat×Nat×Bool))
 |arr (n es:Nat) (eagg:Bool)
 |slice (elem:TypeId)
 |intk (k:IntKind)
 |bool
 |ptr
 |func
 |iface
 |other
structure TI where
 size:Nat
 agg:Bool
 bytes:Nat
 zb:Body
 kind:Kd
 row:RowK
structure Env where
 FT:FuncId→Option Func
 TT:TypeId→Option TI
 SM:FuncId→Option (List V→St→Option (V×St))
 SE:TypeId→Option (List IntKind):=fun _=>none
 IM:TypeId→String→Option FuncId:=fun _ _=>none
 PZ:TypeId→Bool:=fun _=>false
def dec (b:Bool) (s:St):Bool×St:=
 match s.orc with
 |[]=>(b,s)
 |(n,c)::r=>cond (Nat.beq n 0) (c,{s with orc:=r,obl:=(cond c b (!b))::s.obl}) (b,{s with orc:=(Nat.sub n 1,c)::r})
def need (b:Bool) (s:St):Option St:=
 match dec b s with
 |(true,s')=>some s'
 |(false,_)=>none
def chk (b:Bool):Option Unit:=cond b (some ()) none
def nth {α:Type}:List α→Nat→Option α
 |[],_=>none
 |x::xs,n=>cond (Nat.beq n 0) (some x) (nth xs (Nat.sub n 1))
def V.ofScalar:Value→Option V
 |.int k n=>some (.int k n)
 |.bool b=>some (.bool b)
 |.pointer none=>some .nilp
 |.slice none 0 0=>some .nils
 |.nilFunc=>some .nilf
 |.nilIface=>some .nili
 |.string s=>some (.str s)
 |.map none=>some .nilm
 |_=>none
def ofScalars:List Value→Option (List V)
 |[]=>some []
 |v::vs=>(V.ofScalar v).bind fun x=>(ofScalars vs).bind fun xs=>some (x::xs)
def V.ofVal:Value→Option V
 |.tuple ⟨[]⟩=>some XJ
 |.agg ⟨cs⟩=>(ofScalars cs).bind fun l=>some (.agg l)
 |v=>V.ofScalar v
def ev (T:Tr V):Operand→Option V
 |.tmp t=>match T.get t with
  |some v=>some v
  |none=>some XJ
 |.const v=>V.ofVal v
 |.global _=>none
 |.func f=>some (.fn f [] [])
def evs (T:Tr V):List Operand→Option (List V)
 |[]=>some []
 |x::xs=>(ev T x).bind fun v=>(evs T xs).bind fun vs=>some (v::vs)
def pos (idx size off:Nat):Nat:=cond (Nat.beq size 0) off (cond (Nat.beq size 1) (cond (Nat.beq off 0) idx (Nat.add idx off)) (Nat.add (Nat.mul idx size) off))
def rowSet:List Int→Nat→Int→List Int
 |[],n,v=>cond (Nat.beq n 0) [v] (0::rowSet0 (Nat.sub n 1) v)
 |x::xs,n,v=>cond (Nat.beq n 0) (v::xs) (x::rowSet xs (Nat.sub n 1) v)
where rowSet0:Nat→Int→List Int
 |0,v=>[v]
 |n+1,v=>0::rowSet0 n v
def Body.rd (b:Body) (idx size off:Nat) (s:St):Option (V×St):=
 match b with
 |.cells cs=>(nth cs (pos idx size off)).bind fun v=>some (v,s)
 |.words k ws=>(need (decide (pos idx size off<ws.length)) s).bind fun s'=>some (.int k (ws.getD (pos idx size off) 0),s')
 |.rows sh rs=>(chk (Nat.beq size sh.length)).bind fun _=>(nth sh off).bind fun h=>
   (need (decide (idx<rs.length)) s).bind fun s'=>some (h.mk ((rs.getD idx []).getD off 0),s')
def Body.rdN (b:Body) (idx size:Nat):Nat→Nat→St→Option (List V×St)
 |0,_,s=>some ([],s)
 |n+1,off,s=>(b.rd idx size off s).bind fun (v,s1)=>(Body.rdN b idx size n (Nat.succ off) s1).bind fun (vs,s2)=>some (v::vs,s2)
def setNth {α:Type}:List α→Nat→α→List α
 |[],_,_=>[]
 |x::xs,n,v=>cond (Nat.beq n 0) (v::xs) (x::setNth xs (Nat.sub n 1) v)
def Body.wrt (b:Body) (idx size off:Nat) (v:V) (s:St):Option (Body×St):=
 match b with
 |.cells cs=>(chk v.single).bind fun _=>(nth cs (pos idx size off)).bind fun _=>some (.cells (setNth cs (pos idx size off) v),s)
 |.words k ws=>match v with
  |.int k' n=>(chk (decide (k=k'))).bind fun _=>(need (decide (pos idx size off<ws.length)) s).bind fun s'=>some (.words k (ws.set (pos idx size off) n),s')
  |_=>none
 |.rows sh rs=>(chk (Nat.beq size sh.length)).bind fun _=>(nth sh off).bind fun h=>(h.of v).bind fun n=>
   (need (decide (idx<rs.length)) s).bind fun s'=>some (.rows sh (rs.set idx (rowSet (rs.getD idx []) off n)),s')
def Body.wrtN (idx size:Nat):Body→List V→Nat→St→Option (Body×St)
 |b,[],_,s=>some (b,s)
 |b,v::vs,off,s=>(b.wrt idx size off v s).bind fun (b',s')=>Body.wrtN idx size b' vs (Nat.succ off) s'
def St.new (s:St) (o:Ob):Option (Nat×St):=
 (chk (Nat.blt s.nx big)).bind fun _=>some (s.nx,{s with H:=s.H.put s.nx (some o),nx:=Nat.succ s.nx})
def St.upd (s:St) (n:Nat) (o:Option Ob):Option St:=
 (chk (Nat.blt n big)).bind fun _=>some {s with H:=s.H.put n o,wr:=n::s.wr}
def loadX (E:Env) (t:TypeId) (a:V) (s:St):Option (V×St):=
 match a with
 |.ptr n idx size off=>(E.TT t).bind fun ti=>match s.H.get n with
  |some (.mem b _ _)=>match ti.agg with
   |true=>(b.rdN idx size ti.size off s).bind fun (vs,s')=>some (.agg vs,s')
   |false=>(chk (Nat.beq ti.size 1)).bind fun _=>b.rd idx size off s
  |some (.ro k ws)=>match ti.agg with
   |true=>none
   |false=>(chk (Nat.beq ti.size 1)).bind fun _=>(Body.words k ws).rd idx size off s
  |_=>none
 |_=>none
def storeX (E:Env) (t:TypeId) (a v:V) (s:St):Option St:=
 match a with
 |.ptr n idx size off=>(E.TT t).bind fun ti=>match s.H.get n with
  |some (.mem b bt op)=>(chk (Nat.beq v.cells.length ti.size)).bind fun _=>(chk (Nat.blt 0 ti.size)).bind fun _=>(Body.wrtN idx size b v.cells off s).bind fun (b',s')=>s'.upd n (some (.mem b' bt op))
  |_=>none
 |_=>none
def layAt:List V→Nat→List V→Option (List V)
 |cs,_,[]=>some cs
 |cs,off,v::vs=>(nth cs off).bind fun _=>layAt (setNth cs off v) (Nat.succ off) vs
def fillX (place:Nat→Option (Nat×Nat)):List V→List (Nat×V)→Option (List V)
 |cs,[]=>some cs
 |cs,(i,v)::rest=>(place i).bind fun (off,size)=>(chk (Nat.beq v.cells.length size)).bind fun _=>(chk (Nat.ble (Nat.add off size) cs.length)).bind fun _=>(layAt cs off v.cells).bind fun cs'=>fillX place cs' rest
def zeros (b:Body):Option (List V):=
 match b with
 |.cells cs=>some cs
 |_=>none
def repeatV (z:List V):Nat→List V
 |0=>[]
 |n+1=>z++repeatV z n
def ints (k:IntKind):List V→Option (List Int)
 |[]=>some []
 |v::vs=>match v with
  |.int k' n=>(chk (decide (k=k'))).bind fun _=>(ints k vs).bind fun l=>some (n::l)
  |_=>none
def rowOf:List Sh→List V→Option (List Int×List V)
 |[],vs=>some ([],vs)
 |h::hs,v::vs=>(h.of v).bind fun n=>(rowOf hs vs).bind fun (l,rest)=>some (n::l,rest)
 |_::_,[]=>none
def rowsOf (sh:List Sh):Nat→List V→Option (List (List Int))
 |0,[]=>some []
 |0,_::_=>none
 |n+1,vs=>(rowOf sh vs).bind fun (r,rest)=>(rowsOf sh n rest).bind fun l=>some (r::l)
def mkBody (r:RowK) (n:Nat) (cs:List V):Option Body:=
 match r with
 |.words k=>(ints k cs).bind fun l=>some (.words k l)
 |.rows sh=>(rowsOf sh n cs).bind fun l=>some (.rows sh l)
 |.cells=>some (.cells cs)
def Body.count (b:Body) (es:Nat):Nat:=
 match b with
 |.cells cs=>cond (Nat.beq es 1) cs.length (Nat.div cs.length es)
 |.words _ ws=>ws.length
 |.rows _ rs=>rs.length
def takeN {α:Type}:Nat→List α→List α
 |0,_=>[]
 |_+1,[]=>[]
 |n+1,x::xs=>x::takeN n xs
def dropN {α:Type}:Nat→List α→List α
 |0,l=>l
 |_+1,[]=>[]
 |n+1,_::xs=>dropN n xs
def Body.sub (b:Body) (es start len:Nat):Body:=
 match b with
 |.cells cs=>.cells (takeN (Nat.mul len es) (dropN (Nat.mul start es) cs))
 |.words k ws=>.words k ((ws.drop start).take len)
 |.rows sh rs=>.rows sh ((rs.drop start).take len)
def Body.fits (b:Body) (es:Nat):Bool:=
 match b with
 |.cells cs=>Nat.beq (Nat.mul (Nat.div cs.length es) es) cs.length
 |.words _ _=>Nat.beq es 1
 |.rows sh _=>Nat.beq es sh.length
def allSingle:List V→Bool
 |[]=>true
 |v::vs=>cond v.single (allSingle vs) false
def Body.singles (b:Body):Bool:=
 match b with
 |.cells cs=>allSingle cs
 |_=>true
def shEq:List Sh→List Sh→Bool
 |[],[]=>true
 |.int k::l,.int k'::r=>cond (decide (k=k')) (shEq l r) false
 |.bool::l,.bool::r=>shEq l r
 |_,_=>false
def Body.app (a b:Body):Option Body:=
 match a,b with
 |.cells x,.cells y=>some (.cells (x++y))
 |.words k x,.words k' y=>(chk (decide (k=k'))).bind fun _=>some (.words k (x++y))
 |.rows sh x,.rows sh' y=>(chk (shEq sh sh')).bind fun _=>some (.rows sh (x++y))
 |_,_=>none
def contents (r:RowK) (es:Nat) (x:V) (s:St):Option (Body×Nat×St):=
 match x with
 |.nils=>match r with
  |.words k=>some (.words k [],0,s)
  |.rows sh=>some (.rows sh [],0,s)
  |.cells=>some (.cells [],0,s)
 |.osl n es'=>(chk (Nat.beq es es')).bind fun _=>match s.H.get n with
  |some (.mem b _ (some e))=>(chk (Nat.beq e es)).bind fun _=>some (b,b.count es,s)
  |_=>none
 |.osv n es' _ start len=>(chk (Nat.beq es es')).bind fun _=>match s.H.get n with
  |some (.mem b _ (some e))=>(chk (Nat.beq e es)).bind fun _=>(need (decide (start+len≤b.count es)) s).bind fun s'=>some (b.sub es start len,len,s')
  |_=>none
 |.slice n start es' len _=>(chk (Nat.beq es es')).bind fun _=>match s.H.get n with
  |some (.mem b _ none)=>(chk (b.fits es)).bind fun _=>(need (decide (start+len≤b.count es)) s).bind fun s'=>some (b.sub es start len,len,s')
  |some (.ro k ws)=>(chk (Nat.beq es 1)).bind fun _=>(need (decide (start+len≤ws.length)) s).bind fun s'=>some (.words k ((ws.drop start).take len),len,s')
  |_=>none
 |_=>none
def appendX (E:Env) (st:TypeId) (a x:V) (s:St):Option (V×St):=
 (E.TT st).bind fun ti=>match ti.kind with
 |.slice elem=>(E.TT elem).bind fun ei=>
  (chk (Nat.blt 0 ei.size)).bind fun _=>(chk (Nat.ble ei.bytes 1048576)).bind fun _=>
  (contents ei.row ei.size a s).bind fun (b1,n1,s1)=>
  (contents ei.row ei.size x s1).bind fun (b2,n2,s2)=>
  (chk b2.singles).bind fun _=>(b1.app b2).bind fun b=>
  (need (decide (n1+n2≤1048576)) s2).bind fun s3=>
  match a with
  |.nils=>(s3.new (.mem b elem (some ei.size))).bind fun (m,s4)=>some (.osl m ei.size,s4)
  |.osl n _=>match s3.H.get n with
   |some (.mem _ bt _)=>(chk (Nat.beq bt elem)).bind fun _=>(s3.upd n none).bind fun s4=>(s4.new (.mem b elem (some ei.size))).bind fun (m,s5)=>some (.osl m ei.size,s5)
   |_=>none
  |_=>none
 |_=>none
def lenX (v:V) (s:St):Option Nat:=
 match v with
 |.nils=>some 0
 |.osl n es=>match s.H.get n with
  |some (.mem b _ (some e))=>(chk (Nat.beq e es)).bind fun _=>some (b.count es)
  |_=>none
 |.osv _ _ _ _ len=>some len
 |.slice _ _ _ len _=>some len
 |_=>none
def asInt:V→Option Int
 |.int _ n=>some n
 |_=>none
def bound (x:Option V) (d:Nat):Option (Option Int×Nat):=
 match x with
 |none=>some (none,d)
 |some (.int _ i)=>some (some i,i.toNat)
 |_=>none
def sliceX (E:Env) (t:TypeId) (x:V) (lo hi:Option V) (s:St):Option (V×St):=
 (E.TT t).bind fun ti=>match ti.kind,x with
 |.arr n es _,.ptr b idx size off=>(chk (Nat.beq (pos idx size off) 0)).bind fun _=>(chk (Nat.blt 0 es)).bind fun _=>(bound lo 0).bind fun (lz,l)=>(bound hi n).bind fun (hz,h)=>
   (need (decide ((∀ z∈lz,0≤z)∧(∀ z∈hz,0≤z)∧l≤h∧h≤n)) s).bind fun s1=>
   match lz with
   |none=>some (.slice b 0 es (h - l) n,s1)
   |some _=>some (.slice b (if n=l then 0 else l) es (h - l) (n - l),s1)
 |.slice elem,.slice b start es len cap=>(E.TT elem).bind fun ei=>(chk (Nat.beq ei.size es)).bind fun _=>(bound lo 0).bind fun (lz,l)=>(bound hi len).bind fun (hz,h)=>
   (need (decide ((∀ z∈lz,0≤z)∧(∀ z∈hz,0≤z)∧l≤h∧h≤cap)) s).bind fun s1=>
   some (.slice b (if cap=l then start else start+l) es (h - l) (cap - l),s1)
 |.slice elem,.osl b es=>(E.TT elem).bind fun ei=>(chk (Nat.beq ei.size es)).bind fun _=>(chk (Nat.blt 0 es)).bind fun _=>(lenX x s).bind fun len=>match lo,hi with
  |some lv,none=>(bound (some lv) 0).bind fun (lz,l)=>(need (decide ((∀ z∈lz,0≤z)∧l≤len)) s).bind fun s1=>some (.osv b es 0 l (len - l),s1)
  |none,some hv=>(bound (some hv) 0).bind fun (hz,h)=>(need (decide ((∀ z∈hz,0≤z)∧h≤len)) s).bind fun s1=>some (.osv b es 0 0 h,s1)
  |none,none=>some (x,s)
  |_,_=>none
 |.slice elem,.osv b es base start len=>(E.TT elem).bind fun ei=>(chk (Nat.beq ei.size es)).bind fun _=>(chk (Nat.blt 0 es)).bind fun _=>match lo,hi with
  |some lv,none=>(bound (some lv) 0).bind fun (lz,l)=>match s.H.get b with
   |some (.mem bd _ (some e))=>(chk (Nat.beq e es)).bind fun _=>(need (decide ((∀ z∈lz,0≤z)∧l≤len∧start+len≤bd.count es)) s).bind fun s1=>some (.osv b es (cond (Nat.beq l 0) base start) (start+l) (len - l),s1)
   |_=>none
  |_,_=>none
 |.slice elem,.nils=>(E.TT elem).bind fun _=>(bound lo 0).bind fun (lz,l)=>(bound hi 0).bind fun (hz,h)=>(need (decide ((∀ z∈lz,z=0)∧(∀ z∈hz,z=0))) s).bind fun s1=>(chk (Nat.beq (Nat.add l h) 0)).bind fun _=>some (.nils,s1)
 |_,_=>none
def sliceRd:V→List Nat
 |.osl n _=>[n]
 |.osv n _ _ _ _=>[n]
 |_=>[]
def indexAddrX (E:Env) (t:TypeId) (x i:V) (s:St):Option (V×St):=
 (E.TT t).bind fun ti=>(asInt i).bind fun z=>match ti.kind,x with
 |.arr n es _,.ptr b idx size off=>(need (decide (0≤z∧z<(n:Int))) s).bind fun s1=>
   match Nat.beq size 0 with
   |true=>some (.ptr b z.toNat es off,s1)
   |false=>some (.ptr b idx size (Nat.add off (Nat.mul z.toNat es)),s1)
 |.slice elem,x=>(E.TT elem).bind fun ei=>(lenX x s).bind fun len=>(need (decide (0≤z∧z<(len:Int))) s).bind fun s1=>
   match x with
   |.slice b start es _ _=>(chk (Nat.beq ei.size es)).bind fun _=>some (.ptr b (cond (Nat.beq start 0) z.toNat (start+z.toNat)) es 0,s1)
   |.osl b es=>(chk (Nat.beq ei.size es)).bind fun _=>some (.ptr b z.toNat es 0,s1)
   |.osv b es _ start l=>(chk (Nat.beq ei.size es)).bind fun _=>match s1.H.get b with
    |some (.mem bd _ (some e))=>(chk (Nat.beq e es)).bind fun _=>(chk (Nat.blt 0 es)).bind fun _=>(need (decide (start+l≤bd.count es)) s1).bind fun s2=>some (.ptr b (start+z.toNat) es 0,s2)
    |_=>none
   |_=>none
 |_,_=>none
def fieldAddrX (E:Env) (t:TypeId) (x:V) (f:Nat):Option V:=
 (E.TT t).bind fun ti=>match ti.kind,x with
 |.struct fs,.ptr b idx size off=>(nth fs f).bind fun (o,sz,_)=>(chk (Nat.blt 0 sz)).bind fun _=>some (.ptr b idx size (Nat.add off o))
 |_,_=>none
def partX (agg:Bool) (cs:List V) (off size:Nat):Option V:=
 match agg with
 |true=>(chk (Nat.ble (Nat.add off size) cs.length)).bind fun _=>some (.agg (takeN size (dropN off cs)))
 |false=>nth cs off
def fieldX (E:Env) (t:TypeId) (x:V) (f:Nat):Option V:=
 (E.TT t).bind fun ti=>match ti.kind,x with
 |.struct fs,.agg cs=>(nth fs f).bind fun (o,sz,ag)=>partX ag cs o sz
 |_,_=>none
def indexX (E:Env) (t:TypeId) (x i:V) (s:St):Option (V×St):=
 (E.TT t).bind fun ti=>(asInt i).bind fun z=>match ti.kind,x with
 |.arr n es ag,.agg cs=>(need (decide (0≤z∧z<(n:Int))) s).bind fun s1=>(partX ag cs (Nat.mul z.toNat es) es).bind fun v=>some (v,s1)
 |_,_=>none
def buildX (E:Env) (t:TypeId) (ps:List (Nat×V)):Option V:=
 (E.TT t).bind fun ti=>(zeros ti.zb).bind fun z=>match ti.kind with
 |.struct fs=>(fillX (fun i=>(nth fs i).bind fun (o,sz,_)=>some (o,sz)) z ps).bind fun cs=>some (.agg cs)
 |.arr _ es _=>(fillX (fun i=>some (Nat.mul i es,es)) z ps).bind fun cs=>some (.agg cs)
 |_=>none
def buildSliceX (E:Env) (t:TypeId) (len:Nat) (ps:List (Nat×V)) (s:St):Option (V×St):=
 (E.TT t).bind fun ti=>match ti.kind with
 |.slice elem=>(E.TT elem).bind fun ei=>(chk (Nat.ble (Nat.mul len ei.size) 16777216)).bind fun _=>(chk (Nat.blt 0 ei.size)).bind fun _=>(zeros ei.zb).bind fun z=>(chk (Nat.beq z.length ei.size)).bind fun _=>
   (fillX (fun i=>some (Nat.mul i ei.size,ei.size)) (repeatV z len) ps).bind fun cs=>(mkBody ei.row len cs).bind fun b=>
   (s.new (.mem b elem (some ei.size))).bind fun (m,s1)=>some (.osl m ei.size,s1)
 |_=>none
def makeSliceX (E:Env) (t:TypeId) (l c:V) (s:St):Option (V×St):=
 (E.TT t).bind fun ti=>match ti.kind with
 |.slice elem=>(E.TT elem).bind fun ei=>(asInt l).bind fun lz=>(asInt c).bind fun cz=>(chk (Nat.blt 0 ei.size)).bind fun _=>(chk (Nat.ble ei.bytes 1048576)).bind fun _=>
   (need (decide (0≤lz∧lz≤cz∧cz≤1048576)) s).bind fun s1=>
   match ei.row with
   |.words k=>(s1.new (.mem (.words k (List.replicate lz.toNat 0)) elem (some ei.size))).bind fun (m,s2)=>some (.osl m ei.size,s2)
   |.rows sh=>(s1.new (.mem (.rows sh (List.replicate lz.toNat (List.replicate sh.length 0))) elem (some ei.size))).bind fun (m,s2)=>some (.osl m ei.size,s2)
   |.cells=>(zeros ei.zb).bind fun z=>(chk (Nat.beq z.length ei.size)).bind fun _=>(s1.new (.mem (.cells (repeatV z lz.toNat)) elem (some ei.size))).bind fun (m,s2)=>some (.osl m ei.size,s2)
 |_=>none
def eqX (k:Kd) (cst:Bool) (a b:V):Option Bool:=
 match k with
 |.bool=>match a,b with
  |.bool a,.bool b=>some (a==b)
  |_,_=>none
 |.ptr=>match a,b with
  |.nilp,.nilp=>some true
  |.nilp,.ptr ..=>some false
  |.ptr ..,.nilp=>some false
  |_,_=>none
 |.func=>match a,b with
  |.nilf,.nilf=>some true
  |.nilf,.fn ..=>some false
  |.fn ..,.nilf=>some false
  |_,_=>none
 |.slice _=>match a,b with
  |.nils,.nils=>some true
  |.slice ..,.nils=>some false
  |.nils,.slice ..=>some false
  |_,_=>none
 |.iface=>match a,b with
  |.nili,.nili=>(chk cst).bind fun _=>some true
  |.nili,.iface ..=>some false
  |.iface ..,.nili=>some false
  |_,_=>none
 |_=>none
def eqPtr (k:Kd) (a b:V) (s:St):Option Bool:=
 match k with
 |.ptr=>match a,b with
  |.ptr n i z o,.ptr m i' z' o'=>match s.H.get n,s.H.get m with
   |some (.mem _ _ none),some (.mem _ _ none)=>cond (Nat.beq n m) (some (decide (pos i z o=pos i' z' o'))) (some false)
   |_,_=>none
  |_,_=>none
 |_=>none
def binX (op:BinOp) (a b:V) (s:St):Option (V×St):=
 match a,b with
 |.int k x,.int k' y=>
  match op with
  |.shl=>(need (decide (0≤y)) s).bind fun s1=>some (.int k (k.wrap (x*2 ^ (min y.toNat k.bits))),s1)
  |.shr=>(need (decide (0≤y)) s).bind fun s1=>some (.int k (x.fdiv (2 ^ (min y.toNat k.bits))),s1)
  |_=>(chk (decide (k=k'))).bind fun _=>match op with
   |.add=>some (.int k (k.wrap (x+y)),s)
   |.sub=>some (.int k (k.wrap (x - y)),s)
   |.mul=>some (.int k (k.wrap (x*y)),s)
   |.quo=>(need (!(y==0)) s).bind fun s1=>some (.int k (k.wrap (x.tdiv y)),s1)
   |.rem=>(need (!(y==0)) s).bind fun s1=>some (.int k (x.tmod y),s1)
   |.and=>some (.int k (k.wrap ((BitVec.ofInt k.bits x &&& BitVec.ofInt k.bits y).toNat:Int)),s)
   |.or=>some (.int k (k.wrap ((BitVec.ofInt k.bits x ||| BitVec.ofInt k.bits y).toNat:Int)),s)
   |.xor=>some (.int k (k.wrap ((BitVec.ofInt k.bits x ^^^ BitVec.ofInt k.bits y).toNat:Int)),s)
   |.andNot=>some (.int k (k.wrap ((BitVec.ofInt k.bits x &&& ~~~(BitVec.ofInt k.bits y)).toNat:Int)),s)
   |.eql=>some (.bool (x==y),s)
   |.neq=>some (.bool (x != y),s)
   |.lss=>some (.bool (decide (x<y)),s)
   |.leq=>some (.bool (decide (x≤y)),s)
   |.gtr=>some (.bool (decide (x > y)),s)
   |.geq=>some (.bool (decide (x≥y)),s)
   |_=>none
 |_,_=>none
def isCst:Operand→Bool
 |.const _=>true
 |_=>false
def intsK:List IntKind→List V→Option (List Int)
 |[],[]=>some []
 |k::ks,v::vs=>match v with
  |.int k' n=>(chk (decide (k=k'))).bind fun _=>(intsK ks vs).bind fun l=>some (n::l)
  |_=>none
 |_,_=>none
def eqL:List Int→List Int→Bool
 |[],[]=>true
 |x::xs,y::ys=>cond (x==y) (eqL xs ys) false
 |_,_=>false
def eqAgg (E:Env) (t:TypeId) (ca cb:List V):Option Bool:=(E.SE t).bind fun ks=>(intsK ks ca).bind fun xs=>(intsK ks cb).bind fun ys=>some (eqL xs ys)
def eqOsl (k:Kd) (n _es:Nat) (s:St):Option Bool:=
 match k with
 |.slice _=>match s.H.get n with
  |some (.mem b _ (some e))=>(chk (Nat.blt 0 (b.count e))).bind fun _=>some false
  |_=>none
 |_=>none
def eqV (E:Env) (op:BinOp) (t:TypeId) (cst:Bool) (a b:V) (s:St):Option (V×List Nat×St):=
 (E.TT t).bind fun ti=>match op with
 |.eql=>match a,b with
  |.ptr n _ _ _,.ptr m _ _ _=>(eqPtr ti.kind a b s).bind fun r=>some (.bool r,[n,m],s)
  |.agg ca,.agg cb=>(eqAgg E t ca cb).bind fun r=>some (.bool r,[],s)
  |.osl n es,.nils=>(eqOsl ti.kind n es s).bind fun r=>some (.bool r,[n],s)
  |_,_=>(eqX ti.kind cst a b).bind fun r=>some (.bool r,[],s)
 |.neq=>match a,b with
  |.ptr n _ _ _,.ptr m _ _ _=>(eqPtr ti.kind a b s).bind fun r=>some (.bool (!r),[n,m],s)
  |.agg ca,.agg cb=>(eqAgg E t ca cb).bind fun r=>some (.bool (!r),[],s)
  |.osl n es,.nils=>(eqOsl ti.kind n es s).bind fun r=>some (.bool (!r),[n],s)
  |_,_=>(eqX ti.kind cst a b).bind fun r=>some (.bool (!r),[],s)
 |_=>none
def unX (op:UnOp) (a:V):Option V:=
 match op,a with
 |.neg,.int k n=>some (.int k (k.wrap (0 - n)))
 |.not,.bool b=>some (.bool (!b))
 |.xor,.int k n=>some (.int k (k.wrap ((BitVec.ofInt k.bits (if k.signed then -1 else k.max) ^^^ BitVec.ofInt k.bits n).toNat:Int)))
 |_,_=>none
def pickX (c a b:V) (s:St):Option (V×St):=
 match c with
 |.bool c=>match a,b with
  |.bool x,.bool y=>some (.bool (cond c x y),s)
  |_,_=>match dec c s with
   |(true,s')=>some (a,s')
   |(false,s')=>some (b,s')
 |_=>none
def quietX (E:Env) (T:Tr V) (op:Op) (s:St):Option (V×List Nat×St):=
 let e:=ev T
 let pure' (r:Option V):Option (V×List Nat×St):=r.bind fun v=>some (v,[],s)
 let st' (r:Option (V×St)):Option (V×List Nat×St):=r.bind fun (v,s1)=>some (v,[],s1)
 match op with
 |.move x=>pure' (e x)
 |.assign x=>pure' (e x)
 |.pick c a b=>(e c).bind fun c=>(e a).bind fun a=>(e b).bind fun b=>st' (pickX c a b s)
 |.build t ps=>(evs T (ps.toList.map (·.2))).bind fun vs=>pure' (buildX E t ((ps.toList.map (·.1)).zip vs))
 |.load t a=>(e a).bind fun a=>match a with
  |.ptr n _ _ _=>(loadX E t a s).bind fun (v,s1)=>some (v,[n],s1)
  |_=>none
 |.nilCheck x=>(e x).bind fun v=>match v with
  |.ptr ..=>some (v,[],s)
  |.fn ..=>some (v,[],s)
  |.yld ..=>some (v,[],s)
  |_=>none
 |.binOp op t x y _=>(e x).bind fun a=>(e y).bind fun b=>match a,b with
  |.int _ _,.int _ _=>st' (binX op a b s)
  |_,_=>eqV E op t (isCst x||isCst y) a b s
 |.unOp op _ x=>(e x).bind fun a=>pure' (unX op a)
 |.convert src dst x=>(e x).bind fun a=>(E.TT src).bind fun _=>(E.TT dst).bind fun ti=>match ti.kind,a with
  |.intk k,.int _ n=>some (.int k (k.wrap n),[],s)
  |_,_=>none
 |.makeInterface t x=>(e x).bind fun a=>(E.TT t).bind fun ti=>match ti.kind with
  |.iface=>none
  |.other=>none
  |_=>some (.iface t a,[],s)
 |.makeFunc fn first caps=>match fn with
  |.func f=>(evs T first.toList).bind fun fs=>(evs T caps.toList).bind fun cs=>some (.fn f fs cs,[],s)
  |_=>none
 |.fieldAddr t x f=>(e x).bind fun a=>pure' (fieldAddrX E t a f)
 |.field t x f=>(e x).bind fun a=>pure' (fieldX E t a f)
 |.indexAddr t x i=>(e x).bind fun a=>(e i).bind fun i=>(indexAddrX E t a i s).bind fun (v,s1)=>some (v,(match a with|.osl n _=>[n]|.osv n _ _ _ _=>[n]|_=>[]),s1)
 |.index t x i=>(e x).bind fun a=>(e i).bind fun i=>st' (indexX E t a i s)
 |.slice t x lo hi mx=>match mx with
  |some _=>none
  |none=>(e x).bind fun x=>match lo,hi with
   |none,none=>(sliceX E t x none none s).bind fun (v,s1)=>some (v,sliceRd x,s1)
   |some l,none=>(e l).bind fun l=>(sliceX E t x (some l) none s).bind fun (v,s1)=>some (v,sliceRd x,s1)
   |none,some h=>(e h).bind fun h=>(sliceX E t x none (some h) s).bind fun (v,s1)=>some (v,sliceRd x,s1)
   |some l,some h=>(e l).bind fun l=>(e h).bind fun h=>(sliceX E t x (some l) (some h) s).bind fun (v,s1)=>some (v,sliceRd x,s1)
 |.extract x i=>(e x).bind fun a=>match a with
  |.tup vs=>(nth vs i).bind fun v=>some (v,[],s)
  |_=>none
 |.typeAssert x _ t ok=>(chk (cond ok (E.PZ t) false)).bind fun _=>(e x).bind fun a=>match a with
  |.iface t' v=>some (cond (Nat.beq t' t) (.tup [v,.bool true]) (.tup [.nilp,.bool false]),[],s)
  |.nili=>some (.tup [.nilp,.bool false],[],s)
  |_=>none
 |.call c=>match c.callee with
  |.builtin .len=>match c.args.toList,c.argTypes.toList with
   |[x],[t]=>(E.TT t).bind fun ti=>match ti.kind with
    |.slice _=>(e x).bind fun a=>(lenX a s).bind fun n=>some (.int .i64 (n:Int),(match a with|.osl n _=>[n]|_=>[]),s)
    |_=>none
   |_,_=>none
  |.builtin .min=>match c.args.toList with
   |[x,y]=>(e x).bind fun a=>(e y).bind fun b=>match a,b with
    |.int k m,.int k' n=>(chk (decide (k=k'))).bind fun _=>some (.int k (if n<m then n else m),[],s)
    |_,_=>none
   |_=>none
  |.builtin .max=>match c.args.toList with
   |[x,y]=>(e x).bind fun a=>(e y).bind fun b=>match a,b with
    |.int k m,.int k' n=>(chk (decide (k=k'))).bind fun _=>some (.int k (if n > m then n else m),[],s)
    |_,_=>none
   |_=>none
  |_=>none
 |_=>none
def isQuiet:Op→Bool
 |.move _|.assign _|.pick ..|.build ..|.load ..|.nilCheck _|.binOp ..|.unOp ..|.convert ..|.makeInterface ..|.makeFunc ..|.fieldAddr ..|.field ..|.indexAddr ..|.index ..|.slice ..|.extract ..|.typeAssert ..=>true
 |.call c=>match c.callee with
  |.builtin .len|.builtin .min|.builtin .max=>true
  |_=>false
 |_=>false
def loudX (E:Env) (T:Tr V) (op:Op) (s:St):Option (V×St):=
 let e:=ev T
 match op with
 |.alloc t=>(E.TT t).bind fun ti=>(s.new (.mem ti.zb t none)).bind fun (n,s1)=>some (.ptr n 0 0 0,s1)
 |.box t x=>(e x).bind fun v=>(s.new (.mem (.cells v.cells) t none)).bind fun (n,s1)=>some (.ptr n 0 0 0,s1)
 |.buildSlice t len ps=>(evs T (ps.toList.map (·.2))).bind fun vs=>buildSliceX E t len ((ps.toList.map (·.1)).zip vs) s
 |.store t a x=>(e a).bind fun a=>(e x).bind fun v=>(storeX E t a v s).bind fun s1=>some (XJ,s1)
 |.makeSlice t l c=>(e l).bind fun l=>(e c).bind fun c=>makeSliceX E t l c s
 |.call c=>match c.callee with
  |.builtin .append=>match c.args.toList,c.argTypes.toList with
   |[a,x],[st,xt]=>(chk (Nat.beq st xt)).bind fun _=>(e a).bind fun a=>(e x).bind fun x=>appendX E st a x s
   |_,_=>none
  |_=>none
 |_=>none
structure Frs where
 fn:FuncId
 rnd:Option Nat
 nt:Nat
inductive Ex where
 |normal
 |exit (id:Nat)
 |goto (l:Nat)
 |ret
abbrev CallF:=FuncId→List V→St→Option (V×St)
abbrev YieldF:=Nat→List V→St→Option (V×St)
def runOp (E:Env) (cf:CallF) (yf:YieldF) (T:Tr V) (op:Op) (s:St):Option (V×St):=
 match isQuiet op with
 |true=>(quietX E T op s).bind fun (v,_,s1)=>some (v,s1)
 |false=>match op with
  |.call c=>match c.callee with
   |.value f=>(ev T f).bind fun fv=>(evs T c.args.toList).bind fun vs=>match fv with
    |.fn g first caps=>cf g (first++vs++caps) s
    |.yld l=>yf l vs s
    |_=>none
   |.invoke r m=>(ev T r).bind fun rv=>(evs T c.args.toList).bind fun vs=>match rv with
    |.iface t x=>(E.IM t m).bind fun g=>cf g (x::vs) s
    |_=>none
   |_=>loudX E T op s
  |_=>loudX E T op s
def putDst (nt:Nat) (T:Tr V) (d:Option Tmp) (v:V):Option (Tr V):=
 match d with
 |none=>some T
 |some t=>(chk (Nat.blt t nt)).bind fun _=>(chk (Nat.blt t big)).bind fun _=>some (T.put t (some v))
def wantedX (ops:List Oper) (o:Oper) (T:Tr V) (s:St):Option (Bool×Tr V×St):=
 match o.guard with
 |none=>some (true,T,s)
 |some (j,want)=>(nth ops j).bind fun g=>match g.dst with
  |none=>none
  |some t=>match T.get t with
   |some (.bool b)=>match dec b s with
    |(c,s1)=>(chk (Nat.blt t big)).bind fun _=>some ((c==want),T.put t (some (.bool c)),s1)
   |_=>some (false,T,s)
def seqOps (E:Env) (cf:CallF) (yf:YieldF) (fr:Frs) (ops:List Oper):List Oper→Tr V→List Dfr→St→Option (Tr V×List Dfr×St)
 |[],T,df,s=>some (T,df,s)
 |o::rest,T,df,s=>(wantedX ops o T s).bind fun (w,T1,s1)=>match w with
  |true=>match o.op with
   |.defer c=>match fr.rnd,c.callee with
    |none,.value f=>(ev T1 f).bind fun fv=>(evs T1 c.args.toList).bind fun vs=>match fv with
     |.fn g first caps=>(putDst fr.nt T1 o.dst XJ).bind fun T2=>seqOps E cf yf fr ops rest T2 (.call g (first++vs) caps::df) s1
     |_=>none
    |_,_=>none
   |_=>(runOp E cf yf T1 o.op s1).bind fun (v,s2)=>(putDst fr.nt T1 o.dst v).bind fun T2=>seqOps E cf yf fr ops rest T2 df s2
  |false=>(putDst fr.nt T1 o.dst XJ).bind fun T2=>seqOps E cf yf fr ops rest T2 df s1
structure Rec where
 loud:Bool
 rd:List Nat
 wr:List Nat
 lo:Nat
 hi:Nat
def mem? (n:Nat):List Nat→Bool
 |[]=>false
 |x::xs=>cond (Nat.beq n x) true (mem? n xs)
def disj:List Nat→List Nat→Bool
 |[],_=>true
 |x::xs,l=>cond (mem? x l) false (disj xs l)
def outside (lo hi:Nat):List Nat→Bool
 |[]=>true
 |x::xs=>cond (Nat.ble lo x) (cond (Nat.blt x hi) false (outside lo hi xs)) (outside lo hi xs)
def befores:List Nat→List Oper→List Nat
 |acc,[]=>acc
 |acc,o::os=>befores (acc++[(o.after.toList.filter (Region.binds .any)).foldl (fun m e=>Nat.lor m (Nat.lor (Nat.pow 2 e.on) ((nth acc e.on).getD 0))) 0]) os
def hideL (H:Tr Ob):List Nat→Tr Ob
 |[]=>H
 |n::ns=>hideL (H.put n none) ns
def hideR (H:Tr Ob) (lo:Nat):Nat→Tr Ob
 |0=>H
 |k+1=>hideR (H.put lo none) (Nat.succ lo) k
def hideRecs (pm:Nat):List Rec→Nat→Tr Ob→Tr Ob
 |[],_,H=>H
 |r::rs,i,H=>cond (Nat.testBit pm i) (hideRecs pm rs (Nat.succ i) H) (hideRecs pm rs (Nat.succ i) (hideR (hideL H r.wr) r.lo (Nat.sub r.hi r.lo)))
def backL (H0 H:Tr Ob):List Nat→Tr Ob
 |[]=>H
 |n::ns=>backL H0 (H.put n (H0.get n)) ns
def backR (H0 H:Tr Ob) (lo:Nat):Nat→Tr Ob
 |0=>H
 |k+1=>backR H0 (H.put lo (H0.get lo)) (Nat.succ lo) k
def backRecs (pm:Nat) (H0:Tr Ob):List Rec→Nat→Tr Ob→Tr Ob
 |[],_,H=>H
 |r::rs,i,H=>cond (Nat.testBit pm i) (backRecs pm H0 rs (Nat.succ i) H) (backRecs pm H0 rs (Nat.succ i) (backR H0 (backL H0 H r.wr) r.lo (Nat.sub r.hi r.lo)))
def quietFits (pm:Nat) (rd:List Nat):List Rec→Nat→Bool
 |[],_=>true
 |r::rs,i=>cond (Nat.testBit pm i) (quietFits pm rd rs (Nat.succ i)) (cond (disj rd r.wr) (cond (outside r.lo r.hi rd) (quietFits pm rd rs (Nat.succ i)) false) false)
def loudOne (l:Bool) (wr rd:List Nat):Bool:=
 match l with
 |true=>(match wr with|[]=>true|_=>false)
 |false=>disj wr rd
def loudFits (pm:Nat) (wr:List Nat):List Rec→Nat→Bool
 |[],_=>true
 |r::rs,i=>cond (Nat.testBit pm i) (loudFits pm wr rs (Nat.succ i)) (cond (loudOne r.loud wr r.rd) (loudFits pm wr rs (Nat.succ i)) false)
def newWr (lo:Nat):Nat→List Nat→List Nat
 |0,_=>[]
 |_+1,[]=>[]
 |k+1,x::xs=>cond (Nat.blt x lo) (x::newWr lo k xs) (newWr lo k xs)
def allLt (hi:Nat):List Nat→Bool
 |[]=>true
 |x::xs=>cond (Nat.blt x hi) (allLt hi xs) false
def drawOps (E:Env) (cf:CallF) (yf:YieldF) (fr:Frs) (ops:List Oper):List Oper→List Nat→List Rec→Tr V→St→Option (Tr V×St)
 |[],_,_,T,s=>some (T,s)
 |o::rest,pms,recs,T,s=>match pms with
  |[]=>none
  |pm::pms=>(wantedX ops o T s).bind fun (w,T1,s1)=>match w with
   |false=>(putDst fr.nt T1 o.dst XJ).bind fun T2=>drawOps E cf yf fr ops rest pms (recs++[⟨false,[],[],0,0⟩]) T2 s1
   |true=>match isQuiet o.op with
    |true=>(quietX E T1 o.op s1).bind fun (v,rd,s2)=>(chk (quietFits pm rd recs 0)).bind fun _=>(putDst fr.nt T1 o.dst v).bind fun T2=>drawOps E cf yf fr ops rest pms (recs++[⟨false,rd,[],0,0⟩]) T2 s2
    |false=>(runOp E cf yf T1 o.op {s1 with H:=hideRecs pm recs 0 s1.H,wr:=[]}).bind fun (v,s2)=>
      (chk (loudFits pm (newWr s1.nx s2.wr.length s2.wr) recs 0)).bind fun _=>(chk (Nat.ble s2.nx big)).bind fun _=>(chk (allLt s2.nx s2.wr)).bind fun _=>
      (putDst fr.nt T1 o.dst v).bind fun T2=>
      drawOps E cf yf fr ops rest pms (recs++[⟨true,[],newWr s1.nx s2.wr.length s2.wr,s1.nx,s2.nx⟩]) T2 {s2 with H:=backRecs pm s1.H recs 0 s2.H,wr:=s2.wr++s1.wr}
def apartAll (ops:List Oper):List Oper→List Nat→Nat→Bool
 |[],_,_=>true
 |o::rest,pms,j=>match pms with
  |[]=>false
  |pm::pms=>cond (apartOne ops o pm ops 0 j) (apartAll ops rest pms (Nat.succ j)) false
where apartOne (all:List Oper) (o:Oper) (pm:Nat):List Oper→Nat→Nat→Bool
 |[],_,_=>true
 |x::xs,i,j=>cond (Nat.blt i j) (cond (Nat.testBit pm i) (apartOne all o pm xs (Nat.succ i) j) (cond (x.apart all.toArray o) (apartOne all o pm xs (Nat.succ i) j) false)) true
def backOK:Nat→List Oper→Bool
 |_,[]=>true
 |i,o::os=>cond (o.after.toList.all fun e=>!(Region.binds .any e)||Nat.blt e.on i) (backOK (Nat.succ i) os) false
abbrev X:=Frs→Code→Tr V→List Dfr→St→Option (Ex×Tr V×List Dfr×St)
def resultsX (E:Env) (T:Tr V):List ResultVar→St→Option (List V×St)
 |[],s=>some ([],s)
 |.tmp t::rs,s=>(resultsX E T rs s).bind fun (vs,s1)=>some ((T.get t).getD XJ::vs,s1)
 |.cell a t::rs,s=>match T.get a with
  |some av=>(loadX E t av s).bind fun (v,s1)=>(resultsX E T rs s1).bind fun (vs,s2)=>some (v::vs,s2)
  |none=>none
def resultOf:List V→V
 |[v]=>v
 |vs=>.tup vs
def enterX (run:X) (E:Env) (f:FuncId) (args:List V) (s:St):Option (Func×Tr V×List Dfr×St):=
 (E.FT f).bind fun fn=>match fn.body with
 |none=>none
 |some c=>(chk (Nat.blt fn.ntmps big)).bind fun _=>(chk (Nat.ble args.length fn.ntmps)).bind fun _=>(run ⟨f,none,fn.ntmps⟩ c (Tr.ofList args) [] s).bind fun (e,T,df,s1)=>match e with
  |.normal=>some (fn,T,df,s1)
  |.ret=>some (fn,T,df,s1)
  |_=>none
def callN (run:X) (E:Env):CallF:=fun f args s=>
 (enterX run E f args s).bind fun (fn,T,df,s1)=>match df with
 |[]=>(resultsX E T fn.results.toList s1).bind fun (vs,s2)=>some (resultOf vs,s2)
 |_::_=>none
def runDefers (cf:CallF):Nat→List Dfr→St→Option St
 |0,_,_=>none
 |_+1,[],s=>some s
 |n+1,.collected l::ds,s=>match s.H.get l with
  |some (.deferred (some l'))=>(s.upd l (some (.deferred none))).bind fun s1=>runDefers cf n (l'++ds) s1
  |_=>none
 |n+1,.call f args caps::ds,s=>(cf f (args++caps) s).bind fun (_,s1)=>runDefers cf n ds s1
def callX (run:X) (E:Env):CallF:=fun f args s=>
 match E.SM f with
 |some F=>F args s
 |none=>(enterX run E f args s).bind fun (fn,T,df,s1)=>match df with
  |[]=>(resultsX E T fn.results.toList s1).bind fun (vs,s2)=>some (resultOf vs,s2)
  |_::_=>(runDefers (callN run E) 1000 df s1).bind fun s2=>(resultsX E T fn.results.toList s2).bind fun (vs,s3)=>some (resultOf vs,s3)
def setAll (nt:Nat):Tr V→List (Tmp×V)→Option (Tr V)
 |T,[]=>some T
 |T,(t,v)::l=>(putDst nt T (some t) v).bind fun T1=>setAll nt T1 l
def Ex.code:Ex→Option Code
 |.normal=>none
 |.exit id=>some (.exit id)
 |.goto l=>some (.goto l)
 |.ret=>some .ret
def yieldX (run:X):YieldF:=fun l args s=>
 match s.H.get l with
 |some (.loop .ready _pe fn tmps nt params assign body _dl)=>
  (chk (Nat.beq args.length params.length)).bind fun _=>(setAll nt tmps (params.zip args)).bind fun T0=>
  (run ⟨fn,some l,nt⟩ assign T0 [] s).bind fun (e,T1,df1,s1)=>match e,df1,s1.H.get l with
  |.normal,[],some (.loop .ready pe' fn' tmps' nt' params' assign' body' dl')=>
   (s1.upd l (some (.loop .busy pe' fn' tmps' nt' params' assign' body' dl'))).bind fun s2=>
   (run ⟨fn,some l,nt⟩ body T1 [] s2).bind fun (e2,_,_,s3)=>match s3.H.get l with
    |some (.loop _ _ fn3 tmps3 nt3 params3 assign3 body3 dl3)=>match e2.code with
     |none=>(s3.upd l (some (.loop .ready none fn3 tmps3 nt3 params3 assign3 body3 dl3))).bind fun s4=>some (.bool true,s4)
     |some j=>(s3.upd l (some (.loop .done (some j) fn3 tmps3 nt3 params3 assign3 body3 dl3))).bind fun s4=>some (.bool false,s4)
    |_=>none
  |_,_,_=>none
 |_=>none
def scopeX (run:X) (fr:Frs) (body:Code):Nat→Code→Tr V→List Dfr→St→Option (Ex×Tr V×List Dfr×St)
 |0,_,_,_,_=>none
 |n+1,c,T,df,s=>(run fr c T df s).bind fun (e,T1,df1,s1)=>match e with
  |.goto l=>match findLabel body l with
   |some rest=>scopeX run fr body n rest T1 df1 s1
   |none=>some (e,T1,df1,s1)
  |_=>some (e,T1,df1,s1)
def settle (T:Tr V) (c:Operand) (b:Bool):Tr V:=
 match c with
 |.tmp t=>cond (Nat.blt t big) (T.put t (some (.bool b))) T
 |_=>T
def Ex.isBusy:LoopState→Bool
 |.busy=>true
 |_=>false
def stepX (E:Env) (run:X):X:=fun fr c T df s=>
 match c with
 |.skip=>some (.normal,T,df,s)
 |.label _=>some (.normal,T,df,s)
 |.seq a b=>(run fr a T df s).bind fun (e,T1,df1,s1)=>match e with
  |.normal=>run fr b T1 df1 s1
  |_=>some (e,T1,df1,s1)
 |.cond c a b=>(ev T c).bind fun v=>match v with
  |.bool t=>match dec t s with
   |(true,s1)=>run fr a (settle T c true) df s1
   |(false,s1)=>run fr b (settle T c false) df s1
  |_=>none
 |.block id body=>(run fr body T df s).bind fun (e,T1,df1,s1)=>match e with
  |.exit id'=>cond (Nat.beq id' id) (some (.normal,T1,df1,s1)) (some (e,T1,df1,s1))
  |_=>some (e,T1,df1,s1)
 |.loop body=>(run fr body T df s).bind fun (e,T1,df1,s1)=>match e with
  |.normal=>run fr (.loop body) T1 df1 s1
  |_=>some (e,T1,df1,s1)
 |.exit id=>some (.exit id,T,df,s)
 |.goto l=>some (.goto l,T,df,s)
 |.ret=>some (.ret,T,df,s)
 |.scope body=>scopeX run fr body 1000 body T df s
 |.region _ ops draw=>match draw with
  |false=>(seqOps E (callX run E) (yieldX run) fr ops.toList ops.toList T df s).bind fun (T1,df1,s1)=>some (.normal,T1,df1,s1)
  |true=>(chk (apartAll ops.toList ops.toList (befores [] ops.toList) 0)).bind fun _=>(chk (backOK 0 ops.toList)).bind fun _=>
   (drawOps E (callX run E) (yieldX run) fr ops.toList ops.toList (befores [] ops.toList) [] T s).bind fun (T1,s1)=>some (.normal,T1,df,s1)
 |.rangeFunc f params assign body=>(ev T f).bind fun fv=>match fv,fr.rnd with
  |.fn g first caps,none=>
   (s.new (.deferred (some []))).bind fun (d,s1)=>(s1.new (.loop .ready none fr.fn T fr.nt params.toList assign body d)).bind fun (l,s2)=>
   (callX run E g (first++[.yld l]++caps) s2).bind fun (_,s3)=>match s3.H.get l with
    |some (.loop st pe fn tmps nt params assign body dl)=>(chk (!Ex.isBusy st)).bind fun _=>
     (s3.upd l (some (.loop .exhausted pe fn tmps nt params assign body dl))).bind fun s4=>match pe with
     |none=>some (.normal,T,.collected d::df,s4)
     |some j=>run fr j T (.collected d::df) s4
    |_=>none
  |_,_=>none
 |.refuse _=>none
def exec (E:Env) (n:Nat):X:=Nat.rec (fun _ _ _ _ _=>none) (fun _ ih=>stepX E ih) n
theorem exec_zero (E:Env):exec E 0=fun _ _ _ _ _=>none:=rfl
theorem exec_succ (E:Env) (n:Nat):exec E (n+1)=stepX E (exec E n):=rfl
end Go.Sx
