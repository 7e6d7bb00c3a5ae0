/- The seat's facts for the evaluator. -/
import Derived.Test.YtiplhefglgpdoaaGreatChecked
import Derived.Test.YtiplhefglgpdoaaGreatAeMQ
import Derived.Test.YtiplhefglgpdoaaGreatAeY
import Derived.KernelRfl
namespace Go.AE
open Go Go.RowKit
noncomputable abbrev P:Program:=Go.Proofs.Tryz.prog
def tab:Tab:=[(4,⟨.val Ty.bool,1,1⟩),
  (22,⟨.sl 5 (Ty.int .u8),1,24⟩),
  (5,⟨.val (Ty.int .u8),1,1⟩),
  (3,⟨.val (Ty.int .i64),1,8⟩),
  (60,⟨.other,1,0⟩),
  (36,⟨.sl 50 ax,1,24⟩),
  (50,⟨.st [(0,23, "Columns"),(1,44, "Rows")] ax,2,48⟩),
  (23,⟨.sl 58 ag,1,24⟩),
  (58,⟨.st [(0,3, "Kind"),(1,4, "Empty")] ag,2,16⟩),
  (44,⟨.sl 24 (Ty.sl aa),1,24⟩),
  (24,⟨.sl 33 aa,1,24⟩),
  (33,⟨.st [(0,3, "Kind"),(1,3, "N"),(2,9, "S")] aa,3,32⟩),
  (9,⟨.val Ty.str,1,16⟩),
  (59,⟨.sl 111 az,1,24⟩),
  (111,⟨.st [(0,3, "In"),(1,25, "E")] az,2,32⟩),
  (25,⟨.sl 72 aC,1,24⟩),
  (72,⟨.st [(0,3, "Kind"),(1,3, "N"),(2,33, "V")] aC,5,48⟩),
  (37,⟨.sl 84 ah,1,24⟩),
  (84,⟨.st [(0,3, "Kind"),(1,3, "A"),(2,3, "B"),(3,3, "N"),(4,25, "E"),(5,47, "List")] ah,6,80⟩),
  (47,⟨.sl 3 (Ty.int .i64),1,24⟩),
  (54,⟨.other,1,0⟩),
  (0,⟨.other,1,0⟩),
  (77,⟨.other,1,0⟩),
  (87,⟨.other,1,0⟩),
  (86,⟨.sl 103 aG,1,24⟩),
  (103,⟨.st [(0,23, "columns"),(1,3, "most")] aG,2,32⟩),
  (64,⟨.ptr 117,1,8⟩),
  (117,⟨.st [(0,22, "b"),(1,3, "p")] (Ty.pair (Ty.sl (Ty.int .u8)) (Ty.pair (Ty.int .i64) Ty.unit)),2,32⟩),
  (38,⟨.other,1,0⟩),
  (67,⟨.other,1,8⟩),
  (107,⟨.other,1,0⟩),
  (115,⟨.other,1,8⟩),
  (123,⟨.other,1,0⟩),
  (129,⟨.other,1,8⟩),
  (96,⟨.other,1,0⟩),
  (95,⟨.sl 23 (Ty.sl ag),1,24⟩),
  (133,⟨.other,1,0⟩),
  (135,⟨.sl 44 (Ty.sl (Ty.sl aa)),1,24⟩),
  (142,⟨.other,1,0⟩),
  (185,⟨.sl 9 Ty.str,1,24⟩)]
def Fu:List TypeId:=[4,33,72]
theorem tab_check:zY P tab tab=true:=by kernel_rfl
theorem vb:Ck P tab Fu=true:=by kernel_rfl
theorem mixed:P.follows .mixedOrders=true:=by kernel_rfl
@[reducible] def cx (l:Cons) (n:Nat) (inl:List (Nat×Inl)) (off:Nat) (deep:Bool):Ctx:=⟨tab,fun t=>jj t Fu,l,n,inl,off,deep⟩
theorem bw (C:Ctx) {f:FuncId} {fn:Func} {con:Con} (hf:P.funcs[f]? = some fn) (hC:dG P C) (hcon:∀args hp K,con.run args hp K->(Nat.ble args.length fn.ntmps&&Nat.ble args.length bX)=true/\∃(ann:Nat->List Dir) (L:bD) (k:RK),(∀p∈bV (de fn),eZ C L ann p.1 p.2)/\vcT C L ann fn args hp k K)
    (hT:TabOk P C:=by exact Bk tab_check vb) (hq:((fn.name == "runtime.NumGoroutine")||fn.body.isNone)=false:=by kernel_rfl) (hN:C.n=fn.ntmps:=by rfl):bp P f con:=HA [] hT mixed hf hq hC hN hcon
theorem Fg (ds:List (Nat×Bool)) (C:Ctx) {f:FuncId} {fn:Func} {con:Con} (hf:P.funcs[f]? = some fn) (hC:dG P C) (hcon:∀args hp K,con.run args hp K->(Nat.ble args.length fn.ntmps&&Nat.ble args.length bX)=true/\∃(ann:Nat->List Dir) (L:bD) (k:RK),(∀p∈bV (de (qk ds fn)),eZ C L ann p.1 p.2)/\vcT C L ann (qk ds fn) args hp k K)
    (hT:TabOk P C:=by exact Bk tab_check vb) (hq:((fn.name == "runtime.NumGoroutine")||fn.body.isNone)=false:=by kernel_rfl) (hN:C.n=fn.ntmps:=by rfl):bp P f con:=HA ds hT mixed hf hq hC hN hcon
theorem xl (C:Ctx) {f:FuncId} {fn:Func} (hf:P.funcs[f]? = some fn) (hC:dG P C) {ann:Nat->List Dir} (hT:TabOk P C:=by exact Bk tab_check vb) (hq:((fn.name == "runtime.NumGoroutine")||fn.body.isNone)=false:=by kernel_rfl) (hN:C.n=fn.ntmps:=by rfl)
    (hl:bV (de fn)=[]:=by kernel_rfl):so P f (rK C ann (de fn) fn.results.toList):=It hT mixed hf hq hC hN hl
@[reducible] def nT (xs:List ax.D) (i:Int):ax.D:=nth (t:=ax) xs i
@[reducible] def nS (xs:List ah.D) (i:Int):ah.D:=nth (t:=ah) xs i
@[reducible] def nC (xs:List ag.D) (i:Int):ag.D:=nth (t:=ag) xs i
@[reducible] def nI (xs:List aF.D) (i:Int):aF.D:=nth (t:=aF) xs i
@[reducible] def nP (xs:List aC.D) (i:Int):aC.D:=nth (t:=aC) xs i
@[reducible] def nM (xs:List aG.D) (i:Int):aG.D:=nth (t:=aG) xs i
@[reducible] def nG (xs:List az.D) (i:Int):az.D:=nth (t:=az) xs i
@[reducible] def nV (xs:List aa.D) (i:Int):aa.D:=nth (t:=aa) xs i
abbrev Z0:Int:=0
abbrev Z1:Int:=1
abbrev Z2:Int:=2
abbrev Z3:Int:=3
abbrev Z4:Int:=4
abbrev Z5:Int:=5
abbrev Z6:Int:=6
@[reducible] def dI (n:Int):AV:=.data aF n
@[reducible] def dB (b:Bool):AV:=.data Ty.bool b
abbrev KA:Type:=AV->Hp->Prop
abbrev KX:Type:=X->St->Prop
end Go.AE

