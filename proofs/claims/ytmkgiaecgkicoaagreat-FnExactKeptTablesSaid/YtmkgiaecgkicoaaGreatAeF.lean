/- What the functions compute, read off the code. -/
import Derived.Test.YtmkgiaecgkicoaaGreatAeMark
import Derived.Test.YtmkgiaecgkicoaaGreatAeSeat
namespace Go.AE
open Go Go.RowKit
set_option linter.unusedVariables false
noncomputable def F.mb (x:LC) (left:Int):Option Int:=
 cond (decide (wrap64 (left-(x.length:Int))<(0:Int))) (some (-1:Int)) (some (wrap64 (left-(x.length:Int))))
noncomputable def F.pK (x:aa.D) (left:Int):Option Int:=
 cond (decide (wrap64 (left-(x.2.2.1.size:Int))<(0:Int))) (some (-1:Int)) (some (wrap64 (left-(x.2.2.1.size:Int))))
noncomputable def F.gJ (x:LV) (left:Int)  (z0:aa.D) (v0:Int):Option (Sum Int Unit):=
 ag (0<=v0) (ag (v0<=1048576) (cond (decide ((M.bL z0 v0)<(0:Int))) (some (.inr ())) (some (.inl (M.bL z0 v0)))))
noncomputable def F.nY (x:LV) (left:Int):Option Int:=
 cond (decide (wrap64 (left-(x.length:Int))<(0:Int))) (some (-1:Int)) (aS (aJ (F.gJ x left) x (wrap64 (left-(x.length:Int)))) (fun v0:Int=>some v0) (fun q0:Unit=>some (-1:Int)))
noncomputable def F.fV (x:LLV) (left:Int)  (z0:LV) (v0:Int):Option (Sum Int Unit):=
 ag (0<=v0) (ag (v0<=1048576) (cond (decide ((M.szS M.bL z0 v0)<(0:Int))) (some (.inr ())) (some (.inl (M.szS M.bL z0 v0)))))
noncomputable def F.mE (x:LLV) (left:Int):Option Int:=
 cond (decide (wrap64 (left-(x.length:Int))<(0:Int))) (some (-1:Int)) (aS (aJ (F.fV x left) x (wrap64 (left-(x.length:Int)))) (fun v0:Int=>some v0) (fun q0:Unit=>some (-1:Int)))
noncomputable def F.qg (x:TTable.D) (left:Int):Option Int:=
 cond (decide ((M.bE x.1.length left)<(0:Int))) (some (-1:Int)) (ag (0<=(M.bE x.1.length left)) (ag ((M.bE x.1.length left)<=1048576) (cond (decide ((M.szS (M.szS M.bL) x.2.1 (M.bE x.1.length left))<(0:Int))) (some (-1:Int)) (some (M.szS (M.szS M.bL) x.2.1 (M.bE x.1.length left))))))
noncomputable def F.gO (x:LTb) (left:Int)  (z0:TTable.D) (v0:Int):Option (Sum Int Unit):=
 ag (0<=v0) (ag (v0<=1048576) (cond (decide ((M.bG z0 v0)<(0:Int))) (some (.inr ())) (some (.inl (M.bG z0 v0)))))
noncomputable def F.nO (x:LTb) (left:Int):Option Int:=
 cond (decide (wrap64 (left-(x.length:Int))<(0:Int))) (some (-1:Int)) (aS (aJ (F.gO x left) x (wrap64 (left-(x.length:Int)))) (fun v0:Int=>some v0) (fun q0:Unit=>some (-1:Int)))
noncomputable def F.qQ (x:(List Int)) (left:Int):Option Int:=
 cond (decide (wrap64 (left-(x.length:Int))<(0:Int))) (some (-1:Int)) (some (wrap64 (left-(x.length:Int))))
noncomputable def F.qA (x:ax.D) (left:Int):Option Int:=
 cond (decide ((M.bL x.2.2.1 left)<(0:Int))) (some (-1:Int)) (some (M.bL x.2.2.1 left))
noncomputable def F.iE (x:LPt) (left:Int)  (z0:ax.D) (v0:Int):Option (Sum Int Unit):=
 ag (0<=v0) (ag (v0<=1048576) (cond (decide ((M.gB z0 v0)<(0:Int))) (some (.inr ())) (some (.inl (M.gB z0 v0)))))
noncomputable def F.pU (x:LPt) (left:Int):Option Int:=
 cond (decide (wrap64 (left-(x.length:Int))<(0:Int))) (some (-1:Int)) (aS (aJ (F.iE x left) x (wrap64 (left-(x.length:Int)))) (fun v0:Int=>some v0) (fun q0:Unit=>some (-1:Int)))
noncomputable def F.ru (x:TBond.D) (left:Int):Option Int:=
 cond (decide ((M.bE x.2.2.1.length left)<(0:Int))) (some (-1:Int)) (ag (0<=(M.bE x.2.2.1.length left)) (ag ((M.bE x.2.2.1.length left)<=1048576) (cond (decide ((M.bE x.2.2.2.2.1.length (M.bE x.2.2.1.length left))<(0:Int))) (some (-1:Int)) (ag (0<=(M.bE x.2.2.2.2.1.length (M.bE x.2.2.1.length left))) (ag ((M.bE x.2.2.2.2.1.length (M.bE x.2.2.1.length left))<=1048576) (cond (decide ((M.szS M.gB x.2.2.2.2.2.2.1 (M.bE x.2.2.2.2.1.length (M.bE x.2.2.1.length left)))<(0:Int))) (some (-1:Int)) (some (M.szS M.gB x.2.2.2.2.2.2.1 (M.bE x.2.2.2.2.1.length (M.bE x.2.2.1.length left))))))))))
noncomputable def F.iy (x:(List TBond.D)) (left:Int)  (z0:TBond.D) (v0:Int):Option (Sum Int Unit):=
 ag (0<=v0) (ag (v0<=1048576) (cond (decide ((M.dc z0 v0)<(0:Int))) (some (.inr ())) (some (.inl (M.dc z0 v0)))))
noncomputable def F.pH (x:(List TBond.D)) (left:Int):Option Int:=
 cond (decide (wrap64 (left-(x.length:Int))<(0:Int))) (some (-1:Int)) (aS (aJ (F.iy x left) x (wrap64 (left-(x.length:Int)))) (fun v0:Int=>some v0) (fun q0:Unit=>some (-1:Int)))
noncomputable def F.om (x:TChange.D) (left:Int):Option Int:=
 cond (decide ((M.szS M.bL x.2.1 left)<(0:Int))) (some (-1:Int)) (some (M.szS M.bL x.2.1 left))
noncomputable def F.gq (x:(List TChange.D)) (left:Int)  (z0:TChange.D) (v0:Int):Option (Sum Int Unit):=
 ag (0<=v0) (ag (v0<=1048576) (cond (decide ((M.dF z0 v0)<(0:Int))) (some (.inr ())) (some (.inl (M.dF z0 v0)))))
noncomputable def F.mV (x:(List TChange.D)) (left:Int):Option Int:=
 cond (decide (wrap64 (left-(x.length:Int))<(0:Int))) (some (-1:Int)) (aS (aJ (F.gq x left) x (wrap64 (left-(x.length:Int)))) (fun v0:Int=>some v0) (fun q0:Unit=>some (-1:Int)))
noncomputable def F.vV (n:Int) (low:Int) (high:Int):Option Bool:=
 cond ((decide (low<=n))==true) (some (decide (n<=high))) (some false)
noncomputable def F.fZ (columns:LC)  (z0:ai.D) (v0:Unit):Option (Sum Unit Unit):=
 cond (!(M.inR z0.1 (1:Int) (3:Int))) (some (.inr ())) (some (.inl ()))
noncomputable def F.mP (columns:LC):Option Bool:=
 aS (aJ (F.fZ columns) columns ()) (fun v0:Unit=>some (decide ((columns.length:Int)<=(4:Int)))) (fun q0:Unit=>some false)
noncomputable def F.jk (s:ByteArray)  (i0:Int) (v0:Unit):Option (Sum Unit Unit):=
 cond ((decide (((s.get! i0.toNat).toNat:Int)<(97:Int)))==false) (cond (decide ((122:Int)<((s.get! i0.toNat).toNat:Int))) (some (.inr ())) (some (.inl ()))) (some (.inr ()))
noncomputable def F.rj (s:ByteArray):Option Bool:=
 aS (aJ (F.jk s) (aH (0:Int) (s.size:Int)) ()) (fun v0:Unit=>some (decide ((s.size:Int)<=(6:Int)))) (fun q0:Unit=>some false)
noncomputable def F.pV (v:aa.D):Option Bool:=
 cond (decide (v.1=(0:Int))) (cond ((decide (v.2.1=(0:Int)))==true) (some (decide (v.2.2.1=(⟨#[]⟩:ByteArray)))) (some false)) (cond (decide (v.1=(1:Int))) (cond ((M.inR v.2.1 (-9999:Int) (9999:Int))==true) (some (decide (v.2.2.1=(⟨#[]⟩:ByteArray)))) (some false)) (cond (decide (v.1=(2:Int))) (cond ((decide (v.2.1=(0:Int)))==true) (some (M.text v.2.2.1)) (some false)) (cond (decide (v.1=(3:Int))) (cond ((M.inR v.2.1 (0:Int) (1:Int))==true) (some (decide (v.2.2.1=(⟨#[]⟩:ByteArray)))) (some false)) (some false))))
noncomputable def F.ki (row:LV)  (z0:aa.D) (v0:Unit):Option (Sum Unit Unit):=
 cond (!(M.aO z0)) (some (.inr ())) (some (.inl ()))
noncomputable def F.tE (row:LV):Option Bool:=
 aS (aJ (F.ki row) row ()) (fun v0:Unit=>some (decide ((row.length:Int)<=(4:Int)))) (fun q0:Unit=>some false)
noncomputable def F.iz (columns:LC) (row:LV)  (i0:Int) (v0:Unit):Option (Sum Unit Unit):=
 ag (i0<(columns.length:Int)) (cond ((!decide ((nth (t:=aa) row i0).1=(nth (t:=ai) columns i0).1))==true) (cond ((!decide ((nth (t:=aa) row i0).1=(0:Int)))==false) (cond (!(nth (t:=ai) columns i0).2.1) (some (.inr ())) (some (.inl ()))) (some (.inr ()))) (some (.inl ())))
noncomputable def F.qp (columns:LC) (row:LV):Option Bool:=
 cond ((!(M.bD columns))==false) (cond ((!(M.oD row))==false) (cond (!decide ((row.length:Int)=(columns.length:Int))) (some false) (aS (aJ (F.iz columns row) (aH (0:Int) (row.length:Int)) ()) (fun v0:Unit=>some true) (fun q0:Unit=>some false))) (some false)) (some false)
noncomputable def F.jl (columns:LC) (rows:LLV)  (z0:LV) (v0:Unit):Option (Sum Unit Unit):=
 cond (!(M.bH columns z0)) (some (.inr ())) (some (.inl ()))
noncomputable def F.qX (columns:LC) (rows:LLV):Option Bool:=
 aS (aJ (F.jl columns rows) rows ()) (fun v0:Unit=>some (M.bD columns)) (fun q0:Unit=>some false)
noncomputable def F.gK (tables:LTb)  (z0:TTable.D) (v0:Unit):Option (Sum Unit Unit):=
 cond ((decide ((6:Int)<(z0.2.1.length:Int)))==false) (cond (!(M.fT z0.1 z0.2.1)) (some (.inr ())) (some (.inl ()))) (some (.inr ()))
noncomputable def F.oA (tables:LTb):Option Bool:=
 aS (aJ (F.gK tables) tables ()) (fun v0:Unit=>some (decide ((tables.length:Int)<=(3:Int)))) (fun q0:Unit=>some false)
noncomputable def F.fL (columns:LC) (list:(List Int))  (z0:Int) (v0:Unit):Option (Sum Unit Unit):=
 cond (!(M.inR z0 (0:Int) (wrap64 ((columns.length:Int)-(1:Int))))) (some (.inr ())) (some (.inl ()))
noncomputable def F.lf (columns:LC) (list:(List Int)):Option Bool:=
 aS (aJ (F.fL columns list) list ()) (fun v0:Unit=>some (M.inR (list.length:Int) (1:Int) (4:Int))) (fun q0:Unit=>some false)
noncomputable def F.kA (columns:LC) (kinds:(List Int)) (p:ax.D):Option ((List Int)×Bool):=
 cond ((!decide (p.1=(1:Int)))==true) (cond ((!(Ty.beq aa p.2.2.1 ((0:Int),((0:Int),((⟨#[]⟩:ByteArray),())))))==false) (cond ((!decide (p.1=(2:Int)))==true) (cond ((!decide (p.1=(4:Int)))==true) (cond (!decide (p.2.1=(0:Int))) (some (kinds,false)) (cond (decide (p.1=(3:Int))) (cond ((decide ((1:Int)<(kinds.length:Int)))==true) (ag (0<=wrap64 ((kinds.length:Int)-(1:Int))) (ag (wrap64 ((kinds.length:Int)-(1:Int))<(kinds.length:Int)) (cond ((decide ((nth (t:=(Ty.int .i64)) kinds (wrap64 ((kinds.length:Int)-(1:Int))))=(1:Int)))==true) (ag (0<=wrap64 ((kinds.length:Int)-(2:Int))) (ag (wrap64 ((kinds.length:Int)-(2:Int))<(kinds.length:Int)) (ag ((0:Int)<=(bz (wrap64 ((kinds.length:Int)-(2:Int))) (0:Int))) (ag ((bz (wrap64 ((kinds.length:Int)-(2:Int))) (0:Int))<=(kinds.length:Int)) (ag (((bz (wrap64 ((kinds.length:Int)-(2:Int))) (0:Int)).toNat+[(1:Int)].length) * 8<=lim) (some ((kinds.take (bz (wrap64 ((kinds.length:Int)-(2:Int))) (0:Int)).toNat++[(1:Int)]),(decide ((nth (t:=(Ty.int .i64)) kinds (wrap64 ((kinds.length:Int)-(2:Int))))=(1:Int)))))))))) (ag ((0:Int)<=(bz (wrap64 ((kinds.length:Int)-(2:Int))) (0:Int))) (ag ((bz (wrap64 ((kinds.length:Int)-(2:Int))) (0:Int))<=(kinds.length:Int)) (ag (((bz (wrap64 ((kinds.length:Int)-(2:Int))) (0:Int)).toNat+[(1:Int)].length) * 8<=lim) (some ((kinds.take (bz (wrap64 ((kinds.length:Int)-(2:Int))) (0:Int)).toNat++[(1:Int)]),false)))))))) (ag ((0:Int)<=(bz (wrap64 ((kinds.length:Int)-(2:Int))) (0:Int))) (ag ((bz (wrap64 ((kinds.length:Int)-(2:Int))) (0:Int))<=(kinds.length:Int)) (ag (((bz (wrap64 ((kinds.length:Int)-(2:Int))) (0:Int)).toNat+[(1:Int)].length) * 8<=lim) (some ((kinds.take (bz (wrap64 ((kinds.length:Int)-(2:Int))) (0:Int)).toNat++[(1:Int)]),false)))))) (cond (decide (p.1=(5:Int))) (cond ((decide ((1:Int)<(kinds.length:Int)))==true) (ag (0<=wrap64 ((kinds.length:Int)-(1:Int))) (ag (wrap64 ((kinds.length:Int)-(1:Int))<(kinds.length:Int)) (cond ((decide ((nth (t:=(Ty.int .i64)) kinds (wrap64 ((kinds.length:Int)-(1:Int))))=(3:Int)))==true) (ag (0<=wrap64 ((kinds.length:Int)-(2:Int))) (ag (wrap64 ((kinds.length:Int)-(2:Int))<(kinds.length:Int)) (ag ((0:Int)<=(bz (wrap64 ((kinds.length:Int)-(2:Int))) (0:Int))) (ag ((bz (wrap64 ((kinds.length:Int)-(2:Int))) (0:Int))<=(kinds.length:Int)) (ag (((bz (wrap64 ((kinds.length:Int)-(2:Int))) (0:Int)).toNat+[(3:Int)].length) * 8<=lim) (some ((kinds.take (bz (wrap64 ((kinds.length:Int)-(2:Int))) (0:Int)).toNat++[(3:Int)]),(decide ((nth (t:=(Ty.int .i64)) kinds (wrap64 ((kinds.length:Int)-(2:Int))))=(3:Int)))))))))) (ag ((0:Int)<=(bz (wrap64 ((kinds.length:Int)-(2:Int))) (0:Int))) (ag ((bz (wrap64 ((kinds.length:Int)-(2:Int))) (0:Int))<=(kinds.length:Int)) (ag (((bz (wrap64 ((kinds.length:Int)-(2:Int))) (0:Int)).toNat+[(3:Int)].length) * 8<=lim) (some ((kinds.take (bz (wrap64 ((kinds.length:Int)-(2:Int))) (0:Int)).toNat++[(3:Int)]),false)))))))) (ag ((0:Int)<=(bz (wrap64 ((kinds.length:Int)-(2:Int))) (0:Int))) (ag ((bz (wrap64 ((kinds.length:Int)-(2:Int))) (0:Int))<=(kinds.length:Int)) (ag (((bz (wrap64 ((kinds.length:Int)-(2:Int))) (0:Int)).toNat+[(3:Int)].length) * 8<=lim) (some ((kinds.take (bz (wrap64 ((kinds.length:Int)-(2:Int))) (0:Int)).toNat++[(3:Int)]),false)))))) (cond (decide (p.1=(6:Int))) (cond ((decide ((1:Int)<(kinds.length:Int)))==true) (ag (0<=wrap64 ((kinds.length:Int)-(1:Int))) (ag (wrap64 ((kinds.length:Int)-(1:Int))<(kinds.length:Int)) (cond ((decide ((nth (t:=(Ty.int .i64)) kinds (wrap64 ((kinds.length:Int)-(1:Int))))=(3:Int)))==true) (ag (0<=wrap64 ((kinds.length:Int)-(2:Int))) (ag (wrap64 ((kinds.length:Int)-(2:Int))<(kinds.length:Int)) (ag ((0:Int)<=(bz (wrap64 ((kinds.length:Int)-(2:Int))) (0:Int))) (ag ((bz (wrap64 ((kinds.length:Int)-(2:Int))) (0:Int))<=(kinds.length:Int)) (ag (((bz (wrap64 ((kinds.length:Int)-(2:Int))) (0:Int)).toNat+[(3:Int)].length) * 8<=lim) (some ((kinds.take (bz (wrap64 ((kinds.length:Int)-(2:Int))) (0:Int)).toNat++[(3:Int)]),(decide ((nth (t:=(Ty.int .i64)) kinds (wrap64 ((kinds.length:Int)-(2:Int))))=(3:Int)))))))))) (ag ((0:Int)<=(bz (wrap64 ((kinds.length:Int)-(2:Int))) (0:Int))) (ag ((bz (wrap64 ((kinds.length:Int)-(2:Int))) (0:Int))<=(kinds.length:Int)) (ag (((bz (wrap64 ((kinds.length:Int)-(2:Int))) (0:Int)).toNat+[(3:Int)].length) * 8<=lim) (some ((kinds.take (bz (wrap64 ((kinds.length:Int)-(2:Int))) (0:Int)).toNat++[(3:Int)]),false)))))))) (ag ((0:Int)<=(bz (wrap64 ((kinds.length:Int)-(2:Int))) (0:Int))) (ag ((bz (wrap64 ((kinds.length:Int)-(2:Int))) (0:Int))<=(kinds.length:Int)) (ag (((bz (wrap64 ((kinds.length:Int)-(2:Int))) (0:Int)).toNat+[(3:Int)].length) * 8<=lim) (some ((kinds.take (bz (wrap64 ((kinds.length:Int)-(2:Int))) (0:Int)).toNat++[(3:Int)]),false)))))) (cond (decide (p.1=(7:Int))) (cond ((decide ((0:Int)<(kinds.length:Int)))==true) (ag (0<=wrap64 ((kinds.length:Int)-(1:Int))) (ag (wrap64 ((kinds.length:Int)-(1:Int))<(kinds.length:Int)) (some (kinds,(decide ((nth (t:=(Ty.int .i64)) kinds (wrap64 ((kinds.length:Int)-(1:Int))))=(3:Int))))))) (some (kinds,false))) (cond (decide (p.1=(8:Int))) (ag ((0:Int)<=(bz (wrap64 ((kinds.length:Int)-(1:Int))) (0:Int))) (ag ((bz (wrap64 ((kinds.length:Int)-(1:Int))) (0:Int))<=(kinds.length:Int)) (ag (((bz (wrap64 ((kinds.length:Int)-(1:Int))) (0:Int)).toNat+[(3:Int)].length) * 8<=lim) (some ((kinds.take (bz (wrap64 ((kinds.length:Int)-(1:Int))) (0:Int)).toNat++[(3:Int)]),(decide ((0:Int)<(kinds.length:Int)))))))) (some (kinds,false)))))))) (cond ((decide ((1:Int)<(kinds.length:Int)))==true) (ag (0<=wrap64 ((kinds.length:Int)-(1:Int))) (ag (wrap64 ((kinds.length:Int)-(1:Int))<(kinds.length:Int)) (ag (0<=wrap64 ((kinds.length:Int)-(2:Int))) (ag (wrap64 ((kinds.length:Int)-(2:Int))<(kinds.length:Int)) (cond ((decide ((nth (t:=(Ty.int .i64)) kinds (wrap64 ((kinds.length:Int)-(1:Int))))=(nth (t:=(Ty.int .i64)) kinds (wrap64 ((kinds.length:Int)-(2:Int))))))==true) (ag ((0:Int)<=(bz (wrap64 ((kinds.length:Int)-(2:Int))) (0:Int))) (ag ((bz (wrap64 ((kinds.length:Int)-(2:Int))) (0:Int))<=(kinds.length:Int)) (ag (((bz (wrap64 ((kinds.length:Int)-(2:Int))) (0:Int)).toNat+[(3:Int)].length) * 8<=lim) (some ((kinds.take (bz (wrap64 ((kinds.length:Int)-(2:Int))) (0:Int)).toNat++[(3:Int)]),(M.inR p.2.1 (1:Int) (4:Int))))))) (ag ((0:Int)<=(bz (wrap64 ((kinds.length:Int)-(2:Int))) (0:Int))) (ag ((bz (wrap64 ((kinds.length:Int)-(2:Int))) (0:Int))<=(kinds.length:Int)) (ag (((bz (wrap64 ((kinds.length:Int)-(2:Int))) (0:Int)).toNat+[(3:Int)].length) * 8<=lim) (some ((kinds.take (bz (wrap64 ((kinds.length:Int)-(2:Int))) (0:Int)).toNat++[(3:Int)]),false)))))))))) (ag ((0:Int)<=(bz (wrap64 ((kinds.length:Int)-(2:Int))) (0:Int))) (ag ((bz (wrap64 ((kinds.length:Int)-(2:Int))) (0:Int))<=(kinds.length:Int)) (ag (((bz (wrap64 ((kinds.length:Int)-(2:Int))) (0:Int)).toNat+[(3:Int)].length) * 8<=lim) (some ((kinds.take (bz (wrap64 ((kinds.length:Int)-(2:Int))) (0:Int)).toNat++[(3:Int)]),false))))))) (cond (!(M.inR p.2.1 (0:Int) (wrap64 ((columns.length:Int)-(1:Int))))) (some (kinds,false)) (some ((kinds++[(nth (t:=ai) columns p.2.1).1]),true)))) (some (kinds,false))) (cond (!decide (p.2.1=(0:Int))) (some (kinds,false)) (cond ((!(M.aO p.2.2.1))==false) (cond (decide (p.2.2.1.1=(0:Int))) (some (kinds,false)) (some ((kinds++[p.2.2.1.1]),true))) (some (kinds,false))))
noncomputable def M.wq (columns:List ai.D) (kinds:List Int) (p:ax.D):List Int×Bool:=(F.kA columns kinds p).getD ([],false)
noncomputable def F.cF (columns:LC) (e:LPt)   (v0:Bool×Int×(List Int)):Option (Sum (Bool×Int×(List Int)) (Bool×(List Int))):=
 cond ((decide (v0.2.1<(e.length:Int)))==true) (cond v0.1 (ag (0<=v0.2.1) (ag (v0.2.1<(e.length:Int)) (ag (Sm (Ty.sl (Ty.int .i64)) v0.2.2) (ag (v0.2.2.length<=1000) (bB ((M.wq columns v0.2.2 (nth (t:=ax) e v0.2.1)):(List Int)×Bool) (fun r1:(List Int)×Bool=>some (.inl (r1.2,wrap64 (v0.2.1+(1:Int)),r1.1)))))))) (some (.inr (v0.1,v0.2.2)))) (some (.inr (v0.1,v0.2.2)))
noncomputable def F.nW (columns:LC) (e:LPt):Option Int:=
 cond ((!(M.bD columns))==false) (cond (decide ((12:Int)<(e.length:Int))) (some (-1:Int)) (Option.bind (dj (F.cF columns e) (true,(0:Int),[])) (fun e0:Bool×(List Int)=>cond ((!e0.1)==false) (cond (!decide ((e0.2.length:Int)=(1:Int))) (some (-1:Int)) (ag ((0:Int)<(e0.2.length:Int)) (some (nth (t:=(Ty.int .i64)) e0.2 (0:Int))))) (some (-1:Int))))) (some (-1:Int))
noncomputable def F.js (tables:LTb) (b:TBond.D)  (i1:Int) (v1:Unit):Option (Sum Unit Unit):=
 ag (0<=(nth (t:=(Ty.int .i64)) b.2.2.1 i1)) (ag ((nth (t:=(Ty.int .i64)) b.2.2.1 i1)<((nth (t:=TTable) tables b.2.1).1.length:Int)) (ag (0<=b.2.2.2.1) (ag (b.2.2.2.1<(tables.length:Int)) (ag (i1<(b.2.2.2.2.1.length:Int)) (ag (0<=(nth (t:=(Ty.int .i64)) b.2.2.2.2.1 i1)) (ag ((nth (t:=(Ty.int .i64)) b.2.2.2.2.1 i1)<((nth (t:=TTable) tables b.2.2.2.1).1.length:Int)) (cond (!decide ((nth (t:=ai) (nth (t:=TTable) tables b.2.1).1 (nth (t:=(Ty.int .i64)) b.2.2.1 i1)).1=(nth (t:=ai) (nth (t:=TTable) tables b.2.2.2.1).1 (nth (t:=(Ty.int .i64)) b.2.2.2.2.1 i1)).1)) (some (.inr ())) (some (.inl ())))))))))
noncomputable def F.qE (tables:LTb) (b:TBond.D):Option Bool:=
 cond ((!(M.aA tables))==false) (cond (!(M.inR b.2.1 (0:Int) (wrap64 ((tables.length:Int)-(1:Int))))) (some false) (cond (decide (b.1=(1:Int))) (cond ((M.bR (nth (t:=TTable) tables b.2.1).1 b.2.2.1)==true) (cond ((decide (b.2.2.2.1=(0:Int)))==true) (cond ((decide ((b.2.2.2.2.1.length:Int)=(0:Int)))==true) (cond ((!b.2.2.2.2.2.1)==true) (some (decide ((b.2.2.2.2.2.2.1.length:Int)=(0:Int)))) (some false)) (some false)) (some false)) (some false)) (cond (decide (b.1=(3:Int))) (cond ((decide ((M.cV (nth (t:=TTable) tables b.2.1).1 b.2.2.2.2.2.2.1)=(3:Int)))==true) (cond ((decide ((b.2.2.1.length:Int)=(0:Int)))==true) (cond ((decide (b.2.2.2.1=(0:Int)))==true) (cond ((decide ((b.2.2.2.2.1.length:Int)=(0:Int)))==true) (some (!b.2.2.2.2.2.1)) (some false)) (some false)) (some false)) (some false)) (cond (decide (b.1=(2:Int))) (cond ((!(M.inR b.2.2.2.1 (0:Int) (wrap64 ((tables.length:Int)-(1:Int)))))==false) (cond ((!(M.bR (nth (t:=TTable) tables b.2.1).1 b.2.2.1))==false) (cond ((!(M.bR (nth (t:=TTable) tables b.2.2.2.1).1 b.2.2.2.2.1))==false) (cond ((!decide ((b.2.2.1.length:Int)=(b.2.2.2.2.1.length:Int)))==false) (cond (decide ((0:Int)<(b.2.2.2.2.2.2.1.length:Int))) (some false) (aS (aJ (F.js tables b) (aH (0:Int) (b.2.2.1.length:Int)) ()) (fun v1:Unit=>some true) (fun q1:Unit=>some false))) (some false)) (some false)) (some false)) (some false)) (some false))))) (some false)
noncomputable def F.pN (truth:Int):Option (aa.D):=
 cond ((decide (truth=(0:Int)))==false) (cond (decide (truth=(1:Int))) (some ((3:Int),(truth,((⟨#[]⟩:ByteArray),())))) (some ((0:Int),((0:Int),((⟨#[]⟩:ByteArray),()))))) (some ((3:Int),(truth,((⟨#[]⟩:ByteArray),()))))
noncomputable def F.sW (a:aa.D) (b:aa.D):Option (aa.D):=
 cond ((decide (a.1=(0:Int)))==false) (cond ((decide (b.1=(0:Int)))==false) (cond (!(M.inR (wrap64 (a.2.1+b.2.1)) (-9999:Int) (9999:Int))) (some ((0:Int),((0:Int),((⟨#[]⟩:ByteArray),())))) (some ((1:Int),(wrap64 (a.2.1+b.2.1),((⟨#[]⟩:ByteArray),()))))) (some ((0:Int),((0:Int),((⟨#[]⟩:ByteArray),()))))) (some ((0:Int),((0:Int),((⟨#[]⟩:ByteArray),()))))
noncomputable def F.rD (b:Bool):Option Int:=
 cond b (some (1:Int)) (some (0:Int))
noncomputable def F.qT (a:Int) (b:Int):Option Int:=
 cond (decide (a<b)) (some (1:Int)) (some (0:Int))
noncomputable def F.tW (a:ByteArray) (b:ByteArray):Option Int:=
 cond (Op.bytesLess a.toList b.toList) (some (-1:Int)) (cond (!(Op.bytesLess a.toList b.toList||decide (a=b))) (some (1:Int)) (some (0:Int)))
noncomputable def F.ld (a:aa.D) (b:aa.D):Option Int:=
 cond ((!(M.aO a))==false) (cond (!(M.aO b)) (some (0:Int)) (cond (!decide (a.1=b.1)) (some (wrap64 (wrap64 ((2:Int) * (M.less b.1 a.1))-(1:Int)))) (cond (!decide (a.2.1=b.2.1)) (some (wrap64 (wrap64 ((2:Int) * (M.less b.2.1 a.2.1))-(1:Int)))) (some (M.vG a.2.2.1 b.2.2.1))))) (some (0:Int))
noncomputable def F.qi (kind:Int) (a:aa.D) (b:aa.D):Option Int:=
 cond ((!(M.inR kind (1:Int) (4:Int)))==false) (cond ((!(M.aO a))==false) (cond (!(M.aO b)) (some (-1:Int)) (cond ((decide (a.1=(0:Int)))==false) (cond (decide (b.1=(0:Int))) (some (2:Int)) (cond (!decide (a.1=b.1)) (some (-1:Int)) (cond (decide (kind=(1:Int))) (some (M.bool (decide ((M.dD a b)=(0:Int))))) (cond (decide (kind=(2:Int))) (some (M.bool (!decide ((M.dD a b)=(0:Int))))) (cond (decide (kind=(3:Int))) (some (M.bool (decide ((M.dD a b)<(0:Int))))) (some (M.bool (decide ((M.dD a b)<=(0:Int)))))))))) (some (2:Int)))) (some (-1:Int))) (some (-1:Int))
noncomputable def F.uR (n:Int):Option Bool:=
 some (M.inR n (0:Int) (2:Int))
noncomputable def F.qI (n:Int):Option Int:=
 ag (0<=n) (ag (n<([(0:Int),(2:Int),(1:Int)].length:Int)) (some (nth (t:=(Ty.int .i64)) [(0:Int),(2:Int),(1:Int)] n)))
noncomputable def F.sZ (a:Int) (b:Int):Option Int:=
 cond ((!(M.inR a 0 2))==false) (cond (!(M.inR b 0 2)) (some (-1:Int)) (ag (M.inR (Hy (M.sure a) (M.sure b)) 0 2=true) (some (M.sure (Hy (M.sure a) (M.sure b)))))) (some (-1:Int))
noncomputable def F.qf (v:aa.D):Option Int:=
 cond ((!(M.aO v))==false) (cond ((decide (v.1=(1:Int)))==false) (cond (decide (v.1=(2:Int))) (some (-1:Int)) (cond (decide (v.1=(0:Int))) (some (2:Int)) (some v.2.1))) (some (-1:Int))) (some (-1:Int))
noncomputable def F.vJ (a:Int) (b:Int):Option Int:=
 cond ((!(M.inR a 0 2))==false) (cond (!(M.inR b 0 2)) (some (-1:Int)) (ag (M.inR (bz (M.sure a) (M.sure b)) 0 2=true) (some (M.sure (bz (M.sure a) (M.sure b)))))) (some (-1:Int))
noncomputable def F.tV (a:Int):Option Int:=
 cond (!(M.inR a 0 2)) (some (-1:Int)) (ag (M.inR (wrap64 ((2:Int)-(M.sure a))) 0 2=true) (some (M.sure (wrap64 ((2:Int)-(M.sure a))))))
noncomputable def F.rU (row:LV) (values:LV) (p:ax.D):Option LV:=
 cond (decide (p.1=(1:Int))) (some (values++[p.2.2.1])) (cond (decide (p.1=(2:Int))) (ag (0<=p.2.1) (ag (p.2.1<(row.length:Int)) (some (values++[(nth (t:=aa) row p.2.1)])))) (cond (decide (p.1=(3:Int))) (ag ((0:Int)<=wrap64 ((values.length:Int)-(2:Int))) (ag (wrap64 ((values.length:Int)-(2:Int))<=(values.length:Int)) (ag (0<=wrap64 ((values.length:Int)-(2:Int))) (ag (wrap64 ((values.length:Int)-(2:Int))<(values.length:Int)) (ag (0<=wrap64 ((values.length:Int)-(1:Int))) (ag (wrap64 ((values.length:Int)-(1:Int))<(values.length:Int)) (bB ((M.sum (nth (t:=aa) values (wrap64 ((values.length:Int)-(2:Int)))) (nth (t:=aa) values (wrap64 ((values.length:Int)-(1:Int))))):aa.D) (fun r1:aa.D=>ag (((wrap64 ((values.length:Int)-(2:Int))).toNat+[r1].length) * 32<=lim) (some (values.take (wrap64 ((values.length:Int)-(2:Int))).toNat++[r1])))))))))) (cond (decide (p.1=(4:Int))) (ag ((0:Int)<=wrap64 ((values.length:Int)-(2:Int))) (ag (wrap64 ((values.length:Int)-(2:Int))<=(values.length:Int)) (ag (0<=wrap64 ((values.length:Int)-(2:Int))) (ag (wrap64 ((values.length:Int)-(2:Int))<(values.length:Int)) (ag (0<=wrap64 ((values.length:Int)-(1:Int))) (ag (wrap64 ((values.length:Int)-(1:Int))<(values.length:Int)) (bB ((M.valueOf (M.compare p.2.1 (nth (t:=aa) values (wrap64 ((values.length:Int)-(2:Int)))) (nth (t:=aa) values (wrap64 ((values.length:Int)-(1:Int)))))):aa.D) (fun r2:aa.D=>ag (((wrap64 ((values.length:Int)-(2:Int))).toNat+[r2].length) * 32<=lim) (some (values.take (wrap64 ((values.length:Int)-(2:Int))).toNat++[r2])))))))))) (cond (decide (p.1=(5:Int))) (ag ((0:Int)<=wrap64 ((values.length:Int)-(2:Int))) (ag (wrap64 ((values.length:Int)-(2:Int))<=(values.length:Int)) (ag (0<=wrap64 ((values.length:Int)-(2:Int))) (ag (wrap64 ((values.length:Int)-(2:Int))<(values.length:Int)) (ag (0<=wrap64 ((values.length:Int)-(1:Int))) (ag (wrap64 ((values.length:Int)-(1:Int))<(values.length:Int)) (bB ((M.valueOf (M.qP (M.bQ (nth (t:=aa) values (wrap64 ((values.length:Int)-(2:Int))))) (M.bQ (nth (t:=aa) values (wrap64 ((values.length:Int)-(1:Int))))))):aa.D) (fun r3:aa.D=>ag (((wrap64 ((values.length:Int)-(2:Int))).toNat+[r3].length) * 32<=lim) (some (values.take (wrap64 ((values.length:Int)-(2:Int))).toNat++[r3])))))))))) (cond (decide (p.1=(6:Int))) (ag ((0:Int)<=wrap64 ((values.length:Int)-(2:Int))) (ag (wrap64 ((values.length:Int)-(2:Int))<=(values.length:Int)) (ag (0<=wrap64 ((values.length:Int)-(2:Int))) (ag (wrap64 ((values.length:Int)-(2:Int))<(values.length:Int)) (ag (0<=wrap64 ((values.length:Int)-(1:Int))) (ag (wrap64 ((values.length:Int)-(1:Int))<(values.length:Int)) (bB ((M.valueOf (M.ze (M.bQ (nth (t:=aa) values (wrap64 ((values.length:Int)-(2:Int))))) (M.bQ (nth (t:=aa) values (wrap64 ((values.length:Int)-(1:Int))))))):aa.D) (fun r4:aa.D=>ag (((wrap64 ((values.length:Int)-(2:Int))).toNat+[r4].length) * 32<=lim) (some (values.take (wrap64 ((values.length:Int)-(2:Int))).toNat++[r4])))))))))) (cond (decide (p.1=(7:Int))) (ag ((0:Int)<=wrap64 ((values.length:Int)-(1:Int))) (ag (wrap64 ((values.length:Int)-(1:Int))<=(values.length:Int)) (ag (0<=wrap64 ((values.length:Int)-(1:Int))) (ag (wrap64 ((values.length:Int)-(1:Int))<(values.length:Int)) (bB ((M.valueOf (M.rG (M.bQ (nth (t:=aa) values (wrap64 ((values.length:Int)-(1:Int))))))):aa.D) (fun r5:aa.D=>ag (((wrap64 ((values.length:Int)-(1:Int))).toNat+[r5].length) * 32<=lim) (some (values.take (wrap64 ((values.length:Int)-(1:Int))).toNat++[r5])))))))) (ag ((0:Int)<=wrap64 ((values.length:Int)-(1:Int))) (ag (wrap64 ((values.length:Int)-(1:Int))<=(values.length:Int)) (ag (0<=wrap64 ((values.length:Int)-(1:Int))) (ag (wrap64 ((values.length:Int)-(1:Int))<(values.length:Int)) (bB ((M.valueOf (M.bool (decide ((nth (t:=aa) values (wrap64 ((values.length:Int)-(1:Int)))).1=(0:Int))))):aa.D) (fun r6:aa.D=>ag (((wrap64 ((values.length:Int)-(1:Int))).toNat+[r6].length) * 32<=lim) (some (values.take (wrap64 ((values.length:Int)-(1:Int))).toNat++[r6]))))))))))))))
noncomputable def F.ee (row:LV) (e:LPt)  (z0:ax.D) (v0:LV):Option (Sum LV Unit):=
 ag (Sm (Ty.sl aa) v0) (ag (v0.length<=1000) (ag (M.takes z0<=(v0.length:Int)) (ag (1<=z0.1/\z0.1<=8) (ag (M.ni z0 row.length) (bB ((M.eG row v0 z0):LV) (fun r1:LV=>some (.inl r1)))))))
noncomputable def F.qk (row:LV) (e:LPt):Option (aa.D):=
 aS (aJ (F.ee row e) e []) (fun v0:LV=>ag ((0:Int)<(v0.length:Int)) (some (nth (t:=aa) v0 (0:Int)))) (fun(_:Unit)=>none)
noncomputable def F.iD (row:LV) (list:(List Int))  (z0:Int) (v0:LV):Option (Sum LV Unit):=
 ag (0<=z0) (ag (z0<(row.length:Int)) (ag ((v0.length+[(nth (t:=aa) row z0)].length) * 32<=lim) (some (.inl (v0++[(nth (t:=aa) row z0)])))))
noncomputable def F.pP (row:LV) (list:(List Int)):Option LV:=
 aS (aJ (F.iD row list) list []) (fun v0:LV=>some v0) (fun(_:Unit)=>none)
noncomputable def F.iA (values:LV)  (z0:aa.D) (v0:Unit):Option (Sum Unit Unit):=
 cond (decide (z0.1=(0:Int))) (some (.inr ())) (some (.inl ()))
noncomputable def F.qc (values:LV):Option Bool:=
 aS (aJ (F.iA values) values ()) (fun v0:Unit=>some false) (fun q0:Unit=>some true)
noncomputable def F.jf (a:LV) (b:LV)  (i0:Int) (v0:Unit):Option (Sum Unit Unit):=
 ag (i0<(b.length:Int)) (cond (!(Ty.beq aa (nth (t:=aa) a i0) (nth (t:=aa) b i0))) (some (.inr ())) (some (.inl ())))
noncomputable def F.xe (a:LV) (b:LV):Option Bool:=
 cond (!decide ((a.length:Int)=(b.length:Int))) (some false) (aS (aJ (F.jf a b) (aH (0:Int) (a.length:Int)) ()) (fun v0:Unit=>some true) (fun q0:Unit=>some false))
noncomputable def F.gp (tables:LTb) (b:TBond.D) (c5_0:Int) (c5_1:LV)  (v5:Bool×Int):Option (Sum (Bool×Int) Bool):=
 ag (0<=b.2.2.2.1) (ag (b.2.2.2.1<(tables.length:Int)) (cond ((decide (v5.2<((nth (t:=TTable) tables b.2.2.2.1).2.1.length:Int)))==true) (cond (!v5.1) (ag (0<=v5.2) (ag (v5.2<((nth (t:=TTable) tables b.2.2.2.1).2.1.length:Int)) (ag (M.eI (nth (t:=(Ty.sl aa)) (nth (t:=TTable) tables b.2.2.2.1).2.1 v5.2) b.2.2.2.2.1) (bB ((M.taken (nth (t:=(Ty.sl aa)) (nth (t:=TTable) tables b.2.2.2.1).2.1 v5.2) b.2.2.2.2.1):LV) (fun r1:LV=>some (.inl ((decide (r1=c5_1)),wrap64 (v5.2+(1:Int))))))))) (some (.inr v5.1))) (some (.inr v5.1))))
noncomputable def F.eC (tables:LTb) (b:TBond.D) (c3_0:Int) (c3_1:LV)  (v3:Int):Option (Sum Int (Sum Unit Unit)):=
 cond ((decide (v3<c3_0))==true) (cond (!(M.jZ c3_1)) (ag (0<=v3) (ag (v3<((nth (t:=TTable) tables b.2.1).2.1.length:Int)) (ag (M.eI (nth (t:=(Ty.sl aa)) (nth (t:=TTable) tables b.2.1).2.1 v3) b.2.2.1) (bB ((M.taken (nth (t:=(Ty.sl aa)) (nth (t:=TTable) tables b.2.1).2.1 v3) b.2.2.1):LV) (fun r2:LV=>cond (decide (r2=c3_1)) (some (.inr (.inr ()))) (some (.inl (wrap64 (v3+(1:Int)))))))))) (some (.inr (.inl ())))) (some (.inr (.inl ())))
noncomputable def F.gj (tables:LTb) (b:TBond.D)  (i0:Int) (v0:Unit):Option (Sum Unit Int):=
 cond (decide (b.1=(3:Int))) (ag (M.jh (nth (t:=(Ty.sl aa)) (nth (t:=TTable) tables b.2.1).2.1 i0).length b.2.2.2.2.2.2.1) (bB ((M.eg (nth (t:=(Ty.sl aa)) (nth (t:=TTable) tables b.2.1).2.1 i0) b.2.2.2.2.2.2.1):aa.D) (fun r3:aa.D=>bB ((M.valueOf (0:Int)):aa.D) (fun r4:aa.D=>cond (Ty.beq aa r3 r4) (some (.inr i0)) (some (.inl ())))))) (cond (decide (b.1=(1:Int))) (ag (M.eI (nth (t:=(Ty.sl aa)) (nth (t:=TTable) tables b.2.1).2.1 i0) b.2.2.1) (bB ((M.taken (nth (t:=(Ty.sl aa)) (nth (t:=TTable) tables b.2.1).2.1 i0) b.2.2.1):LV) (fun r5:LV=>aS (dj (F.eC tables b i0 r5) (0:Int)) (fun e3:Unit=>some (.inl ())) (fun q3:Unit=>some (.inr i0))))) (cond (decide (b.1=(2:Int))) (ag (M.eI (nth (t:=(Ty.sl aa)) (nth (t:=TTable) tables b.2.1).2.1 i0) b.2.2.1) (bB ((M.taken (nth (t:=(Ty.sl aa)) (nth (t:=TTable) tables b.2.1).2.1 i0) b.2.2.1):LV) (fun r6:LV=>Option.bind (dj (F.gp tables b i0 r6) ((M.jZ r6),(0:Int))) (fun e5:Bool=>cond (!e5) (some (.inr i0)) (some (.inl ())))))) (some (.inl ()))))
noncomputable def F.mC (tables:LTb) (b:TBond.D):Option Int:=
 ag (0<=b.2.1) (ag (b.2.1<(tables.length:Int)) (aS (aJ (F.gj tables b) (aH (0:Int) ((nth (t:=TTable) tables b.2.1).2.1.length:Int)) ()) (fun v0:Unit=>some (-1:Int)) (fun q0:Int=>some q0)))
noncomputable def F.kW (tables:LTb) (b:TBond.D):Option Int:=
 cond (!(M.aA tables&&M.aX tables b)) (some (-2:Int)) (some (M.broken tables b))
noncomputable def F.gi (tables:LTb) (bonds:(List TBond.D))  (z0:TBond.D) (v0:Unit):Option (Sum Unit Unit):=
 cond (!decide ((M.de tables z0)=(-1:Int))) (some (.inr ())) (some (.inl ()))
noncomputable def F.mh (tables:LTb) (bonds:(List TBond.D)):Option Bool:=
 aS (aJ (F.gi tables bonds) bonds ()) (fun v0:Unit=>some (decide ((bonds.length:Int)<=(4:Int)))) (fun q0:Unit=>some false)
noncomputable def F.zj (row:LV):Option LV:=
 some ([]++row)
noncomputable def F.ew (tables:LTb) (c2_0:Int) (c2_1:LTb) (c2_2:LC)  (v2:Int×LLV):Option (Sum (Int×LLV) LLV):=
 ag (0<=c2_0) (ag (c2_0<(tables.length:Int)) (cond (decide (v2.1<((nth (t:=TTable) tables c2_0).2.1.length:Int))) (ag (0<=v2.1) (ag (v2.1<((nth (t:=TTable) tables c2_0).2.1.length:Int)) (bB ((nth (t:=(Ty.sl aa)) (nth (t:=TTable) tables c2_0).2.1 v2.1):LV) (fun r1:LV=>ag ((v2.2.length+[r1].length) * 24<=lim) (some (.inl (wrap64 (v2.1+(1:Int)),(v2.2++[r1])))))))) (some (.inr v2.2))))
noncomputable def F.gd (tables:LTb)  (i0:Int) (v0:LTb):Option (Sum LTb Unit):=
 Option.bind (dj (F.ew tables i0 v0 ([]++(nth (t:=TTable) tables i0).1)) ((0:Int),[])) (fun e2:LLV=>ag ((v0.length+[(([]++(nth (t:=TTable) tables i0).1),(e2,()))].length) * 48<=lim) (some (.inl (v0++[(([]++(nth (t:=TTable) tables i0).1),(e2,()))]))))
noncomputable def F.mg (tables:LTb):Option LTb:=
 aS (aJ (F.gd tables) (aH (0:Int) (tables.length:Int)) []) (fun v0:LTb=>some v0) (fun(_:Unit)=>none)
noncomputable def F.fP (rows:LLV) (row:LV)  (z0:LV) (v0:Int):Option (Sum Int Unit):=
 cond (decide (z0=row)) (some (.inl (wrap64 (v0+(1:Int))))) (some (.inl v0))
noncomputable def F.pE (rows:LLV) (row:LV):Option Int:=
 aS (aJ (F.fP rows row) rows (0:Int)) (fun v0:Int=>some v0) (fun(_:Unit)=>none)
noncomputable def F.nK (tables:LTb) (c:TChange.D):Option Bool:=
 cond ((!(M.aA tables))==false) (cond ((!(M.inR c.1 (0:Int) (wrap64 ((tables.length:Int)-(1:Int)))))==false) (cond (!(M.bH (nth (t:=TTable) tables c.1).1 c.2.1)) (some false) (cond c.2.2.1 (some (decide (((nth (t:=TTable) tables c.1).2.1.length:Int)<(6:Int)))) (some (decide ((0:Int)<(M.cz (nth (t:=TTable) tables c.1).2.1 c.2.1:Int)))))) (some false)) (some false)
noncomputable def F.gX (a:LLV) (b:LLV)  (z0:LV) (v0:LLV×LLV):Option (Sum (LLV×LLV) Unit):=
 ag (Sm (Ty.sl (Ty.sl aa)) v0.2) (cond (decide ((M.cz v0.2 z0:Int)<(M.cz b z0:Int))) (ag ((v0.2.length+[z0].length) * 24<=lim) (some (.inl (v0.1,(v0.2++[z0]))))) (bB (z0:LV) (fun r1:LV=>ag ((v0.1.length+[r1].length) * 24<=lim) (some (.inl ((v0.1++[r1]),v0.2))))))
noncomputable def F.oa (a:LLV) (b:LLV):Option LLV:=
 aS (aJ (F.gX a b) a ([],[])) (fun v0:LLV×LLV=>some v0.1) (fun(_:Unit)=>none)
noncomputable def F.jI (tables:LTb) (c:TChange.D):Option (LTb×Bool):=
 cond (!(M.bf tables c)) (some ([],false)) (bB (tables:LTb) (fun r1:LTb=>cond c.2.2.1 (ag (0<=c.1) (ag (c.1<(r1.length:Int)) (bB (c.2.1:LV) (fun r2:LV=>ag (((nth (t:=TTable) r1 c.1).2.1.length+[r2].length) * 24<=lim) (ag (c.1<((r1.set c.1.toNat ((nth (t:=TTable) r1 c.1).1,([],()))).length:Int)) (bB (((r1.set c.1.toNat ((nth (t:=TTable) r1 c.1).1,([],()))).set c.1.toNat ((nth (t:=TTable) (r1.set c.1.toNat ((nth (t:=TTable) r1 c.1).1,([],()))) c.1).1,(((nth (t:=TTable) r1 c.1).2.1++[r2]),()))):LTb) (fun y1:LTb=>some (y1,true)))))))) (ag (0<=c.1) (ag (c.1<(r1.length:Int)) (ag (Sm (Ty.sl (Ty.sl aa)) (nth (t:=TTable) r1 c.1).2.1) (bB ((M.mH (nth (t:=TTable) r1 c.1).2.1 [c.2.1]):LLV) (fun r3:LLV=>some ((r1.set c.1.toNat ((nth (t:=TTable) r1 c.1).1,(r3,()))),true))))))))
noncomputable def F.dR (tables:LTb) (bonds:(List TBond.D)) (changes:(List TChange.D))  (z0:TChange.D) (v0:LTb):Option (Sum LTb Unit):=
 ag (Sm (Ty.sl TTable) v0) (bB ((cond (M.bf v0 z0) (M.bu v0 z0) [],M.bf v0 z0):LTb×Bool) (fun r1:LTb×Bool=>cond (r1.2==true) (ag (Sm (Ty.sl TTable) r1.1) (cond (M.bA r1.1 bonds) (some (.inl r1.1)) (some (.inl v0)))) (some (.inl v0))))
noncomputable def F.kP (tables:LTb) (bonds:(List TBond.D)) (changes:(List TChange.D)):Option (LTb×Bool):=
 cond ((!(M.aA tables))==false) (cond ((!(M.bA tables bonds))==false) (cond (decide ((8:Int)<(changes.length:Int))) (some ([],false)) (bB (tables:LTb) (fun r2:LTb=>aS (aJ (F.dR tables bonds changes) changes r2) (fun v0:LTb=>some (v0,true)) (fun(_:Unit)=>none)))) (some ([],false))) (some ([],false))
noncomputable def F.sM (x:ai.D):Option (ai.D):=
 some x
noncomputable def F.gm (x:LC)  (i0:Int) (v0:LC):Option (Sum LC Unit):=
 bB ((nth (t:=ai) x i0):ai.D) (fun r1:ai.D=>ag (i0<(v0.length:Int)) (some (.inl (v0.set i0.toNat r1))))
noncomputable def F.mU (x:LC):Option LC:=
 aS (aJ (F.gm x) (aH (0:Int) (x.length:Int)) (List.replicate (x.length:Int).toNat ((0:Int),(false,())))) (fun v0:LC=>some v0) (fun(_:Unit)=>none)
noncomputable def F.vf (x:aa.D):Option (aa.D):=
 some x
noncomputable def F.gU (x:LV)  (i0:Int) (v0:LV):Option (Sum LV Unit):=
 bB ((nth (t:=aa) x i0):aa.D) (fun r1:aa.D=>ag (i0<(v0.length:Int)) (some (.inl (v0.set i0.toNat r1))))
noncomputable def F.nB (x:LV):Option LV:=
 aS (aJ (F.gU x) (aH (0:Int) (x.length:Int)) (List.replicate (x.length:Int).toNat ((0:Int),((0:Int),((⟨#[]⟩:ByteArray),()))))) (fun v0:LV=>some v0) (fun(_:Unit)=>none)
noncomputable def F.gn (x:LLV)  (i0:Int) (v0:LLV):Option (Sum LLV Unit):=
 bB ((nth (t:=(Ty.sl aa)) x i0):LV) (fun r1:LV=>ag (i0<(v0.length:Int)) (some (.inl (v0.set i0.toNat r1))))
noncomputable def F.mc (x:LLV):Option LLV:=
 aS (aJ (F.gn x) (aH (0:Int) (x.length:Int)) (List.replicate (x.length:Int).toNat [])) (fun v0:LLV=>some v0) (fun(_:Unit)=>none)
noncomputable def F.gV (x:LTb)  (i0:Int) (v0:LTb):Option (Sum LTb Unit):=
 bB ((nth (t:=TTable) x i0).1:LC) (fun r1:LC=>bB ((nth (t:=TTable) x i0).2.1:LLV) (fun r2:LLV=>ag (i0<(v0.length:Int)) (some (.inl (v0.set i0.toNat (r1,(r2,())))))))
noncomputable def F.nH (x:LTb):Option LTb:=
 aS (aJ (F.gV x) (aH (0:Int) (x.length:Int)) (List.replicate (x.length:Int).toNat ([],([],())))) (fun v0:LTb=>some v0) (fun(_:Unit)=>none)
noncomputable def F.je (x:(List Int))  (i0:Int) (v0:(List Int)):Option (Sum (List Int) Unit):=
 ag (i0<(v0.length:Int)) (some (.inl (v0.set i0.toNat (nth (t:=(Ty.int .i64)) x i0))))
noncomputable def F.rq (x:(List Int)):Option (List Int):=
 aS (aJ (F.je x) (aH (0:Int) (x.length:Int)) (List.replicate (x.length:Int).toNat (0:Int))) (fun v0:(List Int)=>some v0) (fun(_:Unit)=>none)
noncomputable def F.xw (x:ax.D):Option (ax.D):=
 bB (x.2.2.1:aa.D) (fun r1:aa.D=>some (x.1,(x.2.1,(r1,()))))
noncomputable def F.iH (x:LPt)  (i0:Int) (v0:LPt):Option (Sum LPt Unit):=
 bB ((nth (t:=ax) x i0):ax.D) (fun r1:ax.D=>ag (i0<(v0.length:Int)) (some (.inl (v0.set i0.toNat r1))))
noncomputable def F.pe (x:LPt):Option LPt:=
 aS (aJ (F.iH x) (aH (0:Int) (x.length:Int)) (List.replicate (x.length:Int).toNat ((0:Int),((0:Int),(((0:Int),((0:Int),((⟨#[]⟩:ByteArray),()))),()))))) (fun v0:LPt=>some v0) (fun(_:Unit)=>none)
noncomputable def F.iG (x:(List TBond.D))  (i0:Int) (v0:(List TBond.D)):Option (Sum (List TBond.D) Unit):=
 bB ((nth (t:=TBond) x i0).2.2.1:(List Int)) (fun r1:(List Int)=>bB ((nth (t:=TBond) x i0).2.2.2.2.1:(List Int)) (fun r2:(List Int)=>bB ((nth (t:=TBond) x i0).2.2.2.2.2.2.1:LPt) (fun r3:LPt=>ag (i0<(v0.length:Int)) (bB ((v0.set i0.toNat ((nth (t:=TBond) x i0).1,((nth (t:=TBond) x i0).2.1,(r1,((nth (t:=TBond) x i0).2.2.2.1,(r2,((nth (t:=TBond) x i0).2.2.2.2.2.1,(r3,())))))))):(List TBond.D)) (fun y1:(List TBond.D)=>some (.inl y1))))))
noncomputable def F.pz (x:(List TBond.D)):Option (List TBond.D):=
 aS (aJ (F.iG x) (aH (0:Int) (x.length:Int)) (List.replicate (x.length:Int).toNat ((0:Int),((0:Int),([],((0:Int),([],(false,([],()))))))))) (fun v0:(List TBond.D)=>some v0) (fun(_:Unit)=>none)
noncomputable def F.ga (x:(List TChange.D))  (i0:Int) (v0:(List TChange.D)):Option (Sum (List TChange.D) Unit):=
 bB ((nth (t:=TChange) x i0).2.1:LV) (fun r1:LV=>ag (i0<(v0.length:Int)) (bB ((v0.set i0.toNat ((nth (t:=TChange) x i0).1,(r1,(nth (t:=TChange) x i0).2.2))):(List TChange.D)) (fun y1:(List TChange.D)=>some (.inl y1))))
noncomputable def F.mI (x:(List TChange.D)):Option (List TChange.D):=
 aS (aJ (F.ga x) (aH (0:Int) (x.length:Int)) (List.replicate (x.length:Int).toNat ((0:Int),([],(false,()))))) (fun v0:(List TChange.D)=>some v0) (fun(_:Unit)=>none)
noncomputable def F.qd (n:Int) (low:Int) (high:Int):Option Bool:=
 cond ((decide (low<=n))==true) (some (decide (n<=high))) (some false)
noncomputable def F.oR (c:ai.D):Option Bool:=
 some (!(M.inR c.1 (1:Int) (3:Int)))
noncomputable def F.cw (xs:LC)  (i0:Int) (v0:Unit):Option (Sum Unit Int):=
 cond (!M.dH (nth (t:=ai) xs i0)) (some (.inr i0)) (some (.inl ()))
noncomputable def F.gy (xs:LC):Option Int:=
 aS (aJ (F.cw xs) (aH (0:Int) (xs.length:Int)) ()) (fun v0:Unit=>some (-1:Int)) (fun q0:Int=>some q0)
noncomputable def F.dw (xs:LC):Option Bool:=
 some (decide ((0:Int)<=(M.idx (t:=ai) (fun e=>!M.dH e) xs)))
noncomputable def F.mM (columns:LC):Option Bool:=
 cond ((decide ((columns.length:Int)<=(4:Int)))==true) (some (!(List.any columns (fun e=>!M.dH e)))) (some false)
noncomputable def F.mq (v:aa.D):Option Bool:=
 some (decide (v.1=(0:Int)))
noncomputable def F.iJ (s:ByteArray)  (z0:Int) (v0:Unit):Option (Sum Unit Unit):=
 cond (!(M.inR (wrap64 z0) (97:Int) (122:Int))) (some (.inr ())) (some (.inl ()))
noncomputable def F.qo (s:ByteArray):Option Bool:=
 aS (aJ (F.iJ s) (bJ s) ()) (fun v0:Unit=>some true) (fun q0:Unit=>some false)
noncomputable def F.nA (v:aa.D):Option Bool:=
 cond (decide (v.1=(0:Int))) (some (Ty.beq aa v ((0:Int),((0:Int),((⟨#[]⟩:ByteArray),()))))) (cond (decide (v.1=(1:Int))) (cond ((decide (v.2.2.1=(⟨#[]⟩:ByteArray)))==true) (some (M.inR v.2.1 (-9999:Int) (9999:Int))) (some false)) (cond (decide (v.1=(2:Int))) (cond ((decide (v.2.1=(0:Int)))==true) (cond ((decide ((v.2.2.1.size:Int)<=(6:Int)))==true) (some (M.lower (bJ v.2.2.1))) (some false)) (some false)) (cond (decide (v.1=(3:Int))) (cond ((decide (v.2.2.1=(⟨#[]⟩:ByteArray)))==true) (some (M.inR v.2.1 (0:Int) (1:Int))) (some false)) (some false))))
noncomputable def F.vu (v:aa.D):Option Bool:=
 some (!(M.aO v))
noncomputable def F.bY (xs:LV)  (i0:Int) (v0:Unit):Option (Sum Unit Int):=
 cond (decide ((nth (t:=aa) xs i0).1=0)) (some (.inr i0)) (some (.inl ()))
noncomputable def F.fM (xs:LV):Option Int:=
 aS (aJ (F.bY xs) (aH (0:Int) (xs.length:Int)) ()) (fun v0:Unit=>some (-1:Int)) (fun q0:Int=>some q0)
noncomputable def F.cS (xs:LV)  (i0:Int) (v0:Unit):Option (Sum Unit Int):=
 cond (!M.aO (nth (t:=aa) xs i0)) (some (.inr i0)) (some (.inl ()))
noncomputable def F.jq (xs:LV):Option Int:=
 aS (aJ (F.cS xs) (aH (0:Int) (xs.length:Int)) ()) (fun v0:Unit=>some (-1:Int)) (fun q0:Int=>some q0)
noncomputable def F.cR (xs:LV):Option Bool:=
 some (decide ((0:Int)<=(M.idx (t:=aa) (fun e=>decide (e.1=0)) xs)))
noncomputable def F.dZ (xs:LV):Option Bool:=
 some (decide ((0:Int)<=(M.idx (t:=aa) (fun e=>!M.aO e) xs)))
noncomputable def F.tC (row:LV):Option Bool:=
 cond ((decide ((row.length:Int)<=(4:Int)))==true) (some (!(List.any row (fun e=>!M.aO e)))) (some false)
noncomputable def F.iC (columns:LC) (row:LV)  (i0:Int) (v0:Unit):Option (Sum Unit Unit):=
 ag (i0<(columns.length:Int)) (cond ((!decide ((nth (t:=aa) row i0).1=(nth (t:=ai) columns i0).1))==true) (cond ((!decide ((nth (t:=aa) row i0).1=(0:Int)))==false) (cond (!(nth (t:=ai) columns i0).2.1) (some (.inr ())) (some (.inl ()))) (some (.inr ()))) (some (.inl ())))
noncomputable def F.qh (columns:LC) (row:LV):Option Bool:=
 cond ((!(M.bD columns))==false) (cond ((!(M.oD row))==false) (cond (!decide ((row.length:Int)=(columns.length:Int))) (some false) (aS (aJ (F.iC columns row) (aH (0:Int) (row.length:Int)) ()) (fun v0:Unit=>some true) (fun q0:Unit=>some false))) (some false)) (some false)
noncomputable def F.sQ (r:LV) (columns:LC):Option Bool:=
 some (!(M.bH columns r))
noncomputable def F.iB (xs:LV) (ys:LV)  (i0:Int) (v0:Unit):Option (Sum Unit Unit):=
 ag (i0<(ys.length:Int)) (cond (!(Ty.beq aa (nth (t:=aa) xs i0) (nth (t:=aa) ys i0))) (some (.inr ())) (some (.inl ())))
noncomputable def F.vp (xs:LV) (ys:LV):Option Bool:=
 cond (!decide ((xs.length:Int)=(ys.length:Int))) (some false) (aS (aJ (F.iB xs ys) (aH (0:Int) (xs.length:Int)) ()) (fun v0:Unit=>some true) (fun q0:Unit=>some false))
noncomputable def F.uX (r:LV) (row:LV):Option Bool:=
 some (decide (r=row))
noncomputable def F.vD (xs:LV):Option LV:=
 cond (decide ((xs.length:Int)=(0:Int))) (some ([]:List aa.D)) (some (xs.take (xs.length:Int).toNat))
noncomputable def F.jW (row:LV) (list:(List Int))  (z0:Int) (v0:LV):Option (Sum LV Unit):=
 ag (0<=z0) (ag (z0<(row.length:Int)) (ag ((v0.length+[(nth (t:=aa) row z0)].length) * 32<=lim) (some (.inl (v0++[(nth (t:=aa) row z0)])))))
noncomputable def F.tM (row:LV) (list:(List Int)):Option LV:=
 aS (aJ (F.jW row list) list []) (fun v0:LV=>ag (Sm (Ty.sl aa) v0) (bB (v0:LV) (fun r1:LV=>some (aB r1 (some ((0:Int),(r1.length:Int))))))) (fun(_:Unit)=>none)
noncomputable def F.kH (r:LV) (list:(List Int)) (key:LV):Option Bool:=
 bB ((M.taken r list):LV) (fun r1:LV=>some (decide (r1=key)))
noncomputable def F.cT (xs:LLV) (k0:LV)  (i0:Int) (v0:Unit):Option (Sum Unit Int):=
 cond (decide ((nth (t:=(Ty.sl aa)) xs i0)=k0)) (some (.inr i0)) (some (.inl ()))
noncomputable def F.jo (xs:LLV) (k0:LV):Option Int:=
 aS (aJ (F.cT xs k0) (aH (0:Int) (xs.length:Int)) ()) (fun v0:Unit=>some (-1:Int)) (fun q0:Int=>some q0)
noncomputable def F.cN (xs:LLV) (k0:LC)  (i0:Int) (v0:Unit):Option (Sum Unit Int):=
 cond (!M.bH k0 (nth (t:=(Ty.sl aa)) xs i0)) (some (.inr i0)) (some (.inl ()))
noncomputable def F.iW (xs:LLV) (k0:LC):Option Int:=
 aS (aJ (F.cN xs k0) (aH (0:Int) (xs.length:Int)) ()) (fun v0:Unit=>some (-1:Int)) (fun q0:Int=>some q0)
noncomputable def F.bT (xs:LLV) (k0:(List Int)) (k1:LV)  (i0:Int) (v0:Unit):Option (Sum Unit Int):=
 ag (M.eI (nth (t:=(Ty.sl aa)) xs i0) k0) (cond (decide (M.taken (nth (t:=(Ty.sl aa)) xs i0) k0=k1)) (some (.inr i0)) (some (.inl ())))
noncomputable def F.fc (xs:LLV) (k0:(List Int)) (k1:LV):Option Int:=
 aS (aJ (F.bT xs k0 k1) (aH (0:Int) (xs.length:Int)) ()) (fun v0:Unit=>some (-1:Int)) (fun q0:Int=>some q0)
noncomputable def F.dW (xs:LLV) (k0:LC):Option Bool:=
 some (decide ((0:Int)<=(M.idx (t:=(Ty.sl aa)) (fun e=>!M.bH k0 e) xs)))
noncomputable def F.cH (xs:LLV) (k0:(List Int)) (k1:LV):Option Bool:=
 some (decide ((0:Int)<=(M.idx (t:=(Ty.sl aa)) (fun e=>decide (M.taken e k0=k1)) xs)))
noncomputable def F.qO (columns:LC) (rows:LLV):Option Bool:=
 cond ((M.bD columns)==true) (some (!(List.any rows (fun e=>!M.bH columns e)))) (some false)
noncomputable def F.kZ (t:TTable.D):Option Bool:=
 cond ((!(M.bD t.1))==false) (cond ((decide ((6:Int)<(t.2.1.length:Int)))==false) (some (!(M.fT t.1 t.2.1))) (some true)) (some true)
noncomputable def F.cD (xs:LTb)  (i0:Int) (v0:Unit):Option (Sum Unit Int):=
 cond (!M.cU (nth (t:=TTable) xs i0)) (some (.inr i0)) (some (.inl ()))
noncomputable def F.gZ (xs:LTb):Option Int:=
 aS (aJ (F.cD xs) (aH (0:Int) (xs.length:Int)) ()) (fun v0:Unit=>some (-1:Int)) (fun q0:Int=>some q0)
noncomputable def F.dA (xs:LTb):Option Bool:=
 some (decide ((0:Int)<=(M.idx (t:=TTable) (fun e=>!M.cU e) xs)))
noncomputable def F.od (tables:LTb):Option Bool:=
 cond ((decide ((tables.length:Int)<=(3:Int)))==true) (some (!(List.any tables (fun e=>!M.cU e)))) (some false)
noncomputable def F.yP (rows:LLV) (row:LV):Option Int:=
 some (M.idx (t:=(Ty.sl aa)) (fun e=>decide (e=row)) rows)
noncomputable def F.oo (tables:LTb) (c:TChange.D):Option Bool:=
 cond ((!(M.aA tables))==false) (cond (!(M.inR c.1 (0:Int) (wrap64 ((tables.length:Int)-(1:Int))))) (some false) (cond ((M.bH (nth (t:=TTable) tables c.1).1 c.2.1)==true) (cond (c.2.2.1==true) (cond ((decide (((nth (t:=TTable) tables c.1).2.1.length:Int)<(6:Int)))==false) (some false) (some true)) (some (decide ((0:Int)<=(M.rowAt (nth (t:=TTable) tables c.1).2.1 c.2.1))))) (some false))) (some false)
noncomputable def F.gL (rows:LLV)  (z0:LV) (v0:LLV):Option (Sum LLV Unit):=
 bB (z0:LV) (fun r1:LV=>ag ((v0.length+[(aB r1 (some ((0:Int),(r1.length:Int))))].length) * 24<=lim) (some (.inl (v0++[(aB r1 (some ((0:Int),(r1.length:Int))))]))))
noncomputable def F.oc (rows:LLV):Option LLV:=
 aS (aJ (F.gL rows) rows []) (fun v0:LLV=>some (v0.take (v0.length:Int).toNat)) (fun(_:Unit)=>none)
noncomputable def F.sN (xs:LC):Option LC:=
 cond (decide ((xs.length:Int)=(0:Int))) (some ([]:List ai.D)) (some (xs.take (xs.length:Int).toNat))
noncomputable def F.fA (tables:LTb)  (z0:TTable.D) (v0:LTb):Option (Sum LTb Unit):=
 bB (z0.1:LC) (fun r1:LC=>bB (z0.2.1:LLV) (fun r2:LLV=>ag ((v0.length+[((aB r1 (some ((0:Int),(r1.length:Int)))),((aB r2 (some ((0:Int),(r2.length:Int)))),()))].length) * 48<=lim) (some (.inl (v0++[((aB r1 (some ((0:Int),(r1.length:Int)))),((aB r2 (some ((0:Int),(r2.length:Int)))),()))])))))
noncomputable def F.kX (tables:LTb):Option LTb:=
 aS (aJ (F.fA tables) tables []) (fun v0:LTb=>some (v0.take (v0.length:Int).toNat)) (fun(_:Unit)=>none)
noncomputable def F.jC (tables:LTb) (c:TChange.D):Option LTb:=
 bB (tables:LTb) (fun r1:LTb=>ag (0<=c.1) (ag (c.1<(r1.length:Int)) (cond c.2.2.1 (bB (c.2.1:LV) (fun r2:LV=>ag (((nth (t:=TTable) r1 c.1).2.1.length+[(aB r2 (some ((0:Int),(r2.length:Int))))].length) * 24<=lim) (bB (((r1.set c.1.toNat ((nth (t:=TTable) r1 c.1).1,([],()))).set c.1.toNat ((nth (t:=TTable) (r1.set c.1.toNat ((nth (t:=TTable) r1 c.1).1,([],()))) c.1).1,(((nth (t:=TTable) r1 c.1).2.1++[(aB r2 (some ((0:Int),(r2.length:Int))))]),()))):LTb) (fun y1:LTb=>ag (Sm (Ty.sl (Ty.sl aa)) (nth (t:=TTable) y1 c.1).2.1) (bB ((nth (t:=TTable) y1 c.1).2.1:LLV) (fun r3:LLV=>bB ((y1.set c.1.toNat ((nth (t:=TTable) y1 c.1).1,((aB r3 (some ((0:Int),(r3.length:Int)))),()))):LTb) (fun y2:LTb=>some y2))))))) (ag (Sm (Ty.sl (Ty.sl aa)) (nth (t:=TTable) r1 c.1).2.1) (ag (0<=(M.rowAt (nth (t:=TTable) r1 c.1).2.1 c.2.1)) (ag ((M.rowAt (nth (t:=TTable) r1 c.1).2.1 c.2.1)<=wrap64 ((M.rowAt (nth (t:=TTable) r1 c.1).2.1 c.2.1)+(1:Int))) (ag (wrap64 ((M.rowAt (nth (t:=TTable) r1 c.1).2.1 c.2.1)+(1:Int))<=((nth (t:=TTable) r1 c.1).2.1.length:Int)) (bB (((r1.set c.1.toNat ((nth (t:=TTable) r1 c.1).1,([],()))).set c.1.toNat ((nth (t:=TTable) (r1.set c.1.toNat ((nth (t:=TTable) r1 c.1).1,([],()))) c.1).1,(((nth (t:=TTable) r1 c.1).2.1.take (M.rowAt (nth (t:=TTable) r1 c.1).2.1 c.2.1).toNat++(nth (t:=TTable) r1 c.1).2.1.drop (wrap64 ((M.rowAt (nth (t:=TTable) r1 c.1).2.1 c.2.1)+(1:Int))).toNat),()))):LTb) (fun y3:LTb=>ag (Sm (Ty.sl (Ty.sl aa)) (nth (t:=TTable) y3 c.1).2.1) (bB ((nth (t:=TTable) y3 c.1).2.1:LLV) (fun r3:LLV=>bB ((y3.set c.1.toNat ((nth (t:=TTable) y3 c.1).1,((aB r3 (some ((0:Int),(r3.length:Int)))),()))):LTb) (fun y2:LTb=>some y2))))))))))))
noncomputable def F.jz (tables:LTb) (c:TChange.D):Option (LTb×Bool):=
 cond (!(M.bf tables c)) (some ([],false)) (ag (M.bf tables c) (bB ((M.bu tables c):LTb) (fun r1:LTb=>some (r1,true))))
noncomputable def F.kS (p:ax.D):Option Int:=
 cond (decide (p.1=(3:Int))) (some (2:Int)) (cond (decide (p.1=(4:Int))) (some (2:Int)) (cond (decide (p.1=(5:Int))) (some (2:Int)) (cond (decide (p.1=(6:Int))) (some (2:Int)) (cond (decide (p.1=(7:Int))) (some (1:Int)) (cond (decide (p.1=(8:Int))) (some (1:Int)) (some (0:Int)))))))
noncomputable def F.qe (truth:Int):Option (aa.D):=
 cond (!(M.inR truth (0:Int) (1:Int))) (some ((0:Int),((0:Int),((⟨#[]⟩:ByteArray),())))) (some ((3:Int),(truth,((⟨#[]⟩:ByteArray),()))))
noncomputable def F.hY (vals:(List Int))  (z0:Int) (v0:Unit):Option (Sum Unit Int):=
 cond (!decide (z0=(0:Int))) (some (.inr z0)) (some (.inl ()))
noncomputable def F.ta (vals:(List Int)):Option Int:=
 aS (aJ (F.hY vals) vals ()) (fun v0:Unit=>some (0:Int)) (fun q0:Int=>some q0)
noncomputable def F.cmp_isNaN_int (x:Int):Option Bool:=
 some (!decide (x=x))
noncomputable def F.kQ (x:Int) (y:Int):Option Int:=
 cond false (some (0:Int)) (cond (decide (x<y)) (some (-1:Int)) (cond (decide (y<x)) (some (1:Int)) (some (0:Int))))
noncomputable def F.cmp_isNaN_string (x:ByteArray):Option Bool:=
 some (!decide (x=x))
noncomputable def F.iN (x:ByteArray) (y:ByteArray):Option Int:=
 cond false (some (0:Int)) (cond (Op.bytesLess x.toList y.toList) (some (-1:Int)) (cond (!(Op.bytesLess x.toList y.toList||decide (x=y))) (some (1:Int)) (some (0:Int))))
noncomputable def F.jJ (v:aa.D) (w:aa.D):Option Int:=
 ag (Sm (Ty.sl (Ty.int .i64)) [(M.vE v.1 w.1),(M.vE v.2.1 w.2.1),(M.vG v.2.2.1 w.2.2.1)]) (some (M.orI [(M.vE v.1 w.1),(M.vE v.2.1 w.2.1),(M.vG v.2.2.1 w.2.2.1)]))
noncomputable def F.pS (b:Bool):Option Int:=
 cond b (some (1:Int)) (some (0:Int))
noncomputable def F.qa (kind:Int) (a:aa.D) (b:aa.D):Option Int:=
 cond ((!(M.inR kind (1:Int) (4:Int)))==false) (cond ((!(M.aO a))==false) (cond (!(M.aO b)) (some (-1:Int)) (cond ((decide (a.1=(0:Int)))==false) (cond (decide (b.1=(0:Int))) (some (2:Int)) (cond (!decide (a.1=b.1)) (some (-1:Int)) (cond ((decide (kind=(1:Int)))==true) (cond ((decide ((M.order a b)=(0:Int)))==false) (some (M.bool false)) (some (M.bool true))) (cond ((decide (kind=(2:Int)))==true) (cond ((!decide ((M.order a b)=(0:Int)))==false) (some (M.bool false)) (some (M.bool true))) (cond ((decide (kind=(3:Int)))==true) (cond ((decide ((M.order a b)<(0:Int)))==false) (some (M.bool false)) (some (M.bool true))) (cond ((decide (kind=(4:Int)))==true) (some (M.bool (decide ((M.order a b)<=(0:Int))))) (some (M.bool false)))))))) (some (2:Int)))) (some (-1:Int))) (some (-1:Int))
noncomputable def F.vt (n:Int):Option Bool:=
 some (M.inR n (0:Int) (2:Int))
noncomputable def F.wF (a:Int) (b:Int) (alone:Int):Option Int:=
 cond ((!(M.inR a 0 2))==false) (cond (!(M.inR b 0 2)) (some (-1:Int)) (cond ((decide (a=alone))==false) (cond (decide (b=alone)) (some alone) (cond ((decide (a=(2:Int)))==false) (cond (decide (b=(2:Int))) (some (2:Int)) (some (wrap64 ((1:Int)-alone)))) (some (2:Int)))) (some alone))) (some (-1:Int))
noncomputable def F.tw (a:Int) (b:Int):Option Int:=
 ag (0<=(0:Int)/\(0:Int)<=1) (some (M.fold a b (0:Int)))
noncomputable def F.qn (v:aa.D):Option Int:=
 cond (!(M.aO v)) (some (-1:Int)) (cond (decide (v.1=(0:Int))) (some (2:Int)) (cond (decide (v.1=(3:Int))) (some v.2.1) (some (-1:Int))))
noncomputable def F.wM (a:Int) (b:Int):Option Int:=
 ag (0<=(1:Int)/\(1:Int)<=1) (some (M.fold a b (1:Int)))
noncomputable def F.tq (a:Int):Option Int:=
 cond (decide (a=(0:Int))) (some (1:Int)) (cond (decide (a=(1:Int))) (some (0:Int)) (cond (decide (a=(2:Int))) (some (2:Int)) (some (-1:Int))))
noncomputable def F.kR (p:ax.D) (row:LV) (inp:LV):Option (aa.D):=
 cond (decide (p.1=(1:Int))) (some p.2.2.1) (cond (decide (p.1=(2:Int))) (ag (0<=p.2.1) (ag (p.2.1<(row.length:Int)) (some (nth (t:=aa) row p.2.1)))) (cond (decide (p.1=(3:Int))) (ag ((0:Int)<(inp.length:Int)) (ag ((1:Int)<(inp.length:Int)) (cond ((decide ((nth (t:=aa) inp (0:Int)).1=(0:Int)))==false) (cond ((decide ((nth (t:=aa) inp (1:Int)).1=(0:Int)))==false) (cond (!(M.aO ((1:Int),(wrap64 ((nth (t:=aa) inp (0:Int)).2.1+(nth (t:=aa) inp (1:Int)).2.1),((⟨#[]⟩:ByteArray),()))))) (some ((0:Int),((0:Int),((⟨#[]⟩:ByteArray),())))) (some ((1:Int),(wrap64 ((nth (t:=aa) inp (0:Int)).2.1+(nth (t:=aa) inp (1:Int)).2.1),((⟨#[]⟩:ByteArray),()))))) (some ((0:Int),((0:Int),((⟨#[]⟩:ByteArray),()))))) (some ((0:Int),((0:Int),((⟨#[]⟩:ByteArray),()))))))) (cond (decide (p.1=(4:Int))) (ag ((0:Int)<(inp.length:Int)) (ag ((1:Int)<(inp.length:Int)) (bB ((M.valueOf (M.compare p.2.1 (nth (t:=aa) inp (0:Int)) (nth (t:=aa) inp (1:Int)))):aa.D) (fun r1:aa.D=>some r1)))) (cond (decide (p.1=(5:Int))) (ag ((0:Int)<(inp.length:Int)) (ag ((1:Int)<(inp.length:Int)) (bB ((M.valueOf (M.qP (M.bQ (nth (t:=aa) inp (0:Int))) (M.bQ (nth (t:=aa) inp (1:Int))))):aa.D) (fun r2:aa.D=>some r2)))) (cond (decide (p.1=(6:Int))) (ag ((0:Int)<(inp.length:Int)) (ag ((1:Int)<(inp.length:Int)) (bB ((M.valueOf (M.ze (M.bQ (nth (t:=aa) inp (0:Int))) (M.bQ (nth (t:=aa) inp (1:Int))))):aa.D) (fun r3:aa.D=>some r3)))) (cond (decide (p.1=(7:Int))) (ag ((0:Int)<(inp.length:Int)) (bB ((M.valueOf (M.rG (M.bQ (nth (t:=aa) inp (0:Int))))):aa.D) (fun r4:aa.D=>some r4))) (ag ((0:Int)<(inp.length:Int)) (bB ((M.valueOf (M.bool (decide ((nth (t:=aa) inp (0:Int)).1=(0:Int))))):aa.D) (fun r5:aa.D=>some r5)))))))))
noncomputable def F.dy (row:LV) (e:LPt)  (z0:ax.D) (v0:LV):Option (Sum LV Unit):=
 ag (0<=wrap64 ((v0.length:Int)-(M.takes z0))) (ag (wrap64 ((v0.length:Int)-(M.takes z0))<=(v0.length:Int)) (ag (Sm (Ty.sl aa) (aB v0 (some (wrap64 ((v0.length:Int)-(M.takes z0)),(v0.length:Int))))) (ag (((aB v0 (some (wrap64 ((v0.length:Int)-(M.takes z0)),(v0.length:Int)))).length:Int)=M.takes z0) (ag (M.ni z0 row.length) (ag (1<=z0.1/\z0.1<=8) (bB ((M.gQ z0 row (aB v0 (some (wrap64 ((v0.length:Int)-(M.takes z0)),(v0.length:Int))))):aa.D) (fun r1:aa.D=>ag ((0:Int)<=wrap64 ((v0.length:Int)-(M.takes z0))) (ag (((wrap64 ((v0.length:Int)-(M.takes z0))).toNat+[r1].length) * 32<=lim) (some (.inl (v0.take (wrap64 ((v0.length:Int)-(M.takes z0))).toNat++[r1])))))))))))
noncomputable def F.mW (row:LV) (e:LPt):Option (aa.D):=
 aS (aJ (F.dy row e) e []) (fun v0:LV=>ag ((0:Int)<(v0.length:Int)) (some (nth (t:=aa) v0 (0:Int)))) (fun(_:Unit)=>none)
noncomputable def F.mJ (list:(List Int)) (key:LV):Option ((List Int)×LV):=
 some (list,key)
noncomputable def F.jK (b:TBond.D) (tables:LTb) (n:Int):Option Bool:=
 ag (0<=b.2.1) (ag (b.2.1<(tables.length:Int)) (ag (0<=n) (ag (n<((nth (t:=TTable) tables b.2.1).2.1.length:Int)) (cond (decide (b.1=(3:Int))) (ag (M.jh (nth (t:=(Ty.sl aa)) (nth (t:=TTable) tables b.2.1).2.1 n).length b.2.2.2.2.2.2.1) (bB ((M.eg (nth (t:=(Ty.sl aa)) (nth (t:=TTable) tables b.2.1).2.1 n) b.2.2.2.2.2.2.1):aa.D) (fun r1:aa.D=>bB ((M.valueOf (0:Int)):aa.D) (fun r2:aa.D=>some (Ty.beq aa r1 r2))))) (ag (M.eI (nth (t:=(Ty.sl aa)) (nth (t:=TTable) tables b.2.1).2.1 n) b.2.2.1) (bB ((M.taken (nth (t:=(Ty.sl aa)) (nth (t:=TTable) tables b.2.1).2.1 n) b.2.2.1):LV) (fun r3:LV=>cond (List.any r3 (fun e=>decide (e.1=0))) (some false) (cond (decide (b.1=(1:Int))) (ag ((0:Int)<=n) (ag (n<=((nth (t:=TTable) tables b.2.1).2.1.length:Int)) (bB ((b.2.2.1,r3):(List Int)×LV) (fun r4:(List Int)×LV=>ag (∀e∈(aB (nth (t:=TTable) tables b.2.1).2.1 (some ((0:Int),n))),M.eI e r4.1) (some (List.any (aB (nth (t:=TTable) tables b.2.1).2.1 (some ((0:Int),n))) (fun e=>decide (M.taken e r4.1=r4.2)))))))) (ag (0<=b.2.2.2.1) (ag (b.2.2.2.1<(tables.length:Int)) (bB ((b.2.2.2.2.1,r3):(List Int)×LV) (fun r5:(List Int)×LV=>ag (∀e∈(nth (t:=TTable) tables b.2.2.2.1).2.1,M.eI e r5.1) (some (!(List.any (nth (t:=TTable) tables b.2.2.2.1).2.1 (fun e=>decide (M.taken e r5.1=r5.2)))))))))))))))))
noncomputable def F.eT (b:TBond.D) (tables:LTb)  (i0:Int) (v0:Unit):Option (Sum Unit Int):=
 ag ((M.aA tables&&M.aX tables b)=true) (ag (0<=i0/\i0<((M.gu tables b).length:Int)) (cond (M.breaks tables b i0) (some (.inr i0)) (some (.inl ()))))
noncomputable def F.jO (b:TBond.D) (tables:LTb):Option Int:=
 ag (0<=b.2.1) (ag (b.2.1<(tables.length:Int)) (aS (aJ (F.eT b tables) (aH (0:Int) ((nth (t:=TTable) tables b.2.1).2.1.length:Int)) ()) (fun v0:Unit=>some (-1:Int)) (fun q0:Int=>some q0)))
noncomputable def F.wY (b:TBond.D) (tables:LTb):Option Bool:=
 some (decide ((0:Int)<=(M.broken tables b)))
noncomputable def F.lA (p:ax.D) (columns:LC):Option Bool:=
 cond (decide (p.1=(1:Int))) (cond ((decide (p.2.1=(0:Int)))==true) (cond ((M.aO p.2.2.1)==true) (some (!decide (p.2.2.1.1=(0:Int)))) (some false)) (some false)) (cond (decide (p.1=(2:Int))) (cond ((M.inR p.2.1 (0:Int) (wrap64 ((columns.length:Int)-(1:Int))))==true) (some (Ty.beq aa p.2.2.1 ((0:Int),((0:Int),((⟨#[]⟩:ByteArray),()))))) (some false)) (cond (decide (p.1=(4:Int))) (cond ((M.inR p.2.1 (1:Int) (4:Int))==true) (some (Ty.beq aa p.2.2.1 ((0:Int),((0:Int),((⟨#[]⟩:ByteArray),()))))) (some false)) (cond (decide (p.1=(3:Int))) (cond ((decide (p.2.1=(0:Int)))==true) (some (Ty.beq aa p.2.2.1 ((0:Int),((0:Int),((⟨#[]⟩:ByteArray),()))))) (some false)) (cond (decide (p.1=(5:Int))) (cond ((decide (p.2.1=(0:Int)))==true) (some (Ty.beq aa p.2.2.1 ((0:Int),((0:Int),((⟨#[]⟩:ByteArray),()))))) (some false)) (cond (decide (p.1=(6:Int))) (cond ((decide (p.2.1=(0:Int)))==true) (some (Ty.beq aa p.2.2.1 ((0:Int),((0:Int),((⟨#[]⟩:ByteArray),()))))) (some false)) (cond (decide (p.1=(7:Int))) (cond ((decide (p.2.1=(0:Int)))==true) (some (Ty.beq aa p.2.2.1 ((0:Int),((0:Int),((⟨#[]⟩:ByteArray),()))))) (some false)) (cond (decide (p.1=(8:Int))) (cond ((decide (p.2.1=(0:Int)))==true) (some (Ty.beq aa p.2.2.1 ((0:Int),((0:Int),((⟨#[]⟩:ByteArray),()))))) (some false)) (some false))))))))
noncomputable def F.mB (k:Int) (kind:Int):Option Bool:=
 some (!decide (k=kind))
noncomputable def F.ou (n:Int) (t:TTable.D):Option Bool:=
 some (!(M.inR n (0:Int) (wrap64 ((t.1.length:Int)-(1:Int)))))
noncomputable def F.cO (xs:(List Int)) (k0:TTable.D)  (i0:Int) (v0:Unit):Option (Sum Unit Int):=
 cond (!M.inR (nth (t:=(Ty.int .i64)) xs i0) 0 (k0.1.length-1)) (some (.inr i0)) (some (.inl ()))
noncomputable def F.iR (xs:(List Int)) (k0:TTable.D):Option Int:=
 aS (aJ (F.cO xs k0) (aH (0:Int) (xs.length:Int)) ()) (fun v0:Unit=>some (-1:Int)) (fun q0:Int=>some q0)
noncomputable def F.bX (xs:(List Int)) (k0:Int)  (i0:Int) (v0:Unit):Option (Sum Unit Int):=
 cond (!decide ((nth (t:=(Ty.int .i64)) xs i0)=k0)) (some (.inr i0)) (some (.inl ()))
noncomputable def F.fN (xs:(List Int)) (k0:Int):Option Int:=
 aS (aJ (F.bX xs k0) (aH (0:Int) (xs.length:Int)) ()) (fun v0:Unit=>some (-1:Int)) (fun q0:Int=>some q0)
noncomputable def F.dN (xs:(List Int)) (k0:TTable.D):Option Bool:=
 some (decide ((0:Int)<=(M.idx (t:=(Ty.int .i64)) (fun e=>!M.inR e 0 (k0.1.length-1)) xs)))
noncomputable def F.cQ (xs:(List Int)) (k0:Int):Option Bool:=
 some (decide ((0:Int)<=(M.idx (t:=(Ty.int .i64)) (fun e=>!decide (e=k0)) xs)))
noncomputable def F.jV (kind:Int) (ins:(List Int)):Option Bool:=
 some (!(List.any ins (fun e=>!decide (e=kind))))
noncomputable def F.mz (p:ax.D) (columns:LC) (inp:(List Int)):Option (Int×Bool):=
 cond (decide (p.1=(1:Int))) (some (p.2.2.1.1,true)) (cond (decide (p.1=(2:Int))) (ag (0<=p.2.1) (ag (p.2.1<(columns.length:Int)) (some ((nth (t:=ai) columns p.2.1).1,true)))) (cond (decide (p.1=(3:Int))) (some ((1:Int),(List.all inp (fun k=>decide (k=(1:Int)))))) (cond (decide (p.1=(4:Int))) (ag ((0:Int)<(inp.length:Int)) (ag ((1:Int)<(inp.length:Int)) (some ((3:Int),(decide ((nth (t:=(Ty.int .i64)) inp (0:Int))=(nth (t:=(Ty.int .i64)) inp (1:Int)))))))) (cond (decide (p.1=(8:Int))) (some ((3:Int),true)) (some ((3:Int),(List.all inp (fun k=>decide (k=(3:Int))))))))))
noncomputable def F.dL (columns:LC) (e:LPt)  (z0:ax.D) (v0:(List Int)):Option (Sum (List Int) Unit):=
 cond ((!(M.lB z0 columns))==false) (cond (decide ((v0.length:Int)<(M.takes z0))) (some (.inr ())) (ag (0<=wrap64 ((v0.length:Int)-(M.takes z0))) (ag (wrap64 ((v0.length:Int)-(M.takes z0))<=(v0.length:Int)) (ag (Sm (Ty.sl (Ty.int .i64)) (aB v0 (some (wrap64 ((v0.length:Int)-(M.takes z0)),(v0.length:Int))))) (ag (((aB v0 (some (wrap64 ((v0.length:Int)-(M.takes z0)),(v0.length:Int)))).length:Int)=M.takes z0) (bB ((M.cA z0 columns (aB v0 (some (wrap64 ((v0.length:Int)-(M.takes z0)),(v0.length:Int))))):Int×Bool) (fun r1:Int×Bool=>cond (!r1.2) (some (.inr ())) (ag ((0:Int)<=wrap64 ((v0.length:Int)-(M.takes z0))) (ag (((wrap64 ((v0.length:Int)-(M.takes z0))).toNat+[r1.1].length) * 8<=lim) (some (.inl (v0.take (wrap64 ((v0.length:Int)-(M.takes z0))).toNat++[r1.1])))))))))))) (some (.inr ()))
noncomputable def F.og (columns:LC) (e:LPt):Option Int:=
 cond ((!(M.bD columns))==false) (cond (decide ((12:Int)<(e.length:Int))) (some (-1:Int)) (aS (aJ (F.dL columns e) e []) (fun v0:(List Int)=>cond (!decide ((v0.length:Int)=(1:Int))) (some (-1:Int)) (ag ((0:Int)<(v0.length:Int)) (some (nth (t:=(Ty.int .i64)) v0 (0:Int))))) (fun q0:Unit=>some (-1:Int)))) (some (-1:Int))
noncomputable def F.qR (t:TTable.D) (list:(List Int)):Option Bool:=
 cond ((M.inR (list.length:Int) (1:Int) (4:Int))==true) (some (!(List.any list (fun e=>!M.inR e 0 (t.1.length-1))))) (some false)
noncomputable def F.eW (tables:LTb) (b:TBond.D)  (i1:Int) (v1:Unit):Option (Sum Unit Unit):=
 ag (0<=(nth (t:=(Ty.int .i64)) b.2.2.1 i1)) (ag ((nth (t:=(Ty.int .i64)) b.2.2.1 i1)<((nth (t:=TTable) tables b.2.1).1.length:Int)) (ag (0<=b.2.2.2.1) (ag (b.2.2.2.1<(tables.length:Int)) (ag (i1<(b.2.2.2.2.1.length:Int)) (ag (0<=(nth (t:=(Ty.int .i64)) b.2.2.2.2.1 i1)) (ag ((nth (t:=(Ty.int .i64)) b.2.2.2.2.1 i1)<((nth (t:=TTable) tables b.2.2.2.1).1.length:Int)) (cond (!decide ((nth (t:=ai) (nth (t:=TTable) tables b.2.1).1 (nth (t:=(Ty.int .i64)) b.2.2.1 i1)).1=(nth (t:=ai) (nth (t:=TTable) tables b.2.2.2.1).1 (nth (t:=(Ty.int .i64)) b.2.2.2.2.1 i1)).1)) (some (.inr ())) (some (.inl ())))))))))
noncomputable def F.rN (tables:LTb) (b:TBond.D):Option Bool:=
 cond (!(M.inR b.2.1 (0:Int) (wrap64 ((tables.length:Int)-(1:Int))))) (some false) (cond ((decide (b.2.2.2.1=(0:Int)))==true) (cond ((decide ((b.2.2.2.2.1.length:Int)=(0:Int)))==true) (cond (decide (b.1=(1:Int))) (cond ((M.bR (nth (t:=TTable) tables b.2.1).1 b.2.2.1)==true) (cond ((!b.2.2.2.2.2.1)==true) (some (decide ((b.2.2.2.2.2.2.1.length:Int)=(0:Int)))) (some false)) (some false)) (cond (decide (b.1=(3:Int))) (cond ((decide ((M.cV (nth (t:=TTable) tables b.2.1).1 b.2.2.2.2.2.2.1)=(3:Int)))==true) (cond ((!b.2.2.2.2.2.1)==true) (some (decide ((b.2.2.1.length:Int)=(0:Int)))) (some false)) (some false)) (cond (decide (b.1=(2:Int))) (cond ((!(M.inR b.2.2.2.1 (0:Int) (wrap64 ((tables.length:Int)-(1:Int)))))==false) (cond ((decide ((0:Int)<(b.2.2.2.2.2.2.1.length:Int)))==false) (cond ((!(M.bR (nth (t:=TTable) tables b.2.1).1 b.2.2.1))==false) (cond ((!(M.bR (nth (t:=TTable) tables b.2.2.2.1).1 b.2.2.2.2.1))==false) (cond (!decide ((b.2.2.2.2.1.length:Int)=(b.2.2.1.length:Int))) (some false) (aS (aJ (F.eW tables b) (aH (0:Int) (b.2.2.1.length:Int)) ()) (fun v1:Unit=>some true) (fun q1:Unit=>some false))) (some false)) (some false)) (some false)) (some false)) (some false)))) (cond (decide (b.1=(1:Int))) (cond ((M.bR (nth (t:=TTable) tables b.2.1).1 b.2.2.1)==true) (some false) (some false)) (cond (decide (b.1=(3:Int))) (cond ((decide ((M.cV (nth (t:=TTable) tables b.2.1).1 b.2.2.2.2.2.2.1)=(3:Int)))==true) (some false) (some false)) (cond (decide (b.1=(2:Int))) (cond ((!(M.inR b.2.2.2.1 (0:Int) (wrap64 ((tables.length:Int)-(1:Int)))))==false) (cond ((decide ((0:Int)<(b.2.2.2.2.2.2.1.length:Int)))==false) (cond ((!(M.bR (nth (t:=TTable) tables b.2.1).1 b.2.2.1))==false) (cond ((!(M.bR (nth (t:=TTable) tables b.2.2.2.1).1 b.2.2.2.2.1))==false) (cond (!decide ((b.2.2.2.2.1.length:Int)=(b.2.2.1.length:Int))) (some false) (aS (aJ (F.eW tables b) (aH (0:Int) (b.2.2.1.length:Int)) ()) (fun v1:Unit=>some true) (fun q1:Unit=>some false))) (some false)) (some false)) (some false)) (some false)) (some false))))) (cond (decide (b.1=(1:Int))) (cond ((M.bR (nth (t:=TTable) tables b.2.1).1 b.2.2.1)==true) (some false) (some false)) (cond (decide (b.1=(3:Int))) (cond ((decide ((M.cV (nth (t:=TTable) tables b.2.1).1 b.2.2.2.2.2.2.1)=(3:Int)))==true) (some false) (some false)) (cond (decide (b.1=(2:Int))) (cond ((!(M.inR b.2.2.2.1 (0:Int) (wrap64 ((tables.length:Int)-(1:Int)))))==false) (cond ((decide ((0:Int)<(b.2.2.2.2.2.2.1.length:Int)))==false) (cond ((!(M.bR (nth (t:=TTable) tables b.2.1).1 b.2.2.1))==false) (cond ((!(M.bR (nth (t:=TTable) tables b.2.2.2.1).1 b.2.2.2.2.1))==false) (cond (!decide ((b.2.2.2.2.1.length:Int)=(b.2.2.1.length:Int))) (some false) (aS (aJ (F.eW tables b) (aH (0:Int) (b.2.2.1.length:Int)) ()) (fun v1:Unit=>some true) (fun q1:Unit=>some false))) (some false)) (some false)) (some false)) (some false)) (some false)))))
noncomputable def F.qV (b:TBond.D) (tables:LTb):Option Bool:=
 some (!(M.aX tables b))
noncomputable def F.dg (xs:(List TBond.D)) (k0:LTb)  (i0:Int) (v0:Unit):Option (Sum Unit Int):=
 ag ((M.aA k0&&M.aX k0 (nth (t:=TBond) xs i0))=true) (cond (decide (0<=M.broken k0 (nth (t:=TBond) xs i0))) (some (.inr i0)) (some (.inl ())))
noncomputable def F.jw (xs:(List TBond.D)) (k0:LTb):Option Int:=
 aS (aJ (F.dg xs k0) (aH (0:Int) (xs.length:Int)) ()) (fun v0:Unit=>some (-1:Int)) (fun q0:Int=>some q0)
noncomputable def F.cG (xs:(List TBond.D)) (k0:LTb)  (i0:Int) (v0:Unit):Option (Sum Unit Int):=
 cond (!M.aX k0 (nth (t:=TBond) xs i0)) (some (.inr i0)) (some (.inl ()))
noncomputable def F.iu (xs:(List TBond.D)) (k0:LTb):Option Int:=
 aS (aJ (F.cG xs k0) (aH (0:Int) (xs.length:Int)) ()) (fun v0:Unit=>some (-1:Int)) (fun q0:Int=>some q0)
noncomputable def F.eL (xs:(List TBond.D)) (k0:LTb):Option Bool:=
 some (decide ((0:Int)<=(M.idx (t:=TBond) (fun e=>decide (0<=M.broken k0 e)) xs)))
noncomputable def F.dK (xs:(List TBond.D)) (k0:LTb):Option Bool:=
 some (decide ((0:Int)<=(M.idx (t:=TBond) (fun e=>!M.aX k0 e) xs)))
noncomputable def F.Bv (tables:LTb) (bonds:(List TBond.D)):Option Bool:=
 some (!(List.any bonds (fun e=>decide (0<=M.broken tables e))))
noncomputable def F.pX (tables:LTb) (bonds:(List TBond.D)):Option Bool:=
 cond ((M.aA tables)==true) (some (!(List.any bonds (fun e=>!M.aX tables e)))) (some false)
noncomputable def F.mF (tables:LTb) (bonds:(List TBond.D)):Option Bool:=
 cond ((decide ((bonds.length:Int)=(0:Int)))==false) (cond ((decide ((bonds.length:Int)<=(4:Int)))==true) (cond ((M.aA tables&&List.all bonds (M.aX tables))==true) (ag (∀e∈bonds,(M.aA tables&&M.aX tables e)=true) (some (!List.any bonds (fun e=>decide (0<=M.broken tables e))))) (some false)) (some false)) (some true)
noncomputable def F.dP (tables:LTb) (bonds:(List TBond.D)) (changes:(List TChange.D))  (z0:TChange.D) (v0:LTb):Option (Sum LTb Unit):=
 ag (Sm (Ty.sl TTable) v0) (bB ((cond (M.bf v0 z0) (M.bu v0 z0) [],M.bf v0 z0):LTb×Bool) (fun r1:LTb×Bool=>cond (r1.2==true) (ag (Sm (Ty.sl TTable) r1.1) (ag (∀e∈bonds,(M.aA r1.1&&M.aX r1.1 e)=true) (cond (!List.any bonds (fun e=>decide (0<=M.broken r1.1 e))) (some (.inl r1.1)) (some (.inl v0))))) (some (.inl v0))))
noncomputable def F.kO (tables:LTb) (bonds:(List TBond.D)) (changes:(List TChange.D)):Option (LTb×Bool):=
 cond ((!(M.aA tables))==false) (cond ((!(M.bA tables bonds))==false) (cond (decide ((8:Int)<(changes.length:Int))) (some ([],false)) (bB (tables:LTb) (fun r2:LTb=>aS (aJ (F.dP tables bonds changes) changes r2) (fun v0:LTb=>some (v0,true)) (fun(_:Unit)=>none)))) (some ([],false))) (some ([],false))
noncomputable def F.oz (x:ai.D) (y:ai.D):Option Bool:=
 cond (!decide (x.1=y.1)) (some false) (cond (!(Ty.beq Ty.bool x.2.1 y.2.1)) (some false) (some true))
noncomputable def F.fW (x:LC) (y:LC)  (i0:Int) (v0:Unit):Option (Sum Unit Unit):=
 ag (i0<(y.length:Int)) (ag ((nth (t:=ai) x i0)=(nth (t:=ai) y i0)) (cond (!true) (some (.inr ())) (some (.inl ()))))
noncomputable def F.mN (x:LC) (y:LC):Option Bool:=
 cond (!decide ((x.length:Int)=(y.length:Int))) (some false) (aS (aJ (F.fW x y) (aH (0:Int) (x.length:Int)) ()) (fun v0:Unit=>some true) (fun q0:Unit=>some false))
noncomputable def F.oW (x:aa.D) (y:aa.D):Option Bool:=
 cond (!decide (x.1=y.1)) (some false) (cond (!decide (x.2.1=y.2.1)) (some false) (cond (!decide (x.2.2.1=y.2.2.1)) (some false) (some true)))
noncomputable def F.gN (x:LV) (y:LV)  (i0:Int) (v0:Unit):Option (Sum Unit Unit):=
 ag (i0<(y.length:Int)) (ag ((nth (t:=aa) x i0)=(nth (t:=aa) y i0)) (cond (!true) (some (.inr ())) (some (.inl ()))))
noncomputable def F.oe (x:LV) (y:LV):Option Bool:=
 cond (!decide ((x.length:Int)=(y.length:Int))) (some false) (aS (aJ (F.gN x y) (aH (0:Int) (x.length:Int)) ()) (fun v0:Unit=>some true) (fun q0:Unit=>some false))
noncomputable def F.gf (x:LLV) (y:LLV)  (i0:Int) (v0:Unit):Option (Sum Unit Unit):=
 ag (i0<(y.length:Int)) (ag ((nth (t:=(Ty.sl aa)) x i0)=(nth (t:=(Ty.sl aa)) y i0)) (cond (!true) (some (.inr ())) (some (.inl ()))))
noncomputable def F.lZ (x:LLV) (y:LLV):Option Bool:=
 cond (!decide ((x.length:Int)=(y.length:Int))) (some false) (aS (aJ (F.gf x y) (aH (0:Int) (x.length:Int)) ()) (fun v0:Unit=>some true) (fun q0:Unit=>some false))
noncomputable def F.pn (x:TTable.D) (y:TTable.D):Option Bool:=
 ag (x.1=y.1) (cond (!true) (some false) (ag (x.2.1=y.2.1) (some true)))
noncomputable def F.gP (x:LTb) (y:LTb)  (i0:Int) (v0:Unit):Option (Sum Unit Unit):=
 ag (i0<(y.length:Int)) (ag ((nth (t:=TTable) x i0)=(nth (t:=TTable) y i0)) (cond (!true) (some (.inr ())) (some (.inl ()))))
noncomputable def F.nN (x:LTb) (y:LTb):Option Bool:=
 cond (!decide ((x.length:Int)=(y.length:Int))) (some false) (aS (aJ (F.gP x y) (aH (0:Int) (x.length:Int)) ()) (fun v0:Unit=>some true) (fun q0:Unit=>some false))
noncomputable def F.jd (x:(List Int)) (y:(List Int))  (i0:Int) (v0:Unit):Option (Sum Unit Unit):=
 ag (i0<(y.length:Int)) (cond (!decide ((nth (t:=(Ty.int .i64)) x i0)=(nth (t:=(Ty.int .i64)) y i0))) (some (.inr ())) (some (.inl ())))
noncomputable def F.qD (x:(List Int)) (y:(List Int)):Option Bool:=
 cond (!decide ((x.length:Int)=(y.length:Int))) (some false) (aS (aJ (F.jd x y) (aH (0:Int) (x.length:Int)) ()) (fun v0:Unit=>some true) (fun q0:Unit=>some false))
noncomputable def F.qC (x:ax.D) (y:ax.D):Option Bool:=
 cond (!decide (x.1=y.1)) (some false) (cond (!decide (x.2.1=y.2.1)) (some false) (ag (x.2.2.1=y.2.2.1) (cond (!true) (some false) (some true))))
noncomputable def F.iF (x:LPt) (y:LPt)  (i0:Int) (v0:Unit):Option (Sum Unit Unit):=
 ag (i0<(y.length:Int)) (ag ((nth (t:=ax) x i0)=(nth (t:=ax) y i0)) (cond (!true) (some (.inr ())) (some (.inl ()))))
noncomputable def F.pF (x:LPt) (y:LPt):Option Bool:=
 cond (!decide ((x.length:Int)=(y.length:Int))) (some false) (aS (aJ (F.iF x y) (aH (0:Int) (x.length:Int)) ()) (fun v0:Unit=>some true) (fun q0:Unit=>some false))
noncomputable def F.ri (x:TBond.D) (y:TBond.D):Option Bool:=
 cond (!decide (x.1=y.1)) (some false) (cond (!decide (x.2.1=y.2.1)) (some false) (ag (x.2.2.1=y.2.2.1) (cond (!true) (some false) (cond (!decide (x.2.2.2.1=y.2.2.2.1)) (some false) (ag (x.2.2.2.2.1=y.2.2.2.2.1) (cond (!(Ty.beq Ty.bool x.2.2.2.2.2.1 y.2.2.2.2.2.1)) (some false) (ag (x.2.2.2.2.2.2.1=y.2.2.2.2.2.2.1) (some true))))))))
noncomputable def F.iI (x:(List TBond.D)) (y:(List TBond.D))  (i0:Int) (v0:Unit):Option (Sum Unit Unit):=
 ag (i0<(y.length:Int)) (ag ((nth (t:=TBond) x i0)=(nth (t:=TBond) y i0)) (cond (!true) (some (.inr ())) (some (.inl ()))))
noncomputable def F.pG (x:(List TBond.D)) (y:(List TBond.D)):Option Bool:=
 cond (!decide ((x.length:Int)=(y.length:Int))) (some false) (aS (aJ (F.iI x y) (aH (0:Int) (x.length:Int)) ()) (fun v0:Unit=>some true) (fun q0:Unit=>some false))
noncomputable def F.nJ (x:TChange.D) (y:TChange.D):Option Bool:=
 cond (!decide (x.1=y.1)) (some false) (ag (x.2.1=y.2.1) (cond (!true) (some false) (cond (!(Ty.beq Ty.bool x.2.2.1 y.2.2.1)) (some false) (some true))))
noncomputable def F.fX (x:(List TChange.D)) (y:(List TChange.D))  (i0:Int) (v0:Unit):Option (Sum Unit Unit):=
 ag (i0<(y.length:Int)) (ag ((nth (t:=TChange) x i0)=(nth (t:=TChange) y i0)) (cond (!true) (some (.inr ())) (some (.inl ()))))
noncomputable def F.mj (x:(List TChange.D)) (y:(List TChange.D)):Option Bool:=
 cond (!decide ((x.length:Int)=(y.length:Int))) (some false) (aS (aJ (F.fX x y) (aH (0:Int) (x.length:Int)) ()) (fun v0:Unit=>some true) (fun q0:Unit=>some false))
noncomputable def F.eR (x:LC) (k:Int)  (i0:Int) (v0:Int×LC):Option (Sum (Int×LC) Unit):=
 bB (((v0.2.set i0.toNat (v0.1,(nth (t:=ai) v0.2 i0).2)).set i0.toNat ((nth (t:=ai) (v0.2.set i0.toNat (v0.1,(nth (t:=ai) v0.2 i0).2)) i0).1,((decide (((wrap64 (v0.1+(1:Int))).tmod (3:Int))=(0:Int))),()))):LC) (fun y1:LC=>some (.inl (wrap64 (wrap64 (v0.1+(1:Int))+(1:Int)),y1)))
noncomputable def F.jE (x:LC) (k:Int):Option (LC×Int):=
 aS (aJ (F.eR x k) (aH (0:Int) (x.length:Int)) (k,x)) (fun v0:Int×LC=>some (v0.2,v0.1)) (fun(_:Unit)=>none)
noncomputable def F.gS (k:Int)   (v0:Int×ByteArray):Option (Sum (Int×ByteArray) ByteArray):=
 cond (decide ((0:Int)<v0.1)) (ag ((strOf [((wrap64 ((48:Int)+(v0.1.tmod (10:Int)))) % 256)]).size+v0.2.size<=9223372036854775807) (some (.inl (wrap64 (v0.1.tdiv (10:Int)),((strOf [((wrap64 ((48:Int)+(v0.1.tmod (10:Int)))) % 256)])++v0.2))))) (some (.inr v0.2))
noncomputable def F.nR (k:Int):Option ByteArray:=
 cond (decide (k<=(0:Int))) (some (⟨#[109,48]⟩:ByteArray)) (Option.bind (dj (F.gS k) (k,(⟨#[]⟩:ByteArray))) (fun e0:ByteArray=>ag ((⟨#[109]⟩:ByteArray).size+e0.size<=9223372036854775807) (some ((⟨#[109]⟩:ByteArray)++e0))))
noncomputable def F.fF (x:LV) (k:Int)  (i0:Int) (v0:Int×LV):Option (Sum (Int×LV) Unit):=
 bB (((v0.2.set i0.toNat (v0.1,(nth (t:=aa) v0.2 i0).2)).set i0.toNat ((nth (t:=aa) (v0.2.set i0.toNat (v0.1,(nth (t:=aa) v0.2 i0).2)) i0).1,(wrap64 (v0.1+(1:Int)),(nth (t:=aa) (v0.2.set i0.toNat (v0.1,(nth (t:=aa) v0.2 i0).2)) i0).2.2))):LV) (fun y1:LV=>ag ((wrap64 (wrap64 (v0.1+(1:Int))+(1:Int)))<=M.big) (bB ((M.ep (wrap64 (wrap64 (v0.1+(1:Int))+(1:Int)))):ByteArray) (fun r1:ByteArray=>bB ((y1.set i0.toNat ((nth (t:=aa) y1 i0).1,((nth (t:=aa) y1 i0).2.1,(r1,())))):LV) (fun y2:LV=>some (.inl (wrap64 (wrap64 (wrap64 (v0.1+(1:Int))+(1:Int))+(1:Int)),y2))))))
noncomputable def F.lz (x:LV) (k:Int):Option (LV×Int):=
 aS (aJ (F.fF x k) (aH (0:Int) (x.length:Int)) (k,x)) (fun v0:Int×LV=>some (v0.2,v0.1)) (fun(_:Unit)=>none)
noncomputable def F.eU (x:LLV) (k:Int)  (i0:Int) (v0:Int×LLV):Option (Sum (Int×LLV) Unit):=
 ag (Ln (Ty.sl aa) (nth (t:=(Ty.sl aa)) v0.2 i0)) (ag (0<=v0.1) (ag (v0.1+(M.count (Ty.sl aa) (nth (t:=(Ty.sl aa)) v0.2 i0):Int)<=M.big) (bB ((M.mark (Ty.sl aa) (nth (t:=(Ty.sl aa)) v0.2 i0) v0.1,v0.1+(M.count (Ty.sl aa) (nth (t:=(Ty.sl aa)) v0.2 i0):Int)):LV×Int) (fun r1:LV×Int=>some (.inl (r1.2,(v0.2.set i0.toNat r1.1)))))))
noncomputable def F.jM (x:LLV) (k:Int):Option (LLV×Int):=
 aS (aJ (F.eU x k) (aH (0:Int) (x.length:Int)) (k,x)) (fun v0:Int×LLV=>some (v0.2,v0.1)) (fun(_:Unit)=>none)
noncomputable def F.fK (x:LTb) (k:Int)  (i0:Int) (v0:Int×LTb):Option (Sum (Int×LTb) Unit):=
 ag (Ln (Ty.sl ai) (nth (t:=TTable) v0.2 i0).1) (ag (0<=v0.1) (ag (v0.1+(M.count (Ty.sl ai) (nth (t:=TTable) v0.2 i0).1:Int)<=M.big) (bB ((M.mark (Ty.sl ai) (nth (t:=TTable) v0.2 i0).1 v0.1,v0.1+(M.count (Ty.sl ai) (nth (t:=TTable) v0.2 i0).1:Int)):LC×Int) (fun r1:LC×Int=>ag (Ln (Ty.sl (Ty.sl aa)) (nth (t:=TTable) (v0.2.set i0.toNat (r1.1,(nth (t:=TTable) v0.2 i0).2)) i0).2.1) (ag (0<=r1.2) (ag (r1.2+(M.count (Ty.sl (Ty.sl aa)) (nth (t:=TTable) (v0.2.set i0.toNat (r1.1,(nth (t:=TTable) v0.2 i0).2)) i0).2.1:Int)<=M.big) (bB ((M.mark (Ty.sl (Ty.sl aa)) (nth (t:=TTable) (v0.2.set i0.toNat (r1.1,(nth (t:=TTable) v0.2 i0).2)) i0).2.1 r1.2,r1.2+(M.count (Ty.sl (Ty.sl aa)) (nth (t:=TTable) (v0.2.set i0.toNat (r1.1,(nth (t:=TTable) v0.2 i0).2)) i0).2.1:Int)):LLV×Int) (fun r2:LLV×Int=>some (.inl (r2.2,((v0.2.set i0.toNat (r1.1,(nth (t:=TTable) v0.2 i0).2)).set i0.toNat ((nth (t:=TTable) (v0.2.set i0.toNat (r1.1,(nth (t:=TTable) v0.2 i0).2)) i0).1,(r2.1,())))))))))))))
noncomputable def F.kT (x:LTb) (k:Int):Option (LTb×Int):=
 aS (aJ (F.fK x k) (aH (0:Int) (x.length:Int)) (k,x)) (fun v0:Int×LTb=>some (v0.2,v0.1)) (fun(_:Unit)=>none)
noncomputable def F.gY (x:(List Int)) (k:Int)  (i0:Int) (v0:Int×(List Int)):Option (Sum (Int×(List Int)) Unit):=
 some (.inl (wrap64 (v0.1+(1:Int)),(v0.2.set i0.toNat v0.1)))
noncomputable def F.nZ (x:(List Int)) (k:Int):Option ((List Int)×Int):=
 aS (aJ (F.gY x k) (aH (0:Int) (x.length:Int)) (k,x)) (fun v0:Int×(List Int)=>some (v0.2,v0.1)) (fun(_:Unit)=>none)
noncomputable def F.fY (x:LPt) (k:Int)  (i0:Int) (v0:Int×LPt):Option (Sum (Int×LPt) Unit):=
 bB (((v0.2.set i0.toNat (v0.1,(nth (t:=ax) v0.2 i0).2)).set i0.toNat ((nth (t:=ax) (v0.2.set i0.toNat (v0.1,(nth (t:=ax) v0.2 i0).2)) i0).1,(wrap64 (v0.1+(1:Int)),(nth (t:=ax) (v0.2.set i0.toNat (v0.1,(nth (t:=ax) v0.2 i0).2)) i0).2.2))):LPt) (fun y1:LPt=>bB ((y1.set i0.toNat ((nth (t:=ax) y1 i0).1,((nth (t:=ax) y1 i0).2.1,((wrap64 (wrap64 (v0.1+(1:Int))+(1:Int)),(nth (t:=ax) y1 i0).2.2.1.2),())))):LPt) (fun y2:LPt=>bB ((y2.set i0.toNat ((nth (t:=ax) y2 i0).1,((nth (t:=ax) y2 i0).2.1,(((nth (t:=ax) y2 i0).2.2.1.1,(wrap64 (wrap64 (wrap64 (v0.1+(1:Int))+(1:Int))+(1:Int)),(nth (t:=ax) y2 i0).2.2.1.2.2)),())))):LPt) (fun y3:LPt=>ag ((wrap64 (wrap64 (wrap64 (wrap64 (v0.1+(1:Int))+(1:Int))+(1:Int))+(1:Int)))<=M.big) (bB ((M.ep (wrap64 (wrap64 (wrap64 (wrap64 (v0.1+(1:Int))+(1:Int))+(1:Int))+(1:Int)))):ByteArray) (fun r1:ByteArray=>bB ((y3.set i0.toNat ((nth (t:=ax) y3 i0).1,((nth (t:=ax) y3 i0).2.1,(((nth (t:=ax) y3 i0).2.2.1.1,((nth (t:=ax) y3 i0).2.2.1.2.1,(r1,()))),())))):LPt) (fun y4:LPt=>some (.inl (wrap64 (wrap64 (wrap64 (wrap64 (wrap64 (v0.1+(1:Int))+(1:Int))+(1:Int))+(1:Int))+(1:Int)),y4))))))))
noncomputable def F.mT (x:LPt) (k:Int):Option (LPt×Int):=
 aS (aJ (F.fY x k) (aH (0:Int) (x.length:Int)) (k,x)) (fun v0:Int×LPt=>some (v0.2,v0.1)) (fun(_:Unit)=>none)
noncomputable def F.gb (x:(List TBond.D)) (k:Int)  (i0:Int) (v0:Int×(List TBond.D)):Option (Sum (Int×(List TBond.D)) Unit):=
 bB (((v0.2.set i0.toNat (v0.1,(nth (t:=TBond) v0.2 i0).2)).set i0.toNat ((nth (t:=TBond) (v0.2.set i0.toNat (v0.1,(nth (t:=TBond) v0.2 i0).2)) i0).1,(wrap64 (v0.1+(1:Int)),(nth (t:=TBond) (v0.2.set i0.toNat (v0.1,(nth (t:=TBond) v0.2 i0).2)) i0).2.2))):(List TBond.D)) (fun y1:(List TBond.D)=>ag (Ln (Ty.sl (Ty.int .i64)) (nth (t:=TBond) y1 i0).2.2.1) (ag (0<=(wrap64 (wrap64 (v0.1+(1:Int))+(1:Int)))) (ag ((wrap64 (wrap64 (v0.1+(1:Int))+(1:Int)))+(M.count (Ty.sl (Ty.int .i64)) (nth (t:=TBond) y1 i0).2.2.1:Int)<=M.big) (bB ((M.mark (Ty.sl (Ty.int .i64)) (nth (t:=TBond) y1 i0).2.2.1 (wrap64 (wrap64 (v0.1+(1:Int))+(1:Int))),(wrap64 (wrap64 (v0.1+(1:Int))+(1:Int)))+(M.count (Ty.sl (Ty.int .i64)) (nth (t:=TBond) y1 i0).2.2.1:Int)):(List Int)×Int) (fun r1:(List Int)×Int=>bB (((y1.set i0.toNat ((nth (t:=TBond) y1 i0).1,((nth (t:=TBond) y1 i0).2.1,(r1.1,(nth (t:=TBond) y1 i0).2.2.2)))).set i0.toNat ((nth (t:=TBond) (y1.set i0.toNat ((nth (t:=TBond) y1 i0).1,((nth (t:=TBond) y1 i0).2.1,(r1.1,(nth (t:=TBond) y1 i0).2.2.2)))) i0).1,((nth (t:=TBond) (y1.set i0.toNat ((nth (t:=TBond) y1 i0).1,((nth (t:=TBond) y1 i0).2.1,(r1.1,(nth (t:=TBond) y1 i0).2.2.2)))) i0).2.1,((nth (t:=TBond) (y1.set i0.toNat ((nth (t:=TBond) y1 i0).1,((nth (t:=TBond) y1 i0).2.1,(r1.1,(nth (t:=TBond) y1 i0).2.2.2)))) i0).2.2.1,(r1.2,(nth (t:=TBond) (y1.set i0.toNat ((nth (t:=TBond) y1 i0).1,((nth (t:=TBond) y1 i0).2.1,(r1.1,(nth (t:=TBond) y1 i0).2.2.2)))) i0).2.2.2.2))))):(List TBond.D)) (fun y2:(List TBond.D)=>ag (Ln (Ty.sl (Ty.int .i64)) (nth (t:=TBond) y2 i0).2.2.2.2.1) (ag (0<=(wrap64 (r1.2+(1:Int)))) (ag ((wrap64 (r1.2+(1:Int)))+(M.count (Ty.sl (Ty.int .i64)) (nth (t:=TBond) y2 i0).2.2.2.2.1:Int)<=M.big) (bB ((M.mark (Ty.sl (Ty.int .i64)) (nth (t:=TBond) y2 i0).2.2.2.2.1 (wrap64 (r1.2+(1:Int))),(wrap64 (r1.2+(1:Int)))+(M.count (Ty.sl (Ty.int .i64)) (nth (t:=TBond) y2 i0).2.2.2.2.1:Int)):(List Int)×Int) (fun r2:(List Int)×Int=>bB (((y2.set i0.toNat ((nth (t:=TBond) y2 i0).1,((nth (t:=TBond) y2 i0).2.1,((nth (t:=TBond) y2 i0).2.2.1,((nth (t:=TBond) y2 i0).2.2.2.1,(r2.1,(nth (t:=TBond) y2 i0).2.2.2.2.2)))))).set i0.toNat ((nth (t:=TBond) (y2.set i0.toNat ((nth (t:=TBond) y2 i0).1,((nth (t:=TBond) y2 i0).2.1,((nth (t:=TBond) y2 i0).2.2.1,((nth (t:=TBond) y2 i0).2.2.2.1,(r2.1,(nth (t:=TBond) y2 i0).2.2.2.2.2)))))) i0).1,((nth (t:=TBond) (y2.set i0.toNat ((nth (t:=TBond) y2 i0).1,((nth (t:=TBond) y2 i0).2.1,((nth (t:=TBond) y2 i0).2.2.1,((nth (t:=TBond) y2 i0).2.2.2.1,(r2.1,(nth (t:=TBond) y2 i0).2.2.2.2.2)))))) i0).2.1,((nth (t:=TBond) (y2.set i0.toNat ((nth (t:=TBond) y2 i0).1,((nth (t:=TBond) y2 i0).2.1,((nth (t:=TBond) y2 i0).2.2.1,((nth (t:=TBond) y2 i0).2.2.2.1,(r2.1,(nth (t:=TBond) y2 i0).2.2.2.2.2)))))) i0).2.2.1,((nth (t:=TBond) (y2.set i0.toNat ((nth (t:=TBond) y2 i0).1,((nth (t:=TBond) y2 i0).2.1,((nth (t:=TBond) y2 i0).2.2.1,((nth (t:=TBond) y2 i0).2.2.2.1,(r2.1,(nth (t:=TBond) y2 i0).2.2.2.2.2)))))) i0).2.2.2.1,((nth (t:=TBond) (y2.set i0.toNat ((nth (t:=TBond) y2 i0).1,((nth (t:=TBond) y2 i0).2.1,((nth (t:=TBond) y2 i0).2.2.1,((nth (t:=TBond) y2 i0).2.2.2.1,(r2.1,(nth (t:=TBond) y2 i0).2.2.2.2.2)))))) i0).2.2.2.2.1,((decide ((r2.2.tmod (3:Int))=(0:Int))),(nth (t:=TBond) (y2.set i0.toNat ((nth (t:=TBond) y2 i0).1,((nth (t:=TBond) y2 i0).2.1,((nth (t:=TBond) y2 i0).2.2.1,((nth (t:=TBond) y2 i0).2.2.2.1,(r2.1,(nth (t:=TBond) y2 i0).2.2.2.2.2)))))) i0).2.2.2.2.2.2))))))):(List TBond.D)) (fun y3:(List TBond.D)=>ag (Ln (Ty.sl ax) (nth (t:=TBond) y3 i0).2.2.2.2.2.2.1) (ag (0<=(wrap64 (r2.2+(1:Int)))) (ag ((wrap64 (r2.2+(1:Int)))+(M.count (Ty.sl ax) (nth (t:=TBond) y3 i0).2.2.2.2.2.2.1:Int)<=M.big) (bB ((M.mark (Ty.sl ax) (nth (t:=TBond) y3 i0).2.2.2.2.2.2.1 (wrap64 (r2.2+(1:Int))),(wrap64 (r2.2+(1:Int)))+(M.count (Ty.sl ax) (nth (t:=TBond) y3 i0).2.2.2.2.2.2.1:Int)):LPt×Int) (fun r3:LPt×Int=>some (.inl (r3.2,(y3.set i0.toNat ((nth (t:=TBond) y3 i0).1,((nth (t:=TBond) y3 i0).2.1,((nth (t:=TBond) y3 i0).2.2.1,((nth (t:=TBond) y3 i0).2.2.2.1,((nth (t:=TBond) y3 i0).2.2.2.2.1,((nth (t:=TBond) y3 i0).2.2.2.2.2.1,(r3.1,())))))))))))))))))))))))))
noncomputable def F.mD (x:(List TBond.D)) (k:Int):Option ((List TBond.D)×Int):=
 aS (aJ (F.gb x k) (aH (0:Int) (x.length:Int)) (k,x)) (fun v0:Int×(List TBond.D)=>some (v0.2,v0.1)) (fun(_:Unit)=>none)
noncomputable def F.eP (x:(List TChange.D)) (k:Int)  (i0:Int) (v0:Int×(List TChange.D)):Option (Sum (Int×(List TChange.D)) Unit):=
 ag (Ln (Ty.sl aa) (nth (t:=TChange) (v0.2.set i0.toNat (v0.1,(nth (t:=TChange) v0.2 i0).2)) i0).2.1) (ag (0<=(wrap64 (v0.1+(1:Int)))) (ag ((wrap64 (v0.1+(1:Int)))+(M.count (Ty.sl aa) (nth (t:=TChange) (v0.2.set i0.toNat (v0.1,(nth (t:=TChange) v0.2 i0).2)) i0).2.1:Int)<=M.big) (bB ((M.mark (Ty.sl aa) (nth (t:=TChange) (v0.2.set i0.toNat (v0.1,(nth (t:=TChange) v0.2 i0).2)) i0).2.1 (wrap64 (v0.1+(1:Int))),(wrap64 (v0.1+(1:Int)))+(M.count (Ty.sl aa) (nth (t:=TChange) (v0.2.set i0.toNat (v0.1,(nth (t:=TChange) v0.2 i0).2)) i0).2.1:Int)):LV×Int) (fun r1:LV×Int=>bB ((((v0.2.set i0.toNat (v0.1,(nth (t:=TChange) v0.2 i0).2)).set i0.toNat ((nth (t:=TChange) (v0.2.set i0.toNat (v0.1,(nth (t:=TChange) v0.2 i0).2)) i0).1,(r1.1,(nth (t:=TChange) (v0.2.set i0.toNat (v0.1,(nth (t:=TChange) v0.2 i0).2)) i0).2.2))).set i0.toNat ((nth (t:=TChange) ((v0.2.set i0.toNat (v0.1,(nth (t:=TChange) v0.2 i0).2)).set i0.toNat ((nth (t:=TChange) (v0.2.set i0.toNat (v0.1,(nth (t:=TChange) v0.2 i0).2)) i0).1,(r1.1,(nth (t:=TChange) (v0.2.set i0.toNat (v0.1,(nth (t:=TChange) v0.2 i0).2)) i0).2.2))) i0).1,((nth (t:=TChange) ((v0.2.set i0.toNat (v0.1,(nth (t:=TChange) v0.2 i0).2)).set i0.toNat ((nth (t:=TChange) (v0.2.set i0.toNat (v0.1,(nth (t:=TChange) v0.2 i0).2)) i0).1,(r1.1,(nth (t:=TChange) (v0.2.set i0.toNat (v0.1,(nth (t:=TChange) v0.2 i0).2)) i0).2.2))) i0).2.1,((decide ((r1.2.tmod (3:Int))=(0:Int))),())))):(List TChange.D)) (fun y1:(List TChange.D)=>some (.inl (wrap64 (r1.2+(1:Int)),y1)))))))
noncomputable def F.jG (x:(List TChange.D)) (k:Int):Option ((List TChange.D)×Int):=
 aS (aJ (F.eP x k) (aH (0:Int) (x.length:Int)) (k,x)) (fun v0:Int×(List TChange.D)=>some (v0.2,v0.1)) (fun(_:Unit)=>none)
noncomputable def F.eO (x:LC) (k:Int)  (z0:ai.D) (v0:Int):Option (Sum Int Unit):=
 cond (!decide (z0.1=v0)) (some (.inr ())) (cond (!(Ty.beq Ty.bool z0.2.1 (decide (((wrap64 (v0+(1:Int))).tmod (3:Int))=(0:Int))))) (some (.inr ())) (some (.inl (wrap64 (wrap64 (v0+(1:Int))+(1:Int))))))
noncomputable def F.jP (x:LC) (k:Int):Option Int:=
 aS (aJ (F.eO x k) x k) (fun v0:Int=>some v0) (fun q0:Unit=>some (-1:Int))
noncomputable def F.fH (x:LV) (k:Int)  (z0:aa.D) (v0:Int):Option (Sum Int Unit):=
 cond (!decide (z0.1=v0)) (some (.inr ())) (cond (!decide (z0.2.1=wrap64 (v0+(1:Int)))) (some (.inr ())) (ag ((wrap64 (wrap64 (v0+(1:Int))+(1:Int)))<=M.big) (bB ((M.ep (wrap64 (wrap64 (v0+(1:Int))+(1:Int)))):ByteArray) (fun r1:ByteArray=>cond (!decide (z0.2.2.1=r1)) (some (.inr ())) (some (.inl (wrap64 (wrap64 (wrap64 (v0+(1:Int))+(1:Int))+(1:Int)))))))))
noncomputable def F.kU (x:LV) (k:Int):Option Int:=
 aS (aJ (F.fH x k) x k) (fun v0:Int=>some v0) (fun q0:Unit=>some (-1:Int))
noncomputable def F.eN (x:LLV) (k:Int)  (z0:LV) (v0:Int):Option (Sum Int Unit):=
 ag (0<=v0) (ag (v0+(M.count (Ty.sl aa) z0:Int)<=M.big) (ag (M.mark (Ty.sl aa) z0 v0=z0) (cond (decide ((v0+(M.count (Ty.sl aa) z0:Int))<(0:Int))) (some (.inr ())) (some (.inl (v0+(M.count (Ty.sl aa) z0:Int)))))))
noncomputable def F.jF (x:LLV) (k:Int):Option Int:=
 aS (aJ (F.eN x k) x k) (fun v0:Int=>some v0) (fun q0:Unit=>some (-1:Int))
noncomputable def F.fz (x:LTb) (k:Int)  (z0:TTable.D) (v0:Int):Option (Sum Int Unit):=
 ag (0<=v0) (ag (v0+(M.count (Ty.sl ai) z0.1:Int)<=M.big) (ag (M.mark (Ty.sl ai) z0.1 v0=z0.1) (cond (decide ((v0+(M.count (Ty.sl ai) z0.1:Int))<(0:Int))) (some (.inr ())) (ag (0<=(v0+(M.count (Ty.sl ai) z0.1:Int))) (ag ((v0+(M.count (Ty.sl ai) z0.1:Int))+(M.count (Ty.sl (Ty.sl aa)) z0.2.1:Int)<=M.big) (ag (M.mark (Ty.sl (Ty.sl aa)) z0.2.1 (v0+(M.count (Ty.sl ai) z0.1:Int))=z0.2.1) (cond (decide (((v0+(M.count (Ty.sl ai) z0.1:Int))+(M.count (Ty.sl (Ty.sl aa)) z0.2.1:Int))<(0:Int))) (some (.inr ())) (some (.inl ((v0+(M.count (Ty.sl ai) z0.1:Int))+(M.count (Ty.sl (Ty.sl aa)) z0.2.1:Int)))))))))))
noncomputable def F.lq (x:LTb) (k:Int):Option Int:=
 aS (aJ (F.fz x k) x k) (fun v0:Int=>some v0) (fun q0:Unit=>some (-1:Int))
noncomputable def F.fE (aTables:LTb) (aBonds:(List TBond.D)) (aChanges:(List TChange.D)):Option Bool:=
 ag (0<=(1048576:Int)) (ag ((1048576:Int)<=1048576) (cond (decide ((M.szS M.bG aTables (1048576:Int))<(0:Int))) (some true) (ag (0<=(M.szS M.bG aTables (1048576:Int))) (ag ((M.szS M.bG aTables (1048576:Int))<=1048576) (cond (decide ((M.szS M.dc aBonds (M.szS M.bG aTables (1048576:Int)))<(0:Int))) (some true) (ag (0<=(M.szS M.dc aBonds (M.szS M.bG aTables (1048576:Int)))) (ag ((M.szS M.dc aBonds (M.szS M.bG aTables (1048576:Int)))<=1048576) (cond (decide ((M.szS M.dF aChanges (M.szS M.dc aBonds (M.szS M.bG aTables (1048576:Int))))<(0:Int))) (some true) (ag (Sm (Ty.sl TTable) aTables) (bB (aTables:LTb) (fun r1:LTb=>ag (Sm (Ty.sl TBond) aBonds) (bB (aBonds:(List TBond.D)) (fun r2:(List TBond.D)=>ag (Sm (Ty.sl TChange) aChanges) (bB (aChanges:(List TChange.D)) (fun r3:(List TChange.D)=>ag (Sm (Ty.sl TTable) r1) (ag (Sm (Ty.sl TBond) r2) (ag (Sm (Ty.sl TChange) r3) (bB ((M.cE r1 r2 r3):LTb×Bool) (fun r4:LTb×Bool=>bB (aTables:LTb) (fun r5:LTb=>bB (aBonds:(List TBond.D)) (fun r6:(List TBond.D)=>bB (aChanges:(List TChange.D)) (fun r7:(List TChange.D)=>ag (Sm (Ty.sl TTable) r5) (ag (Sm (Ty.sl TBond) r6) (ag (Sm (Ty.sl TChange) r7) (bB ((M.cE r5 r6 r7):LTb×Bool) (fun r8:LTb×Bool=>ag (Sm (Ty.sl TTable) r8.1) (ag (Sm (Ty.sl TTable) r4.1) (ag (r8.1=r4.1) (cond ((!true)==false) (cond (!(Ty.beq Ty.bool r8.2 r4.2)) (some false) (bB (aTables:LTb) (fun r9:LTb=>ag (Sm (Ty.sl TTable) r9) (ag (r5=r9) (bB (aBonds:(List TBond.D)) (fun r10:(List TBond.D)=>ag (Sm (Ty.sl TBond) r10) (ag (r6=r10) (bB (aChanges:(List TChange.D)) (fun r11:(List TChange.D)=>ag (Sm (Ty.sl TChange) r11) (ag (r7=r11) (ag (Ln (Ty.sl TTable) r5) (ag (0<=(1:Int)) (ag ((1:Int)+(M.count (Ty.sl TTable) r5:Int)<=M.big) (bB ((M.mark (Ty.sl TTable) r5 (1:Int),(1:Int)+(M.count (Ty.sl TTable) r5:Int)):LTb×Int) (fun r12:LTb×Int=>ag (Ln (Ty.sl TBond) r6) (ag (0<=r12.2) (ag (r12.2+(M.count (Ty.sl TBond) r6:Int)<=M.big) (bB ((M.mark (Ty.sl TBond) r6 r12.2,r12.2+(M.count (Ty.sl TBond) r6:Int)):(List TBond.D)×Int) (fun r13:(List TBond.D)×Int=>ag (Ln (Ty.sl TChange) r7) (ag (0<=r13.2) (ag (r13.2+(M.count (Ty.sl TChange) r7:Int)<=M.big) (bB ((M.mark (Ty.sl TChange) r7 r13.2,r13.2+(M.count (Ty.sl TChange) r7:Int)):(List TChange.D)×Int) (fun r14:(List TChange.D)×Int=>cond ((decide (r14.2<(0:Int)))==false) (ag (Ln (Ty.sl TTable) r8.1) (ag ((1:Int)+(M.count (Ty.sl TTable) r8.1:Int)<=M.big) (bB ((M.mark (Ty.sl TTable) r8.1 (1:Int),(1:Int)+(M.count (Ty.sl TTable) r8.1:Int)):LTb×Int) (fun r15:LTb×Int=>ag (Ln (Ty.sl TTable) r15.1) (ag ((1:Int)+(M.count (Ty.sl TTable) r15.1:Int)<=M.big) (ag (M.mark (Ty.sl TTable) r15.1 (1:Int)=r15.1) (cond (decide (((1:Int)+(M.count (Ty.sl TTable) r15.1:Int))<(0:Int))) (some false) (cond (!decide (((1:Int)+(M.count (Ty.sl TTable) r15.1:Int))=r15.2)) (some false) (bB (aTables:LTb) (fun r16:LTb=>bB (aBonds:(List TBond.D)) (fun r17:(List TBond.D)=>bB (aChanges:(List TChange.D)) (fun r18:(List TChange.D)=>ag (Sm (Ty.sl TTable) r16) (ag (Sm (Ty.sl TBond) r17) (ag (Sm (Ty.sl TChange) r18) (bB ((M.cE r16 r17 r18):LTb×Bool) (fun r19:LTb×Bool=>ag (Sm (Ty.sl TTable) r19.1) (ag (r19.1=r4.1) (cond (!(Ty.beq Ty.bool r19.2 r4.2)) (some false) (some true))))))))))))))))))) (some false)))))))))))))))))))))))) (some false))))))))))))))))))))))))))))))
end Go.AE
