/- Values of expressions. -/
import Derived.Test.YtiplhefglgpdoaaGreatAeEqH
namespace Go.AE
open Go Go.RowKit
set_option linter.unusedSimpArgs false
set_option linter.unusedVariables false
theorem zm {row:List aa.D} {E:List aC.D} (p:aC.D) (st:List aa.D) (hp:Sm aC p) (hs:Sm (.sl aa) st) (hl:st.length<=1000) (h1:M.takes p<=(st.length:Int)) (hk:1<=p.1/\p.1<=8) (hc:M.vV p row.length) :
  F.dL row E p st=some (.inl (M.jP row st p)):=by
 obtain⟨t0,t2⟩:=uc p
 have hw:=Cv (n:=st.length) (k:=M.takes p) (by omega) t0 t2
 have hct:=BJ st (k:=(st.length:Int)-M.takes p) (by omega) (by omega)
 have hn:((st.length:Int)-M.takes p).toNat=st.length-(M.takes p).toNat:=by omega
 rw[hn] at hct
 unfold F.dL M.jP
 rw[hw,hct]
 have hsm:Sm (.sl aa) (st.drop (st.length-(M.takes p).toNat)):=⟨by rw[List.length_drop];omega,fun x hx=>hs.2 x (List.mem_of_mem_drop hx)⟩
 rw[aj hsm,aj hc,aj hk]
 simp only[bC]
 repeat rw[aj (by first | omega | (rw[List.length_drop];omega) | (unfold lim;simp;omega))]
 rw[hn]
end Go.AE
