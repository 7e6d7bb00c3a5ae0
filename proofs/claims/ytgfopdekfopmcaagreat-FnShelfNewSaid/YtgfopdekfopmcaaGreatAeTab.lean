/- The table of a program's types: what has to be checked of it, as a Bool. -/
import Derived.Test.YtgfopdekfopmcaaGreatAeRet
import Derived.Laws.StructEq
namespace Go.AE
open Go Go.RowKit
def jq:Ty->List Value->Option (List Value)
 | .int k,l=>(match l with
  | .int k' n::l'=>(match decide (k'=k),n with
   | true,.ofNat 0=>some l'
   | _,_=>none)
  | _=>none)
 | .bool,l=>(match l with
  | .bool false::l'=>some l'
  | _=>none)
 | .str,l=>(match l with
  | .string ⟨⟨[]⟩⟩::l'=>some l'
  | _=>none)
 | .unit,l=>some l
 | .sl _,l=>(match l with
  | .slice none 0 0::l'=>some l'
  | _=>none)
 | .pair a b,l=>match jq a l with
  | some l'=>jq b l'
  | none=>none
theorem vE:∀{t:Ty} {l r:List Value},jq t l=some r->l=aG t++r:=by
 intro t
 induction t with
 | int k=>
  intro l r h
  unfold jq at h
  split at h
  ·split at h
   ·rename_i hk
    cases h
    rw[of_decide_eq_true hk]
    rfl
   ·cases h
  ·cases h
 | bool=>intro l r h;unfold jq at h;split at h<;>cases h;rfl
 | str=>intro l r h;unfold jq at h;split at h<;>cases h;rfl
 | unit=>intro l r h;unfold jq at h;cases h;rfl
 | sl t _=>intro l r h;unfold jq at h;split at h<;>cases h;rfl
 | pair a b iha ihb=>
  intro l r h
  unfold jq at h
  split at h
  ·rename_i l' hl
   rw[iha hl,ihb h]
   simp[aG]
  ·cases h
def isInt:TypeDesc->Bool
 | .int _=>true
 | _=>false
def tV (P:Program) (t:TypeId) (ty:Ty):Bool:=match P.info? t with
 | some i=>Nat.beq i.size ty.size&&Nat.blt 0 ty.size&&(match i.zero with
  | some z=>(match jq ty z.cells.toList with
   | some []=>true
   | _=>false)
  | none=>false)&&(match P.underlying t with
  | some d=>iD d==ty.agg
  | none=>false)
 | none=>false
theorem jP {P:Program} {t:TypeId} {ty:Ty} (h:tV P t ty=true):TyFact P t ty:=by
 unfold tV at h
 split at h
 case h_2=>cases h
 rename_i i hi
 simp only[Bool.and_eq_true] at h
 obtain⟨⟨⟨h1,h2⟩,h3⟩,h4⟩:=h
 split at h3
 case h_2=>cases h3
 rename_i z hz
 split at h3
 case h_2=>cases h3
 rename_i hzz
 split at h4
 case h_2=>cases h4
 rename_i d hd
 refine⟨⟨i,z,hi,Nat.eq_of_beq_eq_true h1,hz,by rw[vE hzz];simp⟩,sC h2,d,hd,by simpa using h4⟩
def cY (P:Program):List Field->List (Nat×TypeId×String)->Bool
 | [],[]=>true
 | f::l,q::l'=>Nat.beq f.offset q.1&&Nat.beq f.type q.2.1&&(match P.info? q.2.1 with
  | some j=>Nat.blt 0 j.size
  | none=>false)&&cY P l l'
 | _,_=>false
def ou (E:Tab):Nat->List (Nat×TypeId×String)->Ty->Bool
 | _,[],.unit=>true
 | off,q::l,.pair a b=>Nat.beq q.1 off&&(match E.ty q.2.1 with
  | some u=>Ty.same u a
  | none=>false)&&ou E (off+a.size) l b
 | _,_,_=>false
def wQ (P:Program) (E:Tab) (t:TypeId) (ti:TI):Bool:=(match P.info? t with
 | some i=>Nat.beq i.bytes ti.bytes
 | none=>false)&&(match ti.td with
 | .val ty=>tV P t ty&&(match ty with
  | .str=>(match P.underlying t with
   | some .string=>true
   | _=>false)
  | .int k=>(match P.underlying t with
   | some (.int k')=>decide (k'=k)
   | _=>false)
  | .bool=>(match P.underlying t with
   | some .bool=>true
   | _=>false)
  | _=>false)
 | .sl e ty=>tV P t (.sl ty)&&(match P.underlying t with
  | some (.slice e')=>Nat.beq e' e
  | _=>false)&&(match lookup E e with
  | some ei=>Nat.blt 0 ei.bytes&&(match ei.td.ty with
   | some u=>Ty.same u ty
   | none=>false)
  | none=>false)
 | .st fs ty=>tV P t ty&&(match P.underlying t with
  | some (.struct fields)=>cY P fields.toList fs
  | _=>false)&&ou E 0 fs ty
 | .mp k e ty=>(tV P e ty&&(match P.info? e with
  | some i=>(match i.zero with
   | some (.agg _)=>ty.agg
   | some _=>!ty.agg
   | none=>false)
  | none=>false))&&(match P.underlying t with
  | some (.map kt e')=>Nat.beq e' e&&(match P.underlying kt with
   | some (.int k')=>decide (k'=k)
   | _=>false)
  | _=>false)
 | _=>(match P.underlying t with
  | some d=>!isInt d
  | none=>false))
def tJ (P:Program) (E:Tab):Tab->Bool
 | []=>true
 | (t,ti)::l=>wQ P E t ti&&tJ P E l
def pG (P:Program) (t:TypeId):Ty->Bool
 | .int k=>(match P.underlying t with
  | some (.int k')=>decide (k'=k)
  | _=>false)
 | .bool=>(match P.underlying t with
  | some .bool=>true
  | _=>false)
 | .str=>(match P.underlying t with
  | some .string=>true
  | _=>false)
 | _=>false
def zW (P:Program) (r:TypeId->Ty->Bool):Nat->List Field->Ty->Bool
 | _,[],.unit=>true
 | off,f::l,.pair a b=>Nat.beq f.offset off&&(f.name != "_")&&tV P f.type a&&r f.type a&&zW P r (off+a.size) l b
 | _,_,_=>false
def eqTy (P:Program):Nat->TypeId->Ty->Bool
 | 0,t,ty=>pG P t ty
 | n+1,t,ty=>bif ty.agg then (match P.underlying t with
  | some (.struct fs)=>!P.stoodInHeld t&&zW P (eqTy P n) 0 fs.toList ty
  | _=>false) else pG P t ty
def vi (P:Program) (E:Tab):List TypeId->Bool
 | []=>true
 | t::l=>(match E.ty t with
  | some ty=>eqTy P 8 t ty&&!P.eqGuardType P.depth t
  | none=>false)&&vi P E l
end Go.AE
