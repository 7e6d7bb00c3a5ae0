/- What the functions compute, in plain Lean. -/
import Derived.Test.YtiplhefglgpdoaaGreatAeX
namespace Go.AE
open Go Go.RowKit
@[reducible] def TInt : Ty := .int .i64
@[reducible] def TValue : Ty := .pair (.int .i64) (.pair (.int .i64) (.pair .str .unit))
@[reducible] def TColumn : Ty := .pair (.int .i64) (.pair .bool .unit)
@[reducible] def TTable : Ty := .pair (.sl TColumn) (.pair (.sl (.sl TValue)) .unit)
@[reducible] def TPart : Ty := .pair (.int .i64) (.pair (.int .i64) (.pair TValue .unit))
@[reducible] def TBond : Ty := .pair (.int .i64) (.pair (.int .i64) (.pair (.sl (.int .i64)) (.pair (.int .i64) (.pair (.sl (.int .i64)) (.pair .bool (.pair (.sl TPart) .unit))))))
@[reducible] def TStep : Ty := .pair (.int .i64) (.pair (.int .i64) (.pair (.int .i64) (.pair (.int .i64) (.pair (.sl TPart) (.pair (.sl (.int .i64)) .unit)))))
@[reducible] def TGuard : Ty := .pair (.int .i64) (.pair (.sl TPart) .unit)
abbrev LV : Type := List TValue.D
abbrev LPt : Type := List TPart.D
abbrev LC : Type := List TColumn.D
@[reducible] def TTb : Ty := .sl TTable
@[reducible] def TSS : Ty := .sl TStep
@[reducible] def TCS : Ty := .sl TColumn
@[reducible] def TVS : Ty := .sl TValue
@[reducible] def TPS : Ty := .sl TPart
@[reducible] def TGS : Ty := .sl TGuard
namespace M
def inR (n a b : Int) : Bool := decide (a ≤ n) && decide (n ≤ b)
theorem inR_lo {n N : Int} (h : inR n 0 N = true) : 0 ≤ n := by unfold inR at h; simp at h; exact h.1
theorem inR_hi' {n N : Int} (h : inR n 0 N = true) : n ≤ N := by unfold inR at h; simp at h; exact h.2
def lower (l : List Int) : Bool := l.all fun n => inR n 97 122
def text (s : ByteArray) : Bool := decide (s.size ≤ 6) && lower (byteInts s)
@[reducible] def none_ : ByteArray := ⟨#[]⟩
def valueOk (v : TValue.D) : Bool := cond (decide (v.1 = (0 : Int))) (decide (v.2.1 = (0 : Int)) && decide (v.2.2.1 = none_))
 (cond (decide (v.1 = (1 : Int))) (inR v.2.1 (-9999) 9999 && decide (v.2.2.1 = none_))
 (cond (decide (v.1 = (2 : Int))) (decide (v.2.1 = (0 : Int)) && text v.2.2.1)
 (cond (decide (v.1 = (3 : Int))) (inR v.2.1 0 1 && decide (v.2.2.1 = none_)) false)))
def columnOk (c : TColumn.D) : Bool := inR c.1 1 3
def columnsOk (x : List TColumn.D) : Bool := decide (x.length ≤ 4) && x.all columnOk
def rowOk (row : List TValue.D) : Bool := decide (row.length ≤ 4) && row.all valueOk
def idx {t : Ty} (p : t.D → Bool) (xs : List t.D) : Int := match xs.findIdx? p with
 | some k => (k : Int)
 | none => -1
def sure (n : Int) : Int := cond (decide (n = 0)) 0 (cond (decide (n = 1)) 2 1)
def fold (a b alone : Int) : Int := cond (inR a 0 2 && inR b 0 2) (cond (decide (a = alone) || decide (b = alone)) alone (cond (decide (a = 2) || decide (b = 2)) 2 (1 - alone))) (-1)
def andOf (a b : Int) : Int := fold a b 0
def orOf (a b : Int) : Int := fold a b 1
def notOf (a : Int) : Int := cond (decide (a = 0)) 1 (cond (decide (a = 1)) 0 (cond (decide (a = 2)) 2 (-1)))
def bool (b : Bool) : Int := cond b 1 0
@[reducible] def zeroV : TValue.D := ((0 : Int), (0 : Int), none_, ())
def valueOf (n : Int) : TValue.D := cond (inR n 0 1) ((3 : Int), n, none_, ()) zeroV
def truthOf (v : TValue.D) : Int := cond (valueOk v) (cond (decide (v.1 = (0 : Int))) 2 (cond (decide (v.1 = (3 : Int))) v.2.1 (-1))) (-1)
def less (a b : Int) : Int := cond (decide (a < b)) 1 0
def cmpI (a b : Int) : Int := cond (decide (a < b)) (-1) (cond (decide (b < a)) 1 0)
def cmpS (a b : ByteArray) : Int := cond (Op.bytesLess a.toList b.toList) (-1) (cond (!(Op.bytesLess a.toList b.toList || decide (a = b))) 1 0)
def orI : List Int → Int
 | [] => 0
 | x :: l => cond (decide (x = 0)) (orI l) x
def order (v w : TValue.D) : Int := orI [cmpI v.1 w.1, cmpI v.2.1 w.2.1, cmpS v.2.2.1 w.2.2.1]
def valueOrder (a b : TValue.D) : Int := cond (valueOk a && valueOk b) (order a b) 0
def cmpTruth (kind c : Int) : Bool := cond (decide (kind = 1)) (decide (c = 0)) (cond (decide (kind = 2)) (!decide (c = 0)) (cond (decide (kind = 3)) (decide (c < 0)) (decide (c ≤ 0))))
def compare (kind : Int) (a b : TValue.D) : Int := cond (inR kind 1 4 && (valueOk a && valueOk b)) (cond (decide (a.1 = (0 : Int)) || decide (b.1 = (0 : Int))) 2 (cond (decide (a.1 = b.1)) (bool (cmpTruth kind (order a b))) (-1))) (-1)
def fitsAt (columns : List TColumn.D) (row : List TValue.D) (k : Int) : Bool := decide ((nth (t := TValue) row k).1 = (nth (t := TColumn) columns k).1) || (decide ((nth (t := TValue) row k).1 = (0 : Int)) && (nth (t := TColumn) columns k).2.1)
def rowFits (columns : List TColumn.D) (row : List TValue.D) : Bool := columnsOk columns && (rowOk row && (decide (row.length = columns.length) && (rangeI 0 (row.length : Int)).all (fitsAt columns row)))
def rowsOk (columns : List TColumn.D) (rows : List (List TValue.D)) : Bool := columnsOk columns && rows.all (rowFits columns)
def tableOk (t : TTable.D) : Bool := decide (t.2.1.length ≤ 6) && rowsOk t.1 t.2.1
def tablesOk (ts : List TTable.D) : Bool := decide (ts.length ≤ 3) && ts.all tableOk
def takes (p : TPart.D) : Int := cond (decide (p.1 = (3 : Int)) || decide (p.1 = (4 : Int)) || decide (p.1 = (5 : Int)) || decide (p.1 = (6 : Int))) 2 (cond (decide (p.1 = (7 : Int)) || decide (p.1 = (8 : Int))) 1 0)
def noV (p : TPart.D) : Bool := Ty.beq TValue p.2.2.1 zeroV
def tells (p : TPart.D) (columns : List TColumn.D) : Bool :=
 cond (decide (p.1 = (1 : Int))) (decide (p.2.1 = (0 : Int)) && (valueOk p.2.2.1 && !decide (p.2.2.1.1 = (0 : Int))))
 (cond (decide (p.1 = (2 : Int))) (inR p.2.1 0 ((columns.length : Int) - 1) && noV p)
 (cond (decide (p.1 = (4 : Int))) (inR p.2.1 1 4 && noV p)
 (cond (inR p.1 3 8) (decide (p.2.1 = (0 : Int)) && noV p) false)))
def partKind (p : TPart.D) (columns : List TColumn.D) (l : List Int) : Int × Bool :=
 cond (decide (p.1 = (1 : Int))) (p.2.2.1.1, true)
 (cond (decide (p.1 = (2 : Int))) ((nth (t := TColumn) columns p.2.1).1, true)
 (cond (decide (p.1 = (3 : Int))) (1, l.all fun k => decide (k = 1))
 (cond (decide (p.1 = (4 : Int))) (3, decide (nth (t := .int .i64) l 0 = nth (t := .int .i64) l 1))
 (cond (decide (p.1 = (8 : Int))) (3, true) (3, l.all fun k => decide (k = 3))))))
def kindStep (columns : List TColumn.D) (st : List Int) (p : TPart.D) : Option (List Int) :=
 cond (tells p columns && (decide (takes p ≤ (st.length : Int)) && (partKind p columns (st.drop (st.length - (takes p).toNat))).2)) (some (st.take (st.length - (takes p).toNat) ++ [(partKind p columns (st.drop (st.length - (takes p).toNat))).1])) none
def kindRun (columns : List TColumn.D) : List TPart.D → List Int → Option (List Int)
 | [], st => some st
 | p :: e, st => match kindStep columns st p with
  | some st' => kindRun columns e st'
  | none => none
def oneOf : Option (List Int) → Int
 | some [k] => k
 | _ => -1
def exprKind (columns : List TColumn.D) (e : List TPart.D) : Int := cond (columnsOk columns && decide (e.length ≤ 12)) (oneOf (kindRun columns e [])) (-1)
def sum (a b : TValue.D) : TValue.D := cond (decide (a.1 = (0 : Int)) || decide (b.1 = (0 : Int)) || !inR (wrap64 (a.2.1 + b.2.1)) (-9999) 9999) zeroV ((1 : Int), wrap64 (a.2.1 + b.2.1), none_, ())
def partValue (p : TPart.D) (row : List TValue.D) (l : List TValue.D) : TValue.D :=
 cond (decide (p.1 = (1 : Int))) p.2.2.1
 (cond (decide (p.1 = (2 : Int))) (nth (t := TValue) row p.2.1)
 (cond (decide (p.1 = (3 : Int))) (sum (nth (t := TValue) l 0) (nth (t := TValue) l 1))
 (cond (decide (p.1 = (4 : Int))) (valueOf (compare p.2.1 (nth (t := TValue) l 0) (nth (t := TValue) l 1)))
 (cond (decide (p.1 = (5 : Int))) (valueOf (andOf (truthOf (nth (t := TValue) l 0)) (truthOf (nth (t := TValue) l 1))))
 (cond (decide (p.1 = (6 : Int))) (valueOf (orOf (truthOf (nth (t := TValue) l 0)) (truthOf (nth (t := TValue) l 1))))
 (cond (decide (p.1 = (7 : Int))) (valueOf (notOf (truthOf (nth (t := TValue) l 0))))
 (valueOf (bool (decide ((nth (t := TValue) l 0).1 = (0 : Int)))))))))))
def valStep (row : List TValue.D) (st : List TValue.D) (p : TPart.D) : List TValue.D := st.take (st.length - (takes p).toNat) ++ [partValue p row (st.drop (st.length - (takes p).toNat))]
def exprValue (row : List TValue.D) (e : List TPart.D) : TValue.D := nth (t := TValue) (e.foldl (valStep row) []) 0
def colIn (p : TPart.D) (w : Nat) : Prop := p.1 = (2 : Int) → 0 ≤ p.2.1 ∧ p.2.1 < (w : Int)
def depthOk (w : Nat) : List TPart.D → Nat → Prop
 | [], d => 0 < d
 | p :: e, d => takes p ≤ (d : Int) ∧ (1 ≤ p.1 ∧ p.1 ≤ 8) ∧ colIn p w ∧ depthOk w e (d - (takes p).toNat + 1)
def exprSafe (w : Nat) (e : List TPart.D) : Prop := e.length ≤ 12 ∧ depthOk w e 0
end M
theorem inR_lo {n N : Int} (h : M.inR n 0 N = true) : 0 ≤ n := M.inR_lo h
theorem inR_hi {n : Int} {N : Nat} (h : M.inR n 0 (wrap64 ((N : Int) - 1)) = true) : n < (N : Int) := by
 have h1 := M.inR_lo h
 have h2 := M.inR_hi' h
 have : wrap64 ((N : Int) - 1) ≤ (N : Int) - 1 := by unfold wrap64; omega
 omega
end Go.AE
