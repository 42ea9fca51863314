/- What the claim leans on. -/
import Derived.Control
import Derived.Calls
import Derived.Attr
import Derived.Laws.Sem
import Derived.Deep.Draws
import Derived.RowKit3
import Derived.Laws.Entries
import Derived.Laws.Cells
import Derived.Laws.IdiomCopy
import Derived.Laws.AppendOwn
import Derived.Laws.Tables
import Derived.Deep.Upon
import Derived.Room.Entries
import Derived.Laws.IdiomStrings
import Derived.Tactics
import Derived.Orders
section
namespace Go.AM
inductive AV where
  | undef
  | int (k : IntKind) (n : Int)
  | bool (b : Bool)
  | str (s : ByteArray)
  | nilp
  | nilf
  | vp (id off : Nat)
  | rp (id esz : Nat) (d : AV) (idx off : Nat)
  | tp (esz : Nat) (xs : List AV) (d : AV) (idx off : Nat)
  | sl (id esz i0 len : Nat)
  | ts (esz : Nat) (xs : List AV)
  | nils
  | fn (f : FuncId) (caps : List AV)
  | agg (cs : List AV)
  | tup (vs : List AV)
  deriving Inhabited
def tsE (esz : Nat) (xs : List AV) : AV := match xs with | [] => .ts 0 [] | x :: r => .ts esz (x :: r)
def cellsOf : AV → List AV
  | .agg cs => cs
  | v => [v]
inductive Ob where
  | none
  | var (v : AV)
  | row (live : Bool) (esz : Nat) (xs : List AV)
  deriving Inhabited
abbrev Env := List (Nat × AV)
def getE : Env → Nat → AV
  | [], _ => .undef
  | (k, v) :: r, t => if k = t then v else getE r t
def putE (e : Env) (d : Option Tmp) (v : AV) : Env := match d with | some t => (t, v) :: e | none => e
def keepE (V : List Nat) (e : Env) : Env := V.map fun t => (t, getE e t)
structure St where
  env : Env
  σ : List Ob
class Kt (α : Type) where
  run : α → Prop
class Bx (α : Type) where
  val : α
def Chk (p : Prop) [k : Kt Unit] : Prop := p ∧ k.run ()
def bindP {α : Type} (o : Option α) [f : Kt α] : Prop := match o with | some v => f.run v | none => False
def onB (g : AV) [t : Kt Unit] [f : Kt Unit] : Prop := match g with | .bool true => t.run () | .bool false => f.run () | _ => False
def sizeT (P : Program) (t : TypeId) : Nat := match (sizeOf t).run P default with | .ok n _ => n | _ => 0
def aggT (P : Program) (t : TypeId) : Bool := match (isAgg t).run P default with | .ok b _ => b | _ => false
def ofV : Value → AV
  | .int k n => .int k n
  | .bool b => .bool b
  | .string s => .str s
  | .pointer none => .nilp
  | .slice none 0 0 => .nils
  | .nilFunc => .nilf
  | _ => .undef
def ofVal : Value → AV
  | .agg cs => .agg (cs.toList.map ofV)
  | v => ofV v
def zeroT (P : Program) (t : TypeId) : AV := match (zeroValue t).run P default with | .ok v _ => ofVal v | _ => .undef
def elemT (P : Program) (t : TypeId) : TypeId := match P.underlying t with | some (.slice e) => e | some (.array _ e) => e | _ => 0
def fieldT (P : Program) (t : TypeId) (f : Nat) : Option (Nat × TypeId) :=
  match P.underlying t with | some (.struct fs) => (fs[f]?).map fun f => (f.offset, f.type) | _ => none
def ev (e : Env) : Operand → AV
  | .tmp t => getE e t
  | .const v => ofV v
  | .func f => .fn f []
  | .global _ => .undef
def getO (σ : List Ob) (id : Nat) : Ob := σ.getD id .none
def setCell (v : AV) (off : Nat) (x : AV) : AV := match v with | .agg cs => .agg (cs.set off x) | _ => x
def splice (cs : List AV) (off : Nat) (xs : List AV) : List AV := cs.take off ++ xs ++ cs.drop (off + xs.length)
def toAgg : AV → AV
  | .agg cs => .agg cs
  | v => .agg [v]
def partA (P : Program) (t : TypeId) (v : AV) (off : Nat) : AV :=
  if aggT P t then (if off = 0 ∧ (cellsOf v).length = sizeT P t then toAgg v else .agg (((cellsOf v).drop off).take (sizeT P t)))
  else (cellsOf v).getD off (zeroT P t)
def putPart (v : AV) (off : Nat) (x : AV) : AV :=
  match x with
  | .agg xs => if off = 0 ∧ (cellsOf v).length = xs.length then .agg xs else .agg (splice (cellsOf v) off xs)
  | x => setCell v off x
def treeC (σ : List Ob) : AV → AV
  | .sl id esz' i0 len => match getO σ id with | .row _ esz xs => if esz = esz' then tsE esz ((xs.drop i0).take len) else .undef | _ => .undef
  | .nils => tsE 0 []
  | .vp .. | .rp .. => .undef
  | .fn f [] => .fn f []
  | .fn _ _ => .undef
  | .tup _ => .undef
  | v => v
def treeA (σ : List Ob) : AV → AV
  | .agg cs => .agg (cs.map (treeC σ))
  | v => treeC σ v
def zeroE (P : Program) (t : TypeId) : AV := treeA [] (zeroT P t)
def refsC : AV → List Nat
  | .sl id _ _ _ => [id]
  | _ => []
def refsA (x : AV) : List Nat := (cellsOf x).flatMap refsC
def treeT (σ : List Ob) : AV → AV
  | .tup vs => .tup (vs.map (treeA σ))
  | v => treeA σ v
def refsT : AV → List Nat
  | .tup vs => vs.flatMap refsA
  | v => refsA v
def freeze1 (σ : List Ob) (id : Nat) : List Ob := match getO σ id with | .row _ esz xs => σ.set id (.row false esz xs) | _ => σ
def freezeL (σ : List Ob) (ids : List Nat) : List Ob := ids.foldl freeze1 σ
def okAgg : AV → Bool
  | .agg _ => true
  | _ => false
def intOp (op : BinOp) (k : IntKind) (a b : Int) : Option (Prop × AV) :=
  match op with
  | .add => some (True, .int k (k.wrap (a + b)))
  | .sub => some (True, .int k (k.wrap (a - b)))
  | .mul => some (True, .int k (k.wrap (a * b)))
  | .quo => some (b ≠ 0, .int k (k.wrap (a.tdiv b)))
  | .rem => some (b ≠ 0, .int k (a.tmod b))
  | .and => some (True, .int k (k.wrap (BitVec.ofInt k.bits a &&& BitVec.ofInt k.bits b).toNat))
  | .or => some (True, .int k (k.wrap (BitVec.ofInt k.bits a ||| BitVec.ofInt k.bits b).toNat))
  | .xor => some (True, .int k (k.wrap (BitVec.ofInt k.bits a ^^^ BitVec.ofInt k.bits b).toNat))
  | .andNot => some (True, .int k (k.wrap (BitVec.ofInt k.bits a &&& ~~~ BitVec.ofInt k.bits b).toNat))
  | .eql => some (True, .bool (a == b))
  | .neq => some (True, .bool (a != b))
  | .lss => some (True, .bool (decide (a < b)))
  | .leq => some (True, .bool (decide (a ≤ b)))
  | .gtr => some (True, .bool (decide (a > b)))
  | .geq => some (True, .bool (decide (a ≥ b)))
  | _ => none
def shiftOp (op : BinOp) (k : IntKind) (a y : Int) : Option (Prop × AV) :=
  match op with
  | .shl => some (0 ≤ y, .int k (k.wrap (a * 2 ^ min y.toNat k.bits)))
  | .shr => some (0 ≤ y, .int k (a.fdiv (2 ^ min y.toNat k.bits)))
  | _ => none
def strOp (op : BinOp) (a b : ByteArray) : Option (Prop × AV) :=
  match op with
  | .add => some (a.size + b.size ≤ 140737488351232, .str (a ++ b))
  | .eql => some (True, .bool (a.toList == b.toList))
  | .neq => some (True, .bool (!(a.toList == b.toList)))
  | .lss => some (True, .bool (Op.bytesLess a.toList b.toList))
  | .leq => some (True, .bool (Op.bytesLess a.toList b.toList || a.toList == b.toList))
  | .gtr => some (True, .bool (!(Op.bytesLess a.toList b.toList || a.toList == b.toList)))
  | .geq => some (True, .bool (!Op.bytesLess a.toList b.toList))
  | _ => none
def eqB (op : BinOp) (b : Bool) : Option (Prop × AV) := match op with | .eql => some (True, .bool b) | .neq => some (True, .bool (!b)) | _ => none
def binA (u : Option TypeDesc) (op : BinOp) (x y : AV) : Option (Prop × AV) :=
  match x, y with
  | .int k a, .int k' b => match op with
    | .shl | .shr => shiftOp op k a b
    | _ => if k = k' then intOp op k a b else none
  | .str a, .str b => strOp op a b
  | .bool a, .bool b => match u with | some .bool => eqB op (a == b) | _ => none
  | .nilp, .nilp => match u with | some (.pointer _) => eqB op true | _ => none
  | .vp _ _, .nilp | .tp _ _ _ _ _, .nilp => match u with | some (.pointer _) => eqB op false | _ => none
  | _, _ => none
def unA (op : UnOp) (x : AV) : Option AV :=
  match op, x with
  | .not, .bool b => some (.bool (!b))
  | .neg, .int k n => some (.int k (k.wrap (0 - n)))
  | .xor, .int k n => some (.int k (k.wrap (BitVec.ofInt k.bits (if k.signed then -1 else k.max) ^^^ BitVec.ofInt k.bits n).toNat))
  | _, _ => none
def lenA : AV → Option AV
  | .sl _ _ _ n => some (.int .i64 n)
  | .ts _ xs => some (.int .i64 xs.length)
  | .nils => some (.int .i64 0)
  | .str s => some (.int .i64 s.size)
  | _ => none
def pickA (t : Bool) (a b : AV) : AV := match t with | true => a | false => b
def strAt (s : ByteArray) (i : Nat) : Int := ((s.data.toList.getD i 0).toNat : Int)
def indexAddrA (P : Program) (t : TypeId) (x i : AV) : Option (Prop × AV) :=
  match P.underlying t, x, i with
  | some (.slice e), .ts esz xs, .int _ j => some ((sizeT P e = esz ∨ xs = []) ∧ 0 ≤ j ∧ j < xs.length, .tp (sizeT P e) xs (zeroT P e) j.toNat 0)
  | some (.slice e), .sl id esz i0 n, .int _ j => some (sizeT P e = esz ∧ 0 ≤ j ∧ j < n, .rp id esz (zeroT P e) (i0 + j.toNat) 0)
  | some (.array n e), .vp id off, .int _ j => some (0 ≤ j ∧ j < n, .vp id (off + j.toNat * sizeT P e))
  | some (.array n e), .rp id esz d idx off, .int _ j => some (0 ≤ j ∧ j < n, .rp id esz d idx (off + j.toNat * sizeT P e))
  | some (.array n e), .tp esz xs d idx off, .int _ j => some (0 ≤ j ∧ j < n, .tp esz xs d idx (off + j.toNat * sizeT P e))
  | _, _, _ => none
def indexA (P : Program) (t : TypeId) (x i : AV) : Option (Prop × AV) :=
  match P.underlying t, x, i with
  | some .string, .str s, .int _ j => some (0 ≤ j ∧ j < s.size, .int .u8 (strAt s j.toNat))
  | some (.array n e), .agg cs, .int _ j => some (cs.length = n * sizeT P e ∧ 0 ≤ j ∧ j < n, partA P e (.agg cs) (j.toNat * sizeT P e))
  | _, _, _ => none
def fieldAddrA (P : Program) (t : TypeId) (x : AV) (f : Nat) : Option AV :=
  match fieldT P t f with
  | some (o, ft) => if sizeT P ft = 0 then none else match x with
    | .vp id off => some (.vp id (off + o))
    | .rp id esz d idx off => some (.rp id esz d idx (off + o))
    | .tp esz xs d idx off => some (.tp esz xs d idx (off + o))
    | _ => none
  | none => none
def loadA (P : Program) (t : TypeId) (σ : List Ob) : AV → Option (Prop × AV)
  | .tp _ xs d idx off => some (off + sizeT P t ≤ (cellsOf (xs.getD idx d)).length, partA P t (xs.getD idx d) off)
  | .rp id esz d idx off => match getO σ id with
    | .row _ esz' xs => some (esz' = esz ∧ idx < xs.length ∧ off + sizeT P t ≤ (cellsOf (xs.getD idx d)).length, partA P t (xs.getD idx d) off)
    | _ => none
  | .vp id off => match getO σ id with
    | .var v => some (off + sizeT P t ≤ (cellsOf v).length, partA P t v off)
    | _ => none
  | _ => none
def okStore : AV → Bool
  | .undef | .tup _ => false
  | _ => true
def storeA (P : Program) (t : TypeId) (σ : List Ob) (a x : AV) : Option (Prop × List Ob) :=
  if okStore x then
    match a with
    | .vp id off => match getO σ id with
      | .var v => some ((cellsOf x).length = sizeT P t ∧ off + sizeT P t ≤ (cellsOf v).length, σ.set id (.var (putPart v off x)))
      | _ => none
    | .rp id esz' d idx off => match getO (freezeL σ (refsA x)) id with
      | .row true esz xs => some (esz = esz' ∧ (cellsOf x).length = sizeT P t ∧ idx < xs.length ∧ off + sizeT P t ≤ (cellsOf (xs.getD idx d)).length, (freezeL σ (refsA x)).set id (.row true esz (xs.set idx (putPart (xs.getD idx d) off (treeA σ x)))))
      | _ => none
    | _ => none
  else none
def loI (x : Option AV) (n : Int) : Option Int := match x with | none => some n | some (.int _ l) => some l | _ => none
def sliceA (P : Program) (t : TypeId) (x : AV) (lo hi mx : Option AV) : Option (Prop × AV) :=
  match mx with
  | some (.int _ 0) => match hi, lo, P.underlying t, x with
    | some (.int _ 0), none, some (.slice _), .ts _ _ | some (.int _ 0), none, some (.slice _), .sl _ _ _ _ | some (.int _ 0), none, some (.slice _), .nils => some (True, .nils)
    | _, _, _, _ => none
  | some _ => none
  | none => match P.underlying t, x with
    | some .string, .str s => (loI lo 0).bind fun l => (loI hi s.size).map fun h => (0 ≤ l ∧ l ≤ h ∧ h ≤ s.size, .str (s.extract l.toNat h.toNat))
    | some (.slice e), .ts esz xs => (loI lo 0).bind fun l => (loI hi xs.length).map fun h => ((sizeT P e = esz ∨ xs = []) ∧ 0 ≤ l ∧ l ≤ h ∧ h ≤ xs.length, tsE (sizeT P e) ((xs.take h.toNat).drop l.toNat))
    | some (.slice e), .sl id esz i0 n => (loI lo 0).bind fun l => (loI hi n).map fun h => (sizeT P e = esz ∧ 0 ≤ l ∧ l ≤ h ∧ h ≤ n, .sl id esz (i0 + l.toNat) (h.toNat - l.toNat))
    | _, _ => none
def fillA (P : Program) (t : TypeId) (cs : List AV) : List (Nat × AV) → Option (List AV)
  | [] => some cs
  | (i, v) :: r =>
    match P.underlying t with
    | some (.struct _) => (fieldT P t i).bind fun (o, _) => fillA P t (splice cs o (cellsOf v)) r
    | some (.array _ e) => fillA P t (splice cs (i * sizeT P e) (cellsOf v)) r
    | _ => none
def fillOk (P : Program) (t : TypeId) (N : Nat) : List (Nat × AV) → Prop
  | [] => True
  | (i, v) :: r =>
    (match P.underlying t with
    | some (.struct _) => (match fieldT P t i with | some (o, ft) => (cellsOf v).length = sizeT P ft ∧ o + sizeT P ft ≤ N | none => False)
    | some (.array _ e) => (cellsOf v).length = sizeT P e ∧ i * sizeT P e + sizeT P e ≤ N
    | _ => False) ∧ okStore v = true ∧ fillOk P t N r
def setAll (xs : List AV) : List (Nat × AV) → List AV
  | [] => xs
  | (i, v) :: r => setAll (xs.set i v) r
def bytesS (s : ByteArray) : List AV := s.data.toList.map fun b => .int .u8 b.toNat
def strB (xs : List AV) : ByteArray := ⟨(xs.map fun v => match v with | .int _ n => UInt8.ofNat n.toNat | _ => 0).toArray⟩
def elemsA (E : Nat) (σ : List Ob) : AV → Option (List AV)
  | .ts esz xs => if esz = E then some xs else match xs with | [] => some [] | _ => none
  | .nils => some []
  | .sl id esz i0 n => match getO σ id with | .row _ esz' xs => if esz' = esz ∧ esz = E then some ((xs.drop i0).take n) else none | _ => none
  | .str s => if E = 1 then some (bytesS s) else none
  | _ => none
def slV (id esz n : Nat) : AV := if n = 0 then .nils else .sl id esz 0 n
def rowV (esz : Nat) (xs : List AV) : Ob := match xs with | [] => .none | x :: r => .row true esz (x :: r)
def bytesT (P : Program) (t : TypeId) : Nat := match (typeInfo t).run P default with | .ok i _ => i.bytes | _ => 0
def appendA (P : Program) (t : TypeId) (σ : List Ob) (s x : AV) : Option (Prop × AV × List Ob) :=
  (elemsA (sizeT P (elemT P t)) σ x).bind fun ys =>
  match s with
  | .nils => some (ys.length * bytesT P (elemT P t) ≤ 140737488355328, slV σ.length (sizeT P (elemT P t)) ys.length, σ ++ [rowV (sizeT P (elemT P t)) ys])
  | .sl id esz' 0 n => match getO σ id with
    | .row true esz xs => some (esz = esz' ∧ esz = sizeT P (elemT P t) ∧ (n + ys.length) * bytesT P (elemT P t) ≤ 140737488355328, .sl σ.length esz 0 (n + ys.length), σ.set id .none ++ [.row true esz (xs.take n ++ ys)])
    | _ => none
  | _ => none
def minA : AV → AV → Option AV
  | .int k a, .int _ b => some (.int k (if b < a then b else a))
  | _, _ => none
def maxA : AV → AV → Option AV
  | .int k a, .int _ b => some (.int k (if b > a then b else a))
  | _, _ => none
def lenU (u : Option TypeDesc) (a : AV) : Option AV :=
  match u with
  | some .string => match a with | .str s => some (.int .i64 s.size) | _ => none
  | some (.slice _) => match a with | .str _ => none | a => lenA a
  | _ => none
def isU8 (P : Program) (t : TypeId) : Bool := match P.underlying t with | some (.int .u8) => true | _ => false
def notStr : AV → Bool
  | .str _ => false
  | _ => true
def convA (P : Program) (src dst : TypeId) (σ : List Ob) (x : AV) : Option (Prop × AV × List Ob) :=
  match P.underlying src, P.underlying dst, x with
  | some (.int _), some (.int k), .int _ n => some (True, .int k (k.wrap n), σ)
  | some .string, some .string, .str s => some (True, .str s, σ)
  | some .string, some (.slice e), .str s => if isU8 P e then some (s.size ≤ 140737488355328, .sl σ.length 1 0 s.size, σ ++ [.row true 1 (bytesS s)]) else none
  | some (.slice e), some .string, x => if isU8 P e && notStr x then (elemsA 1 σ x).map fun ys => (ys = bytesS (strB ys), .str (strB ys), σ) else none
  | _, _, _ => none
def cellA : AV → Bool
  | .undef | .agg _ | .tup _ => false
  | _ => true
def stepA (P : Program) (op : Op) (s : St) : Option (Prop × AV × List Ob) :=
  match op with
  | .move x | .assign x => some (True, ev s.env x, s.σ)
  | .pick c a b => match ev s.env c with | .bool t => some (True, pickA t (ev s.env a) (ev s.env b), s.σ) | _ => none
  | .alloc t => some (okStore (zeroT P t) = true, .vp s.σ.length 0, s.σ ++ [.var (zeroT P t)])
  | .box _ x => some (okStore (ev s.env x) = true, .vp s.σ.length 0, s.σ ++ [.var (ev s.env x)])
  | .build t ps => (fillA P t (cellsOf (zeroT P t)) (ps.toList.map fun (i, x) => (i, ev s.env x))).map fun cs => (fillOk P t (cellsOf (zeroT P t)).length (ps.toList.map fun (i, x) => (i, ev s.env x)), .agg cs, s.σ)
  | .buildSlice t n ps =>
    let e := elemT P t
    some ((∀ p ∈ ps.toList, p.1 < n ∧ (cellsOf (ev s.env p.2)).length = sizeT P e ∧ okStore (ev s.env p.2) = true), (if n = 0 then .nils else .sl s.σ.length (sizeT P e) 0 n),
      freezeL s.σ (ps.toList.flatMap fun p => refsA (ev s.env p.2)) ++ [.row true (sizeT P e) (setAll (List.replicate n (zeroE P e)) (ps.toList.map fun (i, x) => (i, treeA s.σ (ev s.env x))))])
  | .load t a => (loadA P t s.σ (ev s.env a)).map fun (p, v) => (p, v, s.σ)
  | .store t a x => (storeA P t s.σ (ev s.env a) (ev s.env x)).map fun (p, σ) => (p, .undef, σ)
  | .nilCheck x => match ev s.env x with
    | .vp id off => some (True, .vp id off, s.σ)
    | .rp a b c d e => some (True, .rp a b c d e, s.σ)
    | .tp a b c d e => some (True, .tp a b c d e, s.σ)
    | .fn f cs => some (True, .fn f cs, s.σ)
    | _ => none
  | .binOp op t x y _ => (binA (P.underlying t) op (ev s.env x) (ev s.env y)).map fun (p, v) => (p, v, s.σ)
  | .unOp op _ x => (unA op (ev s.env x)).map fun v => (True, v, s.σ)
  | .convert src dst x => convA P src dst s.σ (ev s.env x)
  | .makeFunc (.func f) first caps => if first.size = 0 && (caps.toList.map (ev s.env)).all cellA then some (True, .fn f (caps.toList.map (ev s.env)), s.σ) else none
  | .makeSlice t l c => match ev s.env l, ev s.env c with
    | .int .i64 l, .int .i64 c => some (0 ≤ l ∧ l ≤ c ∧ c * bytesT P (elemT P t) ≤ 140737488355328, .sl s.σ.length (sizeT P (elemT P t)) 0 l.toNat, s.σ ++ [.row true (sizeT P (elemT P t)) (List.replicate l.toNat (zeroE P (elemT P t)))])
    | _, _ => none
  | .slice t x lo hi mx => (sliceA P t (ev s.env x) (lo.map (ev s.env)) (hi.map (ev s.env)) (mx.map (ev s.env))).map fun (p, v) => (p, v, s.σ)
  | .fieldAddr t x f => (fieldAddrA P t (ev s.env x) f).map fun v => (True, v, s.σ)
  | .field t x f => match fieldT P t f, ev s.env x with | some (o, ft), .agg cs => some (o + sizeT P ft ≤ cs.length, partA P ft (.agg cs) o, s.σ) | _, _ => none
  | .indexAddr t x i => (indexAddrA P t (ev s.env x) (ev s.env i)).map fun (p, v) => (p, v, s.σ)
  | .index t x i => (indexA P t (ev s.env x) (ev s.env i)).map fun (p, v) => (p, v, s.σ)
  | .extract x i => match ev s.env x with | .tup vs => (vs[i]?).map fun v => (True, v, s.σ) | _ => none
  | .call { callee := .builtin .len, args, argTypes } => match args.toList, argTypes.toList with | [x], [t] => (lenU (P.underlying t) (ev s.env x)).map fun v => (True, v, s.σ) | _, _ => none
  | .call { callee := .builtin .min, args, .. } => match args.toList with | [x, y] => (minA (ev s.env x) (ev s.env y)).map fun v => (True, v, s.σ) | _ => none
  | .call { callee := .builtin .max, args, .. } => match args.toList with | [x, y] => (maxA (ev s.env x) (ev s.env y)).map fun v => (True, v, s.σ) | _ => none
  | .call { callee := .builtin .append, args, argTypes } => match args.toList, argTypes.toList with
    | [a, x], [t, u] => match P.underlying u with
      | some (.slice _) | some .string => appendA P t s.σ (ev s.env a) (ev s.env x)
      | _ => none
    | _, _ => none
  | _ => none
def guardT (ops : Array Oper) : Option (Nat × Bool) → Option (Tmp × Bool)
  | none => none
  | some (j, want) => match (ops[j]?).bind (·.dst) with | some t => some (t, want) | none => none
def callOf (e : Env) : Op → Option (FuncId × List AV)
  | .call { callee := .value f, args, .. } => match ev e f with
    | .fn g caps => some (g, args.toList.map (ev e) ++ caps)
    | _ => none
  | _ => none
def isCall : Op → Bool
  | .call { callee := .value _, .. } => true
  | _ => false
end Go.AM
end
section
namespace Go.AM
def blk (w : World) (b : Nat) : Option (Array Value) := match w.heap[b]? with | some (.cells c _ _) => some c | _ => none
theorem blk_cell {w : World} {b : Nat} {arr : Array Value} (h : blk w b = some arr) (o : Nat) : w.cell? ⟨b, o, none⟩ = arr[o]? := by
  unfold blk at h
  unfold World.cell?
  cases hb : w.heap[b]? with
  | none => simp [hb] at h
  | some x => cases x <;> simp [hb] at h; subst h; simp
theorem blk_lt {w : World} {b : Nat} {arr : Array Value} (h : blk w b = some arr) : b < w.heap.size := by
  unfold blk at h
  cases hb : w.heap[b]? with
  | none => simp [hb] at h
  | some x => exact (Array.getElem?_eq_some_iff.1 hb).1
theorem blk_same {w w' : World} {b : Nat} (h : w'.heap[b]? = w.heap[b]?) : blk w' b = blk w b := by simp [blk, h]
inductive CR (w : World) (Fz : Nat → Prop) : Value → AV → Prop
  | undef (v : Value) : v.oneCell' = true → CR w Fz v .undef
  | int (k n) : CR w Fz (.int k n) (.int k n)
  | bool (b) : CR w Fz (.bool b) (.bool b)
  | str (s) : CR w Fz (.string s) (.str s)
  | nilp : CR w Fz (.pointer none) .nilp
  | nilf : CR w Fz .nilFunc .nilf
  | ts0 (o cap esz) : CR w Fz (.slice o 0 cap) (.ts esz [])
  | ts {b off len cap esz : Nat} {xs : List AV} (arr : Array Value) : Fz b → blk w b = some arr → xs.length = len → len ≤ cap → off + len * esz ≤ arr.size →
      (∀ j, j < xs.length → (cellsOf (xs.getD j .undef)).length = esz) →
      (∀ j c, j < xs.length → c < esz → CR w Fz (arr.getD (off + j * esz + c) .nilIface) ((cellsOf (xs.getD j .undef)).getD c .undef)) →
      CR w Fz (.slice (some ⟨b, off, none⟩) len cap) (.ts esz xs)
  | tp {b off0 esz idx off : Nat} {xs : List AV} {d : AV} (arr : Array Value) : Fz b → blk w b = some arr → idx < xs.length → off0 + xs.length * esz ≤ arr.size →
      (∀ j, j < xs.length → (cellsOf (xs.getD j .undef)).length = esz) →
      (∀ j c, j < xs.length → c < esz → CR w Fz (arr.getD (off0 + j * esz + c) .nilIface) ((cellsOf (xs.getD j .undef)).getD c .undef)) →
      CR w Fz (.pointer (some ⟨b, off0 + idx * esz + off, none⟩)) (.tp esz xs d idx off)
  | fn {f : FuncId} {vs : Array Value} {caps : List AV} : vs.size = caps.length → (∀ j, j < caps.length → CR w Fz (vs.getD j .nilIface) (caps.getD j .undef)) → CR w Fz (.func (.func f) #[] vs) (.fn f caps)
theorem CR.tsE {w Fz v esz xs} (h : CR w Fz v (.ts esz xs)) : CR w Fz v (tsE esz xs) := by
  cases xs with
  | nil =>
    cases h with
    | ts0 => exact .ts0 _ _ _
    | ts arr h1 h2 h3 => cases h3; exact .ts0 _ _ _
  | cons x r => exact h
theorem CR.one {w Fz v d} (h : CR w Fz v d) : v.oneCell' = true := by cases h <;> first | rfl | assumption
inductive VC (w : World) (Fz : Nat → Prop) (ρ : Nat → Nat × Nat) (n : Nat) : Value → AV → Prop
  | cr {v d} : CR w Fz v d → VC w Fz ρ n v d
  | vp (id off) : id < n → VC w Fz ρ n (.pointer (some ⟨(ρ id).1, off, none⟩)) (.vp id off)
  | rp (id esz d idx off) : id < n → VC w Fz ρ n (.pointer (some ⟨(ρ id).1, idx * esz + off, none⟩)) (.rp id esz d idx off)
  | sl0 (o id esz i0) : id < n → VC w Fz ρ n (.slice o 0 0) (.sl id esz i0 0)
  | sl (id esz i0 len cap) : id < n → len ≤ cap → i0 + len ≤ (ρ id).2 → (∃ arr, blk w (ρ id).1 = some arr ∧ (i0 + cap) * esz ≤ arr.size) → VC w Fz ρ n (.slice (some ⟨(ρ id).1, i0 * esz, none⟩) len cap) (.sl id esz i0 len)
  | nils (o) : VC w Fz ρ n (.slice o 0 0) .nils
  | fn {f : FuncId} {vs : Array Value} {caps : List AV} : vs.size = caps.length → (∀ j, j < caps.length → VC w Fz ρ n (vs.getD j .nilIface) (caps.getD j .undef)) → VC w Fz ρ n (.func (.func f) #[] vs) (.fn f caps)
theorem VC.one {w Fz ρ n v d} (h : VC w Fz ρ n v d) : v.oneCell' = true := by cases h <;> first | rfl | exact CR.one ‹_›
def V1 (w : World) (Fz : Nat → Prop) (ρ : Nat → Nat × Nat) (n : Nat) (v : Value) (d : AV) : Prop :=
  match d with
  | .undef => True
  | .agg cs => ∃ arr : Array Value, v = .agg arr ∧ arr.size = cs.length ∧ ∀ j, j < cs.length → VC w Fz ρ n (arr.getD j .nilIface) (cs.getD j .undef)
  | .tup _ => False
  | d => VC w Fz ρ n v d
def VR (w : World) (Fz : Nat → Prop) (ρ : Nat → Nat × Nat) (n : Nat) (v : Value) (d : AV) : Prop :=
  match d with
  | .tup ds => ∃ vs : Array Value, v = .tuple vs ∧ vs.size = ds.length ∧ ∀ j, j < ds.length → V1 w Fz ρ n (vs.getD j .nilIface) (ds.getD j .undef)
  | d => V1 w Fz ρ n v d
def Free (arr : Array Value) (fr : Nat × Nat) : Prop := arr.size ≤ fr.1 ∨ fr.2 ≤ fr.1
def ObR (w : World) (Fz : Nat → Prop) (ρ : Nat → Nat × Nat) (n : Nat) (b : Nat × Nat) : Ob → Prop
  | .none => True
  | .var v => ∃ arr e fr, w.heap[b.1]? = some (.cells arr e fr) ∧ Free arr fr ∧ ¬ Fz b.1 ∧ (cellsOf v).length ≤ arr.size ∧ okStore v = true ∧ ∀ j, j < (cellsOf v).length → VC w Fz ρ n (arr.getD j .nilIface) ((cellsOf v).getD j .undef)
  | .row live esz xs => ∃ arr e fr, w.heap[b.1]? = some (.cells arr e fr) ∧ Free arr fr ∧ (live = true → ¬ Fz b.1) ∧ (live = false → Fz b.1) ∧ xs.length = b.2 ∧ xs.length * esz ≤ arr.size ∧
      (∀ j, j < xs.length → (cellsOf (xs.getD j .undef)).length = esz) ∧
      (∀ j c, j < xs.length → c < esz → CR w Fz (arr.getD (j * esz + c) .nilIface) ((cellsOf (xs.getD j .undef)).getD c .undef))
def wr : Ob → Bool
  | .var _ => true
  | .row live _ _ => live
  | .none => false
def some' : Ob → Bool
  | .none => false
  | _ => true
structure Rel (Fz : Nat → Prop) (ρ : Nat → Nat × Nat) (σ : List Ob) (w : World) : Prop where
  fz : ∀ b, Fz b → b < w.heap.size
  ob : ∀ id, ObR w Fz ρ σ.length (ρ id) (getO σ id)
  sep : ∀ id id', id ≠ id' → wr (getO σ id) = true → some' (getO σ id') = true → (ρ id').1 ≠ (ρ id).1
structure Ext (Fz : Nat → Prop) (ρ : Nat → Nat × Nat) (σ : List Ob) (w : World) (Fz' : Nat → Prop) (ρ' : Nat → Nat × Nat) (σ' : List Ob) (w' : World) : Prop where
  os : w'.os = w.os
  tape : w'.tape = w.tape
  output : w'.output = w.output
  size : w.heap.size ≤ w'.heap.size
  len : σ.length ≤ σ'.length
  rho : ∀ id, id < σ.length → ρ' id = ρ id
  fz : ∀ b, Fz b → Fz' b
  fznew : ∀ b, Fz' b → Fz b ∨ w.heap.size ≤ b ∨ ∃ id, id < σ.length ∧ wr (getO σ id) = true ∧ (ρ id).1 = b
  wrold : ∀ id, id < σ.length → wr (getO σ' id) = true → wr (getO σ id) = true
  wrnew : ∀ id, σ.length ≤ id → wr (getO σ' id) = true → w.heap.size ≤ (ρ' id).1 ∨ ∃ i, i < σ.length ∧ wr (getO σ i) = true ∧ (ρ i).1 = (ρ' id).1
  keep : ∀ b, b < w.heap.size → (∀ id, id < σ.length → wr (getO σ id) = true → (ρ id).1 ≠ b) → w'.heap[b]? = w.heap[b]?
  sizes : ∀ (b : Nat) (arr : Array Value), blk w b = some arr → ∃ arr' : Array Value, blk w' b = some arr' ∧ arr'.size = arr.size
theorem getO_ge {σ : List Ob} {id : Nat} (h : σ.length ≤ id) : getO σ id = .none := by simp [getO, List.getD, List.getElem?_eq_none h]
theorem Ext.refl (Fz ρ σ w) : Ext Fz ρ σ w Fz ρ σ w where
  os := rfl
  tape := rfl
  output := rfl
  size := Nat.le_refl _
  len := Nat.le_refl _
  rho := fun _ _ => rfl
  fz := fun _ h => h
  fznew := fun _ h => .inl h
  wrold := fun _ _ h => h
  wrnew := fun id h1 h2 => by
    rw [getO_ge h1] at h2
    cases h2
  keep := fun _ _ _ => rfl
  sizes := fun _ arr h => ⟨arr, h, rfl⟩
theorem Ext.trans {Fz ρ σ w Fz1 ρ1 σ1 w1 Fz2 ρ2 σ2 w2} (h : Ext Fz ρ σ w Fz1 ρ1 σ1 w1) (k : Ext Fz1 ρ1 σ1 w1 Fz2 ρ2 σ2 w2) : Ext Fz ρ σ w Fz2 ρ2 σ2 w2 where
  os := k.os.trans h.os
  tape := k.tape.trans h.tape
  output := k.output.trans h.output
  size := Nat.le_trans h.size k.size
  len := Nat.le_trans h.len k.len
  rho := fun id hi => (k.rho id (Nat.lt_of_lt_of_le hi h.len)).trans (h.rho id hi)
  fz := fun b hb => k.fz b (h.fz b hb)
  fznew := fun b hb => by
    rcases k.fznew b hb with h1 | h1 | ⟨id, hi, hw, rfl⟩
    · exact h.fznew b h1
    · exact .inr (.inl (Nat.le_trans h.size h1))
    · by_cases hid : id < σ.length
      · exact .inr (.inr ⟨id, hid, h.wrold id hid hw, by rw [h.rho id hid]⟩)
      · rcases h.wrnew id (Nat.le_of_not_lt hid) hw with h2 | ⟨i, h3, h4, h5⟩
        · exact .inr (.inl h2)
        · exact .inr (.inr ⟨i, h3, h4, h5⟩)
  wrold := fun id hi hw => h.wrold id hi (k.wrold id (Nat.lt_of_lt_of_le hi h.len) hw)
  wrnew := fun id hi hw => by
    by_cases hid : id < σ1.length
    · have hw1 := k.wrold id hid hw
      rw [k.rho id hid]
      exact h.wrnew id hi hw1
    · rcases k.wrnew id (Nat.le_of_not_lt hid) hw with h2 | ⟨i, h3, h4, h5⟩
      · exact .inl (Nat.le_trans h.size h2)
      · by_cases hii : i < σ.length
        · exact .inr ⟨i, hii, h.wrold i hii h4, by rw [← h5, h.rho i hii]⟩
        · rw [← h5]
          exact h.wrnew i (Nat.le_of_not_lt hii) h4
  keep := fun b hb hn => by
    rw [k.keep b (Nat.lt_of_lt_of_le hb h.size) ?_, h.keep b hb hn]
    intro id hid hw heq
    by_cases hi : id < σ.length
    · exact hn id hi (h.wrold id hi hw) (by rw [← heq, h.rho id hi])
    · rcases h.wrnew id (Nat.le_of_not_lt hi) hw with h2 | ⟨i, h3, h4, h5⟩
      · omega
      · exact hn i h3 h4 (h5.trans heq)
  sizes := fun b arr hb => by
    obtain ⟨arr1, h1, e1⟩ := h.sizes b arr hb
    obtain ⟨arr2, h2, e2⟩ := k.sizes b arr1 h1
    exact ⟨arr2, h2, e2.trans e1⟩
theorem CR.mono {w Fz w' Fz' v d} (hf : ∀ b, Fz b → Fz' b) (hk : ∀ b, Fz b → blk w' b = blk w b) (h : CR w Fz v d) : CR w' Fz' v d := by
  induction h with
  | undef v h => exact .undef v h
  | int => exact .int _ _
  | bool => exact .bool _
  | str => exact .str _
  | nilp => exact .nilp
  | nilf => exact .nilf
  | ts0 => exact .ts0 _ _ _
  | ts arr h1 h2 h3 h7 h4 h5 _ ih => exact .ts arr (hf _ h1) ((hk _ h1).trans h2) h3 h7 h4 h5 ih
  | tp arr h1 h2 h3 h4 h5 _ ih => exact .tp arr (hf _ h1) ((hk _ h1).trans h2) h3 h4 h5 ih
  | fn h1 _ ih => exact .fn h1 ih
theorem getO_lt {σ : List Ob} {id : Nat} (h : some' (getO σ id) = true) : id < σ.length := by
  rcases Nat.lt_or_ge id σ.length with h1 | h1
  · exact h1
  · rw [getO_ge h1] at h; cases h
theorem wr_some {o : Ob} (h : wr o = true) : some' o = true := by cases o <;> simp_all [wr, some']
theorem Rel.fz_ne {Fz ρ σ w} (h : Rel Fz ρ σ w) {b : Nat} (hb : Fz b) {id : Nat} (hw : wr (getO σ id) = true) : (ρ id).1 ≠ b := by
  intro e
  have ho := h.ob id
  cases hg : getO σ id with
  | none => simp [hg, wr] at hw
  | var v => rw [hg] at ho; obtain ⟨_, _, _, _, _, hn, _⟩ := ho; exact hn (e ▸ hb)
  | row live esz xs => rw [hg] at ho hw; simp [wr] at hw; obtain ⟨_, _, _, _, _, hn, _⟩ := ho; exact hn hw (e ▸ hb)
theorem Ext.kept {Fz ρ σ w Fz' ρ' σ' w'} (h : Ext Fz ρ σ w Fz' ρ' σ' w') (r : Rel Fz ρ σ w) : ∀ b, Fz b → blk w' b = blk w b :=
  fun b hb => blk_same (h.keep b (r.fz b hb) fun _ _ hw => r.fz_ne hb hw)
theorem CR.ext {Fz ρ σ w Fz' ρ' σ' w' v d} (h : Ext Fz ρ σ w Fz' ρ' σ' w') (r : Rel Fz ρ σ w) (hc : CR w Fz v d) : CR w' Fz' v d := hc.mono h.fz (h.kept r)
theorem VC.ext {Fz ρ σ w Fz' ρ' σ' w' v d} (h : Ext Fz ρ σ w Fz' ρ' σ' w') (r : Rel Fz ρ σ w) (hc : VC w Fz ρ σ.length v d) : VC w' Fz' ρ' σ'.length v d := by
  induction hc with
  | cr hc => exact .cr (hc.ext h r)
  | vp id off hi => rw [← h.rho id hi]; exact .vp id off (Nat.lt_of_lt_of_le hi h.len)
  | rp id esz d idx off hi => rw [← h.rho id hi]; exact .rp id esz d idx off (Nat.lt_of_lt_of_le hi h.len)
  | sl0 o id esz i0 hi => exact .sl0 o id esz i0 (Nat.lt_of_lt_of_le hi h.len)
  | sl id esz i0 len cap hi hc hk hs =>
    rw [← h.rho id hi]
    obtain ⟨arr, ha, hs⟩ := hs
    obtain ⟨arr', h1, h2⟩ := h.sizes _ arr ha
    exact .sl id esz i0 len cap (Nat.lt_of_lt_of_le hi h.len) hc (by rw [h.rho id hi]; exact hk) ⟨arr', by rw [h.rho id hi]; exact h1, by omega⟩
  | nils o => exact .nils o
  | fn h1 _ ih => exact .fn h1 ih
theorem V1.ext {Fz ρ σ w Fz' ρ' σ' w' v d} (h : Ext Fz ρ σ w Fz' ρ' σ' w') (r : Rel Fz ρ σ w) (hc : V1 w Fz ρ σ.length v d) : V1 w' Fz' ρ' σ'.length v d := by
  cases d <;> first
    | exact trivial
    | exact hc.elim
    | (obtain ⟨arr, e, hs, hj⟩ := hc; exact ⟨arr, e, hs, fun j hl => (hj j hl).ext h r⟩)
    | exact VC.ext h r hc
theorem VR.of1 {w Fz ρ n v d} (h : V1 w Fz ρ n v d) : VR w Fz ρ n v d := by cases d <;> first | exact h | exact h.elim
theorem VR.to1 {w Fz ρ n v d} (h : VR w Fz ρ n v d) (hd : ∀ vs, d ≠ .tup vs) : V1 w Fz ρ n v d := by cases d <;> first | exact h | exact absurd rfl (hd _)
theorem VR.ext {Fz ρ σ w Fz' ρ' σ' w' v d} (h : Ext Fz ρ σ w Fz' ρ' σ' w') (r : Rel Fz ρ σ w) (hc : VR w Fz ρ σ.length v d) : VR w' Fz' ρ' σ'.length v d := by
  by_cases hd : ∃ vs, d = .tup vs
  · obtain ⟨vs, rfl⟩ := hd
    obtain ⟨arr, e, hs, hj⟩ := hc
    exact ⟨arr, e, hs, fun j hl => (hj j hl).ext h r⟩
  · exact VR.of1 (V1.ext h r (hc.to1 fun vs e => hd ⟨vs, e⟩))
end Go.AM
end
section
namespace Go.AM
def StepOk (P : Program) (m : Sem Next) (w : World) (Fz : Nat → Prop) (ρ : Nat → Nat × Nat) (σ : List Ob) (d : AV) (σ' : List Ob) : Prop :=
  ∃ nx w' Fz' ρ', m.run P w = .ok nx w' ∧ ((∃ v, nx = .value v ∧ VR w' Fz' ρ' σ'.length v d) ∨ (nx = .skip ∧ d = .undef)) ∧ Rel Fz' ρ' σ' w' ∧ Ext Fz ρ σ w Fz' ρ' σ' w'
theorem StepOk.quiet {P m w Fz ρ σ d} (v : Value) (h : m.run P w = .ok (.value v) w) (hr : Rel Fz ρ σ w) (hv : VR w Fz ρ σ.length v d) : StepOk P m w Fz ρ σ d σ :=
  ⟨_, w, Fz, ρ, h, .inl ⟨v, rfl, hv⟩, hr, Ext.refl _ _ _ _⟩
section
variable {w : World} {Fz : Nat → Prop} {ρ : Nat → Nat × Nat} {n : Nat}
theorem VR.int_iff {v k i} : VR w Fz ρ n v (.int k i) ↔ v = .int k i := by
  constructor
  · intro h
    cases (show VC w Fz ρ n v (.int k i) from h) with
    | cr h => cases h; rfl
  · rintro rfl; exact VC.cr (.int _ _)
theorem VR.bool_iff {v b} : VR w Fz ρ n v (.bool b) ↔ v = .bool b := by
  constructor
  · intro h
    cases (show VC w Fz ρ n v (.bool b) from h) with
    | cr h => cases h; rfl
  · rintro rfl; exact VC.cr (.bool _)
theorem VR.str_iff {v s} : VR w Fz ρ n v (.str s) ↔ v = .string s := by
  constructor
  · intro h
    cases (show VC w Fz ρ n v (.str s) from h) with
    | cr h => cases h; rfl
  · rintro rfl; exact VC.cr (.str _)
theorem VR.nilp_iff {v} : VR w Fz ρ n v .nilp ↔ v = .pointer none := by
  constructor
  · intro h
    cases (show VC w Fz ρ n v .nilp from h) with
    | cr h => cases h; rfl
  · rintro rfl; exact VC.cr .nilp
theorem VC.ofV {v : Value} (h : v.oneCell' = true) : VC w Fz ρ n v (ofV v) := by
  unfold AM.ofV
  split <;> first
    | exact .cr (.int _ _)
    | exact .cr (.bool _)
    | exact .cr (.str _)
    | exact .cr .nilp
    | exact .nils _
    | exact .cr .nilf
    | exact .cr (.undef _ h)
theorem V1.of_VC {v d} (h : VC w Fz ρ n v d) : V1 w Fz ρ n v d := by
  cases d <;> first
    | exact h
    | exact trivial
    | (exfalso; cases h with | cr h => cases h)
theorem VR.of_VC {v d} (h : VC w Fz ρ n v d) : VR w Fz ρ n v d := VR.of1 (V1.of_VC h)
theorem VR.ofV (v : Value) : VR w Fz ρ n v (ofV v) := by
  cases h : v.oneCell' with
  | true => exact VR.of_VC (VC.ofV h)
  | false => cases v <;> first | exact trivial | simp [Value.oneCell'] at h
theorem VR.undef (v : Value) : VR w Fz ρ n v .undef := trivial
theorem V1.to_VC {v d} (h : V1 w Fz ρ n v d) (h1 : ∀ cs, d ≠ .agg cs) (h2 : d ≠ .undef) : VC w Fz ρ n v d := by
  cases d <;> first
    | exact h
    | exact absurd rfl h2
    | exact absurd rfl (h1 _)
    | exact h.elim
end
def EnvR (w : World) (Fz : Nat → Prop) (ρ : Nat → Nat × Nat) (n : Nat) (a : Act) (e : Env) : Prop :=
  ∀ t, VR w Fz ρ n (a.tmps.getD t Go.undef) (getE e t)
theorem EnvR.ev {w Fz ρ n a e} (h : EnvR w Fz ρ n a e) (x : Operand) : VR w Fz ρ n (a.eval x) (AM.ev e x) := by
  cases x with
  | tmp t => exact h t
  | const v => exact VR.ofV v
  | global g => exact trivial
  | func f => exact VR.of_VC (VC.fn (by rfl) (fun j hj => absurd hj (by simp)))
theorem EnvR.ext {Fz ρ σ w Fz' ρ' σ' w' a e} (h : EnvR w Fz ρ σ.length a e) (x : Ext Fz ρ σ w Fz' ρ' σ' w') (r : Rel Fz ρ σ w) : EnvR w' Fz' ρ' σ'.length a e :=
  fun t => (h t).ext x r
theorem EnvR.put {w Fz ρ n a e} (h : EnvR w Fz ρ n a e) (d : Option Tmp) (hd : ∀ t, d = some t → t < a.tmps.size) {v : Value} {x : AV} (hv : VR w Fz ρ n v x) : EnvR w Fz ρ n (a.put d v) (putE e d x) := by
  cases d with
  | none => exact h
  | some t =>
    intro u
    have ht := hd t rfl
    simp only [Act.put, putE, getE]
    by_cases hu : t = u
    · subst hu; simp [ht]; exact hv
    · have := h u
      simp only [Array.getD_eq_getD_getElem?] at this ⊢
      rw [if_neg hu, Array.getElem?_setIfInBounds_ne hu]; exact this
theorem EnvR.keep {w Fz ρ n a e} (h : EnvR w Fz ρ n a e) (V : List Nat) : EnvR w Fz ρ n a (keepE V e) := by
  intro t
  have : getE (keepE V e) t = if t ∈ V then getE e t else .undef := by
    unfold keepE
    induction V with
    | nil => simp [getE]
    | cons k V ih =>
      simp only [List.map_cons, getE]
      by_cases hk : k = t
      · subst hk; simp
      · rw [if_neg hk, ih]; simp [Ne.symm hk]
  rw [this]
  split
  · exact h t
  · exact trivial
section quiet
variable {P : Program} {w : World} {Fz : Nat → Prop} {ρ : Nat → Nat × Nat} {σ : List Ob}
theorem intOp_ok {op k x y p d} (h : intOp op k x y = some (p, d)) (hp : p) : ∃ v, (binOp op 0 (.int k x) (.int k y) : Sem Value).run P w = .ok v w ∧ VR w Fz ρ σ.length v d := by
  cases op <;> simp only [intOp, Option.some.injEq, Prod.mk.injEq, reduceCtorEq] at h
  all_goals (try (obtain ⟨rfl, rfl⟩ := h))
  all_goals first
    | exact ⟨_, by simp only [binOp, ne_eq, not_true_eq_false, if_false]; rfl, VR.int_iff.2 rfl⟩
    | exact ⟨_, by simp only [binOp, ne_eq, not_true_eq_false, if_false]; rfl, VR.bool_iff.2 rfl⟩
    | exact ⟨_, by simp only [binOp, ne_eq, not_true_eq_false, if_false]; simp only [Op.intDiv, if_neg hp]; rfl, VR.int_iff.2 rfl⟩
theorem strOp_ok {op x y p d} (h : strOp op x y = some (p, d)) (hp : p) : ∃ v, (Op.stringOp op x y).run P w = .ok v w ∧ VR w Fz ρ σ.length v d := by
  cases op <;> simp only [strOp, Option.some.injEq, Prod.mk.injEq, reduceCtorEq] at h
  all_goals (try (obtain ⟨rfl, rfl⟩ := h))
  case add =>
    refine ⟨.string (x ++ y), ?_, VR.str_iff.2 rfl⟩
    have : ¬ (((x.size + y.size : Nat) : Int) > IntKind.i64.max) := by
      have : IntKind.i64.max = 9223372036854775807 := by decide
      omega
    simp only [Op.stringOp, if_neg this]; rfl
  all_goals first
    | exact ⟨_, rfl, VR.bool_iff.2 rfl⟩
    | exact False.elim (by simpa using h)
theorem eq_bool {t : TypeId} (hu : P.underlying t = some .bool) (a b : Bool) : (Op.equal t (.bool a) (.bool b)).run P w = .ok (a == b) w := by
  show (Op.equalIn (9999 + 1) t _ _).run P w = _
  rw [Op.equalIn]; simp only [Sem.run_bind, run_underlying hu, Result.andThen_ok]; rfl
theorem eq_ptr {t e : TypeId} (hu : P.underlying t = some (.pointer e)) (a : Option Addr) : (Op.equal t (.pointer a) (.pointer none)).run P w = .ok a.isNone w := by
  show (Op.equalIn (9999 + 1) t _ _).run P w = _
  rw [Op.equalIn]; simp only [Sem.run_bind, run_underlying hu, Result.andThen_ok]; cases a <;> rfl
theorem eqB_ok {o : BinOp} {t : TypeId} {vx vy : Value} {b : Bool} {p : Prop} {d : AV} (h : eqB o b = some (p, d)) (he : (Op.equal t vx vy).run P w = .ok b w)
    (hx : ∀ k n, vx ≠ .int k n) (hf : ∀ k n, vx ≠ .float k n) (hc : ∀ k n m, vx ≠ .complex k n m) (hs : ∀ s, vx ≠ .string s) : ∃ v, (binOp o t vx vy : Sem Value).run P w = .ok v w ∧ VR w Fz ρ σ.length v d := by
  cases o <;> simp only [eqB, Option.some.injEq, Prod.mk.injEq, reduceCtorEq] at h
  all_goals (obtain ⟨rfl, rfl⟩ := h)
  all_goals (refine ⟨_, ?_, VR.bool_iff.2 rfl⟩)
  all_goals (cases vx <;> first | exact absurd rfl (hx _ _) | exact absurd rfl (hf _ _) | exact absurd rfl (hc _ _ _) | exact absurd rfl (hs _) | simp [binOp, he])
theorem bin_ok {o : BinOp} {t : TypeId} {x y : Operand} {vx vy : Value} {a b : AV} {p : Prop} {d : AV}
    (ha : VR w Fz ρ σ.length vx a) (hb : VR w Fz ρ σ.length vy b) (h : binA (P.underlying t) o a b = some (p, d)) (hp : p) :
    ∃ v, (do eqGuard o t x y vx vy; binOp o t vx vy : Sem Value).run P w = .ok v w ∧ VR w Fz ρ σ.length v d := by
  unfold binA at h
  split at h
  · rename_i k i k' j
    obtain rfl := VR.int_iff.1 ha
    obtain rfl := VR.int_iff.1 hb
    have hg : (eqGuard o t x y (.int k i) (.int k' j)).run P w = .ok () w := by unfold eqGuard; split <;> rfl
    simp only [Sem.run_bind, hg, Result.andThen_ok]
    split at h
    · simp only [shiftOp, Option.some.injEq, Prod.mk.injEq] at h
      obtain ⟨rfl, rfl⟩ := h
      refine ⟨_, ?_, VR.int_iff.2 rfl⟩
      have : ¬ j < 0 := by omega
      simp only [binOp, Op.shift, if_neg this]; rfl
    · simp only [shiftOp, Option.some.injEq, Prod.mk.injEq] at h
      obtain ⟨rfl, rfl⟩ := h
      refine ⟨_, ?_, VR.int_iff.2 rfl⟩
      have : ¬ j < 0 := by omega
      simp only [binOp, Op.shift, if_neg this]; rfl
    · rename_i hs1 hs2
      split at h
      · rename_i hk
        subst hk
        obtain ⟨v, h1, h2⟩ := intOp_ok (P := P) (w := w) (Fz := Fz) (ρ := ρ) (σ := σ) h hp
        refine ⟨v, ?_, h2⟩
        rw [← h1]
        cases o <;> first | rfl | exact absurd rfl hs1 | exact absurd rfl hs2
      · cases h
  · rename_i s1 s2
    obtain rfl := VR.str_iff.1 ha
    obtain rfl := VR.str_iff.1 hb
    have hg : (eqGuard o t x y (.string s1) (.string s2)).run P w = .ok () w := by unfold eqGuard; split <;> rfl
    simp only [Sem.run_bind, hg, Result.andThen_ok]
    obtain ⟨v, h1, h2⟩ := strOp_ok (P := P) (w := w) (Fz := Fz) (ρ := ρ) (σ := σ) h hp
    exact ⟨v, by cases o <;> exact h1, h2⟩
  · rename_i b1 b2
    obtain rfl := VR.bool_iff.1 ha
    obtain rfl := VR.bool_iff.1 hb
    split at h
    · rename_i hu
      have hg : (eqGuard o t x y (.bool b1) (.bool b2)).run P w = .ok () w := by unfold eqGuard; split <;> rfl
      simp only [Sem.run_bind, hg, Result.andThen_ok]
      exact eqB_ok h (eq_bool hu _ _) (by simp) (by simp) (by simp) (by simp)
    · cases h
  · obtain rfl := VR.nilp_iff.1 ha
    obtain rfl := VR.nilp_iff.1 hb
    split at h
    · rename_i e hu
      have hg : (eqGuard o t x y (.pointer none) (.pointer none)).run P w = .ok () w := by unfold eqGuard; split <;> rfl
      simp only [Sem.run_bind, hg, Result.andThen_ok]
      exact eqB_ok h (eq_ptr hu _) (by simp) (by simp) (by simp) (by simp)
    · cases h
  · rename_i i off
    obtain rfl := VR.nilp_iff.1 hb
    cases (show VC w Fz ρ σ.length vx (.vp i off) from ha) with
    | cr hc => cases hc
    | vp _ _ hi =>
      split at h
      · rename_i e hu
        have hg : (eqGuard o t x y (.pointer (some ⟨(ρ i).1, off, none⟩)) (.pointer none)).run P w = .ok () w := by unfold eqGuard; split <;> rfl
        simp only [Sem.run_bind, hg, Result.andThen_ok]
        exact eqB_ok h (eq_ptr hu _) (by simp) (by simp) (by simp) (by simp)
      · cases h
  · rename_i e xs dd i off
    obtain rfl := VR.nilp_iff.1 hb
    cases (show VC w Fz ρ σ.length vx (.tp e xs dd i off) from ha) with
    | cr hc =>
      cases hc with
      | tp arr h1 h2 h3 h4 h5 h6 =>
        split at h
        · rename_i e hu
          simp only [Sem.run_bind]
          rw [show ∀ z, (eqGuard o t x y (.pointer (some z)) (.pointer none)).run P w = .ok () w from fun z => by unfold eqGuard; split <;> rfl]
          simp only [Result.andThen_ok]
          exact eqB_ok h (eq_ptr hu _) (by simp) (by simp) (by simp) (by simp)
        · cases h
  · cases h
theorem un_ok {o : UnOp} {x : Value} {a d : AV} (ha : VR w Fz ρ σ.length x a) (h : unA o a = some d) : ∃ v, (Op.unary o x).run P w = .ok v w ∧ VR w Fz ρ σ.length v d := by
  unfold unA at h
  split at h
  · obtain rfl := VR.bool_iff.1 ha; cases h; exact ⟨_, rfl, VR.bool_iff.2 rfl⟩
  · obtain rfl := VR.int_iff.1 ha; cases h; exact ⟨_, rfl, VR.int_iff.2 rfl⟩
  · obtain rfl := VR.int_iff.1 ha; cases h; exact ⟨_, rfl, VR.int_iff.2 rfl⟩
  · cases h
theorem len_ok {t ty : TypeId} {x : Value} {a d : AV} (ht : P.underlying t = some .string ∨ ∃ e, P.underlying t = some (.slice e)) (ha : VR w Fz ρ σ.length x a) (h : lenA a = some d)
    (hm : (∃ s, a = .str s) ↔ P.underlying t = some .string) : ∃ v, (Builtin.len_ #[t] ty #[x]).run P w = .ok v w ∧ VR w Fz ρ σ.length v d := by
  have hs : ∀ o n c, (∃ e, P.underlying t = some (.slice e)) → (Builtin.len_ #[t] ty #[.slice o n c]).run P w = .ok (.int .i64 n) w := by
    rintro o n c ⟨e, hu⟩
    simp [Builtin.len_, run_underlying hu, goInt]
  unfold lenA at h
  split at h
  · cases h
    rename_i id esz i0 n
    have hu := ht.resolve_left (fun hu => by have := hm.2 hu; simp at this)
    cases (show VC w Fz ρ σ.length x (.sl id esz i0 n) from ha) with
    | cr hc => cases hc
    | sl0 => exact ⟨_, hs _ _ _ hu, VR.int_iff.2 rfl⟩
    | sl => exact ⟨_, hs _ _ _ hu, VR.int_iff.2 rfl⟩
  · cases h
    have hu := ht.resolve_left (fun hu => by have := hm.2 hu; simp at this)
    rename_i esz xs
    cases (show VC w Fz ρ σ.length x (.ts esz xs) from ha) with
    | cr hc =>
      cases hc with
      | ts0 => exact ⟨_, hs _ _ _ hu, VR.int_iff.2 rfl⟩
      | ts arr h1 h2 h3 => exact ⟨_, hs _ _ _ hu, VR.int_iff.2 (by rw [h3])⟩
  · cases h
    have hu := ht.resolve_left (fun hu => by have := hm.2 hu; simp at this)
    cases (show VC w Fz ρ σ.length x .nils from ha) with
    | cr hc => cases hc
    | nils => exact ⟨_, hs _ _ _ hu, VR.int_iff.2 rfl⟩
  · cases h
    obtain rfl := VR.str_iff.1 ha
    have hu := hm.1 ⟨_, rfl⟩
    exact ⟨_, by simp [Builtin.len_, run_underlying hu, goInt], VR.int_iff.2 rfl⟩
  · cases h
end quiet
end Go.AM
end
section
namespace Go.AM
def isAggD : TypeDesc → Bool
  | .struct _ | .array _ _ => true
  | _ => false
def tyOk (P : Program) (t : TypeId) : Bool :=
  match P.info? t with
  | none => false
  | some i => match P.underlying t with
    | none => false
    | some d => match i.zero with
      | some (.agg cs) => cs.size == i.size && cs.all Value.oneCell' && isAggD d
      | some z => z.oneCell' && i.size == 1 && !isAggD d
      | none => false
section
variable {P : Program} {t : TypeId}
theorem ty_info (h : tyOk P t = true) : ∃ i d z, P.info? t = some i ∧ P.underlying t = some d ∧ i.zero = some z ∧
    ((∃ cs : Array Value, z = .agg cs ∧ cs.size = i.size ∧ (∀ v ∈ cs.toList, v.oneCell' = true) ∧ isAggD d = true) ∨ (z.oneCell' = true ∧ i.size = 1 ∧ isAggD d = false)) := by
  unfold tyOk at h
  split at h
  · cases h
  · rename_i i hi
    split at h
    · cases h
    · rename_i d hd
      split at h
      · rename_i cs hz
        simp only [Bool.and_eq_true, beq_iff_eq, Array.all_eq_true_iff_forall_mem] at h
        exact ⟨i, d, _, hi, hd, hz, .inl ⟨cs, rfl, h.1.1, fun v hv => h.1.2 v (by simpa using hv), h.2⟩⟩
      · rename_i z hn hz
        simp only [Bool.and_eq_true, beq_iff_eq, Bool.not_eq_true'] at h
        exact ⟨i, d, _, hi, hd, hz, .inr ⟨h.1.1, h.1.2, h.2⟩⟩
      · cases h
theorem run_sizeT (h : tyOk P t = true) (w : World) : (sizeOf t).run P w = .ok (sizeT P t) w := by
  obtain ⟨i, d, z, hi, _⟩ := ty_info h
  have : ∀ w, (sizeOf t).run P w = .ok i.size w := fun w => by simp [sizeOf, typeInfo, hi]
  rw [this, sizeT, this]
theorem run_aggT (h : tyOk P t = true) (w : World) : (isAgg t).run P w = .ok (aggT P t) w := by
  obtain ⟨i, d, z, hi, hd, _⟩ := ty_info h
  have : ∀ w, (isAgg t).run P w = .ok (isAggD d) w := fun w => by
    simp only [isAgg, Sem.run_bind, run_underlying hd, Result.andThen_ok]
    cases d <;> rfl
  rw [this, aggT, this]
theorem run_zeroT (h : tyOk P t = true) : ∃ z, (∀ w, (zeroValue t).run P w = .ok z w) ∧ zeroT P t = ofVal z ∧ z.cells.size = sizeT P t ∧ (∀ v ∈ z.cells.toList, v.oneCell' = true) ∧
    ((aggT P t = true ∧ ∃ cs, z = .agg cs) ∨ (aggT P t = false ∧ z.oneCell' = true)) := by
  obtain ⟨i, d, z, hi, hd, hz, hc⟩ := ty_info h
  have h1 : ∀ w, (zeroValue t).run P w = .ok z w := fun w => by simp [zeroValue, typeInfo, hi, hz]
  have h2 : sizeT P t = i.size := by simp [sizeT, sizeOf, typeInfo, hi]
  have h3 : aggT P t = isAggD d := by
    have := run_aggT h default
    rw [show (isAgg t).run P default = .ok (isAggD d) default from by simp only [isAgg, Sem.run_bind, run_underlying hd, Result.andThen_ok]; cases d <;> rfl] at this
    injection this with this; exact this.symm
  refine ⟨z, h1, by simp [zeroT, h1], ?_, ?_, ?_⟩
  · rcases hc with ⟨cs, rfl, hs, _⟩ | ⟨ho, hs, _⟩
    · simpa [Value.cells, h2] using hs
    · cases z <;> simp_all [Value.cells, Value.oneCell']
  · rcases hc with ⟨cs, rfl, _, hs, _⟩ | ⟨ho, hs, _⟩
    · simpa [Value.cells] using hs
    · cases z <;> simp_all [Value.cells, Value.oneCell']
  · rcases hc with ⟨cs, rfl, _, _, hs⟩ | ⟨ho, _, hs⟩
    · exact .inl ⟨by rw [h3, hs], cs, rfl⟩
    · exact .inr ⟨by rw [h3, hs], ho⟩
theorem run_bytesT (h : tyOk P t = true) : ∃ i, P.info? t = some i ∧ i.bytes = bytesT P t ∧ i.size = sizeT P t := by
  obtain ⟨i, d, z, hi, _⟩ := ty_info h
  exact ⟨i, hi, by simp [bytesT, typeInfo, hi], by simp [sizeT, sizeOf, typeInfo, hi]⟩
theorem scalar_size (h : tyOk P t = true) (ha : aggT P t = false) : sizeT P t = 1 := by
  obtain ⟨z, _, _, hs, _, h2⟩ := run_zeroT h
  rcases h2 with ⟨h2, _⟩ | ⟨_, h2⟩
  · rw [ha] at h2; cases h2
  · rw [← hs]; cases z <;> simp_all [Value.cells, Value.oneCell']
end
theorem add_lit (b o n : Nat) : (⟨b, o, none⟩ : Addr).add n = ⟨b, o + n, none⟩ := by unfold Addr.add; split <;> simp_all
theorem getD_some {α : Type} {a : Array α} {i : Nat} (d : α) (h : i < a.size) : a[i]? = some (a.getD i d) := by
  simp [h, Array.getD]
theorem cells_agg (cs : List AV) : cellsOf (.agg cs) = cs := rfl
theorem cells_toAgg (v : AV) : toAgg v = .agg (cellsOf v) := by cases v <;> rfl
section read
variable {P : Program} {w : World} {Fz : Nat → Prop} {ρ : Nat → Nat × Nat} {n : Nat}
theorem read_part {t : TypeId} (ht : tyOk P t = true) {b o : Nat} {arr : Array Value} (hb : blk w b = some arr) {D : AV} (hsz : o + (cellsOf D).length ≤ arr.size)
    (hc : ∀ c, c < (cellsOf D).length → VC w Fz ρ n (arr.getD (o + c) .nilIface) ((cellsOf D).getD c .undef)) {off : Nat} (hoff : off + sizeT P t ≤ (cellsOf D).length) :
    ∃ u, (loadVar t ⟨b, o + off, none⟩).run P w = .ok u w ∧ VR w Fz ρ n u (partA P t D off) := by
  have hcell : ∀ c, c < (cellsOf D).length → w.cell? ⟨b, o + c, none⟩ = some (arr.getD (o + c) .nilIface) := fun c h => by
    rw [blk_cell hb]; exact getD_some _ (by omega)
  cases ha : aggT P t with
  | true =>
    refine ⟨_, by
      simp only [loadVar, Sem.run_bind, run_aggT ht, ha, Result.andThen_ok, if_true, run_sizeT ht]
      rw [run_loadCells w ⟨b, o + off, none⟩ (sizeT P t) (fun j => arr.getD (o + off + j) .nilIface) fun j hj => by
        rw [add_lit]; have := hcell (off + j) (by omega); rwa [← Nat.add_assoc] at this]
      rfl, ?_⟩
    have hgoal : VR w Fz ρ n (.agg ((List.range (sizeT P t)).map fun j => arr.getD (o + off + j) .nilIface).toArray) (.agg (((cellsOf D).drop off).take (sizeT P t))) := by
      refine ⟨_, rfl, by simp; omega, fun j hj => ?_⟩
      have hj' : j < sizeT P t := by simp at hj; omega
      have h1 := hc (off + j) (by omega)
      have e1 : (((List.range (sizeT P t)).map fun j => arr.getD (o + off + j) Value.nilIface).toArray).getD j .nilIface = arr.getD (o + (off + j)) .nilIface := by
        simp [hj', Nat.add_assoc]
      have e2 : (((cellsOf D).drop off).take (sizeT P t)).getD j .undef = (cellsOf D).getD (off + j) .undef := by
        simp [List.getD, hj']
      rw [e1, e2]; exact h1
    unfold partA
    rw [if_pos ha]
    split
    · rename_i hh
      rw [cells_toAgg]
      rw [hh.1, List.drop_zero, ← hh.2, List.take_length] at hgoal
      rw [hh.1, ← hh.2]; exact hgoal
    · exact hgoal
  | false =>
    have h1 := scalar_size ht ha
    refine ⟨_, by simp only [loadVar, Sem.run_bind, run_aggT ht, ha, Result.andThen_ok, Bool.false_eq_true, if_false, run_load, hcell off (by omega)]; rfl, ?_⟩
    unfold partA
    rw [ha]
    have h2 := hc off (by omega)
    have e : (cellsOf D).getD off (zeroT P t) = (cellsOf D).getD off .undef := by simp [List.getD, List.getElem?_eq_getElem (show off < (cellsOf D).length by omega)]
    simp only [Bool.false_eq_true, if_false]
    rw [e]
    exact VR.of_VC h2
theorem getD_in {xs : List AV} {i : Nat} (d e : AV) (h : i < xs.length) : xs.getD i d = xs.getD i e := by simp [List.getD, List.getElem?_eq_getElem h]
theorem idx_le {i n e : Nat} (h : i < n) : i * e + e ≤ n * e := by rw [← Nat.succ_mul]; exact Nat.mul_le_mul_right _ h
theorem load_ok {σ : List Ob} (hr : Rel Fz ρ σ w) {t : TypeId} (ht : tyOk P t = true) {v : Value} {x : AV} (hv : VR w Fz ρ σ.length v x) {p : Prop} {r : AV} (h : loadA P t σ x = some (p, r)) (hp : p) :
    ∃ u, (Instr.loadAt t v).run P w = .ok u w ∧ VR w Fz ρ σ.length u r := by
  have key : ∀ (a : Addr) u, v = .pointer (some a) → (loadVar t a).run P w = .ok u w → VR w Fz ρ σ.length u r → ∃ u, (Instr.loadAt t v).run P w = .ok u w ∧ VR w Fz ρ σ.length u r := by
    rintro a u rfl h1 h2
    exact ⟨u, by simp only [Instr.loadAt, Instr.sureAddr, pure_bind]; exact h1, h2⟩
  unfold loadA at h
  split at h
  · rename_i esz xs d idx off
    simp only [Option.some.injEq, Prod.mk.injEq] at h
    obtain ⟨rfl, rfl⟩ := h
    cases (show VC w Fz ρ σ.length v (.tp esz xs d idx off) from hv) with
    | cr hc =>
      cases hc with
      | @tp b off0 _ _ _ _ _ arr h1 h2 h3 h4 h5 h6 =>
        have e : xs.getD idx d = xs.getD idx .undef := getD_in _ _ h3
        rw [e] at hp
        have hl := h5 idx h3
        have hle : idx * esz + esz ≤ xs.length * esz := by rw [← Nat.succ_mul]; exact Nat.mul_le_mul_right _ h3
        obtain ⟨u, k1, k2⟩ := read_part ht h2 (D := xs.getD idx .undef) (o := off0 + idx * esz) (by omega) (fun c hc => .cr (h6 idx c h3 (by omega))) hp (ρ := ρ) (n := σ.length)
        exact key _ u rfl k1 (by rw [e]; exact k2)
  · rename_i id esz d idx off
    split at h
    · rename_i live esz' xs hg
      simp only [Option.some.injEq, Prod.mk.injEq] at h
      obtain ⟨rfl, rfl⟩ := h
      obtain ⟨rfl, hp1, hp2⟩ := hp
      cases (show VC w Fz ρ σ.length v (.rp id _ d idx off) from hv) with
      | cr hc => cases hc
      | rp _ _ _ _ _ hi =>
        have ho := hr.ob id
        rw [hg] at ho
        obtain ⟨arr, e, fr, h1, _, _, _, _, h4, h5, h6⟩ := ho
        have e : xs.getD idx d = xs.getD idx .undef := getD_in _ _ hp1
        rw [e] at hp2
        have hl := h5 idx hp1
        obtain ⟨u, k1, k2⟩ := read_part ht (show blk w (ρ id).1 = some arr by simp [blk, h1]) (D := xs.getD idx .undef) (by rw [hl]; exact Nat.le_trans (idx_le hp1) h4) (fun c hc => .cr (h6 idx c hp1 (by omega))) hp2 (ρ := ρ) (n := σ.length)
        exact key _ u rfl k1 (by rw [e]; exact k2)
    · cases h
  · rename_i id off
    split at h
    · rename_i y hg
      simp only [Option.some.injEq, Prod.mk.injEq] at h
      obtain ⟨rfl, rfl⟩ := h
      cases (show VC w Fz ρ σ.length v (.vp id off) from hv) with
      | cr hc => cases hc
      | vp _ _ hi =>
        have ho := hr.ob id
        rw [hg] at ho
        obtain ⟨arr, e, fr, h1, _, _, h2, _, h3⟩ := ho
        obtain ⟨u, k1, k2⟩ := read_part ht (show blk w (ρ id).1 = some arr by simp [blk, h1]) (D := y) (o := 0) (by omega) (fun c hc => by simpa using h3 c hc) hp (ρ := ρ) (n := σ.length)
        exact key _ u rfl (by simpa using k1) k2
    · cases h
  · cases h
end read
end Go.AM
end
section
namespace Go.AM
section
variable {P : Program} {w : World} {Fz : Nat → Prop} {ρ : Nat → Nat × Nat} {n : Nat}
def movA (x : AV) (k : Nat) : AV := match x with
  | .vp id off => .vp id (off + k)
  | .rp id esz d idx off => .rp id esz d idx (off + k)
  | .tp esz xs d idx off => .tp esz xs d idx (off + k)
  | _ => .undef
def isP : AV → Bool
  | .vp _ _ | .rp _ _ _ _ _ | .tp _ _ _ _ _ => true
  | _ => false
theorem ptr_form {v : Value} {x : AV} (hx : isP x = true) (h : VR w Fz ρ n v x) : ∃ b o, v = .pointer (some ⟨b, o, none⟩) ∧ ∀ k, VR w Fz ρ n (.pointer (some ⟨b, o + k, none⟩)) (movA x k) := by
  cases x <;> simp [isP] at hx
  · rename_i id off
    cases (show VC w Fz ρ n v (.vp id off) from h) with
    | cr hc => cases hc
    | vp _ _ hi => exact ⟨_, _, rfl, fun k => VC.vp id (off + k) hi⟩
  · rename_i id esz d idx off
    cases (show VC w Fz ρ n v (.rp id esz d idx off) from h) with
    | cr hc => cases hc
    | rp _ _ _ _ _ hi => exact ⟨_, _, rfl, fun k => by rw [Nat.add_assoc]; exact VC.rp id esz d idx (off + k) hi⟩
  · rename_i esz xs d idx off
    cases (show VC w Fz ρ n v (.tp esz xs d idx off) from h) with
    | cr hc =>
      cases hc with
      | tp arr h1 h2 h3 h4 h5 h6 => exact ⟨_, _, rfl, fun k => by rw [Nat.add_assoc]; exact VC.cr (CR.tp arr h1 h2 h3 h4 h5 h6)⟩
theorem field_row {t : TypeId} {f o : Nat} {ft : TypeId} (h : fieldT P t f = some (o, ft)) : ∃ fs fl, P.underlying t = some (.struct fs) ∧ fs[f]? = some fl ∧ fl.offset = o ∧ fl.type = ft := by
  unfold fieldT at h
  split at h
  · rename_i fs hu
    cases hf : fs[f]? with
    | none => simp [hf] at h
    | some fl => simp [hf] at h; exact ⟨fs, fl, hu, hf, h.1, h.2⟩
  · cases h
theorem fieldAddr_ok {t : TypeId} {f : Nat} (ht : ∀ o ft, fieldT P t f = some (o, ft) → tyOk P ft = true) {v : Value} {x d : AV} (hv : VR w Fz ρ n v x) (h : fieldAddrA P t x f = some d) :
    ∃ u, (Instr.fieldAt t v f).run P w = .ok u w ∧ VR w Fz ρ n u d := by
  unfold fieldAddrA at h
  split at h
  · rename_i o ft hf
    obtain ⟨fs, fl, hu, hfl, rfl, rfl⟩ := field_row hf
    split at h
    · cases h
    · rename_i hsz
      have hx : isP x = true ∧ d = movA x fl.offset := by
        split at h <;> first | (simp only [Option.some.injEq] at h; exact ⟨rfl, h.symm⟩) | cases h
      obtain ⟨b, off, rfl, hk⟩ := ptr_form hx.1 hv
      refine ⟨_, ?_, hx.2 ▸ hk fl.offset⟩
      simp only [Instr.fieldAt, Instr.sureAddr, Sem.run_bind, run_underlying hu, Result.andThen_ok, hfl, fieldPlace, run_sizeT (ht _ _ hf), if_neg hsz, Sem.run_pure, add_lit]
  · cases h
theorem indexAddr_ok {t : TypeId} (ht : tyOk P (elemT P t) = true) {v vi : Value} {x i d : AV} {p : Prop} (hv : VR w Fz ρ n v x) (hi : VR w Fz ρ n vi i) (h : indexAddrA P t x i = some (p, d)) (hp : p) :
    ∃ u, (Instr.indexAt t v vi).run P w = .ok u w ∧ VR w Fz ρ n u d := by
  unfold indexAddrA at h
  have harr : ∀ (m : Nat) (e : TypeId) k j, P.underlying t = some (.array m e) → isP x = true → vi = .int k j → 0 ≤ j ∧ j < m → d = movA x (j.toNat * sizeT P e) → ∃ u, (Instr.indexAt t v vi).run P w = .ok u w ∧ VR w Fz ρ n u d := by
    rintro m e k j hu hx rfl hj rfl
    have he : elemT P t = e := by simp [elemT, hu]
    rw [he] at ht
    obtain ⟨b, off, rfl, hk⟩ := ptr_form hx hv
    refine ⟨_, ?_, hk _⟩
    simp only [Instr.indexAt, asIntOf, Sem.run_bind, Sem.run_pure, Result.andThen_ok, run_underlying hu, Instr.sureAddr, if_pos hj, run_sizeT ht, add_lit]
  split at h
  · rename_i e esz xs k j hu
    simp only [Option.some.injEq, Prod.mk.injEq] at h
    obtain ⟨rfl, rfl⟩ := h
    obtain ⟨he, h0, h1⟩ := hp
    have hee : elemT P t = e := by simp [elemT, hu]
    rw [hee] at ht
    obtain rfl := VR.int_iff.1 hi
    have he : sizeT P e = esz := he.resolve_right (by rintro rfl; simp at h1; omega)
    subst he
    cases (show VC w Fz ρ n v (.ts (sizeT P e) xs) from hv) with
    | cr hc =>
      cases hc with
      | ts0 => simp at h1; omega
      | @ts b off len cap _ _ arr k1 k2 k3 k7 k4 k5 k6 =>
        refine ⟨.pointer (some ⟨b, off + j.toNat * sizeT P e + 0, none⟩), ?_, VC.cr (CR.tp arr k1 k2 (by omega) (by rw [k3]; exact k4) k5 k6)⟩
        simp only [Instr.indexAt, asIntOf, Sem.run_bind, Sem.run_pure, Result.andThen_ok, run_underlying hu, if_pos (show 0 ≤ j ∧ j < (len : Int) by omega), run_sizeT ht, add_lit, Nat.add_zero]
  · rename_i e id esz i0 m k j hu
    simp only [Option.some.injEq, Prod.mk.injEq] at h
    obtain ⟨rfl, rfl⟩ := h
    obtain ⟨he, h0, h1⟩ := hp
    have hee : elemT P t = e := by simp [elemT, hu]
    rw [hee] at ht
    obtain rfl := VR.int_iff.1 hi
    cases (show VC w Fz ρ n v (.sl id esz i0 m) from hv) with
    | cr hc => cases hc
    | sl0 => omega
    | sl _ _ _ _ cap k1 k2 k4 k3 =>
      refine ⟨.pointer (some ⟨(ρ id).1, (i0 + j.toNat) * esz + 0, none⟩), ?_, VC.rp _ _ _ _ _ k1⟩
      simp only [Instr.indexAt, asIntOf, Sem.run_bind, Sem.run_pure, Result.andThen_ok, run_underlying hu, if_pos (show 0 ≤ j ∧ j < (m : Int) by omega), run_sizeT ht, add_lit, he, Nat.add_zero, Nat.add_mul]
  · rename_i m e id off k j hu
    simp only [Option.some.injEq, Prod.mk.injEq] at h
    obtain ⟨rfl, rfl⟩ := h
    exact harr m e k j hu rfl (VR.int_iff.1 hi) hp rfl
  · rename_i m e id esz dd idx off k j hu
    simp only [Option.some.injEq, Prod.mk.injEq] at h
    obtain ⟨rfl, rfl⟩ := h
    exact harr m e k j hu rfl (VR.int_iff.1 hi) hp rfl
  · rename_i m e esz xs dd idx off k j hu
    simp only [Option.some.injEq, Prod.mk.injEq] at h
    obtain ⟨rfl, rfl⟩ := h
    exact harr m e k j hu rfl (VR.int_iff.1 hi) hp rfl
  · cases h
theorem part_ok {t : TypeId} (ht : tyOk P t = true) {v : Value} {x : AV} {off : Nat} (hv : VR w Fz ρ n v x) (hx : ∃ cs : Array Value, v = .agg cs ∧ cs.size = (cellsOf x).length ∧ ∀ j, j < (cellsOf x).length → VC w Fz ρ n (cs.getD j .nilIface) ((cellsOf x).getD j .undef)) (hoff : off + sizeT P t ≤ (cellsOf x).length) :
    ∃ cs u, v = .agg cs ∧ (part t cs off).run P w = .ok u w ∧ VR w Fz ρ n u (partA P t x off) := by
  obtain ⟨cs, rfl, hs, hc⟩ := hx
  refine ⟨cs, ?_⟩
  cases ha : aggT P t with
  | true =>
    refine ⟨_, rfl, by simp only [part, Sem.run_bind, run_aggT ht, ha, Result.andThen_ok, if_true, run_sizeT ht]; rfl, ?_⟩
    have hgoal : VR w Fz ρ n (.agg (cs.extract off (off + sizeT P t))) (.agg (((cellsOf x).drop off).take (sizeT P t))) := by
      refine ⟨_, rfl, by simp; omega, fun j hj => ?_⟩
      have hj' : j < sizeT P t := by simp at hj; omega
      have e1 : (cs.extract off (off + sizeT P t)).getD j .nilIface = cs.getD (off + j) .nilIface := by
        simp only [Array.getD_eq_getD_getElem?]
        rw [Array.getElem?_extract]
        rw [if_pos (by omega)]
      have e2 : (((cellsOf x).drop off).take (sizeT P t)).getD j .undef = (cellsOf x).getD (off + j) .undef := by simp [List.getD, hj']
      rw [e1, e2]; exact hc (off + j) (by omega)
    unfold partA
    rw [if_pos ha]
    split
    · rename_i hh
      rw [cells_toAgg]
      rw [hh.1, List.drop_zero, ← hh.2, List.take_length] at hgoal
      rw [hh.1, ← hh.2]; exact hgoal
    · exact hgoal
  | false =>
    have h1 := scalar_size ht ha
    refine ⟨_, rfl, by simp only [part, Sem.run_bind, run_aggT ht, ha, Result.andThen_ok, Bool.false_eq_true, if_false, getD_some Value.nilIface (show off < cs.size by omega)]; rfl, ?_⟩
    unfold partA
    rw [ha]
    have h2 := hc off (by omega)
    simp only [Bool.false_eq_true, if_false]
    rw [getD_in _ .undef (show off < (cellsOf x).length by omega)]
    exact VR.of_VC h2
theorem slice_ok {t : TypeId} (ht : ∀ e, P.underlying t = some (.slice e) → tyOk P e = true) {v : Value} {x d : AV} {lo hi mx : Option AV} {vlo vhi vmx : Option Value} {p : Prop} (hv : VR w Fz ρ n v x)
    (hlo : ∀ y, lo = some y → ∃ u, vlo = some u ∧ VR w Fz ρ n u y) (hhi : ∀ y, hi = some y → ∃ u, vhi = some u ∧ VR w Fz ρ n u y) (hmx : ∀ y, mx = some y → ∃ u, vmx = some u ∧ VR w Fz ρ n u y)
    (nlo : lo = none → vlo = none) (nhi : hi = none → vhi = none) (nmx : mx = none → vmx = none) (h : sliceA P t x lo hi mx = some (p, d)) (hp : p) :
    ∃ u, (Instr.sliceAt t v vlo vhi vmx).run P w = .ok u w ∧ VR w Fz ρ n u d := by
  have bound : ∀ (k : IntKind) (l : Int) (y : Nat) c, 0 ≤ l → l ≤ y → (Instr.sliceBound (.int k l) y c).run P w = .ok l.toNat w := fun k l y c h0 h1 => by
    simp only [Instr.sliceBound, asIntOf, pure_bind, if_pos (And.intro h0 h1), Sem.run_pure]
  have hcap0 : ∀ k : IntKind, (∃ e, P.underlying t = some (.slice e)) → (∀ e, P.underlying t = some (.slice e) → tyOk P e = true) → vlo = none → vhi = some (.int k 0) → ∀ k', vmx = some (.int k' 0) → (∃ o m c, v = .slice o m c) → ∃ u, (Instr.sliceAt t v vlo vhi vmx).run P w = .ok u w ∧ VR w Fz ρ n u .nils := by
    rintro k ⟨e, hu⟩ ht rfl rfl k' rfl ⟨o, m, c, rfl⟩
    refine ⟨.slice o 0 0, ?_, VC.nils o⟩
    simp only [Instr.sliceAt, Sem.run_bind, run_underlying hu, Result.andThen_ok, Instr.slice, Instr.sliceBounds]
    rw [bound k' 0 c _ (Int.le_refl _) (Int.natCast_nonneg _)]
    simp only [Result.andThen_ok]
    rw [bound k 0 _ _ (Int.le_refl _) (Int.natCast_nonneg _)]
    simp only [Result.andThen_ok, Sem.run_pure, run_sizeT (ht e hu)]
    simp
  have sl_form : ∀ {id esz i0 m}, VR w Fz ρ n v (.sl id esz i0 m) → ∃ o m c, v = .slice o m c := fun h => by
    cases (show VC w Fz ρ n v (.sl _ _ _ _) from h) with
    | cr hc => cases hc
    | sl0 => exact ⟨_, _, _, rfl⟩
    | sl => exact ⟨_, _, _, rfl⟩
  have ts_form : ∀ {esz xs}, VR w Fz ρ n v (.ts esz xs) → ∃ o m c, v = .slice o m c := fun h => by
    cases (show VC w Fz ρ n v (.ts _ _) from h) with
    | cr hc =>
      cases hc with
      | ts0 => exact ⟨_, _, _, rfl⟩
      | ts => exact ⟨_, _, _, rfl⟩
  have nils_form : VR w Fz ρ n v .nils → ∃ o m c, v = .slice o m c := fun h => by
    cases (show VC w Fz ρ n v .nils from h) with
    | cr hc => cases hc
    | nils => exact ⟨_, _, _, rfl⟩
  unfold sliceA at h
  split at h
  · have hlo0 : ∀ y, lo = some y → False → True := fun _ _ _ => trivial
    obtain ⟨umx, rfl, humx⟩ := hmx _ rfl
    obtain rfl := VR.int_iff.1 humx
    split at h
    · rename_i hu
      obtain ⟨uhi, rfl, huhi⟩ := hhi _ rfl
      obtain rfl := VR.int_iff.1 huhi
      cases h
      exact hcap0 _ ⟨_, hu⟩ ht (nlo rfl) rfl _ rfl (ts_form hv)
    · rename_i hu
      obtain ⟨uhi, rfl, huhi⟩ := hhi _ rfl
      obtain rfl := VR.int_iff.1 huhi
      cases h
      exact hcap0 _ ⟨_, hu⟩ ht (nlo rfl) rfl _ rfl (sl_form hv)
    · rename_i hu
      obtain ⟨uhi, rfl, huhi⟩ := hhi _ rfl
      obtain rfl := VR.int_iff.1 huhi
      cases h
      exact hcap0 _ ⟨_, hu⟩ ht (nlo rfl) rfl _ rfl (nils_form hv)
    · cases h
  · cases h
  · obtain rfl := nmx rfl
    have getlo : ∀ l, loI lo 0 = some l → ∀ y : Nat, 0 ≤ l → l ≤ y → ∀ c, (match vlo with | some v => Instr.sliceBound v y c | none => pure 0 : Sem Nat).run P w = .ok l.toNat w := by
      intro l hl y h0 h1 c
      unfold loI at hl
      split at hl
      · rw [nlo rfl]; cases hl; rfl
      · obtain ⟨u, rfl, hu⟩ := hlo _ rfl
        obtain rfl := VR.int_iff.1 hu
        cases hl
        exact bound _ _ _ _ h0 h1
      · cases hl
    have gethi : ∀ (m : Nat) hh, loI hi m = some hh → ∀ y : Nat, 0 ≤ hh → hh ≤ y → ∀ c, (match vhi with | some v => Instr.sliceBound v y c | none => pure m : Sem Nat).run P w = .ok hh.toNat w := by
      intro m hh hl y h0 h1 c
      unfold loI at hl
      split at hl
      · rw [nhi rfl]; cases hl; rfl
      · obtain ⟨u, rfl, hu⟩ := hhi _ rfl
        obtain rfl := VR.int_iff.1 hu
        cases hl
        exact bound _ _ _ _ h0 h1
      · cases hl
    have bounds : ∀ (isS : Bool) (m c : Nat) l hh, loI lo 0 = some l → loI hi m = some hh → 0 ≤ l → l ≤ hh → hh ≤ m → m ≤ c → (Instr.sliceBounds isS m c vlo vhi none).run P w = .ok (l.toNat, hh.toNat, c) w := by
      intro isS m c l hh h1 h2 h3 h4 h5 h6
      have e1 := gethi m hh h2 c (by omega) (by omega) (if isS then .sliceAcap else .sliceAlen)
      have e2 := getlo l h1 hh.toNat h3 (by omega) .sliceB
      unfold Instr.sliceBounds
      simp only [Sem.run_bind, Sem.run_pure, Result.andThen_ok]
      cases vhi with
      | none =>
        simp only [Sem.run_pure, Result.ok.injEq, and_true] at e1
        simp only [Sem.run_bind, Sem.run_pure, Result.andThen_ok, e1]
        cases vlo with
        | none => simp only [Sem.run_pure, Result.ok.injEq, and_true] at e2; simp only [Sem.run_bind, Sem.run_pure, Result.andThen_ok, ← e2]
        | some u => simp only at e2; simp only [Option.isSome_none, Bool.false_eq_true, if_false, Sem.run_bind, e2, Result.andThen_ok, Sem.run_pure]
      | some u =>
        simp only at e1
        simp only [Sem.run_bind, e1, Result.andThen_ok]
        cases vlo with
        | none => simp only [Sem.run_pure, Result.ok.injEq, and_true] at e2; simp only [Sem.run_bind, Sem.run_pure, Result.andThen_ok, ← e2]
        | some u => simp only at e2; simp only [Option.isSome_none, Bool.false_eq_true, if_false, Sem.run_bind, e2, Result.andThen_ok, Sem.run_pure]
    split at h
    · rename_i s hu
      obtain rfl := VR.str_iff.1 hv
      cases hl : loI lo 0 with
      | none => simp [hl] at h
      | some l =>
        cases hh : loI hi s.size with
        | none => simp [hl, hh] at h
        | some g =>
          simp only [hl, hh, Option.bind_some, Option.map_some, Option.some.injEq, Prod.mk.injEq] at h
          obtain ⟨rfl, rfl⟩ := h
          refine ⟨_, ?_, VR.str_iff.2 rfl⟩
          simp only [Instr.sliceAt, Sem.run_bind, run_underlying hu, Result.andThen_ok, Instr.slice, Option.isSome_none, Bool.false_eq_true, if_false, Sem.run_pure]
          rw [bounds false s.size s.size l g hl hh hp.1 hp.2.1 hp.2.2 (Nat.le_refl _)]
          rfl
    · rename_i e esz xs hu
      cases hl : loI lo 0 with
      | none => simp [hl] at h
      | some l =>
        cases hh : loI hi xs.length with
        | none => simp [hl, hh] at h
        | some g =>
          simp only [hl, hh, Option.bind_some, Option.map_some, Option.some.injEq, Prod.mk.injEq] at h
          obtain ⟨rfl, rfl⟩ := h
          obtain ⟨he, hp0, hp1, hp2⟩ := hp
          have hlen : ((xs.take g.toNat).drop l.toNat).length = g.toNat - l.toNat := by simp; omega
          by_cases hxs : xs = []
          · subst hxs
            obtain ⟨o, cap, rfl⟩ : ∃ o cap, v = .slice o 0 cap := by
              cases (show VC w Fz ρ n v (.ts esz []) from hv) with
              | cr hc =>
                cases hc with
                | ts0 o cap => exact ⟨o, cap, rfl⟩
                | ts arr k1 k2 k3 => cases k3; exact ⟨_, _, rfl⟩
            simp at hp2
            obtain rfl : g = 0 := by omega
            obtain rfl : l = 0 := by omega
            refine ⟨.slice (if cap = 0 then o else o.map (·.add (0 * sizeT P e))) 0 cap, ?_, VR.of_VC (VC.cr (by simpa [tsE] using CR.ts0 _ _ _))⟩
            simp only [Instr.sliceAt, Sem.run_bind, run_underlying hu, Result.andThen_ok, Instr.slice]
            rw [bounds true 0 cap 0 0 hl hh (Int.le_refl _) (Int.le_refl _) (Int.le_refl _) (Nat.zero_le _)]
            simp only [Result.andThen_ok, run_sizeT (ht e hu), Sem.run_pure]
            simp
          have he : sizeT P e = esz := he.resolve_right hxs
          cases (show VC w Fz ρ n v (.ts esz xs) from hv) with
          | cr hc =>
            cases hc with
            | ts0 o cap => exact absurd rfl hxs
            | @ts b off len cap _ _ arr k1 k2 k3 k7 k4 k5 k6 =>
              rw [he]
              refine ⟨.slice (if cap = l.toNat then some ⟨b, off, none⟩ else (some ⟨b, off, none⟩ : Option Addr).map (·.add (l.toNat * esz))) (g.toNat - l.toNat) (cap - l.toNat), ?_, ?_⟩
              · simp only [Instr.sliceAt, Sem.run_bind, run_underlying hu, Result.andThen_ok, Instr.slice]
                rw [bounds true len cap l g hl (by rw [← k3]; exact hh) hp0 hp1 (by omega) k7]
                simp only [Result.andThen_ok, run_sizeT (ht e hu), he, Sem.run_pure]
              · by_cases hz : g.toNat - l.toNat = 0
                · rw [hz] at hlen ⊢
                  rw [List.eq_nil_of_length_eq_zero hlen]
                  exact VR.of_VC (VC.cr (CR.ts0 _ _ _))
                · rw [if_neg (by omega), Option.map_some, add_lit]
                  have hgt : ∀ j, j < ((xs.take g.toNat).drop l.toNat).length → ((xs.take g.toNat).drop l.toNat).getD j .undef = xs.getD (l.toNat + j) .undef := fun j hj => by
                    simp only [List.getD, List.getElem?_drop, List.getElem?_take]
                    rw [if_pos (by omega)]
                  have hm := idx_le (e := esz) (show l.toNat + (g.toNat - l.toNat) - 1 < len by omega)
                  refine VR.of_VC (VC.cr (CR.tsE (CR.ts arr k1 k2 hlen (by omega) ?_ (fun j hj => ?_) (fun j c hj hc => ?_))))
                  · have : (l.toNat + (g.toNat - l.toNat)) * esz ≤ len * esz := Nat.mul_le_mul_right _ (by omega)
                    rw [Nat.add_mul] at this
                    omega
                  · rw [hgt j hj]; exact k5 _ (by omega)
                  · rw [hgt j hj, show off + l.toNat * esz + j * esz + c = off + (l.toNat + j) * esz + c by rw [Nat.add_mul]; omega]
                    exact k6 _ c (by omega) hc
    · rename_i e id esz i0 m hu
      cases hl : loI lo 0 with
      | none => simp [hl] at h
      | some l =>
        cases hh : loI hi m with
        | none => simp [hl, hh] at h
        | some g =>
          simp only [hl, hh, Option.bind_some, Option.map_some, Option.some.injEq, Prod.mk.injEq] at h
          obtain ⟨rfl, rfl⟩ := h
          obtain ⟨he, hp0, hp1, hp2⟩ := hp
          cases (show VC w Fz ρ n v (.sl id esz i0 m) from hv) with
          | cr hc => cases hc
          | sl0 o _ _ _ hid =>
            obtain rfl : g = 0 := by simp at hp2; omega
            obtain rfl : l = 0 := by omega
            refine ⟨.slice (if (0 : Nat) = 0 then o else o.map (·.add (0 * esz))) 0 0, ?_, by simp; exact VC.sl0 o id esz i0 hid⟩
            simp only [Instr.sliceAt, Sem.run_bind, run_underlying hu, Result.andThen_ok, Instr.slice]
            rw [bounds true 0 0 0 0 hl hh (Int.le_refl _) (Int.le_refl _) (Int.le_refl _) (Nat.zero_le _)]
            simp only [Result.andThen_ok, run_sizeT (ht e hu), he, Sem.run_pure]
            simp
          | sl _ _ _ _ cap hid hcap hkk hsz =>
            refine ⟨.slice (if cap = l.toNat then some ⟨(ρ id).1, i0 * esz, none⟩ else (some ⟨(ρ id).1, i0 * esz, none⟩ : Option Addr).map (·.add (l.toNat * esz))) (g.toNat - l.toNat) (cap - l.toNat), ?_, ?_⟩
            · simp only [Instr.sliceAt, Sem.run_bind, run_underlying hu, Result.andThen_ok, Instr.slice]
              rw [bounds true m cap l g hl hh hp0 hp1 (by omega) hcap]
              simp only [Result.andThen_ok, run_sizeT (ht e hu), he, Sem.run_pure]
            · by_cases hz : cap = l.toNat
              · rw [if_pos hz, hz, show g.toNat - l.toNat = 0 by omega, Nat.sub_self]
                exact VC.sl0 _ _ _ _ hid
              · rw [if_neg hz, Option.map_some, add_lit, ← Nat.add_mul]
                obtain ⟨arr, ha, hs⟩ := hsz
                exact VC.sl id esz (i0 + l.toNat) _ _ hid (by omega) (by omega) ⟨arr, ha, by rw [show i0 + l.toNat + (cap - l.toNat) = i0 + cap by omega]; exact hs⟩
    · cases h
theorem index_ok {t : TypeId} (ht : ∀ m e, P.underlying t = some (.array m e) → tyOk P e = true) {v vi : Value} {x i d : AV} {p : Prop} (hv : VR w Fz ρ n v x) (hi : VR w Fz ρ n vi i)(h : indexA P t x i = some (p, d)) (hp : p) :
    ∃ u, (Instr.index t v vi).run P w = .ok u w ∧ VR w Fz ρ n u d := by
  unfold indexA at h
  split at h
  · rename_i s k j hu
    obtain rfl := VR.str_iff.1 hv
    obtain rfl := VR.int_iff.1 hi
    simp only [Option.some.injEq, Prod.mk.injEq] at h
    obtain ⟨rfl, rfl⟩ := h
    obtain ⟨h0, h1⟩ := hp
    have hlt : j.toNat < s.size := by omega
    have hb : s[j.toNat]? = some s[j.toNat] := by simp [hlt]
    refine ⟨.int .u8 (s[j.toNat]'hlt).toNat, ?_, VR.int_iff.2 ?_⟩
    · simp only [Instr.index, asIntOf, Sem.run_bind, Sem.run_pure, Result.andThen_ok, run_underlying hu, if_pos h0, hb]
    · unfold strAt
      congr 2
      have : s.data.toList.getD j.toNat 0 = s[j.toNat]'hlt := by
        have hl : j.toNat < s.data.toList.length := by simpa using hlt
        simp only [List.getD, List.getElem?_eq_getElem hl, Option.getD_some]
        rfl
      rw [this]
  · rename_i m e cs k j hu
    obtain rfl := VR.int_iff.1 hi
    simp only [Option.some.injEq, Prod.mk.injEq] at h
    obtain ⟨rfl, rfl⟩ := h
    obtain ⟨hlen, hp⟩ := hp
    obtain ⟨arr, rfl, hs, hc⟩ := hv
    have hle : j.toNat * sizeT P e + sizeT P e ≤ (cellsOf (.agg cs)).length := by rw [cells_agg, hlen]; exact idx_le (by omega)
    obtain ⟨cs', u, e1, e2, e3⟩ := part_ok (ht m e hu) (v := .agg arr) (x := .agg cs) ⟨arr, rfl, hs, hc⟩ ⟨arr, rfl, hs, hc⟩ hle
    injection e1 with e1; subst e1
    refine ⟨u, ?_, e3⟩
    simp only [Instr.index, asIntOf, Sem.run_bind, Sem.run_pure, Result.andThen_ok, run_underlying hu, if_pos hp, run_sizeT (ht m e hu)]
    exact e2
  · cases h
theorem field_ok {t : TypeId} {f o : Nat} {ft : TypeId} (hf : fieldT P t f = some (o, ft)) (ht : tyOk P ft = true) {v : Value} {cs : List AV} (hv : VR w Fz ρ n v (.agg cs)) (hp : o + sizeT P ft ≤ cs.length) :
    ∃ u, (Instr.field t v f).run P w = .ok u w ∧ VR w Fz ρ n u (partA P ft (.agg cs) o) := by
  obtain ⟨fs, fl, hu, hfl, rfl, rfl⟩ := field_row hf
  obtain ⟨arr, rfl, hs, hc⟩ := hv
  obtain ⟨cs', u, e1, e2, e3⟩ := part_ok ht (v := .agg arr) (x := .agg cs) ⟨arr, rfl, hs, hc⟩ ⟨arr, rfl, hs, hc⟩ hp
  injection e1 with e1; subst e1
  exact ⟨u, by simp only [Instr.field, Sem.run_bind, run_underlying hu, Result.andThen_ok, hfl, asAgg, Sem.run_pure]; exact e2, e3⟩
end
end Go.AM
end
section
namespace Go.AM
section
variable {w : World} {Fz : Nat → Prop} {ρ : Nat → Nat × Nat} {σ : List Ob}
theorem getO_app_lt {σ : List Ob} {o : List Ob} {id : Nat} (h : id < σ.length) : getO (σ ++ o) id = getO σ id := by simp [getO, List.getD, List.getElem?_append_left h]
theorem getO_app_eq {σ : List Ob} {o : Ob} : getO (σ ++ [o]) σ.length = o := by simp [getO, List.getD]
theorem getO_app_gt {σ : List Ob} {o : Ob} {id : Nat} (h : σ.length < id) : getO (σ ++ [o]) id = .none := getO_ge (by simp; omega)
theorem getO_set_ne {σ : List Ob} {o : Ob} {i id : Nat} (h : i ≠ id) : getO (σ.set i o) id = getO σ id := by simp [getO, List.getD, List.getElem?_set_ne h]
theorem getO_set_eq {σ : List Ob} {o : Ob} {i : Nat} (h : i < σ.length) : getO (σ.set i o) i = o := by simp [getO, List.getD, h]
def ext1 (ρ : Nat → Nat × Nat) (n : Nat) (b : Nat × Nat) : Nat → Nat × Nat := fun id => if id = n then b else ρ id
theorem ext1_lt {ρ : Nat → Nat × Nat} {n id : Nat} {b : Nat × Nat} (h : id < n) : ext1 ρ n b id = ρ id := by unfold ext1; rw [if_neg (by omega)]
theorem ext1_eq {ρ : Nat → Nat × Nat} {n : Nat} {b : Nat × Nat} : ext1 ρ n b n = b := by unfold ext1; rw [if_pos rfl]
theorem alloc_old (w : World) (o : Obj) {k : Nat} (h : k < w.heap.size) : (w.alloc o).heap[k]? = w.heap[k]? := by
  show (w.heap.push o)[k]? = _
  rw [Array.getElem?_push, if_neg (by omega)]
theorem blk_alloc (w : World) (c : Array Value) (e : TypeId) (fr : Nat × Nat) : blk (w.alloc (.cells c e fr)) w.heap.size = some c := by
  have : (w.alloc (.cells c e fr)).heap[w.heap.size]? = some (.cells c e fr) := by
    show (w.heap.push _)[w.heap.size]? = _
    simp
  unfold blk
  rw [this]
theorem alloc_new (w : World) (o : Obj) : (w.alloc o).heap[w.heap.size]? = some o := by
  show (w.heap.push o)[w.heap.size]? = _
  simp
theorem ObR.mono {w w' : World} {Fz Fz' : Nat → Prop} {ρ ρ' : Nat → Nat × Nat} {n n' : Nat} {b : Nat × Nat} {o : Ob} (h : ObR w Fz ρ n b o) (hb : w'.heap[b.1]? = w.heap[b.1]?) (hf : Fz b.1 ↔ Fz' b.1)
    (hc : ∀ v d, CR w Fz v d → CR w' Fz' v d) (hv : ∀ v d, VC w Fz ρ n v d → VC w' Fz' ρ' n' v d) : ObR w' Fz' ρ' n' b o := by
  cases o with
  | none => trivial
  | var v =>
    obtain ⟨arr, e, fr, h1, h2, h3, h4, h5, h6⟩ := h
    exact ⟨arr, e, fr, hb.trans h1, h2, fun x => h3 (hf.2 x), h4, h5, fun j hj => hv _ _ (h6 j hj)⟩
  | row live esz xs =>
    obtain ⟨arr, e, fr, h1, h2, h3, h4, h8, h5, h6, h7⟩ := h
    exact ⟨arr, e, fr, hb.trans h1, h2, fun x y => h3 x (hf.2 y), fun x => hf.1 (h4 x), h8, h5, h6, fun j c hj hc' => hc _ _ (h7 j c hj hc')⟩
theorem alloc_ext (_ : Rel Fz ρ σ w) (c : Array Value) (e : TypeId) (fr : Nat × Nat) (n : Nat) (o : Ob) (k : Nat) :
    Ext Fz ρ σ w Fz (ext1 ρ σ.length (w.heap.size, k)) (σ ++ [o]) ((w.drewN n).alloc (.cells c e fr)) where
  os := rfl
  tape := rfl
  output := rfl
  size := by simp [World.alloc, World.drewN]
  len := by simp
  rho := fun id h => ext1_lt h
  fz := fun _ h => h
  fznew := fun _ h => .inl h
  wrold := fun id h hw => by rwa [getO_app_lt h] at hw
  wrnew := fun id h hw => by
    have : id = σ.length := by
      rcases Nat.lt_or_ge σ.length id with h1 | h1
      · rw [getO_app_gt h1] at hw; cases hw
      · omega
    subst this
    rw [ext1_eq]; exact .inl (Nat.le_refl _)
  keep := fun b hb _ => alloc_old (w.drewN n) _ hb
  sizes := fun b arr hb => ⟨arr, (blk_same (alloc_old (w.drewN n) _ (show b < (w.drewN n).heap.size from blk_lt hb))).trans hb, rfl⟩
theorem alloc_rel (hr : Rel Fz ρ σ w) (c : Array Value) (e : TypeId) (fr : Nat × Nat) (n : Nat) (o : Ob) (k : Nat)
    (ho : ObR ((w.drewN n).alloc (.cells c e fr)) Fz (ext1 ρ σ.length (w.heap.size, k)) (σ.length + 1) (w.heap.size, k) o) :
    Rel Fz (ext1 ρ σ.length (w.heap.size, k)) (σ ++ [o]) ((w.drewN n).alloc (.cells c e fr)) := by
  have hx := alloc_ext hr c e fr n o k
  have hn : (σ ++ [o]).length = σ.length + 1 := by simp
  refine ⟨fun b hb => Nat.lt_of_lt_of_le (hr.fz b hb) hx.size, fun id => ?_, fun id id' hne hw hs => ?_⟩
  · rcases Nat.lt_trichotomy id σ.length with h | rfl | h
    · rw [getO_app_lt h, ext1_lt h, hn]
      cases hg : some' (getO σ id) with
      | false => cases hq : getO σ id <;> simp_all [some', ObR]
      | true =>
        have hob := hr.ob id
        have hlt : (ρ id).1 < w.heap.size := by
          cases hq : getO σ id with
          | none => simp [hq, some'] at hg
          | var v => rw [hq] at hob; obtain ⟨arr, _, _, h1, _⟩ := hob; exact (Array.getElem?_eq_some_iff.1 h1).1
          | row l z xs => rw [hq] at hob; obtain ⟨arr, _, _, h1, _⟩ := hob; exact (Array.getElem?_eq_some_iff.1 h1).1
        refine hob.mono (alloc_old (w.drewN n) _ hlt) Iff.rfl (fun v d hc => hc.ext hx hr) (fun v d hc => ?_)
        have := hc.ext hx hr
        rwa [hn] at this
    · rw [getO_app_eq, ext1_eq, hn]; exact ho
    · rw [getO_app_gt h]; trivial
  · have hlt : ∀ i, i < σ.length → some' (getO σ i) = true → (ρ i).1 < w.heap.size := fun i hi hg => by
      have hob := hr.ob i
      cases hq : getO σ i with
      | none => simp [hq, some'] at hg
      | var v => rw [hq] at hob; obtain ⟨arr, _, _, h1, _⟩ := hob; exact (Array.getElem?_eq_some_iff.1 h1).1
      | row l z xs => rw [hq] at hob; obtain ⟨arr, _, _, h1, _⟩ := hob; exact (Array.getElem?_eq_some_iff.1 h1).1
    have hle : ∀ i, some' (getO (σ ++ [o]) i) = true → i < σ.length ∨ i = σ.length := fun i hi => by
      rcases Nat.lt_trichotomy i σ.length with h | h | h
      · exact .inl h
      · exact .inr h
      · rw [getO_app_gt h] at hi; cases hi
    rcases hle id (wr_some hw) with h1 | h1 <;> rcases hle id' hs with h2 | h2
    · rw [ext1_lt h1, ext1_lt h2]
      rw [getO_app_lt h1] at hw
      rw [getO_app_lt h2] at hs
      exact hr.sep id id' hne hw hs
    · subst h2
      rw [ext1_eq, ext1_lt h1]
      rw [getO_app_lt h1] at hw
      exact fun e => Nat.lt_irrefl _ (e ▸ hlt id h1 (wr_some hw))
    · subst h1
      rw [ext1_eq, ext1_lt h2]
      rw [getO_app_lt h2] at hs
      exact fun e => Nat.lt_irrefl _ (e.symm ▸ hlt id' h2 hs)
    · omega
end
end Go.AM
end
section
namespace Go.AM
section
variable {P : Program} {w : World} {Fz : Nat → Prop} {ρ : Nat → Nat × Nat} {n : Nat} {σ : List Ob}
theorem one_cells {v : Value} (h : v.oneCell' = true) : v.cells = #[v] := by cases v <;> first | rfl | simp [Value.oneCell'] at h
theorem cellsOf_one {x : AV} (h : ∀ cs, x ≠ .agg cs) : cellsOf x = [x] := by cases x <;> first | rfl | exact absurd rfl (h _)
theorem ofV_noagg (v : Value) : ∀ cs, ofV v ≠ .agg cs := by intro cs; unfold ofV; split <;> simp
theorem VC.noagg {v : Value} {cs : List AV} (h : VC w Fz ρ n v (.agg cs)) : False := by cases h with | cr h => cases h
theorem cells_ok {v : Value} {x : AV} (hv : VR w Fz ρ n v x) (hx : okStore x = true) : v.cells.size = (cellsOf x).length ∧ ∀ j, j < (cellsOf x).length → VC w Fz ρ n (v.cells.getD j .nilIface) ((cellsOf x).getD j .undef) := by
  by_cases ha : ∃ cs, x = .agg cs
  · obtain ⟨cs, rfl⟩ := ha
    obtain ⟨arr, rfl, hs, hc⟩ := hv
    exact ⟨hs, hc⟩
  · have hna : ∀ cs, x ≠ .agg cs := fun cs e => ha ⟨cs, e⟩
    have hvc : VC w Fz ρ n v x := (hv.to1 (fun vs e => by subst e; simp [okStore] at hx)).to_VC hna (fun e => by subst e; simp [okStore] at hx)
    rw [cellsOf_one hna, one_cells hvc.one]
    refine ⟨rfl, fun j hj => ?_⟩
    simp at hj
    subst hj
    exact hvc
theorem zero_cells {z : Value} (h1 : ∀ v ∈ z.cells.toList, v.oneCell' = true) (h2 : (∃ cs, z = .agg cs) ∨ z.oneCell' = true) : (cellsOf (ofVal z)).length = z.cells.size ∧ ∀ j, j < z.cells.size → VC w Fz ρ n (z.cells.getD j .nilIface) ((cellsOf (ofVal z)).getD j .undef) := by
  rcases h2 with ⟨cs, rfl⟩ | h2
  · refine ⟨by simp [ofVal, cells_agg, Value.cells], fun j hj => ?_⟩
    simp only [Value.cells] at hj h1 ⊢
    simp only [ofVal, cells_agg]
    have hm : cs[j] ∈ cs.toList := by simp
    have e1 : cs.getD j .nilIface = cs[j] := by simp [Array.getD, hj]
    have e2 : (cs.toList.map ofV).getD j .undef = ofV cs[j] := by simp [List.getD, hj]
    rw [e1, e2]
    exact VC.ofV (h1 _ hm)
  · have e : ofVal z = ofV z := by cases z <;> first | rfl | simp [Value.oneCell'] at h2
    rw [e, cellsOf_one (ofV_noagg z), one_cells h2]
    refine ⟨rfl, fun j hj => ?_⟩
    simp at hj
    subst hj
    exact VC.ofV h2
theorem fresh_fz (hr : Rel Fz ρ σ w) : ¬ Fz w.heap.size := fun h => Nat.lt_irrefl _ (hr.fz _ h)
theorem free0 (arr : Array Value) : Free arr (0, 0) := .inr (Nat.le_refl _)
theorem newvar_ok (hr : Rel Fz ρ σ w) {x : AV} (hx : okStore x = true) {v : Value} (hs : (cellsOf x).length ≤ v.cells.size) (hc : ∀ j, j < (cellsOf x).length → VC w Fz ρ σ.length (v.cells.getD j .nilIface) ((cellsOf x).getD j .undef)) (t : TypeId) :
    ∃ w' ρ', (newVar t v).run P w = .ok ⟨w.heap.size, 0, none⟩ w' ∧ VR w' Fz ρ' (σ ++ [Ob.var x]).length (.pointer (some ⟨w.heap.size, 0, none⟩)) (.vp σ.length 0) ∧ Rel Fz ρ' (σ ++ [.var x]) w' ∧ Ext Fz ρ σ w Fz ρ' (σ ++ [.var x]) w' := by
  have hx0 := alloc_ext hr v.cells t (0, 0) 0 (.var x) 0
  have e0 : w.drewN 0 = w := rfl
  rw [e0] at hx0
  refine ⟨w.alloc (.cells v.cells t), ext1 ρ σ.length (w.heap.size, 0), rfl, ?_, ?_, hx0⟩
  · have : VC (w.alloc (.cells v.cells t)) Fz (ext1 ρ σ.length (w.heap.size, 0)) (σ ++ [Ob.var x]).length (.pointer (some ⟨(ext1 ρ σ.length (w.heap.size, 0) σ.length).1, 0, none⟩)) (.vp σ.length 0) := VC.vp _ _ (by simp)
    rw [ext1_eq] at this
    exact this
  · refine alloc_rel hr v.cells t (0, 0) 0 (.var x) 0 ⟨v.cells, t, (0, 0), alloc_new w _, free0 _, fresh_fz hr, hs, hx, fun j hj => ?_⟩
    have := (hc j hj).ext hx0 hr
    rw [List.length_append] at this
    exact this
theorem alloc_ok (hr : Rel Fz ρ σ w) {t : TypeId} (ht : tyOk P t = true) (hx : okStore (zeroT P t) = true) : StepOk P (do pure (.value (← Instr.alloc t true (.tuple #[])))) w Fz ρ σ (.vp σ.length 0) (σ ++ [.var (zeroT P t)]) := by
  obtain ⟨z, hz, hzt, hzs, hz1, hz2⟩ := run_zeroT ht
  have hz3 : (∃ cs, z = .agg cs) ∨ z.oneCell' = true := hz2.imp (fun h => h.2) (fun h => h.2)
  obtain ⟨hl, hc⟩ := zero_cells (w := w) (Fz := Fz) (ρ := ρ) (n := σ.length) hz1 hz3
  rw [← hzt] at hl hc
  obtain ⟨w', ρ', h1, h2, h3, h4⟩ := newvar_ok (P := P) hr hx (v := z) (by omega) (fun j hj => hc j (by omega)) t
  exact ⟨_, w', Fz, ρ', by simp only [Instr.alloc, Sem.run_bind, hz, Result.andThen_ok, h1, Sem.run_pure], .inl ⟨_, rfl, h2⟩, h3, h4⟩
theorem box_ok (hr : Rel Fz ρ σ w) {t : TypeId} {x : AV} (hx : okStore x = true) {v : Value} (hv : VR w Fz ρ σ.length v x) : StepOk P (do pure (.value (← Instr.box t v))) w Fz ρ σ (.vp σ.length 0) (σ ++ [.var x]) := by
  obtain ⟨hl, hc⟩ := cells_ok hv hx
  obtain ⟨w', ρ', h1, h2, h3, h4⟩ := newvar_ok (P := P) hr hx (v := v) (by omega) hc t
  exact ⟨_, w', Fz, ρ', by simp only [Instr.box, Sem.run_bind, Result.andThen_ok, h1, Sem.run_pure], .inl ⟨_, rfl, h2⟩, h3, h4⟩
theorem newrow_ok (hr : Rel Fz ρ σ w) {xs : List AV} {esz : Nat} (arr : Array Value) (t : TypeId) (fr : Nat × Nat) (hfr : Free arr fr) (dn cap : Nat) (hlen : ∀ j, j < xs.length → (cellsOf (xs.getD j .undef)).length = esz)
    (hsz : xs.length * esz ≤ arr.size) (hcap : cap * esz ≤ arr.size) (hcx : xs.length ≤ cap)
    (hc : ∀ j c, j < xs.length → c < esz → CR w Fz (arr.getD (j * esz + c) .nilIface) ((cellsOf (xs.getD j .undef)).getD c .undef)) :
    ∃ ρ', VR ((w.drewN dn).alloc (.cells arr t fr)) Fz ρ' (σ ++ [Ob.row true esz xs]).length (.slice (some ⟨w.heap.size, 0, none⟩) xs.length cap) (.sl σ.length esz 0 xs.length) ∧
      Rel Fz ρ' (σ ++ [.row true esz xs]) ((w.drewN dn).alloc (.cells arr t fr)) ∧ Ext Fz ρ σ w Fz ρ' (σ ++ [.row true esz xs]) ((w.drewN dn).alloc (.cells arr t fr)) := by
  have hx0 := alloc_ext hr arr t fr dn (.row true esz xs) xs.length
  refine ⟨ext1 ρ σ.length (w.heap.size, xs.length), ?_, ?_, hx0⟩
  · have : VC ((w.drewN dn).alloc (.cells arr t fr)) Fz (ext1 ρ σ.length (w.heap.size, xs.length)) (σ ++ [Ob.row true esz xs]).length (.slice (some ⟨(ext1 ρ σ.length (w.heap.size, xs.length) σ.length).1, 0 * esz, none⟩) xs.length cap) (.sl σ.length esz 0 xs.length) :=
      VC.sl _ _ _ _ _ (by simp) hcx (by rw [ext1_eq]; omega) ⟨arr, by rw [ext1_eq]; exact blk_alloc (w.drewN dn) arr t fr, by rw [Nat.zero_add]; exact hcap⟩
    rw [ext1_eq, Nat.zero_mul] at this
    exact this
  · exact alloc_rel hr arr t fr dn (.row true esz xs) xs.length ⟨arr, t, fr, alloc_new (w.drewN dn) _, hfr, fun _ => fresh_fz hr, (fun h => by cases h), rfl, hsz, hlen, fun j c hj hc' => (hc j c hj hc').ext hx0 hr⟩
end
end Go.AM
end
section
namespace Go.AM
section
variable {P : Program} {w : World} {Fz : Nat → Prop} {ρ : Nat → Nat × Nat} {n : Nat} {σ : List Ob}
def addFz (Fz : Nat → Prop) (b : Nat) : Nat → Prop := fun x => Fz x ∨ x = b
theorem freeze1_len (σ : List Ob) (id : Nat) : (freeze1 σ id).length = σ.length := by unfold freeze1; split <;> simp
theorem freezeL_len (ids : List Nat) : ∀ σ : List Ob, (freezeL σ ids).length = σ.length := by
  induction ids with
  | nil => intro σ; rfl
  | cons i r ih => intro σ; show (freezeL (freeze1 σ i) r).length = _; rw [ih, freeze1_len]
theorem freeze1_row {σ : List Ob} {id i : Nat} {l e xs} (h : getO σ i = .row l e xs) : ∃ l', getO (freeze1 σ id) i = .row l' e xs := by
  unfold freeze1
  split
  · rename_i l0 e0 ys hg
    by_cases hi : id = i
    · subst hi
      rw [h] at hg
      cases hg
      exact ⟨false, getO_set_eq (getO_lt (by rw [h]; rfl))⟩
    · exact ⟨l, by rw [getO_set_ne hi, h]⟩
  · exact ⟨l, h⟩
theorem freezeL_row (ids : List Nat) : ∀ {σ : List Ob} {i l e xs}, getO σ i = .row l e xs → ∃ l', getO (freezeL σ ids) i = .row l' e xs := by
  induction ids with
  | nil => intro σ i l e xs h; exact ⟨l, h⟩
  | cons j r ih => intro σ i l e xs h; obtain ⟨l', h'⟩ := freeze1_row (id := j) h; exact ih h'
theorem freeze1_other {σ : List Ob} {id i : Nat} (h : ∀ l e xs, getO σ i ≠ .row l e xs) : getO (freeze1 σ id) i = getO σ i := by
  unfold freeze1
  split
  · rename_i l e xs hg
    by_cases hi : id = i
    · subst hi; exact absurd hg (h _ _ _)
    · exact getO_set_ne hi
  · rfl
theorem freeze1_wr {σ : List Ob} {id i : Nat} (h : wr (getO (freeze1 σ id) i) = true) : wr (getO σ i) = true := by
  unfold freeze1 at h
  split at h
  · rename_i l e xs hg
    by_cases hi : id = i
    · subst hi
      rw [getO_set_eq (getO_lt (by rw [hg]; rfl))] at h
      cases h
    · rwa [getO_set_ne hi] at h
  · exact h
theorem freeze1_some {σ : List Ob} {id i : Nat} : some' (getO (freeze1 σ id) i) = some' (getO σ i) := by
  unfold freeze1
  split
  · rename_i l e xs hg
    by_cases hi : id = i
    · subst hi
      rw [getO_set_eq (getO_lt (by rw [hg]; rfl)), hg]; rfl
    · rw [getO_set_ne hi]
  · rfl
theorem freeze1_ok (hr : Rel Fz ρ σ w) (id : Nat) : ∃ Fz', Rel Fz' ρ (freeze1 σ id) w ∧ Ext Fz ρ σ w Fz' ρ (freeze1 σ id) w ∧ ∀ l e xs, getO σ id = .row l e xs → Fz' (ρ id).1 := by
  cases hg : getO σ id with
  | none => exact ⟨Fz, by simp only [freeze1, hg]; exact hr, by simp only [freeze1, hg]; exact Ext.refl _ _ _ _, by simp⟩
  | var v => exact ⟨Fz, by simp only [freeze1, hg]; exact hr, by simp only [freeze1, hg]; exact Ext.refl _ _ _ _, by simp⟩
  | row live esz xs =>
    have hlt := getO_lt (σ := σ) (id := id) (by rw [hg]; rfl)
    have hob := hr.ob id
    rw [hg] at hob
    obtain ⟨arr, e, fr, h1, h2, h3, h4, h8, h5, h6, h7⟩ := hob
    have hx : Ext Fz ρ σ w (addFz Fz (ρ id).1) ρ (freeze1 σ id) w :=
      { os := rfl, tape := rfl, output := rfl, size := Nat.le_refl _, len := by rw [freeze1_len]; exact Nat.le_refl _, rho := fun _ _ => rfl, fz := fun _ h => .inl h,
        fznew := fun b hb => by
          rcases hb with hb | rfl
          · exact .inl hb
          · cases live with
            | true => exact .inr (.inr ⟨id, hlt, by rw [hg]; rfl, rfl⟩)
            | false => exact .inl (h4 rfl)
        wrold := fun i _ hw => freeze1_wr hw
        wrnew := fun i hi hw => by rw [getO_ge (by rw [freeze1_len]; exact hi)] at hw; cases hw
        keep := fun _ _ _ => rfl
        sizes := fun _ arr h => ⟨arr, h, rfl⟩ }
    refine ⟨addFz Fz (ρ id).1, ⟨?_, ?_, ?_⟩, hx, fun _ _ _ _ => .inr rfl⟩
    · rintro b (hb | rfl)
      · exact hr.fz b hb
      · exact (Array.getElem?_eq_some_iff.1 h1).1
    · intro i
      have hcr : ∀ v d, CR w Fz v d → CR w (addFz Fz (ρ id).1) v d := fun v d h => h.ext hx hr
      have hvc : ∀ v d, VC w Fz ρ σ.length v d → VC w (addFz Fz (ρ id).1) ρ (freeze1 σ id).length v d := fun v d h => h.ext hx hr
      by_cases hi : i = id
      · subst hi
        have e1 : getO (freeze1 σ i) i = .row false esz xs := by simp only [freeze1, hg]; exact getO_set_eq hlt
        rw [e1]
        exact ⟨arr, e, fr, h1, h2, (fun h => by cases h), fun _ => .inr rfl, h8, h5, h6, fun j c hj hc => hcr _ _ (h7 j c hj hc)⟩
      · have e1 : getO (freeze1 σ id) i = getO σ i := by simp only [freeze1, hg]; exact getO_set_ne (Ne.symm hi)
        rw [e1]
        have hob := hr.ob i
        have hne : wr (getO σ i) = true → (ρ id).1 ≠ (ρ i).1 := fun hw => hr.sep i id hi hw (by rw [hg]; rfl)
        cases hq : getO σ i with
        | none => trivial
        | var v =>
          rw [hq] at hob hne
          obtain ⟨arr, e, fr, k1, k2, k3, k4, k5, k6⟩ := hob
          exact ⟨arr, e, fr, k1, k2, (fun h => by rcases h with h | h; exact k3 h; exact hne rfl h.symm), k4, k5, fun j hj => hvc _ _ (k6 j hj)⟩
        | row l z ys =>
          rw [hq] at hob hne
          obtain ⟨arr, e, fr, k1, k2, k3, k4, k8, k5, k6, k7⟩ := hob
          exact ⟨arr, e, fr, k1, k2, (fun hl h => by rcases h with h | h; exact k3 hl h; exact hne hl h.symm), fun hl => .inl (k4 hl), k8, k5, k6, fun j c hj hc => hcr _ _ (k7 j c hj hc)⟩
    · intro i j hne hw hs
      rw [freeze1_some] at hs
      exact hr.sep i j hne (freeze1_wr hw) hs
theorem freezeL_ok (ids : List Nat) : ∀ {Fz : Nat → Prop} {σ : List Ob}, Rel Fz ρ σ w → ∃ Fz', Rel Fz' ρ (freezeL σ ids) w ∧ Ext Fz ρ σ w Fz' ρ (freezeL σ ids) w ∧ ∀ i ∈ ids, ∀ l e xs, getO σ i = .row l e xs → Fz' (ρ i).1 := by
  induction ids with
  | nil => intro Fz σ hr; exact ⟨Fz, hr, Ext.refl _ _ _ _, by simp⟩
  | cons i r ih =>
    intro Fz σ hr
    obtain ⟨Fz1, h1, h2, h3⟩ := freeze1_ok hr i
    obtain ⟨Fz2, k1, k2, k3⟩ := ih h1
    refine ⟨Fz2, k1, h2.trans k2, fun j hj l e xs hg => ?_⟩
    rcases List.mem_cons.1 hj with rfl | hj
    · exact k2.fz _ (h3 _ _ _ hg)
    · obtain ⟨l', hg'⟩ := freeze1_row (id := i) hg
      exact k3 j hj _ _ _ hg'
theorem treeC_ok {σ : List Ob} {x : AV} (hr : Rel Fz ρ σ w) (hF : ∀ i ∈ refsC x, ∀ l e xs, getO σ i = .row l e xs → Fz (ρ i).1) {v : Value} (h : VC w Fz ρ n v x) : CR w Fz v (treeC σ x) := by
  cases h with
  | cr h =>
    cases h with
    | fn h1 h2 =>
      rename_i f vs caps
      cases caps with
      | nil => exact .fn h1 h2
      | cons c r => exact .undef _ rfl
    | undef v h => exact .undef v h
    | int => exact .int _ _
    | bool => exact .bool _
    | str => exact .str _
    | nilp => exact .nilp
    | nilf => exact .nilf
    | ts0 => exact .ts0 _ _ _
    | ts arr h1 h2 h3 h7 h4 h5 h6 => exact .ts arr h1 h2 h3 h7 h4 h5 h6
    | tp arr h1 h2 h3 h4 h5 h6 => exact .tp arr h1 h2 h3 h4 h5 h6
  | vp => exact .undef _ rfl
  | rp => exact .undef _ rfl
  | sl0 o id esz i0 hi =>
    unfold treeC
    simp only
    split
    · split
      · simp only [List.take_zero]; exact .ts0 _ _ _
      · exact .undef _ rfl
    · exact .undef _ rfl
  | sl id esz i0 len cap hi hcap hk hsz =>
    unfold treeC
    simp only
    split
    · rename_i live esz' xs hg
      split
      · rename_i he
        subst he
        have hf := hF id (by simp [refsC]) _ _ _ hg
        have hob := hr.ob id
        rw [hg] at hob
        obtain ⟨arr, e, fr, h1, h2, h3, h4, h8, h5, h6, h7⟩ := hob
        obtain ⟨arr', ha', hs'⟩ := hsz
        have hb : blk w (ρ id).1 = some arr := by simp [blk, h1]
        rw [hb] at ha'; cases ha'
        have hl : i0 + len ≤ xs.length := by rw [h8]; exact hk
        have hlen : ((xs.drop i0).take len).length = len := by simp; omega
        have hgt : ∀ j, j < len → ((xs.drop i0).take len).getD j .undef = xs.getD (i0 + j) .undef := fun j hj => by
          simp only [List.getD, List.getElem?_take, if_pos hj, List.getElem?_drop]
        refine CR.tsE (.ts arr hf hb hlen hcap ?_ (fun j hj => ?_) (fun j c hj hc => ?_))
        · have : (i0 + len) * esz' ≤ (i0 + cap) * esz' := Nat.mul_le_mul_right _ (by omega)
          rw [Nat.add_mul] at this
          omega
        · rw [hgt j (by omega)]; exact h6 _ (by omega)
        · rw [hgt j (by omega), show i0 * esz' + j * esz' + c = (i0 + j) * esz' + c by rw [Nat.add_mul]]
          exact h7 _ c (by omega) hc
      · exact .undef _ rfl
    · exact .undef _ rfl
  | nils o => exact .ts0 _ _ _
  | fn h1 h2 =>
    rename_i f vs caps
    cases caps with
    | nil => exact .fn h1 (fun j hj => absurd hj (by simp))
    | cons c r => exact .undef _ rfl
end
end Go.AM
end
section
namespace Go.AM
section
variable {P : Program} {w : World} {Fz : Nat → Prop} {ρ : Nat → Nat × Nat} {n : Nat} {σ : List Ob}
def RowC (w : World) (Fz : Nat → Prop) (esz : Nat) (arr : Array Value) (xs : List AV) : Prop :=
  arr.size = xs.length * esz ∧ (∀ j, j < xs.length → (cellsOf (xs.getD j .undef)).length = esz) ∧
  (∀ j c, j < xs.length → c < esz → CR w Fz (arr.getD (j * esz + c) .nilIface) ((cellsOf (xs.getD j .undef)).getD c .undef))
theorem foldl_set (vs : List Value) : ∀ (off k0 : Nat) (arr : Array Value), (vs.zipIdx k0).foldl (fun cs (c, j) => cs.setIfInBounds (off + j) c) arr = ((vs.zipIdx (off + k0)).foldl (fun cs (c, j) => cs.setIfInBounds j c) arr) := by
  induction vs with
  | nil => intro off k0 arr; rfl
  | cons v r ih =>
    intro off k0 arr
    simp only [List.zipIdx_cons, List.foldl_cons]
    rw [ih off (k0 + 1), Nat.add_assoc]
theorem foldl_set0 (vs : List Value) : ∀ (off : Nat) (arr : Array Value), off + vs.length ≤ arr.size → ((vs.zipIdx off).foldl (fun cs (c, j) => cs.setIfInBounds j c) arr).size = arr.size ∧
    ∀ k, ((vs.zipIdx off).foldl (fun cs (c, j) => cs.setIfInBounds j c) arr).getD k .nilIface = if off ≤ k ∧ k < off + vs.length then vs.getD (k - off) .nilIface else arr.getD k .nilIface := by
  induction vs with
  | nil => intro off arr _; refine ⟨rfl, fun k => ?_⟩; rw [if_neg (by simp only [List.length_nil]; omega)]; rfl
  | cons v r ih =>
    intro off arr h
    simp only [List.length_cons] at h
    obtain ⟨h1, h2⟩ := ih (off + 1) (arr.setIfInBounds off v) (by simp; omega)
    simp only [List.zipIdx_cons, List.foldl_cons]
    refine ⟨by rw [h1]; simp, fun k => ?_⟩
    rw [h2 k]
    simp only [List.length_cons, Array.getD_eq_getD_getElem?]
    by_cases hk : k = off
    · subst hk
      rw [if_neg (by omega), if_pos (by omega), Nat.sub_self]
      simp [show k < arr.size by omega]
    · rw [Array.getElem?_setIfInBounds_ne (Ne.symm hk)]
      by_cases hc : off + 1 ≤ k ∧ k < off + 1 + r.length
      · rw [if_pos hc, if_pos (by omega), show k - off = (k - (off + 1)) + 1 by omega]; rfl
      · rw [if_neg hc, if_neg (by omega)]
theorem fill_step (v : Value) (off : Nat) (arr : Array Value) (h : off + v.cells.size ≤ arr.size) :
    (v.cells.zipIdx.foldl (fun cs (c, j) => cs.setIfInBounds (off + j) c) arr).size = arr.size ∧
    ∀ k, (v.cells.zipIdx.foldl (fun cs (c, j) => cs.setIfInBounds (off + j) c) arr).getD k .nilIface = if off ≤ k ∧ k < off + v.cells.size then v.cells.getD (k - off) .nilIface else arr.getD k .nilIface := by
  have e : v.cells.zipIdx.foldl (fun cs (c, j) => cs.setIfInBounds (off + j) c) arr = (v.cells.toList.zipIdx off).foldl (fun cs (c, j) => cs.setIfInBounds j c) arr := by
    rw [← Array.foldl_toList, Array.toList_zipIdx]
    have := foldl_set v.cells.toList off 0 arr
    rw [Nat.add_zero] at this
    exact this
  rw [e]
  obtain ⟨h1, h2⟩ := foldl_set0 v.cells.toList off arr (by simpa using h)
  refine ⟨h1, fun k => ?_⟩
  rw [h2 k]
  simp only [Array.length_toList]
  split
  · simp [List.getD, Array.getD_eq_getD_getElem?]
  · rfl
theorem zeros_get (z : Array Value) (m k : Nat) (hz : 0 < z.size) (hk : k < m) : ((Array.range m).map (z[· % z.size]!)).getD k .nilIface = z.getD (k % z.size) .nilIface := by
  have : k % z.size < z.size := Nat.mod_lt _ hz
  simp [Array.getD_eq_getD_getElem?, hk, this]
theorem tree_cells {σ : List Ob} (hr : Rel Fz ρ σ w) {x : AV} (hF : ∀ i ∈ refsA x, ∀ l e xs, getO σ i = .row l e xs → Fz (ρ i).1) {v : Value} (hv : VR w Fz ρ n v x) (hx : okStore x = true) :
    v.cells.size = (cellsOf (treeA σ x)).length ∧ (cellsOf (treeA σ x)).length = (cellsOf x).length ∧ ∀ j, j < (cellsOf x).length → CR w Fz (v.cells.getD j .nilIface) ((cellsOf (treeA σ x)).getD j .undef) := by
  obtain ⟨h1, h2⟩ := cells_ok hv hx
  have hm : ∀ y ∈ cellsOf x, ∀ i ∈ refsC y, i ∈ refsA x := fun y hy i hi => List.mem_flatMap.2 ⟨y, hy, hi⟩
  by_cases ha : ∃ cs, x = .agg cs
  · obtain ⟨cs, rfl⟩ := ha
    simp only [treeA, cells_agg] at *
    refine ⟨by simpa using h1, by simp, fun j hj => ?_⟩
    have e : (cs.map (treeC σ)).getD j .undef = treeC σ (cs.getD j .undef) := by simp [List.getD, hj]
    rw [e]
    refine treeC_ok hr (fun i hi => hF i (hm _ ?_ i hi)) (h2 j hj)
    simp [List.getD, hj]
  · have hna : ∀ cs, x ≠ .agg cs := fun cs e => ha ⟨cs, e⟩
    have e : treeA σ x = treeC σ x := by cases x <;> first | rfl | exact absurd rfl (hna _)
    have hvc : VC w Fz ρ n v x := (hv.to1 (fun vs e => by subst e; simp [okStore] at hx)).to_VC hna (fun e => by subst e; simp [okStore] at hx)
    have hc := treeC_ok hr (fun i hi => hF i (hm x (by rw [cellsOf_one hna]; simp) i hi)) hvc
    rw [e]
    have hnt : ∀ cs, treeC σ x ≠ .agg cs := fun cs e => by rw [e] at hc; cases hc
    rw [cellsOf_one hna, cellsOf_one hnt, one_cells hvc.one]
    refine ⟨rfl, rfl, fun j hj => ?_⟩
    simp at hj
    subst hj
    exact hc
theorem setAll_ok {σ : List Ob} (hr : Rel Fz ρ σ w) {esz m : Nat} : ∀ (ps : List (Nat × Value × AV)) (arr : Array Value) (xs : List AV), RowC w Fz esz arr xs → xs.length = m →
    (∀ p ∈ ps, p.1 < m ∧ (cellsOf p.2.2).length = esz ∧ okStore p.2.2 = true ∧ VR w Fz ρ n p.2.1 p.2.2 ∧ ∀ i ∈ refsA p.2.2, ∀ l e xs, getO σ i = .row l e xs → Fz (ρ i).1) →
    ∃ arr', Instr.fill (fun i => some (i * esz, esz)) arr (ps.map fun p => (p.1, p.2.1)) = some arr' ∧ RowC w Fz esz arr' (setAll xs (ps.map fun p => (p.1, treeA σ p.2.2))) := by
  intro ps
  induction ps with
  | nil => intro arr xs h _ _; exact ⟨arr, rfl, h⟩
  | cons p r ih =>
    intro arr xs h hm hp
    obtain ⟨h1, h2, h3, h4, h5⟩ := hp p (by simp)
    obtain ⟨t1, t2, t3⟩ := tree_cells hr h5 h4 h3
    have hsz : p.2.1.cells.size = esz := by omega
    have hle : p.1 * esz + esz ≤ arr.size := by rw [h.1, hm]; exact idx_le h1
    obtain ⟨f1, f2⟩ := fill_step p.2.1 (p.1 * esz) arr (by omega)
    have hrow : RowC w Fz esz (p.2.1.cells.zipIdx.foldl (fun cs (c, j) => cs.setIfInBounds (p.1 * esz + j) c) arr) (xs.set p.1 (treeA σ p.2.2)) := by
      refine ⟨by rw [f1, h.1]; simp, fun j hj => ?_, fun j c hj hc => ?_⟩
      · simp at hj
        by_cases hjp : p.1 = j
        · subst hjp; simp [List.getD, hj]; omega
        · have := h.2.1 j hj
          simp only [List.getD, List.getElem?_set_ne hjp] at this ⊢; exact this
      · simp at hj
        rw [f2, hsz]
        by_cases hjp : p.1 = j
        · subst hjp
          rw [if_pos (by omega), show p.1 * esz + c - p.1 * esz = c by omega]
          have e : (xs.set p.1 (treeA σ p.2.2)).getD p.1 .undef = treeA σ p.2.2 := by simp [List.getD, hj]
          rw [e]
          exact t3 c (by omega)
        · have hno : ¬ (p.1 * esz ≤ j * esz + c ∧ j * esz + c < p.1 * esz + esz) := by
            rcases Nat.lt_or_ge p.1 j with hlt | hge
            · have := idx_le (e := esz) hlt; omega
            · have := idx_le (e := esz) (show j < p.1 by omega); omega
          rw [if_neg hno]
          have := h.2.2 j c hj hc
          simp only [List.getD, List.getElem?_set_ne hjp] at this ⊢; exact this
    obtain ⟨arr', k1, k2⟩ := ih _ _ hrow (by simpa using hm) (fun q hq => hp q (by simp [hq]))
    refine ⟨arr', ?_, k2⟩
    simp only [List.map_cons, Instr.fill]
    rw [if_neg (by simp; omega)]
    exact k1
theorem CR.ofV0 {v : Value} (h : v.oneCell' = true) : CR w Fz v (treeC [] (ofV v)) := by
  unfold ofV
  split <;> first
    | exact .int _ _
    | exact .bool _
    | exact .str _
    | exact .nilp
    | exact .nilf
    | exact .ts0 _ _ _
    | exact .undef _ h
theorem zeroE_cells {z : Value} (h1 : ∀ v ∈ z.cells.toList, v.oneCell' = true) (h2 : (∃ cs, z = .agg cs) ∨ z.oneCell' = true) : (cellsOf (treeA [] (ofVal z))).length = z.cells.size ∧
    ∀ j, j < z.cells.size → CR w Fz (z.cells.getD j .nilIface) ((cellsOf (treeA [] (ofVal z))).getD j .undef) := by
  rcases h2 with ⟨cs, rfl⟩ | h2
  · refine ⟨by simp [ofVal, treeA, cells_agg, Value.cells], fun j hj => ?_⟩
    simp only [Value.cells] at hj h1 ⊢
    simp only [ofVal, treeA, cells_agg]
    have hm : cs[j] ∈ cs.toList := by simp
    have e1 : cs.getD j .nilIface = cs[j] := by simp [Array.getD, hj]
    have e2 : ((cs.toList.map ofV).map (treeC [])).getD j .undef = treeC [] (ofV cs[j]) := by simp [List.getD, hj]
    rw [e1, e2]
    exact CR.ofV0 (h1 _ hm)
  · have e : ofVal z = ofV z := by cases z <;> first | rfl | simp [Value.oneCell'] at h2
    have hc : CR w Fz z (treeC [] (ofV z)) := CR.ofV0 h2
    have e2 : treeA [] (ofV z) = treeC [] (ofV z) := by
      have := ofV_noagg z
      generalize ofV z = y at this
      cases y <;> first | rfl | exact absurd rfl (this _)
    have hnt : ∀ cs, treeC [] (ofV z) ≠ .agg cs := fun cs e => by rw [e] at hc; cases hc
    rw [e, e2, cellsOf_one hnt, one_cells h2]
    refine ⟨rfl, fun j hj => ?_⟩
    simp at hj
    subst hj
    exact hc
theorem zero_row {e : TypeId} (he : tyOk P e = true) {z : Value} (hz : ∀ w, (zeroValue e).run P w = .ok z w) (m : Nat) :
    RowC w Fz (sizeT P e) ((Array.range (m * sizeT P e)).map ((if m * sizeT P e = 0 then #[] else z.cells)[· % (if m * sizeT P e = 0 then #[] else z.cells).size]!)) (List.replicate m (zeroE P e)) := by
  obtain ⟨z', hz', hzt, hzs, hz1, hz2⟩ := run_zeroT he
  have : z' = z := by have := hz' default; rw [hz default] at this; injection this with this; exact this.symm
  subst this
  have hz3 : (∃ cs, z' = .agg cs) ∨ z'.oneCell' = true := hz2.imp (fun h => h.2) (fun h => h.2)
  obtain ⟨hl, hc⟩ := zeroE_cells (w := w) (Fz := Fz) hz1 hz3
  rw [← hzt] at hl hc
  have hrep : ∀ j, j < m → (List.replicate m (zeroE P e)).getD j .undef = treeA [] (zeroT P e) := fun j hj => by simp [List.getD, hj, zeroE]
  refine ⟨by simp, fun j hj => ?_, fun j c hj hcc => ?_⟩
  · simp at hj; rw [hrep j hj]; omega
  · simp at hj
    rw [hrep j hj]
    have hpos : 0 < sizeT P e := by omega
    have hne : ¬ m * sizeT P e = 0 := by
      have := idx_le (e := sizeT P e) hj
      omega
    simp only [if_neg hne]
    have hlt : j * sizeT P e + c < m * sizeT P e := by have := idx_le (e := sizeT P e) hj; omega
    rw [zeros_get z'.cells _ _ (by omega) hlt, hzs, show (j * sizeT P e + c) % sizeT P e = c by rw [Nat.mul_comm, Nat.mul_add_mod]; exact Nat.mod_eq_of_lt hcc]
    exact hc c (by omega)
end
end Go.AM
end
section
namespace Go.AM
section
variable {P : Program} {w : World} {Fz : Nat → Prop} {ρ : Nat → Nat × Nat} {n : Nat} {σ : List Ob}
theorem freeze1_tree {σ : List Ob} {i : Nat} {x : AV} : treeC (freeze1 σ i) x = treeC σ x := by
  cases x with
  | sl id esz' i0 len =>
    by_cases hg : ∃ l e xs, getO σ id = .row l e xs
    · obtain ⟨l, e, xs, hg⟩ := hg
      obtain ⟨l', hg'⟩ := freeze1_row (id := i) hg
      simp only [treeC, hg, hg']
    · have := freeze1_other (σ := σ) (id := i) (i := id) (fun l e xs h => hg ⟨l, e, xs, h⟩)
      simp only [treeC, this]
  | fn f caps => cases caps <;> rfl
  | _ => rfl
theorem freezeL_tree (ids : List Nat) : ∀ {σ : List Ob} {x : AV}, treeC (freezeL σ ids) x = treeC σ x := by
  induction ids with
  | nil => intro σ x; rfl
  | cons i r ih => intro σ x; exact (ih (σ := freeze1 σ i)).trans freeze1_tree
theorem freezeL_treeA (ids : List Nat) {σ : List Ob} {x : AV} : treeA (freezeL σ ids) x = treeA σ x := by
  cases x with
  | agg cs => simp only [treeA]; congr 1; exact List.map_congr_left fun y _ => freezeL_tree ids
  | _ => simp only [treeA]; exact freezeL_tree ids
theorem freezeL_ref (ids : List Nat) {σ : List Ob} {i l e xs} (h : getO (freezeL σ ids) i = .row l e xs) : ∃ l', getO σ i = .row l' e xs := by
  induction ids generalizing σ with
  | nil => exact ⟨l, h⟩
  | cons j r ih =>
    obtain ⟨l1, h1⟩ := ih (σ := freeze1 σ j) h
    by_cases hg : ∃ l e xs, getO σ i = .row l e xs
    · obtain ⟨l2, e2, xs2, hg⟩ := hg
      obtain ⟨l', hg'⟩ := freeze1_row (id := j) hg
      rw [hg'] at h1
      cases h1
      exact ⟨_, hg⟩
    · rw [freeze1_other (fun l e xs h => hg ⟨l, e, xs, h⟩)] at h1
      exact ⟨_, h1⟩
theorem setAll_len : ∀ (ps : List (Nat × AV)) (xs : List AV), (setAll xs ps).length = xs.length := by
  intro ps
  induction ps with
  | nil => intro xs; rfl
  | cons p r ih => intro xs; simp only [setAll]; rw [ih]; simp
theorem buildSlice_ok (hr : Rel Fz ρ σ w) {t e : TypeId} (hu : P.underlying t = some (.slice e)) (he : tyOk P e = true) {m : Nat} (hm : m * sizeT P e ≤ 2 ^ 24) (qs : List (Nat × Value × AV))
    (h : ∀ p ∈ qs, p.1 < m ∧ (cellsOf p.2.2).length = sizeT P e ∧ okStore p.2.2 = true ∧ VR w Fz ρ σ.length p.2.1 p.2.2) :
    StepOk P (do pure (.value (← Instr.buildSlice t m (qs.map fun p => (p.1, p.2.1)).toArray))) w Fz ρ σ (if m = 0 then .nils else .sl σ.length (sizeT P e) 0 m)
      (freezeL σ (qs.flatMap fun p => refsA p.2.2) ++ [.row true (sizeT P e) (setAll (List.replicate m (zeroE P e)) (qs.map fun p => (p.1, treeA σ p.2.2)))]) := by
  obtain ⟨z, hz, hzt, hzs, hz1, hz2⟩ := run_zeroT he
  obtain ⟨Fz1, hr1, hx1, hf1⟩ := freezeL_ok (w := w) (qs.flatMap fun p => refsA p.2.2) hr
  have hrow := zero_row (w := w) (Fz := Fz1) he hz m
  obtain ⟨arr, ha, hrow⟩ := setAll_ok (w := w) (m := m) (n := (freezeL σ (qs.flatMap fun p => refsA p.2.2)).length) hr1 qs _ _ hrow (by simp) (fun p hp => by
    obtain ⟨h1, h2, h3, h4⟩ := h p hp
    refine ⟨h1, h2, h3, h4.ext hx1 hr, fun i hi l e xs hg => ?_⟩
    obtain ⟨l', hg'⟩ := freezeL_ref _ hg
    exact hf1 i (List.mem_flatMap.2 ⟨p, hp, hi⟩) _ _ _ hg')
  have he1 : (qs.map fun p => (p.1, treeA (freezeL σ (qs.flatMap fun p => refsA p.2.2)) p.2.2)) = qs.map fun p => (p.1, treeA σ p.2.2) :=
    List.map_congr_left fun p _ => by rw [freezeL_treeA]
  rw [he1] at hrow
  have hlen : (setAll (List.replicate m (zeroE P e)) (qs.map fun p => (p.1, treeA σ p.2.2))).length = m := by rw [setAll_len]; simp
  obtain ⟨ρ', h1, h2, h3⟩ := newrow_ok hr1 arr e (0, 0) (free0 _) 0 m hrow.2.1 (by rw [hrow.1]; exact Nat.le_refl _) (by rw [hrow.1, hlen]; exact Nat.le_refl _) (by omega) hrow.2.2
  have e0 : w.drewN 0 = w := rfl
  rw [e0] at h1 h2 h3
  refine ⟨.value (.slice (some ⟨w.heap.size, 0, none⟩) m m), _, Fz1, ρ', ?_, .inl ⟨_, rfl, ?_⟩, h2, hx1.trans h3⟩
  · simp only [Instr.buildSlice, Sem.run_bind, run_underlying hu, Result.andThen_ok, run_sizeT he]
    rw [if_neg (by omega)]
    by_cases h0 : m * sizeT P e = 0
    · simp only [h0, if_true] at ha ⊢
      simp only [Sem.run_pure, Sem.run_bind, Result.andThen_ok, ha]
      rfl
    · simp only [if_neg h0] at ha ⊢
      simp only [Sem.run_pure, Sem.run_bind, hz, Result.andThen_ok, ha]
      rfl
  · rw [hlen] at h1
    by_cases h0 : m = 0
    · subst h0
      rw [if_pos rfl]
      exact VR.of_VC (VC.nils _)
    · rw [if_neg h0, ← freezeL_len (qs.flatMap fun p => refsA p.2.2) σ]
      exact h1
theorem makeSlice_ok (hr : Rel Fz ρ σ w) {t e : TypeId} (hu : P.underlying t = some (.slice e)) (he : tyOk P e = true) {l c : Int} (h0 : 0 ≤ l) (h1 : l ≤ c) (h2 : c * bytesT P e ≤ 140737488355328) (h3 : c ≤ 9223372036854775807) :
    StepOk P (do pure (.value (← Instr.makeSlice t (.int .i64 l) (.int .i64 c)))) w Fz ρ σ (.sl σ.length (sizeT P e) 0 l.toNat) (σ ++ [.row true (sizeT P e) (List.replicate l.toNat (zeroE P e))]) := by
  obtain ⟨z, hz, hzt, hzs, hz1, hz2⟩ := run_zeroT he
  obtain ⟨i, hi, hib, his⟩ := run_bytesT he
  have hrow := zero_row (w := w) (Fz := Fz) he hz c.toNat
  have wl : IntKind.i64.wrap l = l := by rw [IntKind.wrap_i64]; omega
  have wc : IntKind.i64.wrap c = c := by rw [IntKind.wrap_i64]; omega
  have n1 : ¬ c < 0 := by omega
  have n2 : ¬ (281474976710656 < (bytesT P e : Int) * c) := by rw [Int.mul_comm]; omega
  have n3 : ¬ l < 0 := by omega
  have n4 : ¬ c < l := by omega
  have hg : ∀ j, j < l.toNat → (List.replicate l.toNat (zeroE P e)).getD j .undef = (List.replicate c.toNat (zeroE P e)).getD j .undef := fun j hj => by
    simp [List.getD, hj, show j < c.toNat by omega]
  obtain ⟨ρ', k1, k2, k3⟩ := newrow_ok (xs := List.replicate l.toNat (zeroE P e)) hr _ e (0, 0) (free0 _) 0 c.toNat (fun j hj => by rw [List.length_replicate] at hj; rw [hg j hj]; exact hrow.2.1 j (by rw [List.length_replicate]; omega))
    (by rw [hrow.1, List.length_replicate, List.length_replicate]; exact Nat.mul_le_mul_right _ (by omega)) (by rw [hrow.1]; simp) (by simp; omega) (fun j cc hj hcc => by rw [List.length_replicate] at hj; rw [hg j hj]; exact hrow.2.2 j cc (by rw [List.length_replicate]; omega) hcc)
  have e0 : w.drewN 0 = w := rfl
  rw [e0] at k1 k2 k3
  rw [List.length_replicate] at k1
  refine ⟨.value (.slice (some ⟨w.heap.size, 0, none⟩) l.toNat c.toNat), _, Fz, ρ', ?_, .inl ⟨_, rfl, k1⟩, k2, k3⟩
  rw [← hib] at n2
  have hsz := run_sizeT he
  by_cases hc0 : c.toNat * sizeT P e = 0
  · simp [Instr.makeSlice, underlying, hu, typeInfo, hi, asInt, asIntOf, wl, wc, n1, n2, n3, n4, hsz, hc0, newRow]
  · simp [Instr.makeSlice, underlying, hu, typeInfo, hi, asInt, asIntOf, wl, wc, n1, n2, n3, n4, hsz, hc0, hz, newRow]
end
end Go.AM
end
section
namespace Go.AM
section
variable {P : Program} {w : World} {Fz : Nat → Prop} {ρ : Nat → Nat × Nat} {n : Nat} {σ : List Ob}
theorem splice_len {cs xs : List AV} {off : Nat} (h : off + xs.length ≤ cs.length) : (splice cs off xs).length = cs.length := by unfold splice; simp; omega
theorem splice_get {cs xs : List AV} {off k : Nat} (h : off + xs.length ≤ cs.length) : (splice cs off xs).getD k .undef = if off ≤ k ∧ k < off + xs.length then xs.getD (k - off) .undef else cs.getD k .undef := by
  unfold splice
  simp only [List.getD]
  by_cases h1 : k < off
  · rw [if_neg (by omega), List.append_assoc, List.getElem?_append_left (by simp; omega), List.getElem?_take, if_pos h1]
  · by_cases h2 : k < off + xs.length
    · rw [if_pos (by omega), List.append_assoc, List.getElem?_append_right (by simp; omega), List.getElem?_append_left (by simp; omega)]
      congr 2
      simp; omega
    · rw [if_neg (by omega), List.append_assoc, List.getElem?_append_right (by simp; omega), List.getElem?_append_right (by simp; omega), List.getElem?_drop]
      congr 2
      simp; omega
def CsR (w : World) (Fz : Nat → Prop) (ρ : Nat → Nat × Nat) (n : Nat) (arr : Array Value) (cs : List AV) : Prop :=
  arr.size = cs.length ∧ ∀ j, j < cs.length → VC w Fz ρ n (arr.getD j .nilIface) (cs.getD j .undef)
theorem fill_ok {place : Nat → Option (Nat × Nat)} : ∀ (qs : List (Nat × Value × AV)) (arr : Array Value) (cs : List AV), CsR w Fz ρ n arr cs →
    (∀ p ∈ qs, okStore p.2.2 = true ∧ VR w Fz ρ n p.2.1 p.2.2 ∧ ∃ off, place p.1 = some (off, (cellsOf p.2.2).length) ∧ off + (cellsOf p.2.2).length ≤ cs.length) →
    ∃ arr', Instr.fill place arr (qs.map fun p => (p.1, p.2.1)) = some arr' ∧
      CsR w Fz ρ n arr' (qs.foldl (fun cs p => splice cs (((place p.1).getD (0, 0)).1) (cellsOf p.2.2)) cs) := by
  intro qs
  induction qs with
  | nil => intro arr cs h _; exact ⟨arr, rfl, h⟩
  | cons p r ih =>
    intro arr cs h hp
    obtain ⟨h1, h2, off, h3, h4⟩ := hp p (by simp)
    obtain ⟨c1, c2⟩ := cells_ok h2 h1
    obtain ⟨f1, f2⟩ := fill_step p.2.1 off arr (by rw [c1, h.1]; exact h4)
    have hs := splice_len h4
    have hrow : CsR w Fz ρ n (p.2.1.cells.zipIdx.foldl (fun cs (c, j) => cs.setIfInBounds (off + j) c) arr) (splice cs off (cellsOf p.2.2)) := by
      refine ⟨by rw [f1, h.1, hs], fun j hj => ?_⟩
      rw [f2, splice_get h4, c1]
      split
      · exact c2 _ (by omega)
      · exact h.2 j (by omega)
    obtain ⟨arr', k1, k2⟩ := ih _ _ hrow (fun q hq => by rw [hs]; exact hp q (by simp [hq]))
    refine ⟨arr', ?_, ?_⟩
    · simp only [List.map_cons, Instr.fill, h3]
      rw [if_neg (by rw [c1, h.1]; simp; omega)]
      exact k1
    · simp only [List.foldl_cons, h3, Option.getD_some]
      exact k2
def fieldsOk (P : Program) (t : TypeId) : Bool := match P.underlying t with
  | some (.struct fs) => fs.toList.all fun f => tyOk P f.type
  | some (.array _ e) => tyOk P e
  | _ => false
theorem places_ok (fs : List Field) (h : (fs.all fun f => tyOk P f.type) = true) : fs.mapM (fun f => (P.info? f.type).map fun i => (f.offset, i.size)) = some (fs.map fun f => (f.offset, sizeT P f.type)) := by
  induction fs with
  | nil => rfl
  | cons f r ih =>
    simp only [List.all_cons, Bool.and_eq_true] at h
    obtain ⟨i, hi, _, his⟩ := run_bytesT h.1
    simp [List.mapM_cons, hi, ih h.2, his]
theorem fillA_struct {t : TypeId} {fs : Array Field} (hu : P.underlying t = some (.struct fs)) : ∀ (qs : List (Nat × AV)) (cs cs' : List AV), fillA P t cs qs = some cs' →
    cs' = qs.foldl (fun cs p => splice cs (((fs.map fun f => (f.offset, sizeT P f.type))[p.1]?).getD (0, 0)).1 (cellsOf p.2)) cs := by
  intro qs
  induction qs with
  | nil => intro cs cs' h; simp only [fillA, Option.some.injEq] at h; exact h.symm
  | cons p r ih =>
    intro cs cs' h
    obtain ⟨i, v⟩ := p
    simp only [fillA, hu] at h
    cases hf : fieldT P t i with
    | none => simp [hf] at h
    | some q =>
      obtain ⟨o, ft⟩ := q
      obtain ⟨fs', fl, h1, h2, h3, h4⟩ := field_row hf
      rw [hu] at h1; cases h1
      simp only [hf, Option.bind_some] at h
      rw [ih _ _ h]
      simp only [List.foldl_cons, Array.getElem?_map, h2, Option.map_some, Option.getD_some, h3]
theorem fillA_array {t e : TypeId} {m : Nat} (hu : P.underlying t = some (.array m e)) : ∀ (qs : List (Nat × AV)) (cs cs' : List AV), fillA P t cs qs = some cs' →
    cs' = qs.foldl (fun cs p => splice cs (p.1 * sizeT P e) (cellsOf p.2)) cs := by
  intro qs
  induction qs with
  | nil => intro cs cs' h; simp only [fillA, Option.some.injEq] at h; exact h.symm
  | cons p r ih =>
    intro cs cs' h
    obtain ⟨i, v⟩ := p
    simp only [fillA, hu] at h
    rw [ih _ _ h]
    rfl
theorem fillOk_mem {t : TypeId} {N : Nat} : ∀ (qs : List (Nat × AV)), fillOk P t N qs → ∀ p ∈ qs, okStore p.2 = true ∧ (match P.underlying t with
    | some (.struct _) => (match fieldT P t p.1 with | some (o, ft) => (cellsOf p.2).length = sizeT P ft ∧ o + sizeT P ft ≤ N | none => False)
    | some (.array _ e) => (cellsOf p.2).length = sizeT P e ∧ p.1 * sizeT P e + sizeT P e ≤ N
    | _ => False) := by
  intro qs
  induction qs with
  | nil => intro _ p hp; cases hp
  | cons q r ih =>
    intro h p hp
    obtain ⟨i, v⟩ := q
    obtain ⟨h1, h2, h3⟩ := h
    rcases List.mem_cons.1 hp with rfl | hp
    · exact ⟨h2, h1⟩
    · exact ih h3 p hp
theorem build_ok (hr : Rel Fz ρ σ w) {t : TypeId} (ht : tyOk P t = true) (hfs : fieldsOk P t = true) (qs : List (Nat × Value × AV)) (hv : ∀ p ∈ qs, VR w Fz ρ σ.length p.2.1 p.2.2) {cs : List AV}
    (h : fillA P t (cellsOf (zeroT P t)) (qs.map fun p => (p.1, p.2.2)) = some cs) (hp : fillOk P t (cellsOf (zeroT P t)).length (qs.map fun p => (p.1, p.2.2))) :
    StepOk P (do pure (.value (← Instr.build t (qs.map fun p => (p.1, p.2.1)).toArray))) w Fz ρ σ (.agg cs) σ := by
  obtain ⟨i, d, z, hi, hu, hz, _⟩ := ty_info ht
  obtain ⟨z', hz', hzt, hzs, hz1, hz2⟩ := run_zeroT ht
  have : z' = z := by
    have := hz' w
    simp [zeroValue, typeInfo, hi, hz] at this
    exact this.symm
  subst this
  have hz3 : (∃ cs, z' = .agg cs) ∨ z'.oneCell' = true := hz2.imp (fun h => h.2) (fun h => h.2)
  obtain ⟨hl, hc⟩ := zero_cells (w := w) (Fz := Fz) (ρ := ρ) (n := σ.length) hz1 hz3
  rw [← hzt] at hl hc
  have hz0 : CsR w Fz ρ σ.length z'.cells (cellsOf (zeroT P t)) := ⟨hl.symm, fun j hj => hc j (by omega)⟩
  have hmem : ∀ p ∈ qs, okStore p.2.2 = true ∧ _ := fun p hp' => fillOk_mem _ hp (p.1, p.2.2) (List.mem_map.2 ⟨p, hp', rfl⟩)
  have fin : ∀ arr', P.built t (qs.map fun p => (p.1, p.2.1)) = some arr' → CsR w Fz ρ σ.length arr' cs → StepOk P (do pure (.value (← Instr.build t (qs.map fun p => (p.1, p.2.1)).toArray))) w Fz ρ σ (.agg cs) σ := by
    intro arr' hb hcs
    refine StepOk.quiet (.agg arr') ?_ hr ⟨arr', rfl, hcs.1, hcs.2⟩
    simp only [Sem.run_bind, run_build w t (qs.map fun p => (p.1, p.2.1)).toArray arr' hb, Result.andThen_ok, Sem.run_pure]
  cases d with
  | struct fs =>
    simp only [hu] at hmem
    simp only [fieldsOk, hu] at hfs
    obtain ⟨arr', k1, k2⟩ := fill_ok (place := ((fs.map fun f => (f.offset, sizeT P f.type))[·]?)) qs _ _ hz0 (fun p hp' => by
      obtain ⟨h1, h2⟩ := hmem p hp'
      refine ⟨h1, hv p hp', ?_⟩
      cases hf : fieldT P t p.1 with
      | none => simp [hf] at h2
      | some q =>
        obtain ⟨o, ft⟩ := q
        simp only [hf] at h2
        obtain ⟨fs', fl, g1, g2, g3, g4⟩ := field_row hf
        rw [hu] at g1; cases g1
        exact ⟨o, by simp [g2, g3, g4, h2.1], by omega⟩)
    have hcs := fillA_struct hu _ _ _ h
    rw [List.foldl_map] at hcs
    rw [← hcs] at k2
    refine fin arr' ?_ k2
    have : (fs.toList.map fun f => (f.offset, sizeT P f.type)).toArray = fs.map fun f => (f.offset, sizeT P f.type) := by apply Array.ext'; simp
    simp only [Program.built, hi, hu, hz, places_ok _ hfs, this]
    exact k1
  | array m e =>
    simp only [hu] at hmem
    simp only [fieldsOk, hu] at hfs
    obtain ⟨ie, hie, _, his⟩ := run_bytesT hfs
    obtain ⟨arr', k1, k2⟩ := fill_ok (place := fun i => some (i * sizeT P e, sizeT P e)) qs _ _ hz0 (fun p hp' => by
      obtain ⟨h1, h2⟩ := hmem p hp'
      exact ⟨h1, hv p hp', _, by rw [h2.1], by omega⟩)
    have hcs := fillA_array hu _ _ _ h
    rw [List.foldl_map] at hcs
    simp only [Option.getD_some] at k2
    rw [← hcs] at k2
    refine fin arr' ?_ k2
    simp only [Program.built, hi, hu, hz, hie, his]
    exact k1
  | _ => simp only [fieldsOk, hu] at hfs; cases hfs
end
end Go.AM
end
section
namespace Go.AM
section
variable {P : Program} {w : World} {Fz : Nat → Prop} {ρ : Nat → Nat × Nat} {n : Nat} {σ : List Ob}
theorem setCells_blk (b : Nat) {e : TypeId} {fr : Nat × Nat} : ∀ (vs : List Value) (o : Nat) (w : World) (arr : Array Value), w.heap[b]? = some (.cells arr e fr) → o + vs.length ≤ arr.size →
    ∃ arr', (w.setCells b o vs).heap[b]? = some (.cells arr' e fr) ∧ arr'.size = arr.size ∧ ∀ k, arr'.getD k .nilIface = if o ≤ k ∧ k < o + vs.length then vs.getD (k - o) .nilIface else arr.getD k .nilIface := by
  intro vs
  induction vs with
  | nil => intro o w arr h _; exact ⟨arr, h, rfl, fun k => by rw [if_neg (by simp only [List.length_nil]; omega)]⟩
  | cons v r ih =>
    intro o w arr h hs
    simp only [List.length_cons] at hs
    have h1 : (w.setCell ⟨b, o, none⟩ v).heap[b]? = some (.cells (arr.setIfInBounds o v) e fr) := by
      simp [World.setCell, Array.getElem?_modify, h]
    obtain ⟨arr', k1, k2, k3⟩ := ih (o + 1) _ _ h1 (by simp; omega)
    refine ⟨arr', k1, by rw [k2]; simp, fun k => ?_⟩
    rw [k3 k]
    simp only [List.length_cons, Array.getD_eq_getD_getElem?]
    by_cases hk : k = o
    · subst hk
      rw [if_neg (by omega), if_pos (by omega), Nat.sub_self]
      simp [show k < arr.size by omega]
    · rw [Array.getElem?_setIfInBounds_ne (Ne.symm hk)]
      by_cases hc : o + 1 ≤ k ∧ k < o + 1 + r.length
      · rw [if_pos hc, if_pos (by omega), show k - o = (k - (o + 1)) + 1 by omega]; rfl
      · rw [if_neg hc, if_neg (by omega)]
theorem setCells_other (b : Nat) : ∀ (vs : List Value) (o : Nat) (w : World) {i : Nat}, i ≠ b → (w.setCells b o vs).heap[i]? = w.heap[i]? := by
  intro vs
  induction vs with
  | nil => intro o w i _; rfl
  | cons v r ih => intro o w i h; rw [World.setCells, ih _ _ h]; exact heap_setCell_other w ⟨b, o, none⟩ i v h
theorem setCells_size (b : Nat) : ∀ (vs : List Value) (o : Nat) (w : World), (w.setCells b o vs).heap.size = w.heap.size := by
  intro vs
  induction vs with
  | nil => intro o w; rfl
  | cons v r ih => intro o w; rw [World.setCells, ih]; simp
theorem setCells_env (b : Nat) : ∀ (vs : List Value) (o : Nat) (w : World), (w.setCells b o vs).os = w.os ∧ (w.setCells b o vs).tape = w.tape ∧ (w.setCells b o vs).output = w.output := by
  intro vs
  induction vs with
  | nil => intro o w; exact ⟨rfl, rfl, rfl⟩
  | cons v r ih => intro o w; rw [World.setCells]; exact ih _ _
theorem cells_room {b o k : Nat} {arr : Array Value} {e : TypeId} {fr : Nat × Nat} (h : w.heap[b]? = some (.cells arr e fr)) (hf : Free arr fr) (hk : o + k ≤ arr.size) :
    (∀ j, j < k → (w.cell? ⟨b, o + j, none⟩).isSome = true) ∧ (∀ j, j < k → w.frozen? ⟨b, o + j, none⟩ = false) := by
  refine ⟨fun j hj => ?_, fun j hj => ?_⟩
  · rw [blk_cell (arr := arr) (by simp [blk, h])]
    simp; omega
  · unfold World.frozen?
    simp only [h]
    rcases hf with hf | hf <;> simp <;> omega
theorem write_ext {id : Nat} (_ : Rel Fz ρ σ w) (hw : wr (getO σ id) = true) {arr : Array Value} {e : TypeId} {fr : Nat × Nat} (hb : w.heap[(ρ id).1]? = some (.cells arr e fr)) (o : Nat) (vs : List Value) (hs : o + vs.length ≤ arr.size) (ob : Ob) (_ : wr ob = true → True) :
    Ext Fz ρ σ w Fz ρ (σ.set id ob) (w.setCells (ρ id).1 o vs) := by
  have hlt := getO_lt (wr_some hw)
  obtain ⟨h1, h2, h3⟩ := setCells_env (ρ id).1 vs o w
  exact
    { os := h1, tape := h2, output := h3, size := by rw [setCells_size]; exact Nat.le_refl _, len := by simp, rho := fun _ _ => rfl, fz := fun _ h => h, fznew := fun _ h => .inl h
      wrold := fun i hi h => by
        by_cases he : i = id
        · subst he; exact hw
        · rwa [getO_set_ne (Ne.symm he)] at h
      wrnew := fun i hi h => by rw [getO_ge (by simpa using hi)] at h; cases h
      keep := fun b hb' hn => setCells_other _ _ _ _ (Ne.symm (hn id hlt hw))
      sizes := fun b a ha => by
        by_cases he : b = (ρ id).1
        · subst he
          obtain ⟨arr', k1, k2, _⟩ := setCells_blk _ vs o w arr hb hs
          have : a = arr := by simp [blk, hb] at ha; exact ha.symm
          subst this
          exact ⟨arr', by simp [blk, k1], k2⟩
        · exact ⟨a, (blk_same (setCells_other _ _ _ _ he)).trans ha, rfl⟩ }
theorem write_rel {id : Nat} (hr : Rel Fz ρ σ w) (hw : wr (getO σ id) = true) {arr : Array Value} {e : TypeId} {fr : Nat × Nat} (hb : w.heap[(ρ id).1]? = some (.cells arr e fr)) (o : Nat) (vs : List Value) (hs : o + vs.length ≤ arr.size) (ob : Ob)
    (ho : ObR (w.setCells (ρ id).1 o vs) Fz ρ σ.length (ρ id) ob) : Rel Fz ρ (σ.set id ob) (w.setCells (ρ id).1 o vs) := by
  have hx := write_ext hr hw hb o vs hs ob (fun _ => trivial)
  have hlt := getO_lt (wr_some hw)
  refine ⟨fun b hb => by rw [setCells_size]; exact hr.fz b hb, fun i => ?_, fun i j hne hwi hsj => ?_⟩
  · by_cases hi : i = id
    · subst hi; rw [getO_set_eq hlt, List.length_set]; exact ho
    · rw [getO_set_ne (Ne.symm hi), List.length_set]
      cases hg : some' (getO σ i) with
      | false => cases hq : getO σ i <;> simp_all [some', ObR]
      | true =>
        have hne := hr.sep id i (Ne.symm hi) hw hg
        exact (hr.ob i).mono (setCells_other _ _ _ _ hne) Iff.rfl (fun v d hc => hc.ext hx hr) (fun v d hc => by have := hc.ext hx hr; rwa [List.length_set] at this)
  · have h1 : wr (getO σ i) = true := by
      by_cases he : i = id
      · subst he; exact hw
      · rwa [getO_set_ne (Ne.symm he)] at hwi
    have h2 : some' (getO σ j) = true := by
      by_cases he : j = id
      · subst he; exact wr_some hw
      · rwa [getO_set_ne (Ne.symm he)] at hsj
    exact hr.sep i j hne h1 h2
theorem putPart_cells {v x : AV} {off : Nat} (h : off + (cellsOf x).length ≤ (cellsOf v).length) : cellsOf (putPart v off x) = splice (cellsOf v) off (cellsOf x) := by
  by_cases hx : ∃ xs, x = .agg xs
  · obtain ⟨xs, rfl⟩ := hx
    simp only [putPart, cells_agg] at *
    split
    · rename_i hh
      unfold splice
      rw [hh.1, cells_agg]
      simp [hh.2]
    · rfl
  · have hna : ∀ cs, x ≠ .agg cs := fun cs e => hx ⟨cs, e⟩
    rw [cellsOf_one hna] at h ⊢
    have e1 : putPart v off x = setCell v off x := by cases x <;> first | rfl | exact absurd rfl (hna _)
    rw [e1]
    by_cases hv : ∃ cs, v = .agg cs
    · obtain ⟨cs, rfl⟩ := hv
      simp only [setCell, cells_agg] at *
      unfold splice
      simp only [List.length_cons, List.length_nil] at h ⊢
      rw [List.set_eq_take_append_cons_drop, if_pos (by omega)]
      simp
    · have hnv : ∀ cs, v ≠ .agg cs := fun cs e => hv ⟨cs, e⟩
      have e2 : setCell v off x = x := by cases v <;> first | rfl | exact absurd rfl (hnv _)
      rw [cellsOf_one hnv] at h ⊢
      simp at h
      subst h
      rw [e2, cellsOf_one hna]
      rfl
theorem putPart_ok {v x : AV} {off : Nat} (hx : okStore x = true) : okStore (putPart v off x) = true := by
  by_cases ha : ∃ xs, x = .agg xs
  · obtain ⟨xs, rfl⟩ := ha
    simp only [putPart]
    by_cases h : off = 0 ∧ (cellsOf v).length = xs.length
    · rw [if_pos h]; rfl
    · rw [if_neg h]; rfl
  · have hna : ∀ cs, x ≠ .agg cs := fun cs e => ha ⟨cs, e⟩
    have e1 : putPart v off x = setCell v off x := by cases x <;> first | rfl | exact absurd rfl (hna _)
    rw [e1]
    cases v <;> first | rfl | exact hx
theorem store_ok (hr : Rel Fz ρ σ w) {t : TypeId} (ht : tyOk P t = true) {va vx : Value} {a x : AV} (ha : VR w Fz ρ σ.length va a) (hv : VR w Fz ρ σ.length vx x) {p : Prop} {σ' : List Ob} (h : storeA P t σ a x = some (p, σ')) (hp : p) :
    StepOk P (do Instr.storeAt t va vx; pure .skip) w Fz ρ σ .undef σ' := by
  unfold storeA at h
  by_cases hx : okStore x = true
  · rw [if_pos hx] at h
    obtain ⟨c1, c2⟩ := cells_ok hv hx
    have hone : ∀ u ∈ vx.cells.toList, u.oneCell' = true := fun u hu => by
      obtain ⟨j, hj, rfl⟩ := List.getElem_of_mem hu
      rw [Array.length_toList] at hj
      have := (c2 j (by omega)).one
      simpa [Array.getD, hj] using this
    have hlen : vx.cells.toList.length = (cellsOf x).length := by simpa using c1
    have hget : ∀ k, vx.cells.toList.getD k .nilIface = vx.cells.getD k .nilIface := fun k => by simp [List.getD, Array.getD_eq_getD_getElem?]
    cases a <;> simp only at h <;> try (cases h; done)
    · rename_i id off
      cases hg : getO σ id with
      | none => simp [hg] at h
      | row => simp [hg] at h
      | var D =>
        simp only [hg, Option.some.injEq, Prod.mk.injEq] at h
        obtain ⟨rfl, rfl⟩ := h
        obtain ⟨hp1, hp2⟩ := hp
        have hw : wr (getO σ id) = true := by rw [hg]; rfl
        have hob := hr.ob id
        rw [hg] at hob
        obtain ⟨arr, e, fr, k1, k2, k3, k4, k5, k6⟩ := hob
        cases (show VC w Fz ρ σ.length va (.vp id off) from ha) with
        | cr hc => cases hc
        | vp _ _ hi =>
          have hsz : off + vx.cells.toList.length ≤ arr.size := by omega
          obtain ⟨r1, r2⟩ := cells_room k1 k2 hsz
          have hst := run_storeCells_cells (P := P) (ρ id).1 off vx.cells.toList 0 w r1 r2 hone
          have hx' := write_ext hr hw k1 off vx.cells.toList hsz (.var (putPart D off x)) (fun _ => trivial)
          obtain ⟨arr', b1, b2, b3⟩ := setCells_blk (ρ id).1 vx.cells.toList off w arr k1 hsz
          have hcs := putPart_cells (v := D) (x := x) (off := off) (by omega)
          have hsl := splice_len (cs := cellsOf D) (xs := cellsOf x) (off := off) (by omega)
          have hl2 : (σ.set id (Ob.var (putPart D off x))).length = σ.length := by simp
          refine ⟨.skip, _, Fz, ρ, ?_, .inr ⟨rfl, rfl⟩, write_rel hr hw k1 off vx.cells.toList hsz _ ⟨arr', e, fr, b1, ?_, k3, ?_, putPart_ok hx, ?_⟩, hx'⟩
          · simp only [Instr.storeAt, Instr.sureAddr, storeVar, Sem.run_bind, Sem.run_pure, Result.andThen_ok, run_sizeT ht]
            rw [if_neg (by simp [c1, hp1])]
            rw [hst]
            rfl
          · unfold Free at *; rw [b2]; exact k2
          · rw [hcs, hsl, b2]; exact k4
          · intro j hj
            rw [hcs, hsl] at hj
            rw [hcs, b3, splice_get (by omega), hlen]
            by_cases hc : off ≤ j ∧ j < off + (cellsOf x).length
            · rw [if_pos hc, if_pos hc, hget]
              have := (c2 (j - off) (by omega)).ext hx' hr
              rwa [hl2] at this
            · rw [if_neg hc, if_neg hc]
              have := (k6 j hj).ext hx' hr
              rwa [hl2] at this
    · rename_i id esz' d idx off
      obtain ⟨Fz1, hr1, hx1, hf1⟩ := freezeL_ok (w := w) (refsA x) hr
      cases hg : getO (freezeL σ (refsA x)) id with
      | none => simp [hg] at h
      | var => simp [hg] at h
      | row live esz xs =>
        cases live with
        | false => simp [hg] at h
        | true =>
          simp only [hg, Option.some.injEq, Prod.mk.injEq] at h
          obtain ⟨rfl, rfl⟩ := h
          obtain ⟨rfl, hp1, hp2, hp3⟩ := hp
          have hw : wr (getO (freezeL σ (refsA x)) id) = true := by rw [hg]; rfl
          have hob := hr1.ob id
          rw [hg] at hob
          obtain ⟨arr, e, fr, k1, k2, k3, k4, k8, k5, k6, k7⟩ := hob
          obtain ⟨t1, t2, t3⟩ := tree_cells hr1 (x := x) (fun i hi l e xs hg => by obtain ⟨l', hg'⟩ := freezeL_ref _ hg; exact hf1 i hi _ _ _ hg') (hv.ext hx1 hr) hx
          rw [freezeL_treeA] at t1 t2 t3
          cases (show VC w Fz ρ σ.length va (.rp id esz d idx off) from ha) with
          | cr hc => cases hc
          | rp _ _ _ _ _ hi =>
            rw [getD_in d .undef hp2] at hp3 ⊢
            have hz : (cellsOf (xs.getD idx .undef)).length = esz := k6 idx hp2
            have hle := idx_le (e := esz) hp2
            have hsz : (idx * esz + off) + vx.cells.toList.length ≤ arr.size := by omega
            obtain ⟨r1, r2⟩ := cells_room k1 k2 hsz
            have hst := run_storeCells_cells (P := P) (ρ id).1 (idx * esz + off) vx.cells.toList 0 w r1 r2 hone
            have hcs := putPart_cells (v := xs.getD idx .undef) (x := treeA σ x) (off := off) (by omega)
            have hsl := splice_len (cs := cellsOf (xs.getD idx .undef)) (xs := cellsOf (treeA σ x)) (off := off) (by omega)
            have hx' := write_ext hr1 hw k1 (idx * esz + off) vx.cells.toList hsz (.row true esz (xs.set idx (putPart (xs.getD idx .undef) off (treeA σ x)))) (fun _ => trivial)
            obtain ⟨arr', b1, b2, b3⟩ := setCells_blk (ρ id).1 vx.cells.toList (idx * esz + off) w arr k1 hsz
            have hsame : (xs.set idx (putPart (xs.getD idx .undef) off (treeA σ x))).getD idx .undef = putPart (xs.getD idx .undef) off (treeA σ x) := by simp [List.getD, hp2]
            refine ⟨.skip, _, Fz1, ρ, ?_, .inr ⟨rfl, rfl⟩, write_rel hr1 hw k1 (idx * esz + off) vx.cells.toList hsz _ ⟨arr', e, fr, b1, ?_, k3, (fun h => by cases h), ?_, ?_, ?_, ?_⟩, hx1.trans hx'⟩
            · simp only [Instr.storeAt, Instr.sureAddr, storeVar, Sem.run_bind, Sem.run_pure, Result.andThen_ok, run_sizeT ht]
              rw [if_neg (by simp [c1, hp1])]
              rw [hst]
              rfl
            · unfold Free at *; rw [b2]; exact k2
            · simpa using k8
            · rw [List.length_set, b2]; exact k5
            · intro j hj
              rw [List.length_set] at hj
              by_cases hji : idx = j
              · subst hji; rw [hsame, hcs, hsl]; exact hz
              · have := k6 j hj
                simp only [List.getD, List.getElem?_set_ne hji] at this ⊢; exact this
            · intro j c hj hc
              rw [List.length_set] at hj
              rw [b3, hlen]
              by_cases hji : idx = j
              · subst hji
                rw [hsame, hcs, splice_get (by omega), t2]
                by_cases hcc : off ≤ c ∧ c < off + (cellsOf x).length
                · rw [if_pos (by omega), if_pos hcc, hget, show idx * esz + c - (idx * esz + off) = c - off by omega]
                  exact (t3 (c - off) (by omega)).ext hx' hr1
                · rw [if_neg (by omega), if_neg hcc]
                  exact (k7 idx c hj hc).ext hx' hr1
              · have hno : ¬ (idx * esz + off ≤ j * esz + c ∧ j * esz + c < idx * esz + off + (cellsOf x).length) := by
                  rcases Nat.lt_or_ge idx j with hlt | hge
                  · have := idx_le (e := esz) hlt; omega
                  · have := idx_le (e := esz) (show j < idx by omega); omega
                rw [if_neg hno]
                have := (k7 j c hj hc).ext hx' hr1
                simp only [List.getD, List.getElem?_set_ne hji] at this ⊢; exact this
  · rw [if_neg hx] at h; cases h
end
end Go.AM
end
section
namespace Go.AM
section
variable {P : Program} {w : World} {Fz : Nat → Prop} {ρ : Nat → Nat × Nat} {n : Nat} {σ : List Ob}
def NewsR (w : World) (Fz : Nat → Prop) (E : Nat) (news : List Value) (ys : List AV) : Prop :=
  news.length = ys.length * E ∧ (∀ j, j < ys.length → (cellsOf (ys.getD j .undef)).length = E) ∧
  (∀ j c, j < ys.length → c < E → CR w Fz (news.getD (j * E + c) .nilIface) ((cellsOf (ys.getD j .undef)).getD c .undef)) ∧ ∀ u ∈ news, u.oneCell' = true
theorem news_nil {E : Nat} : NewsR w Fz E [] [] := ⟨by simp, by simp, by simp, by simp⟩
theorem src0 {tx : TypeId} (hk : (∃ e', P.underlying tx = some (.slice e')) ∨ P.underlying tx = some .string) (E : Nat) (o : Option Addr) (cap : Nat) : Src P E tx (.slice o 0 cap) 0 [] w := by
  have hf : ∀ w' : World, (Builtin.firstCells E 0 (.slice o 0 cap)).run P w' = .ok #[] w' := fun w' => by
    cases o with
    | none => exact run_firstCells_none w' E 0 0 cap
    | some a => exact run_firstCells_some w' E 0 a 0 cap [] (by simp) (by simp)
  exact ⟨hk, fun _ => rfl, hf w, hf w.drew, by simp, by simp⟩
theorem srcN {tx : TypeId} (hk : (∃ e', P.underlying tx = some (.slice e')) ∨ P.underlying tx = some .string) {E b off len cap : Nat} {arr : Array Value} (hb : blk w b = some arr) {ys : List AV} (hl : ys.length = len)
    (hsz : off + len * E ≤ arr.size) (h1 : ∀ j, j < ys.length → (cellsOf (ys.getD j .undef)).length = E)
    (h2 : ∀ j c, j < ys.length → c < E → CR w Fz (arr.getD (off + j * E + c) .nilIface) ((cellsOf (ys.getD j .undef)).getD c .undef)) :
    ∃ news, Src P E tx (.slice (some ⟨b, off, none⟩) len cap) ys.length news w ∧ NewsR w Fz E news ys := by
  have hg : ∀ k, k < len * E → ((List.range (len * E)).map fun j => arr.getD (off + j) Value.nilIface).getD k .nilIface = arr.getD (off + k) .nilIface := fun k hk => by simp [List.getD, hk]
  have hcr : ∀ k, k < len * E → ∃ d, CR w Fz (arr.getD (off + k) .nilIface) d := fun k hk => by
    have hE : 0 < E := by rcases Nat.eq_zero_or_pos E with h | h; subst h; simp at hk; exact h
    have hd := Nat.div_add_mod k E
    have hq : k / E < len := Nat.div_lt_of_lt_mul (by rw [Nat.mul_comm]; exact hk)
    have := h2 (k / E) (k % E) (by omega) (Nat.mod_lt _ hE)
    rw [Nat.add_assoc, Nat.mul_comm, hd] at this
    exact ⟨_, this⟩
  have hcell : ∀ j v, ((List.range (len * E)).map fun j => arr.getD (off + j) Value.nilIface)[j]? = some v → w.cell? ((⟨b, off, none⟩ : Addr).add j) = some v := fun j v hv => by
    rw [add_lit, blk_cell hb]
    obtain ⟨hj, rfl⟩ := List.getElem?_eq_some_iff.1 hv
    simp at hj
    simp only [List.getElem_map, List.getElem_range]
    exact getD_some _ (by omega)
  refine ⟨(List.range (len * E)).map fun j => arr.getD (off + j) .nilIface, ⟨hk, fun _ => by rw [hl]; rfl, ?_, ?_, by simp [hl], ?_⟩, by simp [hl], h1, fun j c hj hc => ?_, ?_⟩
  · exact run_firstCells_some w E ys.length _ len cap _ (by simp [hl]) hcell
  · exact run_firstCells_some w.drew E ys.length _ len cap _ (by simp [hl]) hcell
  · intro u hu
    obtain ⟨k, hk, rfl⟩ := List.mem_map.1 hu
    obtain ⟨d, hd⟩ := hcr k (by simpa using hk)
    exact hd.one
  · have := idx_le (e := E) hj
    rw [hg _ (by rw [← hl]; omega), ← Nat.add_assoc]
    exact h2 j c hj hc
  · intro u hu
    obtain ⟨k, hk, rfl⟩ := List.mem_map.1 hu
    obtain ⟨d, hd⟩ := hcr k (by simpa using hk)
    exact hd.one
theorem row_part {xs : List AV} {i0 len j : Nat} (hj : j < len) : ((xs.drop i0).take len).getD j .undef = xs.getD (i0 + j) .undef := by
  simp only [List.getD, List.getElem?_take, if_pos hj, List.getElem?_drop]
theorem src_ok (hr : Rel Fz ρ σ w) {tx : TypeId} (hk : (∃ e', P.underlying tx = some (.slice e')) ∨ P.underlying tx = some .string) {E : Nat} {v : Value} {x : AV} (hv : VR w Fz ρ σ.length v x) {ys : List AV} (h : elemsA E σ x = some ys) :
    ∃ news, Src P E tx v ys.length news w ∧ NewsR w Fz E news ys := by
  unfold elemsA at h
  split at h
  · rename_i esz xs
    cases (show VC w Fz ρ σ.length v (.ts esz xs) from hv) with
    | cr hc =>
      split at h
      · rename_i he
        subst he; cases h
        cases hc with
        | ts0 o cap => exact ⟨[], src0 hk _ _ _, news_nil⟩
        | ts arr h1 h2 h3 h7 h4 h5 h6 => exact srcN hk h2 h3 h4 h5 h6
      · split at h
        · cases h
          cases hc with
          | ts0 o cap => exact ⟨[], src0 hk _ _ _, news_nil⟩
          | ts arr h1 h2 h3 => cases h3; exact ⟨[], src0 hk _ _ _, news_nil⟩
        · cases h
  · cases h
    cases (show VC w Fz ρ σ.length v .nils from hv) with
    | cr hc => cases hc
    | nils => exact ⟨[], src0 hk _ _ _, news_nil⟩
  · rename_i id esz i0 m
    split at h
    · rename_i live esz' xs hg
      split at h
      · rename_i he
        obtain ⟨rfl, rfl⟩ := he
        cases h
        cases (show VC w Fz ρ σ.length v (.sl id esz' i0 m) from hv) with
        | cr hc => cases hc
        | sl0 o => rw [List.take_zero]; exact ⟨[], src0 hk _ _ _, news_nil⟩
        | sl _ _ _ _ cap hi hc hk' hs =>
          have hob := hr.ob id
          rw [hg] at hob
          obtain ⟨arr, e, fr, h1, h2, h3, h4, h8, h5, h6, h7⟩ := hob
          obtain ⟨arr', ha', hs'⟩ := hs
          have hb : blk w (ρ id).1 = some arr := by simp [blk, h1]
          rw [hb] at ha'; cases ha'
          have hl : i0 + m ≤ xs.length := by rw [h8]; exact hk'
          have hlen : ((xs.drop i0).take m).length = m := by simp; omega
          refine srcN hk hb hlen ?_ (fun j hj => ?_) (fun j c hj hc' => ?_)
          · have : (i0 + m) * esz' ≤ (i0 + cap) * esz' := Nat.mul_le_mul_right _ (by omega)
            rw [Nat.add_mul] at this
            omega
          · rw [row_part (by omega)]; exact h6 _ (by omega)
          · rw [row_part (by omega), show i0 * esz' + j * esz' + c = (i0 + j) * esz' + c by rw [Nat.add_mul]]
            exact h7 _ c (by omega) hc'
      · cases h
    · cases h
  · rename_i s
    split at h
    · rename_i he
      subst he; cases h
      obtain rfl := VR.str_iff.1 hv
      have hl : (bytesS s).length = s.size := by unfold bytesS; simp
      refine ⟨byteCells s, ⟨hk, fun _ => by rw [hl]; rfl, ?_, ?_, by rw [byteCells_length, hl, Nat.mul_one], ?_⟩, by rw [byteCells_length, hl, Nat.mul_one], fun j hj => ?_, fun j c hj hc => ?_, ?_⟩
      · rw [hl]; exact firstCells_string s w
      · rw [hl]; exact firstCells_string s w.drew
      · intro u hu; obtain ⟨_, _, rfl⟩ := List.mem_map.1 hu; rfl
      · unfold bytesS at hj ⊢
        simp at hj
        simp [List.getD, hj, cellsOf]
      · obtain rfl : c = 0 := by omega
        unfold bytesS at hj ⊢
        simp at hj
        simp [List.getD, hj, cellsOf, byteCells]
        exact CR.int _ _
      · intro u hu; obtain ⟨_, _, rfl⟩ := List.mem_map.1 hu; rfl
    · cases h
  · cases h
theorem none_ext (hr : Rel Fz ρ σ w) : Ext Fz ρ σ w Fz ρ (σ ++ [.none]) w ∧ Rel Fz ρ (σ ++ [.none]) w := by
  have hg : ∀ i, getO (σ ++ [Ob.none]) i = getO σ i := fun i => by
    rcases Nat.lt_trichotomy i σ.length with h | rfl | h
    · exact getO_app_lt h
    · rw [getO_app_eq, getO_ge (Nat.le_refl _)]
    · rw [getO_app_gt h, getO_ge (by omega)]
  have hx : Ext Fz ρ σ w Fz ρ (σ ++ [.none]) w :=
    { os := rfl, tape := rfl, output := rfl, size := Nat.le_refl _, len := by simp, rho := fun _ _ => rfl, fz := fun _ h => h, fznew := fun _ h => .inl h
      wrold := fun i _ h => by rwa [hg] at h
      wrnew := fun i hi h => by rw [hg, getO_ge hi] at h; cases h
      keep := fun _ _ _ => rfl
      sizes := fun _ a h => ⟨a, h, rfl⟩ }
  refine ⟨hx, hr.fz, fun i => ?_, fun i j hne hw hs => ?_⟩
  · rw [hg]
    exact (hr.ob i).mono rfl Iff.rfl (fun v d hc => hc.ext hx hr) (fun v d hc => hc.ext hx hr)
  · rw [hg] at hw hs
    exact hr.sep i j hne hw hs
theorem inplace_ext {id : Nat} (_ : Rel Fz ρ σ w) (hw : wr (getO σ id) = true) {arr : Array Value} {e : TypeId} {fr : Nat × Nat} (hb : w.heap[(ρ id).1]? = some (.cells arr e fr)) (o : Nat) (vs : List Value) (hs : o + vs.length ≤ arr.size) (ob : Ob) (k : Nat) :
    Ext Fz ρ σ w Fz (ext1 ρ σ.length ((ρ id).1, k)) (σ.set id .none ++ [ob]) (w.setCells (ρ id).1 o vs) := by
  have hlt := getO_lt (wr_some hw)
  have hl2 : (σ.set id Ob.none).length = σ.length := by simp
  obtain ⟨h1, h2, h3⟩ := setCells_env (ρ id).1 vs o w
  exact
    { os := h1, tape := h2, output := h3, size := by rw [setCells_size]; exact Nat.le_refl _, len := by simp, rho := fun i hi => ext1_lt hi, fz := fun _ h => h, fznew := fun _ h => .inl h
      wrold := fun i hi h => by
        rw [getO_app_lt (by rw [hl2]; exact hi)] at h
        by_cases he : i = id
        · subst he; exact hw
        · rwa [getO_set_ne (Ne.symm he)] at h
      wrnew := fun i hi h => by
        by_cases he : i = σ.length
        · subst he; rw [ext1_eq]; exact .inr ⟨id, hlt, hw, rfl⟩
        · rw [getO_ge (by simp; omega)] at h; cases h
      keep := fun b hb' hn => setCells_other _ _ _ _ (Ne.symm (hn id hlt hw))
      sizes := fun b a ha => by
        by_cases he : b = (ρ id).1
        · subst he
          obtain ⟨arr', k1, k2, _⟩ := setCells_blk _ vs o w arr hb hs
          have : a = arr := by simp [blk, hb] at ha; exact ha.symm
          subst this
          exact ⟨arr', by simp [blk, k1], k2⟩
        · exact ⟨a, (blk_same (setCells_other _ _ _ _ he)).trans ha, rfl⟩ }
theorem inplace_rel {id : Nat} (hr : Rel Fz ρ σ w) (hw : wr (getO σ id) = true) {arr : Array Value} {e : TypeId} {fr : Nat × Nat} (hb : w.heap[(ρ id).1]? = some (.cells arr e fr)) (o : Nat) (vs : List Value) (hs : o + vs.length ≤ arr.size) (ob : Ob) (k : Nat)
    (ho : ObR (w.setCells (ρ id).1 o vs) Fz (ext1 ρ σ.length ((ρ id).1, k)) (σ.length + 1) ((ρ id).1, k) ob) : Rel Fz (ext1 ρ σ.length ((ρ id).1, k)) (σ.set id .none ++ [ob]) (w.setCells (ρ id).1 o vs) := by
  have hx := inplace_ext hr hw hb o vs hs ob k
  have hlt := getO_lt (wr_some hw)
  have hl2 : (σ.set id Ob.none).length = σ.length := by simp
  have hl3 : (σ.set id Ob.none ++ [ob]).length = σ.length + 1 := by simp
  have hlow : ∀ i, i < σ.length → i ≠ id → getO (σ.set id .none ++ [ob]) i = getO σ i := fun i hi hne => by rw [getO_app_lt (by rw [hl2]; exact hi), getO_set_ne (Ne.symm hne)]
  have hid : getO (σ.set id .none ++ [ob]) id = .none := by rw [getO_app_lt (by rw [hl2]; exact hlt), getO_set_eq hlt]
  have hnew : getO (σ.set id .none ++ [ob]) σ.length = ob := by rw [← hl2]; exact getO_app_eq
  have hcase : ∀ i, some' (getO (σ.set id .none ++ [ob]) i) = true → (i < σ.length ∧ i ≠ id) ∨ i = σ.length := fun i hi => by
    have h1 := getO_lt hi
    rw [hl3] at h1
    by_cases h2 : i = σ.length
    · exact .inr h2
    · refine .inl ⟨by omega, fun e => ?_⟩
      subst e; rw [hid] at hi; cases hi
  refine ⟨fun b hb => by rw [setCells_size]; exact hr.fz b hb, fun i => ?_, fun i j hne hwi hsj => ?_⟩
  · cases hg : some' (getO (σ.set id .none ++ [ob]) i) with
    | false => cases hq : getO (σ.set id .none ++ [ob]) i <;> simp_all [some', ObR]
    | true =>
      rcases hcase i hg with ⟨h1, h2⟩ | rfl
      · rw [hlow i h1 h2] at hg ⊢
        have hne := hr.sep id i (Ne.symm h2) hw hg
        rw [ext1_lt h1]
        exact (hr.ob i).mono (setCells_other _ _ _ _ hne) Iff.rfl (fun v d hc => hc.ext hx hr) (fun v d hc => hc.ext hx hr)
      · rw [hnew, ext1_eq, hl3]; exact ho
  · rcases hcase i (wr_some hwi) with ⟨h1, h2⟩ | rfl <;> rcases hcase j hsj with ⟨h3, h4⟩ | rfl
    · rw [hlow i h1 h2] at hwi
      rw [hlow j h3 h4] at hsj
      rw [ext1_lt h1, ext1_lt h3]
      exact hr.sep i j hne hwi hsj
    · rw [hlow i h1 h2] at hwi
      rw [ext1_lt h1, ext1_eq]
      exact hr.sep i id h2 hwi (wr_some hw)
    · rw [hlow j h3 h4] at hsj
      rw [ext1_lt h3, ext1_eq]
      exact hr.sep id j (Ne.symm h4) hw hsj
    · exact absurd rfl hne
end
end Go.AM
end
section
namespace Go.AM
section
variable {P : Program} {w : World} {Fz : Nat → Prop} {ρ : Nat → Nat × Nat} {n : Nat} {σ : List Ob}
theorem two_append (n E j c m : Nat) (hn : n = m * E) (hj : ¬ j < m) : j * E + c - n = (j - m) * E + c := by
  subst hn
  rw [Nat.sub_mul]
  have : m * E ≤ j * E := Nat.mul_le_mul_right _ (by omega)
  omega
theorem NewsR.append {E : Nat} {a b : List Value} {xs ys : List AV} (h : NewsR w Fz E a xs) (k : NewsR w Fz E b ys) : NewsR w Fz E (a ++ b) (xs ++ ys) := by
  obtain ⟨h1, h2, h3, h4⟩ := h
  obtain ⟨k1, k2, k3, k4⟩ := k
  refine ⟨by simp [h1, k1, Nat.add_mul], fun j hj => ?_, fun j c hj hc => ?_, fun u hu => (List.mem_append.1 hu).elim (h4 u) (k4 u)⟩
  · rw [List.length_append] at hj
    by_cases hjx : j < xs.length
    · have := h2 j hjx
      simp only [List.getD, List.getElem?_append_left hjx] at this ⊢; exact this
    · have := k2 (j - xs.length) (by omega)
      simp only [List.getD, List.getElem?_append_right (Nat.le_of_not_lt hjx)] at this ⊢; exact this
  · rw [List.length_append] at hj
    by_cases hjx : j < xs.length
    · have hle := idx_le (e := E) hjx
      have := h3 j c hjx hc
      simp only [List.getD, List.getElem?_append_left hjx, List.getElem?_append_left (show j * E + c < a.length by omega)] at this ⊢; exact this
    · have hle : xs.length * E ≤ j * E := Nat.mul_le_mul_right _ (Nat.le_of_not_lt hjx)
      have := k3 (j - xs.length) c (by omega) hc
      simp only [List.getD, List.getElem?_append_right (Nat.le_of_not_lt hjx), List.getElem?_append_right (show a.length ≤ j * E + c by omega), two_append _ E j c _ h1 hjx] at this ⊢; exact this
theorem run_info {e : TypeId} (he : tyOk P e = true) : ∃ i z, P.info? e = some i ∧ i.zero = some z ∧ i.size = sizeT P e ∧ i.bytes = bytesT P e ∧ z.cells.size = sizeT P e := by
  obtain ⟨i, d, z, hi, hu, hz, _⟩ := ty_info he
  obtain ⟨i', hi', hb, hs⟩ := run_bytesT he
  rw [hi] at hi'; cases hi'
  obtain ⟨z', hz', _, hzs, _⟩ := run_zeroT he
  have : z' = z := by
    have := hz' default
    simp [zeroValue, typeInfo, hi, hz] at this
    exact this.symm
  subst this
  exact ⟨i, z', hi, hz, hs, hb, hzs⟩
theorem grow_ok (hr : Rel Fz ρ σ w) {t u ty e : TypeId} (hu : P.underlying t = some (.slice e)) (he : tyOk P e = true) (hb1 : 1 ≤ bytesT P e) {vx : Value} {base : Option Addr} {m cap : Nat} {olds news : List Value} {xs ys : List AV} (hmx : m = xs.length)
    (ho : (Builtin.firstCells (sizeT P e) m (.slice base m cap)).run P w.drew = .ok olds.toArray w.drew) (hN0 : NewsR w Fz (sizeT P e) olds xs) (hs : Src P (sizeT P e) u vx ys.length news w) (hN : NewsR w Fz (sizeT P e) news ys)
    (hg : cap < m + ys.length) (hp : (m + ys.length) * bytesT P e ≤ 140737488355328) :
    ∃ v w' ρ', (Builtin.append_ #[t, u] ty #[.slice base m cap, vx]).run P w = .ok v w' ∧ VR w' Fz ρ' (σ ++ [Ob.row true (sizeT P e) (xs ++ ys)]).length v (.sl σ.length (sizeT P e) 0 (m + ys.length)) ∧
      Rel Fz ρ' (σ ++ [.row true (sizeT P e) (xs ++ ys)]) w' ∧ Ext Fz ρ σ w Fz ρ' (σ ++ [.row true (sizeT P e) (xs ++ ys)]) w' := by
  obtain ⟨i, z, hi, hz, his, hib, hzs⟩ := run_info he
  subst hmx
  have hall := hN0.append hN
  have hge := grownCap_ge w (xs.length + ys.length) cap e
  have hlow : xs.length + ys.length ≤ 140737488355328 := by
    have := Nat.mul_le_mul_left (xs.length + ys.length) hb1
    omega
  have hcap : Builtin.nextslicecap (xs.length + ys.length) cap * i.bytes ≤ 281474976710656 := by
    have h1 := Nat.mul_le_mul_right i.bytes (Room.nextslicecap_le' hg)
    rw [Nat.mul_assoc, hib] at h1
    rw [hib]
    omega
  have hrun := run_append_grow_src w t u ty e i z hu hi hz base xs.length cap olds (by rw [his]; exact ho) vx ys.length news (by rw [his]; exact hs) hg (by omega) hcap
  have hzc : (Builtin.zeroCells z.cells (grownCap w (xs.length + ys.length) cap e - (xs.length + ys.length))).size = (grownCap w (xs.length + ys.length) cap e - (xs.length + ys.length)) * sizeT P e := by simp [Builtin.zeroCells, hzs]
  have hasz : ((olds ++ news).toArray ++ Builtin.zeroCells z.cells (grownCap w (xs.length + ys.length) cap e - (xs.length + ys.length))).size = grownCap w (xs.length + ys.length) cap e * sizeT P e := by
    have h1 := hall.1
    simp only [List.length_append] at h1
    rw [Array.size_append, hzc, List.size_toArray, List.length_append, h1, ← Nat.add_mul]
    congr 1
    omega
  have hlen : (xs ++ ys).length = xs.length + ys.length := by simp
  obtain ⟨ρ', k1, k2, k3⟩ := newrow_ok hr (xs := xs ++ ys) (esz := sizeT P e) ((olds ++ news).toArray ++ Builtin.zeroCells z.cells (grownCap w (xs.length + ys.length) cap e - (xs.length + ys.length))) e (0, 0) (free0 _) 1 (grownCap w (xs.length + ys.length) cap e) hall.2.1
    (by rw [hasz, hlen]; exact Nat.mul_le_mul_right _ hge) (by rw [hasz]; exact Nat.le_refl _) (by rw [hlen]; exact hge) (fun j c hj hc => by
      have h1 := hall.2.2.1 j c hj hc
      have hle := idx_le (e := sizeT P e) hj
      have h2 : j * sizeT P e + c < (olds ++ news).length := by rw [hall.1]; omega
      have h3 : ((olds ++ news).toArray ++ Builtin.zeroCells z.cells (grownCap w (xs.length + ys.length) cap e - (xs.length + ys.length))).getD (j * sizeT P e + c) .nilIface = (olds ++ news).getD (j * sizeT P e + c) .nilIface := by
        rw [Array.getD_eq_getD_getElem?, Array.getElem?_append_left (by simpa using h2)]
        simp [List.getD]
      rw [h3]; exact h1)
  rw [hlen] at k1
  exact ⟨_, _, ρ', hrun, k1, k2, k3⟩
theorem append_ok (hr : Rel Fz ρ σ w) {t u ty e : TypeId} (hu : P.underlying t = some (.slice e)) (hk : (∃ e', P.underlying u = some (.slice e')) ∨ P.underlying u = some .string) (he : tyOk P e = true) (hb1 : 1 ≤ bytesT P e) {vs vx : Value} {s x : AV}
    (hvs : VR w Fz ρ σ.length vs s) (hvx : VR w Fz ρ σ.length vx x) {p : Prop} {d : AV} {σ' : List Ob} (h : appendA P t σ s x = some (p, d, σ')) (hp : p) : StepOk P (do pure (.value (← Builtin.append_ #[t, u] ty #[vs, vx]))) w Fz ρ σ d σ' := by
  obtain ⟨i, z, hi, hz, his, hib, hzs⟩ := run_info he
  have hel : elemT P t = e := by simp [elemT, hu]
  unfold appendA at h
  rw [hel] at h
  cases hys : elemsA (sizeT P e) σ x with
  | none => simp [hys] at h
  | some ys =>
    simp only [hys, Option.bind_some] at h
    obtain ⟨news, hsrc, hN⟩ := src_ok hr hk hvx hys
    have hlift : ∀ {v w' Fz' ρ'}, (Builtin.append_ #[t, u] ty #[vs, vx]).run P w = .ok v w' → VR w' Fz' ρ' σ'.length v d → Rel Fz' ρ' σ' w' → Ext Fz ρ σ w Fz' ρ' σ' w' → StepOk P (do pure (.value (← Builtin.append_ #[t, u] ty #[vs, vx]))) w Fz ρ σ d σ' :=
      fun h1 h2 h3 h4 => ⟨_, _, _, _, by simp only [Sem.run_bind, h1, Result.andThen_ok, Sem.run_pure], .inl ⟨_, rfl, h2⟩, h3, h4⟩
    split at h
    · simp only [Option.some.injEq, Prod.mk.injEq] at h
      obtain ⟨rfl, rfl, rfl⟩ := h
      obtain ⟨o, rfl⟩ : ∃ o, vs = .slice o 0 0 := by
        cases (show VC w Fz ρ σ.length vs .nils from hvs) with
        | cr hc => cases hc
        | nils o => exact ⟨o, rfl⟩
      cases ys with
      | nil =>
        have hnews : news = [] := List.eq_nil_of_length_eq_zero (by simpa using hN.1)
        subst hnews
        obtain ⟨n1, n2⟩ := none_ext hr
        exact hlift (run_append_nothing w t u ty e i hu hi o 0 0 (Nat.le_refl _) vx (by rw [his]; exact hsrc)) (VR.of_VC (VC.nils o)) n2 n1
      | cons y r =>
        obtain ⟨v, w', ρ', k1, k2, k3, k4⟩ := grow_ok hr (u := u) (ty := ty) hu he hb1 (base := o) (m := 0) (cap := 0) (olds := []) (xs := []) rfl
          (by cases o with
            | none => exact run_firstCells_none _ _ 0 0 0
            | some a => exact run_firstCells_some _ _ 0 a 0 0 [] (by simp) (by simp)) news_nil hsrc hN (by simp) (by simpa using hp)
        rw [Nat.zero_add] at k2
        exact hlift k1 k2 k3 k4
    · rename_i id esz' m
      cases hg : getO σ id with
      | none => simp [hg] at h
      | var => simp [hg] at h
      | row live esz xs =>
        cases live with
        | false => simp [hg] at h
        | true =>
          simp only [hg, Option.some.injEq, Prod.mk.injEq] at h
          obtain ⟨rfl, rfl, rfl⟩ := h
          obtain ⟨rfl, rfl, hp⟩ := hp
          have hw : wr (getO σ id) = true := by rw [hg]; rfl
          have hlt := getO_lt (wr_some hw)
          have hob := hr.ob id
          rw [hg] at hob
          obtain ⟨arr, ety, fr, h1, h2, h3, h4, h8, h5, h6, h7⟩ := hob
          have hb : blk w (ρ id).1 = some arr := by simp [blk, h1]
          have hform : ∃ o cap, vs = .slice o m cap ∧ m ≤ cap ∧ m ≤ xs.length ∧ ((m = 0 ∧ cap = 0) ∨ (o = some ⟨(ρ id).1, 0, none⟩ ∧ cap * sizeT P e ≤ arr.size)) := by
            generalize hq : AV.sl id (sizeT P e) 0 m = q at hvs
            cases (show VC w Fz ρ σ.length vs (.sl id (sizeT P e) 0 m) by rw [hq]; subst hq; exact hvs) with
            | cr hc => cases hc
            | sl0 o => exact ⟨o, 0, rfl, Nat.le_refl _, Nat.zero_le _, .inl ⟨rfl, rfl⟩⟩
            | sl _ _ _ _ cap hi' hc hk' hs' =>
              obtain ⟨arr', ha', hs'⟩ := hs'
              rw [hb] at ha'; cases ha'
              refine ⟨_, cap, rfl, hc, by omega, .inr ⟨by rw [Nat.zero_mul], by rw [Nat.zero_add] at hs'; exact hs'⟩⟩
          obtain ⟨o, cap, rfl, hmc, hmx, hform⟩ := hform
          have hxm : (xs.take m).length = m := by simp; omega
          have hxg : ∀ j, j < m → (xs.take m).getD j .undef = xs.getD j .undef := fun j hj => by simp only [List.getD, List.getElem?_take, if_pos hj]
          have hmle : m * sizeT P e ≤ xs.length * sizeT P e := Nat.mul_le_mul_right _ hmx
          by_cases hroom : m + ys.length ≤ cap
          · -- in place
            have hsz : m * sizeT P e + news.length ≤ arr.size := by
              rw [hN.1, ← Nat.add_mul]
              rcases hform with ⟨rfl, rfl⟩ | ⟨_, hc⟩
              · obtain hz0 : ys.length = 0 := by omega
                rw [hz0]; omega
              · exact Nat.le_trans (Nat.mul_le_mul_right _ hroom) hc
            have hrun : (Builtin.append_ #[t, u] ty #[.slice o m cap, vx]).run P w = .ok (.slice o (m + ys.length) cap) (w.setCells (ρ id).1 (m * sizeT P e) news) := by
              rcases hform with ⟨rfl, rfl⟩ | ⟨rfl, hc⟩
              · have hz0 : ys.length = 0 := by omega
                have hnews : news = [] := List.eq_nil_of_length_eq_zero (by rw [hN.1, hz0, Nat.zero_mul])
                subst hnews
                rw [hz0] at hsrc ⊢
                exact run_append_nothing w t u ty e i hu hi o 0 0 (Nat.le_refl _) vx (by rw [his]; exact hsrc)
              · obtain ⟨r1, r2⟩ := cells_room h1 h2 hsz
                have := run_append_room_src w t u ty e i hu hi (ρ id).1 0 m cap vx ys.length news (by rw [his]; exact hsrc) hroom (by rw [his, Nat.zero_add]; exact r1) (by rw [his, Nat.zero_add]; exact r2)
                rw [his, Nat.zero_add] at this
                exact this
            have hx := inplace_ext hr hw h1 (m * sizeT P e) news hsz (.row true (sizeT P e) (xs.take m ++ ys)) (m + ys.length)
            obtain ⟨arr', b1, b2, b3⟩ := setCells_blk (ρ id).1 news (m * sizeT P e) w arr h1 hsz
            have hl3 : (σ.set id Ob.none ++ [Ob.row true (sizeT P e) (xs.take m ++ ys)]).length = σ.length + 1 := by simp
            have hlen : (xs.take m ++ ys).length = m + ys.length := by rw [List.length_append, hxm]
            refine hlift hrun ?_ (inplace_rel hr hw h1 (m * sizeT P e) news hsz _ (m + ys.length) ⟨arr', ety, fr, b1, ?_, h3, (fun h => by cases h), hlen, ?_, ?_, ?_⟩) hx
            · rw [hl3]
              rcases hform with ⟨rfl, rfl⟩ | ⟨rfl, hc⟩
              · have hz0 : ys.length = 0 := by omega
                rw [hz0]
                exact VR.of_VC (VC.sl0 o σ.length (sizeT P e) 0 (by omega))
              · have := VC.sl (w := w.setCells (ρ id).1 (m * sizeT P e) news) (Fz := Fz) (ρ := ext1 ρ σ.length ((ρ id).1, m + ys.length)) (n := σ.length + 1) σ.length (sizeT P e) 0 (m + ys.length) cap (by omega) hroom (by rw [ext1_eq]; omega)
                  ⟨arr', by rw [ext1_eq]; simp [blk, b1], by rw [b2, Nat.zero_add]; exact hc⟩
                rw [ext1_eq, Nat.zero_mul] at this
                exact VR.of_VC this
            · unfold Free at *; rw [b2]; exact h2
            · rw [b2, hlen]; rw [hN.1, ← Nat.add_mul] at hsz; exact hsz
            · intro j hj
              rw [hlen] at hj
              by_cases hjm : j < m
              · have := h6 j (by omega)
                rw [← hxg j hjm] at this
                simp only [List.getD, List.getElem?_append_left (show j < (xs.take m).length by omega)] at this ⊢; exact this
              · have := hN.2.1 (j - m) (by omega)
                simp only [List.getD, List.getElem?_append_right (show (xs.take m).length ≤ j by omega), hxm] at this ⊢; exact this
            · intro j c hj hc
              rw [hlen] at hj
              rw [b3]
              by_cases hjm : j < m
              · have hle := idx_le (e := sizeT P e) hjm
                rw [if_neg (by omega)]
                have := (h7 j c (by omega) hc).ext hx hr
                rw [← hxg j hjm] at this
                simp only [List.getD, List.getElem?_append_left (show j < (xs.take m).length by omega)] at this ⊢; exact this
              · have hle : m * sizeT P e ≤ j * sizeT P e := Nat.mul_le_mul_right _ (Nat.le_of_not_lt hjm)
                have hle2 := idx_le (e := sizeT P e) (show j < m + ys.length by omega)
                rw [Nat.add_mul] at hle2
                rw [if_pos (by rw [hN.1]; omega), two_append _ (sizeT P e) j c m rfl hjm]
                have := (hN.2.2.1 (j - m) c (by omega) hc).ext hx hr
                simp only [List.getD, List.getElem?_append_right (show (xs.take m).length ≤ j by omega), hxm] at this ⊢; exact this
          · -- a new row
            have hkx := write_ext hr hw h1 0 [] (by simp) .none (fun _ => trivial)
            have hkr := write_rel hr hw h1 0 [] (by simp) .none trivial
            have e0 : w.setCells (ρ id).1 0 [] = w := rfl
            rw [e0] at hkx hkr
            have hold : ∃ olds, (Builtin.firstCells (sizeT P e) m (.slice o m cap)).run P w.drew = .ok olds.toArray w.drew ∧ NewsR w Fz (sizeT P e) olds (xs.take m) := by
              rcases hform with ⟨rfl, rfl⟩ | ⟨rfl, hc⟩
              · refine ⟨[], ?_, by rw [List.take_zero]; exact news_nil⟩
                cases o with
                | none => exact run_firstCells_none _ _ 0 0 0
                | some a => exact run_firstCells_some _ _ 0 a 0 0 [] (by simp) (by simp)
              · obtain ⟨olds, s1, s2⟩ := srcN (tx := t) (cap := cap) (.inl ⟨e, hu⟩) hb (ys := xs.take m) hxm (off := 0) (E := sizeT P e) (by omega) (fun j hj => by rw [hxg j (by omega)]; exact h6 _ (by omega))
                  (fun j c hj hc' => by rw [hxg j (by omega), Nat.zero_add]; exact h7 _ c (by omega) hc')
                have := s1.cellsD
                rw [hxm] at this
                exact ⟨olds, this, s2⟩
            obtain ⟨olds, o1, o2⟩ := hold
            have hl2 : (σ.set id Ob.none).length = σ.length := by simp
            obtain ⟨v, w', ρ', k1, k2, k3, k4⟩ := grow_ok hkr (u := u) (ty := ty) hu he hb1 (base := o) (m := m) (cap := cap) (olds := olds) (xs := xs.take m) hxm.symm o1 o2 hsrc hN (by omega) hp
            rw [hl2] at k2
            exact hlift k1 k2 k3 (hkx.trans k4)
    · cases h
end
end Go.AM
end
section
namespace Go.AM
section
variable {P : Program} {w : World} {Fz : Nat → Prop} {ρ : Nat → Nat × Nat} {n : Nat} {σ : List Ob}
theorem isU8_iff {e : TypeId} (h : isU8 P e = true) : P.underlying e = some (.int .u8) := by
  unfold isU8 at h
  split at h
  · assumption
  · cases h
theorem slice_form {v : Value} {x : AV} {E : Nat} {ys : List AV} (hv : VR w Fz ρ σ.length v x) (h : elemsA E σ x = some ys) (hx : notStr x = true) : ∃ o l c, v = .slice o l c := by
  unfold elemsA at h
  split at h
  · rename_i esz xs
    cases (show VC w Fz ρ σ.length v (.ts esz xs) from hv) with
    | cr hc => cases hc <;> exact ⟨_, _, _, rfl⟩
  · cases (show VC w Fz ρ σ.length v .nils from hv) with
    | cr hc => cases hc
    | nils o => exact ⟨_, _, _, rfl⟩
  · rename_i id esz i0 m
    cases (show VC w Fz ρ σ.length v (.sl id esz i0 m) from hv) with
    | cr hc => cases hc
    | sl0 => exact ⟨_, _, _, rfl⟩
    | sl => exact ⟨_, _, _, rfl⟩
  · cases hx
  · cases h
theorem bytesS_len (s : ByteArray) : (bytesS s).length = s.data.toList.length := by unfold bytesS; simp
theorem bytesS_get (s : ByteArray) {j : Nat} (hj : j < s.data.toList.length) : (bytesS s).getD j .undef = .int .u8 (s.data.toList[j].toNat : Int) := by
  unfold bytesS
  simp only [Array.length_toList] at hj
  simp [List.getD]
  rw [Array.getElem?_eq_getElem hj]; rfl
theorem conv_ok (hr : Rel Fz ρ σ w) {src dst : TypeId} {v : Value} {x : AV} (hv : VR w Fz ρ σ.length v x) {p : Prop} {d : AV} {σ' : List Ob} (h : convA P src dst σ x = some (p, d, σ')) (hp : p) : StepOk P (do pure (.value (← convert src dst v))) w Fz ρ σ d σ' := by
  unfold convA at h
  split at h
  · rename_i k0 k k1 m hu1 hu2
    simp only [Option.some.injEq, Prod.mk.injEq] at h
    obtain ⟨_, rfl, rfl⟩ := h
    obtain rfl := VR.int_iff.1 hv
    exact StepOk.quiet (.int k (k.wrap m)) (by simp [convert, run_underlying hu1, run_underlying hu2, Conv.intToInt]) hr (VR.int_iff.2 rfl)
  · rename_i s hu1 hu2
    simp only [Option.some.injEq, Prod.mk.injEq] at h
    obtain ⟨_, rfl, rfl⟩ := h
    obtain rfl := VR.str_iff.1 hv
    exact StepOk.quiet (.string s) (by simp [convert, run_underlying hu1, run_underlying hu2]) hr (VR.str_iff.2 rfl)
  · rename_i e s hu1 hu2
    split at h
    · rename_i hb
      simp only [Option.some.injEq, Prod.mk.injEq] at h
      obtain ⟨rfl, rfl, rfl⟩ := h
      obtain rfl := VR.str_iff.1 hv
      have he := isU8_iff hb
      have hrun := run_bytes_of_string w src dst e s hu1 hu2 he
      have hge := grownCap_ge w s.size 0 e
      have hsz : (bytesRow s (grownCap w s.size 0 e)).size = grownCap w s.size 0 e := by
        unfold bytesRow
        simp
        omega
      have hl : (bytesS s).length = s.size := by rw [bytesS_len]; rfl
      obtain ⟨ρ', k1, k2, k3⟩ := newrow_ok hr (xs := bytesS s) (esz := 1) (bytesRow s (grownCap w s.size 0 e)) e ((bytesRow s (grownCap w s.size 0 e)).size, (bytesRow s (grownCap w s.size 0 e)).size + 1) (.inl (Nat.le_refl _)) 1 (grownCap w s.size 0 e)
        (fun j hj => by rw [bytesS_get s (by rw [← bytesS_len]; exact hj)]; rfl) (by rw [hl, hsz]; omega) (by rw [hsz]; omega) (by rw [hl]; exact hge) (fun j c hj hc => by
          have hj' : j < s.data.toList.length := by rw [← bytesS_len]; exact hj
          obtain rfl : c = 0 := by omega
          rw [bytesS_get s hj']
          have : (bytesRow s (grownCap w s.size 0 e)).getD (j * 1 + 0) .nilIface = .int .u8 (s.data.toList[j].toNat : Int) := by
            unfold bytesRow
            simp only [Array.length_toList] at hj'
            simp [Array.getD_eq_getD_getElem?, Array.getElem?_append]
            rw [if_pos (show j < s.size from hj'), Array.getElem?_eq_getElem hj']; rfl
          rw [this]
          exact CR.int _ _)
      rw [hl] at k1
      exact ⟨_, _, Fz, ρ', by simp only [Sem.run_bind, hrun, Result.andThen_ok, Sem.run_pure]; rfl, .inl ⟨_, rfl, k1⟩, k2, k3⟩
    · cases h
  · rename_i x _ _ x1 e hu1 hu2
    split at h
    · rename_i hb
      rw [Bool.and_eq_true] at hb
      cases hys : elemsA 1 σ x with
      | none => simp [hys] at h
      | some ys =>
        simp only [hys, Option.map_some, Option.some.injEq, Prod.mk.injEq] at h
        obtain ⟨rfl, rfl, rfl⟩ := h
        have he := isU8_iff hb.1
        obtain ⟨o, l, c, rfl⟩ := slice_form hv hys hb.2
        obtain ⟨news, hs, hN⟩ := src_ok hr (tx := src) (.inl ⟨e, hu1⟩) hv hys
        have hlen : l = ys.length := by
          have := hs.len w
          simp [Builtin.lenOf] at this
          exact this
        subst hlen
        generalize strB ys = s at hp
        subst hp
        have hlen2 := bytesS_len s
        have hnews : news = (s.data.toList.map fun b => (b.toNat : Int)).map (Value.int .u8) := by
          refine List.ext_getElem (by rw [hN.1, hlen2]; simp) (fun j h1 h2 => ?_)
          rw [hN.1, hlen2, Nat.mul_one] at h1
          have := hN.2.2.1 j 0 (by rw [hlen2]; exact h1) (by omega)
          rw [bytesS_get s h1] at this
          have hj : j < news.length := by rw [hN.1, hlen2]; omega
          simp only [Nat.mul_one, Nat.add_zero, List.getD, List.getElem?_eq_getElem hj, Option.getD_some] at this
          have hq : news[j] = .int .u8 (s.data.toList[j].toNat : Int) := by
            have hcr : CR w Fz news[j] (.int .u8 (s.data.toList[j].toNat : Int)) := this
            generalize news[j] = q at hcr
            cases hcr
            rfl
          rw [hq]
          simp
        have hc := hs.cells
        have hres : (convert src dst (.slice o (bytesS s).length c)).run P w = .ok (.string s) w := by
          rw [run_convert_bytes_string w src dst e o (bytesS s).length c hu1 he hu2]
          cases o with
          | none =>
            have : news = [] := by
              simp [Builtin.firstCells] at hc
              exact hc
            have h0 : s.data.toList = [] := List.eq_nil_of_length_eq_zero (by rw [← hlen2, ← Nat.mul_one (bytesS s).length, ← hN.1, this]; rfl)
            have : s = ByteArray.empty := by
              have h1 : s.data = #[] := by simpa using h0
              cases s; simp only at h1; subst h1; rfl
            subst this
            simp [Conv.bytesToString]
          | some a =>
            rw [hnews] at hc
            have hl : (loadCells a (bytesS s).length).run P w = .ok ((s.data.toList.map fun b => (b.toNat : Int)).map (Value.int .u8)).toArray w := by
              have := hc
              simp only [Builtin.firstCells, Nat.mul_one] at this
              exact this
            rw [run_bytesToString w a (bytesS s).length c _ hl, foldl_push_byteCells]
            simp
        exact StepOk.quiet (.string s) (by simp only [Sem.run_bind, hres, Result.andThen_ok, Sem.run_pure]) hr (VR.str_iff.2 rfl)
    · cases h
  · cases h
end
end Go.AM
end
section
namespace Go.AM
section
variable {P : Program} {w : World} {Fz : Nat → Prop} {ρ : Nat → Nat × Nat} {σ : List Ob}
def opTy (P : Program) : Op → Bool
  | .alloc t => tyOk P t
  | .build t _ => tyOk P t && fieldsOk P t
  | .buildSlice t n _ => tyOk P (elemT P t) && (match P.underlying t with | some (.slice _) => true | _ => false) && decide (n * sizeT P (elemT P t) ≤ 2 ^ 24)
  | .load t _ => tyOk P t
  | .store t _ _ => tyOk P t
  | .fieldAddr t _ f => match fieldT P t f with | some (_, ft) => tyOk P ft | none => false
  | .field t _ f => match fieldT P t f with | some (_, ft) => tyOk P ft | none => false
  | .indexAddr t _ _ => tyOk P (elemT P t)
  | .index t _ _ => match P.underlying t with | some .string => true | _ => tyOk P (elemT P t)
  | .slice t _ _ _ _ => match P.underlying t with | some .string => true | _ => tyOk P (elemT P t)
  | .makeSlice t _ _ => tyOk P (elemT P t) && (match P.underlying t with | some (.slice _) => true | _ => false) && decide (1 ≤ bytesT P (elemT P t))
  | .call { callee := .builtin .append, argTypes, .. } => match argTypes.toList with
    | t :: _ => tyOk P (elemT P t) && (match P.underlying t with | some (.slice _) => true | _ => false) && decide (1 ≤ bytesT P (elemT P t))
    | _ => false
  | _ => true
theorem isSlice {t : TypeId} (h : (match P.underlying t with | some (.slice _) => true | _ => false) = true) : ∃ e, P.underlying t = some (.slice e) ∧ elemT P t = e := by
  split at h
  · rename_i e hu; exact ⟨e, hu, by simp [elemT, hu]⟩
  · cases h
theorem lift_quiet {m : Sem Value} {v : Value} {d : AV} (h : m.run P w = .ok v w) (hr : Rel Fz ρ σ w) (hv : VR w Fz ρ σ.length v d) : StepOk P (do pure (.value (← m))) w Fz ρ σ d σ :=
  StepOk.quiet v (by simp only [Sem.run_bind, h, Result.andThen_ok, Sem.run_pure]) hr hv
theorem step_ok (hr : Rel Fz ρ σ w) {a : Act} {e : Env} (he : EnvR w Fz ρ σ.length a e) (o : Oper) (ht : opTy P o.op = true) {p : Prop} {d : AV} {σ' : List Ob} (h : stepA P o.op ⟨e, σ⟩ = some (p, d, σ')) (hp : p) :
    StepOk P (execOp a.eval o) w Fz ρ σ d σ' := by
  unfold execOp
  generalize o.op = op at h ht ⊢
  unfold stepA at h
  split at h
  case h_1 x => cases h; exact StepOk.quiet _ rfl hr (he.ev x)
  case h_2 x => cases h; exact StepOk.quiet _ rfl hr (he.ev x)
  case h_3 c x y =>
    split at h
    · rename_i t hc
      cases h
      have h1 := he.ev c
      rw [hc] at h1
      have h2 := VR.bool_iff.1 h1
      refine StepOk.quiet (if t then a.eval x else a.eval y) (by simp [h2, asBool]) hr ?_
      cases t
      · exact he.ev y
      · exact he.ev x
    · cases h
  case h_4 t => cases h; exact alloc_ok hr ht hp
  case h_5 t x => cases h; exact box_ok hr hp (he.ev x)
  case h_6 t ps =>
    cases hf : fillA P t (cellsOf (zeroT P t)) (ps.toList.map fun (i, x) => (i, AM.ev e x)) with
    | none => simp [hf] at h
    | some cs =>
      simp only [hf, Option.map_some, Option.some.injEq, Prod.mk.injEq] at h
      obtain ⟨rfl, rfl, rfl⟩ := h
      simp only [opTy, Bool.and_eq_true] at ht
      have h1 := build_ok hr ht.1 ht.2 (ps.toList.map fun q => (q.1, a.eval q.2, AM.ev e q.2)) (fun q hq => by
        obtain ⟨q', _, rfl⟩ := List.mem_map.1 hq
        exact he.ev q'.2) (cs := cs) (by rw [List.map_map]; exact hf) (by rw [List.map_map]; exact hp)
      have e1 : ((ps.toList.map fun q => (q.1, a.eval q.2, AM.ev e q.2)).map fun q => (q.1, q.2.1)).toArray = ps.map fun (i, x) => (i, a.eval x) := by
        apply Array.ext'; simp
      rw [e1] at h1
      exact h1
  case h_7 t n ps =>
    simp only [Option.some.injEq, Prod.mk.injEq] at h
    obtain ⟨rfl, rfl, rfl⟩ := h
    simp only [opTy, Bool.and_eq_true, decide_eq_true_eq] at ht
    obtain ⟨el, hu, hel⟩ := isSlice ht.1.2
    rw [hel] at ht hp ⊢
    have h1 := buildSlice_ok hr hu ht.1.1 ht.2 (ps.toList.map fun q => (q.1, a.eval q.2, AM.ev e q.2)) (fun q hq => by
      obtain ⟨q', hq', rfl⟩ := List.mem_map.1 hq
      obtain ⟨k1, k2, k3⟩ := hp q' hq'
      exact ⟨k1, k2, k3, he.ev q'.2⟩)
    have e1 : ((ps.toList.map fun q => (q.1, a.eval q.2, AM.ev e q.2)).map fun q => (q.1, q.2.1)).toArray = ps.map fun (i, x) => (i, a.eval x) := by
      apply Array.ext'; simp
    rw [e1, List.flatMap_map, List.map_map] at h1
    exact h1
  case h_8 t x =>
    cases hl : loadA P t σ (AM.ev e x) with
    | none => simp [hl] at h
    | some q =>
      obtain ⟨q1, q2⟩ := q
      simp only [hl, Option.map_some, Option.some.injEq, Prod.mk.injEq] at h
      obtain ⟨rfl, rfl, rfl⟩ := h
      obtain ⟨u, k1, k2⟩ := load_ok hr ht (he.ev x) hl hp
      exact lift_quiet k1 hr k2
  case h_9 t x y =>
    cases hl : storeA P t σ (AM.ev e x) (AM.ev e y) with
    | none => simp [hl] at h
    | some q =>
      obtain ⟨q1, q2⟩ := q
      simp only [hl, Option.map_some, Option.some.injEq, Prod.mk.injEq] at h
      obtain ⟨rfl, rfl, rfl⟩ := h
      exact store_ok hr ht (he.ev x) (he.ev y) hl hp
  case h_10 x =>
    have h1 := he.ev x
    split at h <;> rename_i hx <;> try cases h
    · rw [hx] at h1
      obtain ⟨b, o, hb, _⟩ := ptr_form (x := .vp _ _) rfl h1
      exact StepOk.quiet (a.eval x) (by simp only [hb]; rfl) hr h1
    · rw [hx] at h1
      obtain ⟨b, o, hb, _⟩ := ptr_form (x := .rp _ _ _ _ _) rfl h1
      exact StepOk.quiet (a.eval x) (by simp only [hb]; rfl) hr h1
    · rw [hx] at h1
      obtain ⟨b, o, hb, _⟩ := ptr_form (x := .tp _ _ _ _ _) rfl h1
      exact StepOk.quiet (a.eval x) (by simp only [hb]; rfl) hr h1
    · rename_i f cs
      rw [hx] at h1
      have : ∃ vs, a.eval x = .func (.func f) #[] vs := by
        have h2 : VC w Fz ρ σ.length (a.eval x) (.fn f cs) := h1
        generalize a.eval x = v at h2
        cases h2 with
        | cr hc => cases hc; exact ⟨_, rfl⟩
        | fn => exact ⟨_, rfl⟩
      obtain ⟨vs, hb⟩ := this
      exact StepOk.quiet (a.eval x) (by simp only [hb]; rfl) hr h1
  case h_11 op t x y b =>
    cases hb : binA (P.underlying t) op (AM.ev e x) (AM.ev e y) with
    | none => simp [hb] at h
    | some q =>
      obtain ⟨q1, q2⟩ := q
      simp only [hb, Option.map_some, Option.some.injEq, Prod.mk.injEq] at h
      obtain ⟨rfl, rfl, rfl⟩ := h
      obtain ⟨u, k1, k2⟩ := bin_ok (P := P) (x := x) (y := y) (he.ev x) (he.ev y) hb hp
      exact lift_quiet k1 hr k2
  case h_12 op t x =>
    cases hb : unA op (AM.ev e x) with
    | none => simp [hb] at h
    | some q =>
      simp only [hb, Option.map_some, Option.some.injEq, Prod.mk.injEq] at h
      obtain ⟨_, rfl, rfl⟩ := h
      obtain ⟨u, k1, k2⟩ := un_ok (P := P) (he.ev x) hb
      exact lift_quiet k1 hr k2
  case h_13 src dst x => exact conv_ok hr (he.ev x) h hp
  case h_14 f first caps =>
    split at h
    · rename_i hc
      cases h
      simp only [Bool.and_eq_true, decide_eq_true_eq] at hc
      have hf : first.map a.eval = #[] := by
        apply Array.eq_empty_of_size_eq_zero; simp [hc.1]
      refine StepOk.quiet (.func (.func f) #[] (caps.map a.eval)) (by simp [Instr.makeFunc, hf]) hr (VR.of_VC (VC.fn (by simp) (fun j hj => ?_)))
      simp only [List.length_map, Array.length_toList] at hj
      have hx : caps[j] ∈ caps.toList := by simp
      have h1 := List.all_eq_true.1 hc.2 (AM.ev e caps[j]) (List.mem_map.2 ⟨_, hx, rfl⟩)
      have e1 : (caps.map a.eval).getD j .nilIface = a.eval caps[j] := by simp [Array.getD, hj]
      have e2 : (caps.toList.map (AM.ev e)).getD j .undef = AM.ev e caps[j] := by simp [List.getD, hj]
      rw [e1, e2]
      have h2 := he.ev caps[j]
      generalize AM.ev e caps[j] = y at h1 h2
      cases y <;> first | exact h2 | cases h1
    · cases h
  case h_15 t l c =>
    split at h
    · rename_i l' c' hl hc
      simp only [Option.some.injEq, Prod.mk.injEq] at h
      obtain ⟨rfl, rfl, rfl⟩ := h
      obtain ⟨p0, p1, p2⟩ := hp
      simp only [opTy, Bool.and_eq_true, decide_eq_true_eq] at ht
      obtain ⟨el, hu, hel⟩ := isSlice ht.1.2
      rw [hel] at ht p2 ⊢
      have h1 := he.ev l
      have h2 := he.ev c
      rw [hl] at h1
      rw [hc] at h2
      have e1 := VR.int_iff.1 h1
      have e2 := VR.int_iff.1 h2
      have hb : (1 : Int) ≤ bytesT P el := by have := ht.2; omega
      have hm : c' * 1 ≤ c' * bytesT P el := Int.mul_le_mul_of_nonneg_left hb (by omega)
      simp only [e1, e2]
      exact makeSlice_ok hr hu ht.1.1 p0 p1 p2 (by omega)
    · cases h
  case h_16 t x lo hi mx =>
    cases hs : sliceA P t (AM.ev e x) (lo.map (AM.ev e)) (hi.map (AM.ev e)) (mx.map (AM.ev e)) with
    | none => simp [hs] at h
    | some q =>
      obtain ⟨q1, q2⟩ := q
      simp only [hs, Option.map_some, Option.some.injEq, Prod.mk.injEq] at h
      obtain ⟨rfl, rfl, rfl⟩ := h
      have hb : ∀ (z : Option Operand) y, z.map (AM.ev e) = some y → ∃ u, z.map a.eval = some u ∧ VR w Fz ρ σ.length u y := fun z y hz => by
        cases z with
        | none => cases hz
        | some z => cases hz; exact ⟨_, rfl, he.ev z⟩
      have hn : ∀ (z : Option Operand), z.map (AM.ev e) = none → z.map a.eval = none := fun z hz => by
        cases z with
        | none => rfl
        | some z => cases hz
      obtain ⟨u, k1, k2⟩ := slice_ok (P := P) (w := w) (fun el hu => by simpa [opTy, hu, elemT] using ht) (he.ev x) (hb lo) (hb hi) (hb mx) (hn lo) (hn hi) (hn mx) hs hp
      exact lift_quiet k1 hr k2
  case h_17 t x f =>
    cases hs : fieldAddrA P t (AM.ev e x) f with
    | none => simp [hs] at h
    | some q =>
      simp only [hs, Option.map_some, Option.some.injEq, Prod.mk.injEq] at h
      obtain ⟨rfl, rfl, rfl⟩ := h
      obtain ⟨u, k1, k2⟩ := fieldAddr_ok (P := P) (w := w) (fun o ft hf => by simpa [opTy, hf] using ht) (he.ev x) hs
      exact lift_quiet k1 hr k2
  case h_18 t x f =>
    split at h
    · rename_i o ft cs hf hx
      cases h
      have h1 := he.ev x
      rw [hx] at h1
      obtain ⟨u, k1, k2⟩ := field_ok (P := P) (w := w) hf (by simpa [opTy, hf] using ht) h1 hp
      exact lift_quiet k1 hr k2
    · cases h
  case h_19 t x i =>
    cases hs : indexAddrA P t (AM.ev e x) (AM.ev e i) with
    | none => simp [hs] at h
    | some q =>
      obtain ⟨q1, q2⟩ := q
      simp only [hs, Option.map_some, Option.some.injEq, Prod.mk.injEq] at h
      obtain ⟨rfl, rfl, rfl⟩ := h
      obtain ⟨u, k1, k2⟩ := indexAddr_ok (P := P) (w := w) ht (he.ev x) (he.ev i) hs hp
      exact lift_quiet k1 hr k2
  case h_20 t x i =>
    cases hs : indexA P t (AM.ev e x) (AM.ev e i) with
    | none => simp [hs] at h
    | some q =>
      obtain ⟨q1, q2⟩ := q
      simp only [hs, Option.map_some, Option.some.injEq, Prod.mk.injEq] at h
      obtain ⟨rfl, rfl, rfl⟩ := h
      obtain ⟨u, k1, k2⟩ := index_ok (P := P) (w := w) (fun m el hu => by simpa [opTy, hu, elemT] using ht) (he.ev x) (he.ev i) hs hp
      exact lift_quiet k1 hr k2
  case h_21 x i =>
    split at h
    · rename_i vs hx
      cases hi : vs[i]? with
      | none => simp [hi] at h
      | some y =>
        simp only [hi, Option.map_some, Option.some.injEq, Prod.mk.injEq] at h
        obtain ⟨_, rfl, rfl⟩ := h
        have h1 := he.ev x
        rw [hx] at h1
        obtain ⟨us, hv, hs, hj⟩ := h1
        obtain ⟨hlt, rfl⟩ := List.getElem?_eq_some_iff.1 hi
        have h2 := hj i hlt
        have e1 : vs.getD i .undef = vs[i] := by simp [List.getD, hlt]
        rw [e1] at h2
        refine lift_quiet (m := Instr.extract (a.eval x) i) (v := us.getD i .nilIface) ?_ hr (VR.of1 h2)
        rw [hv]
        have hlu : i < us.size := by omega
        simp [Instr.extract, Array.getD, hlu]
    · cases h
  case h_22 args argTypes =>
    split at h
    · rename_i x t hx htt
      cases hl : lenU (P.underlying t) (AM.ev e x) with
      | none => simp [hl] at h
      | some q =>
        simp only [hl, Option.map_some, Option.some.injEq, Prod.mk.injEq] at h
        obtain ⟨_, rfl, rfl⟩ := h
        obtain rfl : args = #[x] := by apply Array.ext'; simpa using hx
        obtain rfl : argTypes = #[t] := by apply Array.ext'; simpa using htt
        have h1 := he.ev x
        have hz : ∃ u, (Builtin.len_ #[t] o.type #[a.eval x]).run P w = .ok u w ∧ VR w Fz ρ σ.length u q := by
          unfold lenU at hl
          split at hl
          · rename_i hu
            split at hl
            · rename_i s hs
              rw [hs] at h1
              cases hl
              exact len_ok (.inl hu) h1 rfl ⟨fun _ => hu, fun _ => ⟨_, rfl⟩⟩
            · cases hl
          · rename_i el hu
            split at hl
            · cases hl
            · rename_i hn
              refine len_ok (.inr ⟨el, hu⟩) h1 hl ⟨fun ⟨s, hs⟩ => absurd hs (hn s), fun hq => by rw [hu] at hq; cases hq⟩
          · cases hl
        obtain ⟨u, k1, k2⟩ := hz
        refine StepOk.quiet u ?_ hr k2
        simp only [resolve, invoke, builtin, pure_bind, Sem.run_bind, List.map_toArray, List.map_cons, List.map_nil]
        rw [k1]
        rfl
    · cases h
  case h_23 args _ =>
    split at h
    · rename_i x y hx
      cases hl : minA (AM.ev e x) (AM.ev e y) with
      | none => simp [hl] at h
      | some q =>
        simp only [hl, Option.map_some, Option.some.injEq, Prod.mk.injEq] at h
        obtain ⟨_, rfl, rfl⟩ := h
        obtain rfl : args = #[x, y] := by apply Array.ext'; simpa using hx
        have h1 := he.ev x
        have h2 := he.ev y
        unfold minA at hl
        split at hl
        · rename_i k m k' m' hm hm'
          cases hl
          rw [hm] at h1
          rw [hm'] at h2
          have e1 := VR.int_iff.1 h1
          have e2 := VR.int_iff.1 h2
          exact StepOk.quiet (.int k (if m' < m then m' else m)) (by simp [resolve, invoke, builtin, Builtin.min_, Builtin.min2, e1, e2]) hr (VR.int_iff.2 rfl)
        · cases hl
    · cases h
  case h_24 args _ =>
    split at h
    · rename_i x y hx
      cases hl : maxA (AM.ev e x) (AM.ev e y) with
      | none => simp [hl] at h
      | some q =>
        simp only [hl, Option.map_some, Option.some.injEq, Prod.mk.injEq] at h
        obtain ⟨_, rfl, rfl⟩ := h
        obtain rfl : args = #[x, y] := by apply Array.ext'; simpa using hx
        have h1 := he.ev x
        have h2 := he.ev y
        unfold maxA at hl
        split at hl
        · rename_i k m k' m' hm hm'
          cases hl
          rw [hm] at h1
          rw [hm'] at h2
          have e1 := VR.int_iff.1 h1
          have e2 := VR.int_iff.1 h2
          exact StepOk.quiet (.int k (if m' > m then m' else m)) (by simp [resolve, invoke, builtin, Builtin.max_, Builtin.max2, e1, e2]) hr (VR.int_iff.2 rfl)
        · cases hl
    · cases h
  case h_25 args argTypes =>
    split at h
    · rename_i x y t u hx htt
      obtain rfl : args = #[x, y] := by apply Array.ext'; simpa using hx
      obtain rfl : argTypes = #[t, u] := by apply Array.ext'; simpa using htt
      simp only [opTy, Bool.and_eq_true, decide_eq_true_eq] at ht
      obtain ⟨el, hu, hel⟩ := isSlice ht.1.2
      rw [hel] at ht
      have hfin : ((∃ e', P.underlying u = some (.slice e')) ∨ P.underlying u = some .string) → appendA P t σ (AM.ev e x) (AM.ev e y) = some (p, d, σ') → StepOk P (do pure (.value (← Builtin.append_ #[t, u] o.type #[a.eval x, a.eval y]))) w Fz ρ σ d σ' :=
        fun hk h => append_ok hr hu hk ht.1.1 ht.2 (he.ev x) (he.ev y) h hp
      have hgo : StepOk P (do pure (.value (← Builtin.append_ #[t, u] o.type #[a.eval x, a.eval y]))) w Fz ρ σ d σ' := by
        split at h
        · rename_i e' hu'; exact hfin (.inl ⟨e', hu'⟩) h
        · rename_i hu'; exact hfin (.inr hu') h
        · cases h
      obtain ⟨nx, w', Fz', ρ', k1, rest⟩ := hgo
      refine ⟨nx, w', Fz', ρ', ?_, rest⟩
      rw [← k1]
      simp only [resolve, invoke, builtin, pure_bind, List.map_toArray, List.map_cons, List.map_nil]
    · cases h
  case h_26 => cases h
end
end Go.AM
end
section
namespace Go.AM
inductive AEx where
  | normal
  | exit (n : Nat)
  | ret
def exOf : Exit → Option AEx
  | .normal => some .normal
  | .exit n => some (.exit n)
  | .ret => some .ret
  | _ => none
def Does (P : Program) (f : FuncId) (as : List AV) (σ : List Ob) (R : AV → List Ob → Prop) : Prop :=
  (∃ fn, P.funcs[f]? = some fn ∧ (fn.name == "runtime.NumGoroutine") = false ∧ fn.body.isNone = false) ∧
  ∀ (w : World) (Fz : Nat → Prop) (ρ : Nat → Nat × Nat) (vs : Array Value), Rel Fz ρ σ w → vs.size = as.length → (∀ j, j < as.length → VR w Fz ρ σ.length (vs.getD j .nilIface) (as.getD j .undef)) →
    Calls P f vs w fun e w' => ∃ v r σ' Fz' ρ', e = .returned v ∧ R r σ' ∧ VR w' Fz' ρ' σ'.length v r ∧ Rel Fz' ρ' σ' w' ∧ Ext Fz ρ σ w Fz' ρ' σ' w'
def callP (P : Program) (f : FuncId) (as : List AV) (σ : List Ob) [K : Kt (AV × List Ob)] : Prop := ∃ R, Does P f as σ R ∧ ∀ r σ', R r σ' → K.run (r, σ')
def guardB (ops : Array Oper) (e : Env) : Option (Nat × Bool) → AV
  | none => .bool true
  | some (j, want) => match (ops[j]?).bind (·.dst) with | some t => (match getE e t with | .bool b => .bool (b == want) | .tup [] => .bool false | _ => .undef) | none => .undef
def wpo (P : Program) (ops : Array Oper) : List Oper → (St → Prop) → St → Prop
  | [], K, s => K s
  | o :: os, K, s => @onB (guardB ops s.env o.guard)
      ⟨fun _ => match isCall o.op with
        | true => @bindP _ (callOf s.env o.op) ⟨fun c => @callP P c.1 c.2 s.σ ⟨fun r => wpo P ops os K ⟨putE s.env o.dst r.1, r.2⟩⟩⟩
        | false => @bindP _ (stepA P o.op s) ⟨fun r => @Chk r.1 ⟨fun _ => wpo P ops os K ⟨putE s.env o.dst r.2.1, r.2.2⟩⟩⟩⟩
      ⟨fun _ => wpo P ops os K ⟨putE s.env o.dst (.tup []), s.σ⟩⟩
structure ExtB (B : Nat) (Fz : Nat → Prop) (ρ : Nat → Nat × Nat) (σ : List Ob) (w : World) (Fz' : Nat → Prop) (ρ' : Nat → Nat × Nat) (σ' : List Ob) (w' : World) : Prop where
  os : w'.os = w.os
  tape : w'.tape = w.tape
  output : w'.output = w.output
  size : w.heap.size ≤ w'.heap.size
  len : B ≤ σ'.length
  rho : ∀ id, id < B → ρ' id = ρ id
  fz : ∀ b, Fz b → Fz' b
  fznew : ∀ b, Fz' b → Fz b ∨ w.heap.size ≤ b ∨ ∃ id, wr (getO σ id) = true ∧ (ρ id).1 = b
  wrold : ∀ id, id < B → wr (getO σ' id) = true → wr (getO σ id) = true
  wrall : ∀ id, wr (getO σ' id) = true → w.heap.size ≤ (ρ' id).1 ∨ ∃ i, wr (getO σ i) = true ∧ (ρ i).1 = (ρ' id).1
  keep : ∀ b, b < w.heap.size → (∀ id, wr (getO σ id) = true → (ρ id).1 ≠ b) → w'.heap[b]? = w.heap[b]?
  sizes : ∀ (b : Nat) (arr : Array Value), blk w b = some arr → ∃ arr' : Array Value, blk w' b = some arr' ∧ arr'.size = arr.size
theorem Ext.toB {B Fz ρ σ w Fz' ρ' σ' w'} (h : Ext Fz ρ σ w Fz' ρ' σ' w') (hB : B ≤ σ.length) : ExtB B Fz ρ σ w Fz' ρ' σ' w' where
  os := h.os
  tape := h.tape
  output := h.output
  size := h.size
  len := Nat.le_trans hB h.len
  rho := fun id hi => h.rho id (by omega)
  fz := h.fz
  fznew := fun b hb => (h.fznew b hb).imp id (Or.imp id fun ⟨i, _, h2⟩ => ⟨i, h2⟩)
  wrold := fun id hi => h.wrold id (by omega)
  wrall := fun id hw => by
    by_cases hi : id < σ.length
    · exact .inr ⟨id, h.wrold id hi hw, by rw [h.rho id hi]⟩
    · exact (h.wrnew id (by omega) hw).imp (fun x => x) fun ⟨i, _, h2⟩ => ⟨i, h2⟩
  keep := fun b hb hn => h.keep b hb fun id _ hw => hn id hw
  sizes := h.sizes
theorem ExtB.toExt {Fz ρ σ w Fz' ρ' σ' w'} (h : ExtB σ.length Fz ρ σ w Fz' ρ' σ' w') : Ext Fz ρ σ w Fz' ρ' σ' w' where
  os := h.os
  tape := h.tape
  output := h.output
  size := h.size
  len := h.len
  rho := h.rho
  fz := h.fz
  fznew := fun b hb => (h.fznew b hb).imp id (Or.imp id fun ⟨i, h1, h2⟩ => ⟨i, getO_lt (wr_some h1), h1, h2⟩)
  wrold := h.wrold
  wrnew := fun id _ hw => (h.wrall id hw).imp (fun x => x) fun ⟨i, h1, h2⟩ => ⟨i, getO_lt (wr_some h1), h1, h2⟩
  keep := fun b hb hn => h.keep b hb fun id hw => hn id (getO_lt (wr_some hw)) hw
  sizes := h.sizes
theorem ExtB.trans {B Fz ρ σ w Fz1 ρ1 σ1 w1 Fz2 ρ2 σ2 w2} (h : ExtB B Fz ρ σ w Fz1 ρ1 σ1 w1) (k : ExtB B Fz1 ρ1 σ1 w1 Fz2 ρ2 σ2 w2) : ExtB B Fz ρ σ w Fz2 ρ2 σ2 w2 where
  os := k.os.trans h.os
  tape := k.tape.trans h.tape
  output := k.output.trans h.output
  size := Nat.le_trans h.size k.size
  len := k.len
  rho := fun id hi => (k.rho id hi).trans (h.rho id hi)
  fz := fun b hb => k.fz b (h.fz b hb)
  fznew := fun b hb => by
    rcases k.fznew b hb with h1 | h1 | ⟨id, hw, rfl⟩
    · exact h.fznew b h1
    · exact .inr (.inl (Nat.le_trans h.size h1))
    · exact .inr (h.wrall id hw)
  wrold := fun id hi hw => h.wrold id hi (k.wrold id hi hw)
  wrall := fun id hw => by
    rcases k.wrall id hw with h1 | ⟨i, h1, h2⟩
    · exact .inl (Nat.le_trans h.size h1)
    · rw [← h2]; exact h.wrall i h1
  keep := fun b hb hn => by
    rw [k.keep b (Nat.lt_of_lt_of_le hb h.size) ?_, h.keep b hb hn]
    intro id hw heq
    rcases h.wrall id hw with h1 | ⟨i, h1, h2⟩
    · omega
    · exact hn i h1 (h2.trans heq)
  sizes := fun b arr hb => by
    obtain ⟨arr1, h1, e1⟩ := h.sizes b arr hb
    obtain ⟨arr2, h2, e2⟩ := k.sizes b arr1 h1
    exact ⟨arr2, h2, e2.trans e1⟩
theorem ExtB.refl {B Fz ρ σ w} (hB : B ≤ σ.length) : ExtB B Fz ρ σ w Fz ρ σ w := (Ext.refl Fz ρ σ w).toB hB
def Lift (N B : Nat) (Fz : Nat → Prop) (ρ : Nat → Nat × Nat) (σ : List Ob) (w : World) (Q : AEx → St → Prop) (e : Exit) (a' : Act) (w' : World) : Prop :=
  ∃ x s' Fz' ρ', exOf e = some x ∧ Q x s' ∧ Rel Fz' ρ' s'.σ w' ∧ EnvR w' Fz' ρ' s'.σ.length a' s'.env ∧ ExtB B Fz ρ σ w Fz' ρ' s'.σ w' ∧ a'.defers = [] ∧ a'.tmps.size = N
def Ok (P : Program) (N B : Nat) (c : Code) (Q : AEx → St → Prop) (s : St) : Prop :=
  B ≤ s.σ.length → ∀ w Fz ρ a, Rel Fz ρ s.σ w → EnvR w Fz ρ s.σ.length a s.env → a.defers = [] → a.tmps.size = N → c.wp P (Lift N B Fz ρ s.σ w Q) a w
def LoopP (body : (AEx → St → Prop) → St → Prop) (Q : AEx → St → Prop) : Nat → St → Prop
  | 0, _ => False
  | n + 1, s => body (fun e s' => match e with | .normal => LoopP body Q n s' | e => Q e s') s
def operOk (P : Program) (N : Nat) (o : Oper) : Bool := opTy P o.op && (match o.dst with | some t => decide (t < N) | none => true)
def codeOk (P : Program) (N : Nat) : Code → Bool
  | .seq a b => codeOk P N a && codeOk P N b
  | .cond _ a b => codeOk P N a && codeOk P N b
  | .block _ c => codeOk P N c
  | .loop c => codeOk P N c
  | .region _ ops false => ops.toList.all (operOk P N)
  | _ => true
def wpc (P : Program) (V : List Nat) (N B : Nat) : Code → (AEx → St → Prop) → St → Prop
  | .skip, Q, s => Q .normal s
  | .label _, Q, s => Q .normal s
  | .exit n, Q, s => Q (.exit n) s
  | .ret, Q, s => Q .ret s
  | .seq a b, Q, s => wpc P V N B a (fun e s' => match e with | .normal => wpc P V N B b Q s' | e => Q e s') s
  | .cond c a b, Q, s => @onB (ev s.env c) ⟨fun _ => wpc P V N B a Q s⟩ ⟨fun _ => wpc P V N B b Q s⟩
  | .block n c, Q, s => wpc P V N B c (fun e s' => match e with | .exit m => (match decide (m = n) with | true => Q .normal s' | false => Q (.exit m) s') | e => Q e s') s
  | .loop c, Q, s => codeOk P N c = true → Ok P N B (.loop c) Q s
  | .region _ ops false, Q, s => wpo P ops ops.toList (fun s' => Q .normal ⟨keepE V s'.env, s'.σ⟩) s
  | .region id ops true, Q, s => Ok P N B (.region id ops true) (fun e s' => Q e ⟨keepE V s'.env, s'.σ⟩) s
  | c, Q, s => Ok P N B c Q s
section
variable {P : Program} {V : List Nat} {N B : Nat}
theorem onB_iff {g : AV} {T F : Unit → Prop} (h : @onB g ⟨T⟩ ⟨F⟩) : ∃ b, g = .bool b ∧ (if b then T () else F ()) := by
  unfold onB at h
  split at h
  · exact ⟨true, rfl, h⟩
  · exact ⟨false, rfl, h⟩
  · exact h.elim
theorem bindP_iff {α : Type} {x : Option α} {f : α → Prop} (h : @bindP α x ⟨f⟩) : ∃ v, x = some v ∧ f v := by
  unfold bindP at h
  split at h
  · exact ⟨_, rfl, h⟩
  · exact h.elim
theorem wanted_of {ops : Array Oper} {e : Env} {a : Act} {w Fz ρ n} (he : EnvR w Fz ρ n a e) {o : Oper} {b : Bool} (h : guardB ops e o.guard = .bool b) : Region.wanted o (yielded ops a.tmps) = b := by
  unfold guardB at h
  unfold Region.wanted
  split at h
  · rename_i hg; rw [hg]; cases h; rfl
  · rename_i j want hg
    rw [hg]
    simp only
    split at h
    · rename_i t ht
      have h1 := he t
      have hy : ∀ v, a.tmps.getD t undef = v → yielded ops a.tmps j = (match v with | .bool b => some b | _ => none) := fun v hv => by
        unfold yielded
        rw [ht]
        simp only [Option.bind_some]
        by_cases hlt : t < a.tmps.size
        · simp [Array.getD, hlt] at hv
          simp [hlt, hv]
          cases v <;> rfl
        · simp [Array.getD, hlt] at hv
          subst hv
          simp [hlt]
          rfl
      split at h
      · rename_i b' hb
        cases h
        rw [hb] at h1
        rw [hy _ (VR.bool_iff.1 h1)]
        cases b' <;> cases want <;> rfl
      · rename_i hb
        cases h
        rw [hb] at h1
        obtain ⟨vs, hv, _⟩ := h1
        rw [hy _ hv]
        rfl
      · cases h
    · cases h
theorem put_size {a : Act} {d : Option Tmp} {v : Value} : (a.put d v).tmps.size = a.tmps.size := by cases d <;> simp [Act.put]
theorem put_defers {a : Act} {d : Option Tmp} {v : Value} : (a.put d v).defers = a.defers := by cases d <;> rfl
theorem dst_lt {o : Oper} (h : operOk P N o = true) {a : Act} (ha : a.tmps.size = N) : ∀ t, o.dst = some t → t < a.tmps.size := fun t ht => by
  simp only [operOk, Bool.and_eq_true, ht, decide_eq_true_eq] at h
  rw [ha]; exact h.2
theorem oper_wp {o : Oper} (hop : operOk P N o = true) {a : Act} {w : World} {Fz ρ} {s : St} (hr : Rel Fz ρ s.σ w) (he : EnvR w Fz ρ s.σ.length a s.env) (hd : a.defers = []) (hN : a.tmps.size = N) {Q : Exit → Act → World → Prop} {K : St → Prop} {next : Act → World → Prop}
    (hK : ∀ s' Fz' ρ' a' w', K s' → Rel Fz' ρ' s'.σ w' → EnvR w' Fz' ρ' s'.σ.length a' s'.env → Ext Fz ρ s.σ w Fz' ρ' s'.σ w' → a'.defers = [] → a'.tmps.size = N → next a' w')
    (h : match isCall o.op with
        | true => @bindP _ (callOf s.env o.op) ⟨fun c => @callP P c.1 c.2 s.σ ⟨fun r => K ⟨putE s.env o.dst r.1, r.2⟩⟩⟩
        | false => @bindP _ (stepA P o.op s) ⟨fun r => @Chk r.1 ⟨fun _ => K ⟨putE s.env o.dst r.2.1, r.2.2⟩⟩⟩) : o.wp P a w next Q := by
  have hdl := dst_lt hop hN
  cases hc : isCall o.op with
  | false =>
    rw [hc] at h
    obtain ⟨⟨p, d, σ'⟩, hst, hp, hk⟩ := bindP_iff h
    simp only [operOk, Bool.and_eq_true] at hop
    obtain ⟨nx, w', Fz', ρ', k1, k2, k3, k4⟩ := step_ok (e := s.env) hr he o hop.1 hst hp
    unfold Oper.wp
    rw [k1]
    have hx := he.ext k4 hr
    rcases k2 with ⟨v, rfl, hv⟩ | ⟨rfl, rfl⟩
    · exact hK _ _ _ _ _ hk k3 (hx.put o.dst hdl hv) k4 (by rw [put_defers, hd]) (by rw [put_size, hN])
    · exact hK _ _ _ _ _ hk k3 (hx.put o.dst hdl trivial) k4 (by rw [put_defers, hd]) (by rw [put_size, hN])
  | true =>
    rw [hc] at h
    obtain ⟨⟨g, as⟩, hco, R, ⟨⟨fn, hfn, hname, hbody⟩, hdo⟩, hk⟩ := bindP_iff h
    obtain ⟨f, args, ats, hop2⟩ : ∃ f args ats, o.op = .call { callee := .value f, args := args, argTypes := ats } := by
      unfold isCall at hc
      split at hc
      · rename_i c ; exact ⟨_, _, _, by assumption⟩
      · cases hc
    rw [hop2] at hco
    simp only [callOf] at hco
    split at hco
    · rename_i g' caps hf
      simp only [Option.some.injEq, Prod.mk.injEq] at hco
      obtain ⟨rfl, rfl⟩ := hco
      have h1 := he.ev f
      rw [hf] at h1
      obtain ⟨cvs, hcv, hcs, hcj⟩ : ∃ cvs : Array Value, a.eval f = .func (.func g') #[] cvs ∧ cvs.size = caps.length ∧ ∀ j, j < caps.length → VC w Fz ρ s.σ.length (cvs.getD j .nilIface) (caps.getD j .undef) := by
        have h2 : VC w Fz ρ s.σ.length (a.eval f) (.fn g' caps) := h1
        generalize a.eval f = v at h2
        cases h2 with
        | cr hcr =>
          cases hcr with
          | fn hs hj => exact ⟨_, rfl, hs, fun j hl => .cr (hj j hl)⟩
        | fn hs hj => exact ⟨_, rfl, hs, hj⟩
      have hrun : (execOp a.eval o).run P w = .ok (.enter g' (args.map a.eval ++ cvs)) w := by
        unfold execOp
        rw [hop2]
        simp only [resolve, hcv, Deferred.ofValue, Sem.run_bind, Sem.run_pure, Result.andThen_ok, invoke, callFunc, run_program, hfn]
        simp [hname, hbody]
      unfold Oper.wp
      rw [hrun]
      have hlen : (args.map a.eval ++ cvs).size = (args.toList.map (AM.ev s.env) ++ caps).length := by simp [hcs]
      refine (hdo w Fz ρ (args.map a.eval ++ cvs) hr hlen (fun j hj => ?_)).mono ?_
      · by_cases hja : j < args.size
        · have e1 : (args.map a.eval ++ cvs).getD j .nilIface = a.eval args[j] := by
            rw [Array.getD_eq_getD_getElem?, Array.getElem?_append_left (by simpa using hja)]
            simp [hja]
          have e2 : (args.toList.map (AM.ev s.env) ++ caps).getD j .undef = AM.ev s.env args[j] := by
            simp only [List.getD]
            rw [List.getElem?_append_left (by simpa using hja)]
            simp [hja]
          rw [e1, e2]
          exact he.ev _
        · have e1 : (args.map a.eval ++ cvs).getD j .nilIface = cvs.getD (j - args.size) .nilIface := by
            rw [Array.getD_eq_getD_getElem?, Array.getElem?_append_right (by simpa using Nat.le_of_not_lt hja)]
            simp [Array.getD_eq_getD_getElem?]
          have e2 : (args.toList.map (AM.ev s.env) ++ caps).getD j .undef = caps.getD (j - args.size) .undef := by
            simp only [List.getD]
            rw [List.getElem?_append_right (by simpa using Nat.le_of_not_lt hja)]
            simp
          rw [e1, e2]
          have hl : j - args.size < caps.length := by simp at hj; omega
          exact VR.of_VC (hcj _ hl)
      · rintro e w' ⟨v, r, σ', Fz', ρ', rfl, hR, hv, hr', hx⟩
        exact hK _ _ _ _ _ (hk r σ' hR) hr' ((he.ext hx hr).put o.dst hdl hv) hx (by rw [put_defers, hd]) (by rw [put_size, hN])
    · cases hco
theorem list_wp {ops : Array Oper} {K : St → Prop} {Q : Exit → Act → World → Prop} : ∀ (l : List Oper), (∀ o ∈ l, operOk P N o = true) → ∀ (s : St) (a : Act) (w : World) (Fz ρ), Rel Fz ρ s.σ w → EnvR w Fz ρ s.σ.length a s.env → a.defers = [] → a.tmps.size = N →
    (∀ s' Fz' ρ' a' w', K s' → Rel Fz' ρ' s'.σ w' → EnvR w' Fz' ρ' s'.σ.length a' s'.env → Ext Fz ρ s.σ w Fz' ρ' s'.σ w' → a'.defers = [] → a'.tmps.size = N → Q .normal a' w') → wpo P ops l K s → wpList P ops Q l a w := by
  intro l
  induction l with
  | nil => intro _ s a w Fz ρ hr he hd hN hK h; exact hK s Fz ρ a w h hr he (Ext.refl _ _ _ _) hd hN
  | cons o l ih =>
    intro hl s a w Fz ρ hr he hd hN hK h
    obtain ⟨b, hb, h⟩ := onB_iff h
    have hw := wanted_of he hb
    have hop := hl o (by simp)
    refine wpList_step fun K' hK' => ?_
    rw [hw]
    cases b with
    | false =>
      have hu : VR w Fz ρ s.σ.length undef (.tup []) := ⟨#[], rfl, rfl, fun j hj => absurd hj (by simp)⟩
      exact hK' _ _ (ih (fun o ho => hl o (by simp [ho])) ⟨putE s.env o.dst (.tup []), s.σ⟩ (a.put o.dst undef) w Fz ρ hr (he.put o.dst (dst_lt hop hN) hu) (by rw [put_defers, hd]) (by rw [put_size, hN]) hK h)
    | true =>
      refine oper_wp hop hr he hd hN (K := wpo P ops l K) (fun s' Fz' ρ' a' w' hk hr' he' hx hd' hN' => hK' _ _ ?_) h
      exact ih (fun o ho => hl o (by simp [ho])) s' a' w' Fz' ρ' hr' he' hd' hN' (fun s2 Fz2 ρ2 a2 w2 k2 r2 e2 x2 d2 n2 => hK s2 Fz2 ρ2 a2 w2 k2 r2 e2 (hx.trans x2) d2 n2) hk
theorem Lift.trans {Fz ρ σ w Fz1 ρ1 σ1 w1} (hx : ExtB B Fz ρ σ w Fz1 ρ1 σ1 w1) {Q e a' w'} (h : Lift N B Fz1 ρ1 σ1 w1 Q e a' w') : Lift N B Fz ρ σ w Q e a' w' := by
  obtain ⟨x, s', Fz', ρ', h1, h2, h3, h4, h5, h6⟩ := h
  exact ⟨x, s', Fz', ρ', h1, h2, h3, h4, hx.trans h5, h6⟩
theorem code_ok : ∀ (c : Code), codeOk P N c = true → ∀ (Q : AEx → St → Prop) (s : St), wpc P V N B c Q s → Ok P N B c Q s := by
  intro c
  induction c with
  | skip => intro _ Q s h hB w Fz ρ a hr he hd hN; exact wp_skip ⟨.normal, s, Fz, ρ, rfl, h, hr, he, ExtB.refl hB, hd, hN⟩
  | label l => intro _ Q s h hB w Fz ρ a hr he hd hN; exact wp_label ⟨.normal, s, Fz, ρ, rfl, h, hr, he, ExtB.refl hB, hd, hN⟩
  | exit n => intro _ Q s h hB w Fz ρ a hr he hd hN; exact wp_exit ⟨.exit n, s, Fz, ρ, rfl, h, hr, he, ExtB.refl hB, hd, hN⟩
  | ret => intro _ Q s h hB w Fz ρ a hr he hd hN; exact wp_ret ⟨.ret, s, Fz, ρ, rfl, h, hr, he, ExtB.refl hB, hd, hN⟩
  | seq x y ihx ihy =>
    intro hok Q s h hB w Fz ρ a hr he hd hN
    simp only [codeOk, Bool.and_eq_true] at hok
    refine wp_seq (wp_mono (ihx hok.1 _ s h hB w Fz ρ a hr he hd hN) (fun e a' w' hL => ?_))
    obtain ⟨x', s', Fz', ρ', hx, hQ, r', e', x2, d', n'⟩ := hL
    cases e with
    | normal => cases hx; exact wp_mono (ihy hok.2 Q s' hQ x2.len w' Fz' ρ' a' r' e' d' n') (fun e a2 w2 hL => hL.trans x2)
    | exit k => cases hx; exact ⟨_, s', Fz', ρ', rfl, hQ, r', e', x2, d', n'⟩
    | ret => cases hx; exact ⟨_, s', Fz', ρ', rfl, hQ, r', e', x2, d', n'⟩
    | goto => cases hx
    | panic => cases hx
    | outgrown => cases hx
  | cond c x y ihx ihy =>
    intro hok Q s h hB w Fz ρ a hr he hd hN
    simp only [codeOk, Bool.and_eq_true] at hok
    obtain ⟨b, hb, h⟩ := onB_iff h
    have h1 := he.ev c
    rw [hb] at h1
    refine wp_cond (VR.bool_iff.1 h1) ?_
    cases b with
    | true => exact ihx hok.1 Q s h hB w Fz ρ a hr he hd hN
    | false => exact ihy hok.2 Q s h hB w Fz ρ a hr he hd hN
  | block n c ih =>
    intro hok Q s h hB w Fz ρ a hr he hd hN
    refine wp_block (wp_mono (ih hok _ s h hB w Fz ρ a hr he hd hN) (fun e a' w' hL => ?_))
    obtain ⟨x', s', Fz', ρ', hx, hQ, r', e', x2, d', n'⟩ := hL
    cases e with
    | normal => cases hx; exact ⟨_, s', Fz', ρ', rfl, hQ, r', e', x2, d', n'⟩
    | exit k =>
      cases hx
      simp only [Exit.inBlock]
      by_cases hk : k = n
      · simp only [hk, decide_true] at hQ
        rw [if_pos hk]
        exact ⟨.normal, s', Fz', ρ', rfl, hQ, r', e', x2, d', n'⟩
      · simp only [hk, decide_false] at hQ
        rw [if_neg hk]
        exact ⟨_, s', Fz', ρ', rfl, hQ, r', e', x2, d', n'⟩
    | ret => cases hx; exact ⟨_, s', Fz', ρ', rfl, hQ, r', e', x2, d', n'⟩
    | goto => cases hx
    | panic => cases hx
    | outgrown => cases hx
  | loop c ih =>
    intro hok Q s h
    exact h hok
  | region id ops d =>
    intro hok Q s h hB w Fz ρ a hr he hd hN
    cases d with
    | false =>
      simp only [codeOk] at hok
      refine wp_region_list (list_wp ops.toList (fun o ho => List.all_eq_true.1 hok o ho) s a w Fz ρ hr he hd hN (fun s' Fz' ρ' a' w' hK r' e' x2 d' n' => ?_) h)
      exact ⟨.normal, ⟨keepE V s'.env, s'.σ⟩, Fz', ρ', rfl, hK, r', e'.keep V, x2.toB hB, d', n'⟩
    | true =>
      refine wp_mono (h hB w Fz ρ a hr he hd hN) (fun e a' w' hL => ?_)
      obtain ⟨x', s', Fz', ρ', hx, hQ, r', e', x2, d', n'⟩ := hL
      exact ⟨x', ⟨keepE V s'.env, s'.σ⟩, Fz', ρ', hx, hQ, r', e'.keep V, x2, d', n'⟩
  | _ => intro _ Q s h; exact h
end
end Go.AM
end
section
namespace Go.AM
def entryE : Nat → List AV → Env
  | _, [] => []
  | k, a :: r => (k, a) :: entryE (k + 1) r
def oneV : AV → Prop
  | .tup _ => False
  | _ => True
def resP (P : Program) (s : St) : List ResultVar → [Kt (List AV)] → Prop
  | [], K => K.run []
  | .tmp t :: r, K => @resP P s r ⟨fun vs => K.run (getE s.env t :: vs)⟩
  | .cell a t :: r, K => @bindP _ (loadA P t s.σ (getE s.env a)) ⟨fun q => @Chk q.1 ⟨fun _ => @resP P s r ⟨fun vs => K.run (q.2 :: vs)⟩⟩⟩
def resV : List AV → AV
  | [v] => v
  | vs => .tup vs
def Pure (P : Program) (f : FuncId) (as : List AV) (r : AV) : Prop :=
  (∃ fn, P.funcs[f]? = some fn ∧ (fn.name == "runtime.NumGoroutine") = false ∧ fn.body.isNone = false) ∧
  ∀ (w : World) (Fz : Nat → Prop) (vs : Array Value), (∀ b, Fz b → b < w.heap.size) → vs.size = as.length → (∀ j, j < as.length → VR w Fz (fun _ => (0, 0)) 0 (vs.getD j .nilIface) (as.getD j .undef)) →
    Calls P f vs w fun e w' => ∃ v Fz', e = .returned v ∧ VR w' Fz' (fun _ => (0, 0)) 0 v r ∧ Rel Fz' (fun _ => (0, 0)) [] w' ∧ Ext Fz (fun _ => (0, 0)) [] w Fz' (fun _ => (0, 0)) [] w'
section
variable {P : Program} {V : List Nat}
theorem rel_nil {Fz : Nat → Prop} {ρ} {w : World} (h : ∀ b, Fz b → b < w.heap.size) : Rel Fz ρ [] w :=
  ⟨h, fun id => by rw [getO_ge (Nat.zero_le _)]; trivial, fun i j _ hw _ => by rw [getO_ge (Nat.zero_le _)] at hw; cases hw⟩
theorem Ext.drop {Fz ρ w Fz' ρ' σ' w'} (h : Ext Fz ρ [] w Fz' ρ' σ' w') : Ext Fz (fun _ => (0, 0)) [] w Fz' (fun _ => (0, 0)) [] w' where
  os := h.os
  tape := h.tape
  output := h.output
  size := h.size
  len := Nat.le_refl _
  rho := fun _ _ => rfl
  fz := h.fz
  fznew := fun b hb => by
    rcases h.fznew b hb with h1 | h1 | ⟨id, hi, _⟩
    · exact .inl h1
    · exact .inr (.inl h1)
    · cases hi
  wrold := fun id hi _ => by cases hi
  wrnew := fun id _ hw => by rw [getO_ge (Nat.zero_le _)] at hw; cases hw
  keep := fun b hb _ => h.keep b hb (fun id hi => by cases hi)
  sizes := h.sizes
theorem frame {Fz ρ σ w Fz' w'} (hr : Rel Fz ρ σ w) (h : Ext Fz (fun _ => (0, 0)) [] w Fz' (fun _ => (0, 0)) [] w') (h' : Rel Fz' (fun _ => (0, 0)) [] w') : Rel Fz' ρ σ w' ∧ Ext Fz ρ σ w Fz' ρ σ w' := by
  have hk : ∀ b, b < w.heap.size → w'.heap[b]? = w.heap[b]? := fun b hb => h.keep b hb (fun id hi => by cases hi)
  have hn : ∀ b, Fz' b → Fz b ∨ w.heap.size ≤ b := fun b hb => by
    rcases h.fznew b hb with h1 | h1 | ⟨id, hi, _⟩
    · exact .inl h1
    · exact .inr h1
    · cases hi
  have hx : Ext Fz ρ σ w Fz' ρ σ w' :=
    { os := h.os, tape := h.tape, output := h.output, size := h.size, len := Nat.le_refl _, rho := fun _ _ => rfl, fz := h.fz, fznew := fun b hb => (hn b hb).imp id .inl
      wrold := fun _ _ h => h
      wrnew := fun i hi hw => by rw [getO_ge hi] at hw; cases hw
      keep := fun b hb _ => hk b hb
      sizes := h.sizes }
  refine ⟨⟨h'.fz, fun id => ?_, hr.sep⟩, hx⟩
  cases hg : some' (getO σ id) with
  | false => cases hq : getO σ id <;> simp_all [some', ObR]
  | true =>
    have hob := hr.ob id
    have hlt : (ρ id).1 < w.heap.size := by
      cases hq : getO σ id with
      | none => simp [hq, some'] at hg
      | var v => rw [hq] at hob; obtain ⟨arr, _, _, h1, _⟩ := hob; exact (Array.getElem?_eq_some_iff.1 h1).1
      | row l z xs => rw [hq] at hob; obtain ⟨arr, _, _, h1, _⟩ := hob; exact (Array.getElem?_eq_some_iff.1 h1).1
    exact hob.mono (hk _ hlt) ⟨h.fz _, fun hb => (hn _ hb).resolve_right (by omega)⟩ (fun v d hc => hc.ext hx hr) (fun v d hc => hc.ext hx hr)
theorem CR.VC' {w Fz v d} (h : CR w Fz v d) {ρ n} : VC w Fz ρ n v d := .cr h
theorem tree_VR {σ : List Ob} {w Fz ρ n} (hr : Rel Fz ρ σ w) {x : AV} (hF : ∀ i ∈ refsA x, ∀ l e xs, getO σ i = .row l e xs → Fz (ρ i).1) {v : Value} (hv : V1 w Fz ρ n v x) {ρ' n'} : V1 w Fz ρ' n' v (treeA σ x) := by
  by_cases ha : ∃ cs, x = .agg cs
  · obtain ⟨cs, rfl⟩ := ha
    obtain ⟨arr, rfl, hs, hc⟩ := hv
    refine ⟨arr, rfl, by simp [hs], fun j hj => ?_⟩
    simp at hj
    have e : (cs.map (treeC σ)).getD j .undef = treeC σ (cs.getD j .undef) := by simp [List.getD, hj]
    rw [e]
    refine .cr (treeC_ok hr (fun i hi => hF i (List.mem_flatMap.2 ⟨cs.getD j .undef, ?_, hi⟩)) (hc j hj))
    simp [List.getD, hj, cellsOf]
  · have hna : ∀ cs, x ≠ .agg cs := fun cs e => ha ⟨cs, e⟩
    by_cases hu : x = .undef
    · subst hu; exact trivial
    · have hvc := hv.to_VC hna hu
      have e : treeA σ x = treeC σ x := by cases x <;> first | rfl | exact absurd rfl (hna _)
      rw [e]
      exact V1.of_VC (.cr (treeC_ok hr (fun i hi => hF i (List.mem_flatMap.2 ⟨x, by rw [cellsOf_one hna]; simp, hi⟩)) hvc))
theorem tree_VRT {σ : List Ob} {w Fz ρ n} (hr : Rel Fz ρ σ w) {x : AV} (hF : ∀ i ∈ refsT x, ∀ l e xs, getO σ i = .row l e xs → Fz (ρ i).1) {v : Value} (hv : VR w Fz ρ n v x) {ρ' n'} : VR w Fz ρ' n' v (treeT σ x) := by
  by_cases ht : ∃ vs, x = .tup vs
  · obtain ⟨vs, rfl⟩ := ht
    obtain ⟨arr, rfl, hs, hc⟩ := hv
    refine ⟨arr, rfl, by simp [hs], fun j hj => ?_⟩
    simp at hj
    have e : (vs.map (treeA σ)).getD j .undef = treeA σ (vs.getD j .undef) := by simp [List.getD, hj]
    rw [e]
    refine tree_VR hr (fun i hi => hF i (List.mem_flatMap.2 ⟨vs.getD j .undef, ?_, hi⟩)) (hc j hj)
    simp [List.getD, hj]
  · have hnt : ∀ vs, x ≠ .tup vs := fun vs e => ht ⟨vs, e⟩
    have e1 : treeT σ x = treeA σ x := by cases x <;> first | rfl | exact absurd rfl (hnt _)
    have e2 : refsT x = refsA x := by cases x <;> first | rfl | exact absurd rfl (hnt _)
    rw [e1]
    rw [e2] at hF
    exact VR.of1 (tree_VR hr hF (hv.to1 hnt))
theorem VC.low {w Fz ρ v d} (h : VC w Fz ρ 0 v d) {ρ' n'} : VC w Fz ρ' n' v d := by
  induction h with
  | cr h => exact .cr h
  | vp id off hi => exact absurd hi (Nat.not_lt_zero _)
  | rp id esz d idx off hi => exact absurd hi (Nat.not_lt_zero _)
  | sl0 o id esz i0 hi => exact absurd hi (Nat.not_lt_zero _)
  | sl id esz i0 len cap hi => exact absurd hi (Nat.not_lt_zero _)
  | nils o => exact .nils o
  | fn h1 _ ih => exact .fn h1 ih
theorem V1.low {w Fz ρ v d} (h : V1 w Fz ρ 0 v d) {ρ' n'} : V1 w Fz ρ' n' v d := by
  cases d <;> first
    | exact trivial
    | exact h.elim
    | (obtain ⟨arr, e, hs, hj⟩ := h; exact ⟨arr, e, hs, fun j hl => (hj j hl).low⟩)
    | exact VC.low h
theorem VR.low {w Fz ρ v d} (h : VR w Fz ρ 0 v d) {ρ' n'} : VR w Fz ρ' n' v d := by
  by_cases hd : ∃ vs, d = .tup vs
  · obtain ⟨vs, rfl⟩ := hd
    obtain ⟨arr, e, hs, hj⟩ := h
    exact ⟨arr, e, hs, fun j hl => (hj j hl).low⟩
  · exact VR.of1 (V1.low (h.to1 fun vs e => hd ⟨vs, e⟩))
theorem entryE_get : ∀ (as : List AV) (k t : Nat), getE (entryE k as) t = if k ≤ t ∧ t < k + as.length then as.getD (t - k) .undef else .undef := by
  intro as
  induction as with
  | nil => intro k t; rw [if_neg (by simp only [List.length_nil]; omega)]; rfl
  | cons a r ih =>
    intro k t
    simp only [entryE, getE, List.length_cons]
    by_cases hk : k = t
    · subst hk; rw [if_pos rfl, if_pos (by omega), Nat.sub_self]; rfl
    · rw [if_neg hk, ih]
      by_cases hc : k + 1 ≤ t ∧ t < k + 1 + r.length
      · rw [if_pos hc, if_pos (by omega), show t - k = (t - (k + 1)) + 1 by omega]; rfl
      · rw [if_neg hc, if_neg (by omega)]
def resOf (a : Act) : ResultVar → Sem Value
  | .tmp t => pure (a.tmps.getD t Go.undef)
  | .cell c t => do loadVar t (← asAddr (a.tmps.getD c Go.undef))
theorem res_ok {w Fz ρ} {s : St} {a : Act} (hr : Rel Fz ρ s.σ w) (he : EnvR w Fz ρ s.σ.length a s.env) : ∀ (rs : List ResultVar) (K : List AV → Prop), (rs.all fun r => match r with | .tmp _ => true | .cell _ t => tyOk P t) = true → @resP P s rs ⟨K⟩ →
    ∃ (us : List Value) (ds : List AV), (rs.mapM (resOf a)).run P w = .ok us w ∧ us.length = ds.length ∧ (∀ j, j < ds.length → VR w Fz ρ s.σ.length (us.getD j .nilIface) (ds.getD j .undef)) ∧ K ds := by
  intro rs
  induction rs with
  | nil => intro K _ h; exact ⟨[], [], rfl, rfl, fun j hj => absurd hj (by simp), h⟩
  | cons x r ih =>
    intro K hok h
    simp only [List.all_cons, Bool.and_eq_true] at hok
    cases x with
    | tmp t =>
      obtain ⟨us, ds, h1, h2, h3, h4⟩ := ih _ hok.2 h
      refine ⟨a.tmps.getD t Go.undef :: us, getE s.env t :: ds, ?_, by simp [h2], fun j hj => ?_, h4⟩
      · simp only [List.mapM_cons, resOf, Sem.run_bind, Sem.run_pure, Result.andThen_ok, h1]
      · cases j with
        | zero => exact he t
        | succ j => exact h3 j (by simpa using hj)
    | cell c t =>
      obtain ⟨⟨p, d⟩, hl, hp, h⟩ := bindP_iff h
      obtain ⟨us, ds, h1, h2, h3, h4⟩ := ih _ hok.2 h
      obtain ⟨u, k1, k2⟩ := load_ok hr hok.1 (he c) hl hp
      have hl2 : (do loadVar t (← asAddr (a.tmps.getD c Go.undef)) : Sem Value).run P w = .ok u w := by
        rw [← k1]
        have hptr : ∃ b, a.tmps.getD c Go.undef = .pointer (some b) := by
          cases hx : getE s.env c with
          | vp id off => have := he c; rw [hx] at this; obtain ⟨b, o, e, _⟩ := ptr_form (x := .vp id off) rfl this; exact ⟨_, e⟩
          | rp => have := he c; rw [hx] at this; obtain ⟨b, o, e, _⟩ := ptr_form (x := .rp _ _ _ _ _) rfl this; exact ⟨_, e⟩
          | tp => have := he c; rw [hx] at this; obtain ⟨b, o, e, _⟩ := ptr_form (x := .tp _ _ _ _ _) rfl this; exact ⟨_, e⟩
          | _ => rw [hx] at hl; cases hl
        obtain ⟨b, hb⟩ := hptr
        rw [hb]
        rfl
      refine ⟨u :: us, d :: ds, ?_, by simp [h2], fun j hj => ?_, h4⟩
      · simp only [List.mapM_cons, resOf]
        rw [Sem.run_bind, hl2]
        simp only [Sem.run_bind, Sem.run_pure, Result.andThen_ok, h1]
      · cases j with
        | zero => exact k2
        | succ j => exact h3 j (by simpa using hj)
theorem resV_ok {w Fz ρ n} {us : List Value} {ds : List AV} (hl : us.length = ds.length) (h : ∀ j, j < ds.length → VR w Fz ρ n (us.getD j .nilIface) (ds.getD j .undef)) (h1 : ds.length ≠ 1 → ∀ d ∈ ds, oneV d) :
    VR w Fz ρ n (if h : us.toArray.size = 1 then us.toArray[0] else .tuple us.toArray) (resV ds) := by
  by_cases hd : ds.length = 1
  · obtain ⟨d, rfl⟩ := List.length_eq_one_iff.1 hd
    obtain ⟨u, rfl⟩ := List.length_eq_one_iff.1 (hl.trans hd)
    exact h 0 (by simp)
  · have e : resV ds = .tup ds := by
      unfold resV
      split
      · exact absurd rfl hd
      · rfl
    rw [e, dif_neg (by simpa [hl] using hd)]
    refine ⟨us.toArray, rfl, by simpa using hl, fun j hj => ?_⟩
    have h2 := h j hj
    have e2 : us.toArray.getD j .nilIface = us.getD j .nilIface := by simp [List.getD, Array.getD_eq_getD_getElem?]
    rw [e2]
    refine h2.to1 (fun vs he => ?_)
    have hm : ds.getD j .undef ∈ ds := by simp [List.getD, hj]
    have := h1 hd _ hm
    rw [he] at this
    exact this
def allOne : List AV → Prop
  | [] => True
  | d :: r => oneV d ∧ allOne r
def endV (R : AV → List Ob → Prop) (σ : List Ob) : List AV → Prop
  | [v] => R v σ
  | [] => R (.tup []) σ
  | a :: b :: r => allOne (a :: b :: r) ∧ R (.tup (a :: b :: r)) σ
theorem allOne_mem : ∀ {l : List AV}, allOne l → ∀ d ∈ l, oneV d := by
  intro l
  induction l with
  | nil => intro _ d hd; cases hd
  | cons a r ih =>
    intro h d hd
    rcases List.mem_cons.1 hd with hd | hd
    · rw [hd]; exact h.1
    · exact ih h.2 d hd
theorem endV_ok {R : AV → List Ob → Prop} {σ : List Ob} {vs : List AV} (h : endV R σ vs) : (vs.length ≠ 1 → ∀ d ∈ vs, oneV d) ∧ R (resV vs) σ := by
  cases vs with
  | nil => exact ⟨fun _ d hd => absurd hd (by simp), h⟩
  | cons a r =>
    cases r with
    | nil => exact ⟨fun h => absurd rfl h, h⟩
    | cons b r => exact ⟨fun _ => allOne_mem h.1, h.2⟩
def EndsP (P : Program) (rs : List ResultVar) (R : AV → List Ob → Prop) : AEx → St → Prop
  | .exit _, _ => False
  | _, s => @resP P s rs ⟨fun vs => endV R s.σ vs⟩
theorem does_of {f : FuncId} {fn : Func} {c : Code} {as : List AV} {σ : List Ob} {R : AV → List Ob → Prop} (hf : P.funcs[f]? = some fn) (hb : fn.body = some c)
    (hok : (!(fn.name == "runtime.NumGoroutine") && codeOk P fn.ntmps c && decide (as.length ≤ fn.ntmps) && fn.results.toList.all fun r => match r with | .tmp _ => true | .cell _ t => tyOk P t) = true)
    (h : wpc P V fn.ntmps σ.length c (EndsP P fn.results.toList R) ⟨entryE 0 as, σ⟩) : Does P f as σ R := by
  simp only [Bool.and_eq_true, Bool.not_eq_true', decide_eq_true_eq] at hok
  obtain ⟨⟨⟨hname, hcode⟩, hlen⟩, hres⟩ := hok
  refine ⟨⟨fn, hf, hname, by rw [hb]; rfl⟩, fun w Fz ρ vs hr hsz hvs => calls_of_wp hf hb ?_⟩
  have hN : (vs ++ Array.replicate (fn.ntmps - vs.size) undef).size = fn.ntmps := by simp; omega
  have he : EnvR w Fz ρ σ.length { tmps := vs ++ Array.replicate (fn.ntmps - vs.size) undef, defers := [] } (entryE 0 as) := fun t => by
    rw [entryE_get]
    by_cases ht : t < as.length
    · rw [if_pos (by omega), Nat.sub_zero]
      have e1 : (vs ++ Array.replicate (fn.ntmps - vs.size) undef).getD t Go.undef = vs.getD t .nilIface := by
        rw [Array.getD_eq_getD_getElem?, Array.getElem?_append_left (by omega)]
        simp [hsz, ht]
      rw [e1]
      exact hvs t ht
    · rw [if_neg (by omega)]; exact trivial
  refine wp_mono (code_ok c hcode _ ⟨entryE 0 as, σ⟩ h (Nat.le_refl _) w Fz ρ _ hr he rfl hN) (fun e a' w' hL => ?_)
  obtain ⟨x, s', Fz', ρ', hx, hQ, r', e', x', d', n'⟩ := hL
  have fin : @resP P s' fn.results.toList ⟨fun vs => endV R s'.σ vs⟩ → a'.defers = [] ∧ ∃ v, (results fn a'.tmps).run P w' = .ok v w' ∧
      ∃ v' r σ' Fz' ρ', Ending.returned v = .returned v' ∧ R r σ' ∧ VR w' Fz' ρ' σ'.length v' r ∧ Rel Fz' ρ' σ' w' ∧ Ext Fz ρ σ w Fz' ρ' σ' w' := fun hq => by
    obtain ⟨us, ds, h1, h2, h3, hend⟩ := res_ok r' e' _ _ hres hq
    obtain ⟨h4, h5⟩ := endV_ok hend
    refine ⟨d', _, ?_, _, _, _, _, _, rfl, h5, resV_ok h2 h3 h4, r', x'.toExt⟩
    have hm : fn.results.mapM (resOf a') = List.toArray <$> fn.results.toList.mapM (resOf a') := Array.mapM_eq_mapM_toList
    have hm2 : (fn.results.mapM (resOf a')).run P w' = .ok us.toArray w' := by
      rw [hm]
      simp [h1]
    have hdef : results fn a'.tmps = (do let vs ← fn.results.mapM (resOf a'); pure (if h : vs.size = 1 then vs[0] else .tuple vs)) := by
      unfold results
      congr 1
    rw [hdef, Sem.run_bind, hm2, Result.andThen_ok, Sem.run_pure]
  cases e with
  | normal => cases hx; exact fin hQ
  | ret => cases hx; exact fin hQ
  | exit k => cases hx; exact hQ.elim
  | goto => cases hx
  | panic => cases hx
  | outgrown => cases hx
theorem pure_of {f : FuncId} {as : List AV} {r : AV} (h : Does P f as [] (fun v σ => treeT σ v = r)) : Pure P f as r := by
  refine ⟨h.1, fun w Fz vs hfz hsz hvs => (h.2 w Fz (fun _ => (0, 0)) vs (rel_nil hfz) hsz hvs).mono ?_⟩
  rintro e w' ⟨v, d, σ', Fz', ρ', rfl, hd, hv, hr, hx⟩
  obtain ⟨Fz2, r2, x2, f2⟩ := freezeL_ok (w := w') (refsT d) hr
  refine ⟨v, Fz2, rfl, ?_, rel_nil r2.fz, (hx.trans x2).drop⟩
  rw [← hd]
  have hv2 := hv.ext x2 hr
  have hall := tree_VRT r2 (x := d) (fun i hi l e xs hg => by obtain ⟨l', hg'⟩ := freezeL_ref _ hg; exact f2 i hi _ _ _ hg') hv2 (ρ' := fun _ => (0, 0)) (n' := 0)
  have e : treeT (freezeL σ' (refsT d)) d = treeT σ' d := by
    cases d with
    | tup vs => simp only [treeT]; congr 1; exact List.map_congr_left fun y _ => freezeL_treeA _
    | _ => simp only [treeT]; exact freezeL_treeA _
  rw [e] at hall
  exact hall
theorem call_pure {f : FuncId} {as as' : List AV} {r : AV} {σ : List Ob} {K : AV × List Ob → Prop} (h : Pure P f as' r) (ha : as.map (treeA σ) = as') (hone : ∀ a ∈ as, oneV a) (hk : K (r, freezeL σ (as.flatMap refsA))) : @callP P f as σ ⟨K⟩ := by
  refine ⟨fun v σ' => v = r ∧ σ' = freezeL σ (as.flatMap refsA), ⟨h.1, fun w Fz ρ vs hr hsz hvs => ?_⟩, ?_⟩
  · obtain ⟨Fz1, r1, x1, f1⟩ := freezeL_ok (w := w) (as.flatMap refsA) hr
    subst ha
    refine (h.2 w Fz1 vs r1.fz (by simp [hsz]) (fun j hj => ?_)).mono ?_
    · simp at hj
      have e : (as.map (treeA σ)).getD j .undef = treeA σ (as.getD j .undef) := by simp [List.getD, hj]
      have hm : as.getD j .undef ∈ as := by simp [List.getD, hj]
      rw [e, ← freezeL_treeA (as.flatMap refsA)]
      refine VR.of1 (tree_VR r1 (fun i hi l e xs hg => ?_) (((hvs j hj).ext x1 hr).to1 (fun ws hw => ?_)))
      · obtain ⟨l', hg'⟩ := freezeL_ref _ hg
        exact f1 i (List.mem_flatMap.2 ⟨_, hm, hi⟩) _ _ _ hg'
      · have := hone _ hm; rw [hw] at this; exact this
    · rintro e w' ⟨v, Fz', rfl, hv, hr', hx⟩
      obtain ⟨g1, g2⟩ := frame r1 hx hr'
      refine ⟨v, r, _, Fz', ρ, rfl, ⟨rfl, rfl⟩, ?_, g1, x1.trans g2⟩
      exact hv.low
  · rintro v σ' ⟨rfl, rfl⟩; exact hk
end
end Go.AM
end
section
namespace Go.AM
def usesOf : Op → List Operand
  | .move x | .assign x => [x]
  | .pick c a b => [c, a, b]
  | .box _ x => [x]
  | .build _ ps => ps.toList.map (·.2)
  | .buildSlice _ _ ps => ps.toList.map (·.2)
  | .load _ a => [a]
  | .store _ a x => [a, x]
  | .nilCheck x => [x]
  | .binOp _ _ x y _ => [x, y]
  | .unOp _ _ x => [x]
  | .convert _ _ x => [x]
  | .makeFunc _ _ caps => caps.toList
  | .makeSlice _ l c => [l, c]
  | .slice _ x lo hi mx => x :: (lo.toList ++ hi.toList ++ mx.toList)
  | .fieldAddr _ x _ | .field _ x _ | .extract x _ => [x]
  | .indexAddr _ x i | .index _ x i => [x, i]
  | .call { callee := .value f, args, .. } => f :: args.toList
  | .call { args, .. } => args.toList
  | _ => []
theorem map_ev {e e' : Env} {l : List Operand} (h : ∀ x ∈ l, AM.ev e x = AM.ev e' x) : l.map (AM.ev e) = l.map (AM.ev e') := List.map_congr_left h
theorem pmap_ev {e e' : Env} {l : List (Nat × Operand)} (h : ∀ x ∈ l.map (·.2), AM.ev e x = AM.ev e' x) : l.map (fun (i, x) => (i, AM.ev e x)) = l.map (fun (i, x) => (i, AM.ev e' x)) :=
  List.map_congr_left fun q hq => by show (q.1, AM.ev e q.2) = (q.1, AM.ev e' q.2); rw [h q.2 (List.mem_map.2 ⟨q, hq, rfl⟩)]
theorem opt_ev {e e' : Env} {l : Option Operand} (h : ∀ x ∈ l.toList, AM.ev e x = AM.ev e' x) : l.map (AM.ev e) = l.map (AM.ev e') := by
  cases l with
  | none => rfl
  | some x => simp only [Option.map_some]; rw [h x (by simp)]
theorem stepA_congr (P : Program) {op : Op} {e e' : Env} {σ : List Ob} (h : ∀ x ∈ usesOf op, AM.ev e x = AM.ev e' x) : stepA P op ⟨e, σ⟩ = stepA P op ⟨e', σ⟩ := by
  cases op <;> simp only [usesOf, List.mem_cons, List.not_mem_nil, or_false, forall_eq, forall_eq_or_imp] at h <;> try (simp only [stepA, h]; done)
  case build t ps => simp only [stepA, pmap_ev h]
  case buildSlice t n ps =>
    have h1 : ∀ p ∈ ps.toList, AM.ev e p.2 = AM.ev e' p.2 := fun p hp => h _ (List.mem_map.2 ⟨p, hp, rfl⟩)
    have h2 : (ps.toList.flatMap fun p => refsA (AM.ev e p.2)) = ps.toList.flatMap fun p => refsA (AM.ev e' p.2) := by
      simp only [List.flatMap]
      rw [List.map_congr_left fun p hp => by rw [h1 p hp]]
    have h3 : (ps.toList.map fun (i, x) => (i, treeA σ (AM.ev e x))) = ps.toList.map fun (i, x) => (i, treeA σ (AM.ev e' x)) :=
      List.map_congr_left fun p hp => by show (p.1, treeA σ (AM.ev e p.2)) = (p.1, treeA σ (AM.ev e' p.2)); rw [h1 p hp]
    have h4 : (∀ p ∈ ps.toList, p.1 < n ∧ (cellsOf (AM.ev e p.2)).length = sizeT P (elemT P t) ∧ okStore (AM.ev e p.2) = true) = (∀ p ∈ ps.toList, p.1 < n ∧ (cellsOf (AM.ev e' p.2)).length = sizeT P (elemT P t) ∧ okStore (AM.ev e' p.2) = true) :=
      propext ⟨fun k p hp => by rw [← h1 p hp]; exact k p hp, fun k p hp => by rw [h1 p hp]; exact k p hp⟩
    simp only [stepA, h2, h3, h4]
  case makeFunc fn first caps => cases fn <;> simp only [stepA, map_ev h]
  case slice t x lo hi mx =>
    have h1 := opt_ev (l := lo) (fun y hy => h.2 y (by simp [hy]))
    have h2 := opt_ev (l := hi) (fun y hy => h.2 y (by simp [hy]))
    have h3 := opt_ev (l := mx) (fun y hy => h.2 y (by simp [hy]))
    simp only [stepA, h.1, h1, h2, h3]
  case call c =>
    obtain ⟨callee, args, ats⟩ := c
    have h1 : ∀ x ∈ args.toList, AM.ev e x = AM.ev e' x := fun x hx => h x (by cases callee <;> simp [hx])
    cases callee with
    | builtin b =>
      cases b <;> simp only [stepA] <;> first
        | done
        | (split
           · rename_i hx _; simp only [hx, List.mem_cons, List.not_mem_nil, or_false, forall_eq] at h1; simp only [h1]
           · rfl)
        | (split
           · rename_i hx; simp only [hx, List.mem_cons, List.not_mem_nil, or_false, forall_eq_or_imp, forall_eq] at h1; simp only [h1]
           · rfl)
        | (split
           · rename_i hx _; simp only [hx, List.mem_cons, List.not_mem_nil, or_false, forall_eq_or_imp, forall_eq] at h1; simp only [h1]
           · rfl)
    | _ => rfl
theorem callOf_congr {op : Op} {e e' : Env} (h : ∀ x ∈ usesOf op, AM.ev e x = AM.ev e' x) : callOf e op = callOf e' op := by
  cases op <;> try rfl
  rename_i c
  obtain ⟨callee, args, ats⟩ := c
  cases callee with
  | value f =>
    have h1 : ∀ x ∈ args.toList, AM.ev e x = AM.ev e' x := fun x hx => h x (by simp [usesOf, hx])
    have h2 : AM.ev e f = AM.ev e' f := h f (by simp [usesOf])
    simp only [callOf, h2, map_ev h1]
  | _ => rfl
def pureP (P : Program) (f : FuncId) (as : List AV) (σ : List Ob) [K : Kt AV] : Prop := ∃ as' r, Pure P f as' r ∧ as.map (treeA σ) = as' ∧ (∀ a ∈ as, oneV a) ∧ freezeL σ (as.flatMap refsA) = σ ∧ K.run r
def wpq (P : Program) (ops : Array Oper) : List Oper → (St → Prop) → St → Prop
  | [], K, s => K s
  | o :: os, K, s => @onB (guardB ops s.env o.guard)
      ⟨fun _ => match isCall o.op with
        | true => @bindP _ (callOf s.env o.op) ⟨fun c => @pureP P c.1 c.2 s.σ ⟨fun r => wpq P ops os K ⟨putE s.env o.dst r, s.σ⟩⟩⟩
        | false => @bindP _ (stepA P o.op s) ⟨fun r => @Chk (r.1 ∧ r.2.2 = s.σ) ⟨fun _ => wpq P ops os K ⟨putE s.env o.dst r.2.1, s.σ⟩⟩⟩⟩
      ⟨fun _ => wpq P ops os K ⟨putE s.env o.dst (.tup []), s.σ⟩⟩
def tmpsU (ops : Array Oper) (o : Oper) : List Nat :=
  (usesOf o.op).filterMap (fun | .tmp t => some t | _ => none) ++ (match o.guard with | some (j, _) => ((ops[j]?).bind (·.dst)).toList | none => [])
def drawB (P : Program) (N : Nat) (ops : Array Oper) : Bool :=
  ops.toList.zipIdx.all fun q => operOk P N q.1 &&
    ((tmpsU ops q.1).all fun t => ops.toList.zipIdx.all fun q' => (q'.1.dst != some t) || (decide (q'.2 < q.2) && q.1.after.toList.any fun e => Region.binds .any e && e.on == q'.2)) &&
    (q.1.after.toList.all fun e => !(Region.binds .any e) || decide (e.on < q.2)) &&
    (ops.toList.zipIdx.all fun q' => q'.2 == q.2 || q.1.dst == none || q'.1.dst != q.1.dst)
structure DrawOk (P : Program) (N : Nat) (ops : Array Oper) : Prop where
  ok : ∀ (i : Nat) (o : Oper), ops[i]? = some o → operOk P N o = true
  use : ∀ (i : Nat) (o : Oper) (t : Nat) (j : Nat) (o' : Oper), ops[i]? = some o → t ∈ tmpsU ops o → ops[j]? = some o' → o'.dst = some t → j < i ∧ ∃ e ∈ o.after, Region.binds .any e = true ∧ e.on = j
  low : ∀ (i : Nat) (o : Oper), ops[i]? = some o → ∀ e ∈ o.after, Region.binds .any e = true → e.on < i
  dis : ∀ (i j : Nat) (o o' : Oper) (t : Nat), ops[i]? = some o → ops[j]? = some o' → o.dst = some t → o'.dst = some t → j = i
theorem drawB_ok {P : Program} {N : Nat} {ops : Array Oper} (h : drawB P N ops = true) : DrawOk P N ops := by
  have hz : ∀ (i : Nat) (o : Oper), ops[i]? = some o → (o, i) ∈ ops.toList.zipIdx := fun i o ho => by
    rw [List.mem_zipIdx_iff_getElem?]; simpa using ho
  have h1 := fun i o ho => List.all_eq_true.1 h (o, i) (hz i o ho)
  simp only [Bool.and_eq_true, List.all_eq_true, Bool.or_eq_true, bne_iff_ne, ne_eq, decide_eq_true_eq, beq_iff_eq, List.any_eq_true] at h1
  refine ⟨fun i o ho => (h1 i o ho).1.1.1, fun i o t j o' ho ht ho' hd => ?_, fun i o ho e he hb => ((h1 i o ho).1.2 e (by simpa using he)).resolve_left (by simp [hb]), fun i j o o' t ho ho' hd hd' => ?_⟩
  · rcases (h1 i o ho).1.1.2 t ht (o', j) (hz j o' ho') with hc | ⟨hc, e, he, hb, hon⟩
    · exact absurd hd hc
    · exact ⟨hc, e, by simpa using he, hb, hon⟩
  · rcases (h1 i o ho).2 (o', j) (hz j o' ho') with (hc | hc) | hc
    · exact hc
    · rw [hd] at hc; cases hc
    · exact absurd (hd'.trans hd.symm) hc
def Gives (P : Program) (ops : Array Oper) (σ : List Ob) (e : Env) (o : Oper) (r : AV) : Prop :=
  (guardB ops e o.guard = .bool true ∧ ((isCall o.op = false ∧ ∃ p : Prop, stepA P o.op ⟨e, σ⟩ = some (p, r, σ) ∧ p) ∨
    (isCall o.op = true ∧ ∃ f as, callOf e o.op = some (f, as) ∧ @pureP P f as σ ⟨fun v => v = r⟩))) ∨ (guardB ops e o.guard = .bool false ∧ r = .tup [])
def envs : Env → List Oper → List AV → Nat → Env
  | e, o :: l, r :: rs, k + 1 => envs (putE e o.dst r) l rs k
  | e, _, _, _ => e
theorem wpq_gives {P : Program} {ops : Array Oper} {σ : List Ob} {K : St → Prop} : ∀ (l : List Oper) (e : Env), wpq P ops l K ⟨e, σ⟩ →
    ∃ rs : List AV, rs.length = l.length ∧ (∀ i o, l[i]? = some o → Gives P ops σ (envs e l rs i) o (rs.getD i .undef)) ∧ K ⟨envs e l rs l.length, σ⟩ := by
  intro l
  induction l with
  | nil => intro e h; exact ⟨[], rfl, fun i o h => by simp at h, h⟩
  | cons o l ih =>
    intro e h
    have key : ∃ r, Gives P ops σ e o r ∧ wpq P ops l K ⟨putE e o.dst r, σ⟩ := by
      obtain ⟨b, hb, h⟩ := onB_iff h
      cases b with
      | false => exact ⟨_, .inr ⟨hb, rfl⟩, h⟩
      | true =>
        simp only [if_true] at h
        cases hc : isCall o.op with
        | false =>
          rw [hc] at h
          obtain ⟨⟨p, r, σ'⟩, hs, ⟨hp, hσ⟩, hk⟩ := bindP_iff h
          simp only at hσ
          subst hσ
          exact ⟨r, .inl ⟨hb, .inl ⟨hc, p, hs, hp⟩⟩, hk⟩
        | true =>
          rw [hc] at h
          obtain ⟨⟨f, as⟩, hs, as', r, k1, k2, k3, k4, k5⟩ := bindP_iff h
          exact ⟨r, .inl ⟨hb, .inr ⟨hc, f, as, hs, as', r, k1, k2, k3, k4, rfl⟩⟩, k5⟩
    obtain ⟨r, hg, hk⟩ := key
    obtain ⟨rs, h1, h2, h3⟩ := ih _ hk
    refine ⟨r :: rs, by simp [h1], fun i o' ho' => ?_, h3⟩
    cases i with
    | zero => simp only [List.getElem?_cons_zero, Option.some.injEq] at ho'; subst ho'; exact hg
    | succ i => exact h2 i o' (by simpa using ho')
theorem envs_other : ∀ (l : List Oper) (rs : List AV) (e : Env) (i t : Nat), (∀ (j : Nat) (o : Oper), l[j]? = some o → o.dst = some t → i ≤ j) → getE (envs e l rs i) t = getE e t := by
  intro l
  induction l with
  | nil => intro rs e i t _; rfl
  | cons o l ih =>
    intro rs e i t h
    cases rs with
    | nil => rfl
    | cons r rs =>
      cases i with
      | zero => rfl
      | succ i =>
        simp only [envs]
        rw [ih rs _ i t (fun j o' ho' hd => by have := h (j + 1) o' (by simpa using ho') hd; omega)]
        cases hd : o.dst with
        | none => rfl
        | some u =>
          simp only [putE, getE]
          rw [if_neg (fun e => by subst e; have := h 0 o (by simp) hd; omega)]
theorem envs_dst : ∀ (l : List Oper) (rs : List AV) (e : Env) (i t j : Nat) (o : Oper), rs.length = l.length → (∀ (k : Nat) (o' : Oper), l[k]? = some o' → o'.dst = some t → k = j) → l[j]? = some o → o.dst = some t → j < i →
    getE (envs e l rs i) t = rs.getD j .undef := by
  intro l
  induction l with
  | nil => intro rs e i t j o _ _ h; simp at h
  | cons o l ih =>
    intro rs e i t j o' hlen hdis ho hd hji
    cases rs with
    | nil => simp at hlen
    | cons r rs =>
      cases i with
      | zero => omega
      | succ i =>
        simp only [envs]
        cases j with
        | zero =>
          simp only [List.getElem?_cons_zero, Option.some.injEq] at ho
          subst ho
          rw [envs_other l rs _ i t (fun k o2 h2 hd2 => by have := hdis (k + 1) o2 (by simpa using h2) hd2; omega)]
          rw [hd]
          simp [putE, getE]
        | succ j =>
          rw [ih rs _ i t j o' (by simpa using hlen) (fun k o2 h2 hd2 => by have := hdis (k + 1) o2 (by simpa using h2) hd2; omega) (by simpa using ho) hd (by omega)]
          rfl
theorem drawn_ok {Fz ρ σ} {w : World} (hr : Rel Fz ρ σ w) : Ext Fz ρ σ w Fz ρ σ { w with drawn := w.drawn + 1 } ∧ Rel Fz ρ σ { w with drawn := w.drawn + 1 } := by
  have hx : Ext Fz ρ σ w Fz ρ σ { w with drawn := w.drawn + 1 } :=
    { os := rfl, tape := rfl, output := rfl, size := Nat.le_refl _, len := Nat.le_refl _, rho := fun _ _ => rfl, fz := fun _ h => h, fznew := fun _ h => .inl h
      wrold := fun _ _ h => h
      wrnew := fun i hi h => by rw [getO_ge hi] at h; cases h
      keep := fun _ _ _ => rfl
      sizes := fun _ a h => ⟨a, h, rfl⟩ }
  exact ⟨hx, hr.fz, fun i => (hr.ob i).mono rfl Iff.rfl (fun v d hc => hc.ext hx hr) (fun v d hc => hc.ext hx hr), hr.sep⟩
theorem mem_tmpsU {ops : Array Oper} {o : Oper} {t : Nat} (h : .tmp t ∈ usesOf o.op) : t ∈ tmpsU ops o := by
  unfold tmpsU
  exact List.mem_append.2 (.inl (List.mem_filterMap.2 ⟨.tmp t, h, rfl⟩))
theorem ev_same {ops : Array Oper} {o : Oper} {e e' : Env} (h : ∀ t ∈ tmpsU ops o, getE e t = getE e' t) : ∀ x ∈ usesOf o.op, AM.ev e x = AM.ev e' x := fun x hx => by
  cases x with
  | tmp t => exact h t (mem_tmpsU hx)
  | _ => rfl
theorem guard_same {ops : Array Oper} {o : Oper} {e e' : Env} (h : ∀ t ∈ tmpsU ops o, getE e t = getE e' t) : guardB ops e o.guard = guardB ops e' o.guard := by
  unfold guardB
  cases hg : o.guard with
  | none => rfl
  | some q =>
    obtain ⟨j, want⟩ := q
    simp only
    cases hd : (ops[j]?).bind (·.dst) with
    | none => rfl
    | some t =>
      simp only
      rw [h t (by unfold tmpsU; rw [hg]; simp [hd])]
theorem draw_ok {P : Program} {N B id : Nat} {ops : Array Oper} {Q : AEx → St → Prop} {s : St} (hm : P.follows .mixedOrders = true) (hB : drawB P N ops = true) (h : wpq P ops ops.toList (fun s' => Q .normal s') s) : Ok P N B (.region id ops true) Q s := by
  intro hBl w Fz ρ a hr he hd hN
  obtain ⟨e0, σ⟩ := s
  have D := drawB_ok hB
  obtain ⟨rs, hl, hg, hK⟩ := wpq_gives ops.toList e0 h
  have hat : ∀ (j : Nat), ops.toList[j]? = ops[j]? := fun j => by simp
  simp only [hat, Array.length_toList] at hl hg hK
  have hdst : ∀ (i t j : Nat) (o : Oper), ops[j]? = some o → o.dst = some t → j < i → getE (envs e0 ops.toList rs i) t = rs.getD j .undef := fun i t j o ho hdt hji =>
    envs_dst ops.toList rs e0 i t j o (by simpa using hl) (fun k o' ho' hd' => D.dis j k o o' t ho (by rw [← hat]; exact ho') hdt hd') (by rw [hat]; exact ho) hdt hji
  refine wp_region_any hm ?_
  obtain ⟨hx0, hr0⟩ := drawn_ok hr
  have he0 := he.ext hx0 hr
  simp only at hr he hr0 he0 hx0
  generalize ({ w with drawn := w.drawn + 1 } : World) = w1 at hx0 hr0 he0
  have hlist : ∀ {listed : Array Bool} {j : Nat}, listed.size = ops.size → j < ops.size → listed.getD j true = listed.getD j false := fun h1 h2 => by
    simp [Array.getD, h1, h2]
  have key : ∀ (fuel : Nat) (listed : Array Bool) (S : List Nat) (E : Env) (Fz1 : Nat → Prop) (ρ1 : Nat → Nat × Nat) (a1 : Act) (w1 : World), listed.size = ops.size → S.length = fuel → (∀ j, j < ops.size → listed.getD j false = false → j ∈ S) →
      Rel Fz1 ρ1 σ w1 → EnvR w1 Fz1 ρ1 σ.length a1 E → Ext Fz ρ σ w Fz1 ρ1 σ w1 → a1.defers = [] → a1.tmps.size = N →
      (∀ t, (∀ (j : Nat) (o : Oper), ops[j]? = some o → o.dst ≠ some t) → getE E t = getE e0 t) → (∀ (j : Nat) (o : Oper) (t : Nat), ops[j]? = some o → listed.getD j false = true → o.dst = some t → getE E t = rs.getD j .undef) →
      wpAny P .any ops (Lift N B Fz ρ σ w Q) fuel listed a1 w1 := by
    intro fuel
    induction fuel with
    | zero =>
      intro listed S E Fz1 ρ1 a1 w1 hsz hS hSin r1 e1 x1 d1 n1 hb ht
      have hS0 : S = [] := List.eq_nil_of_length_eq_zero hS
      subst hS0
      have hall : ∀ j, j < ops.size → listed.getD j false = true := fun j hj => by
        cases hq : listed.getD j false with
        | true => rfl
        | false => exact absurd (hSin j hj hq) (by simp)
      refine ⟨List.eq_nil_iff_forall_not_mem.2 fun j hj => ?_, .normal, _, Fz1, ρ1, rfl, hK, r1, ?_, x1.toB hBl, d1, n1⟩
      · obtain ⟨h1, o, ho, _⟩ := mem_ready.1 hj
        have hjs := (Array.getElem?_eq_some_iff.1 ho).1
        rw [hlist hsz hjs, hall j hjs] at h1
        cases h1
      · intro t
        have : getE (envs e0 ops.toList rs ops.size) t = getE E t := by
          by_cases hd : ∃ (j : Nat) (o : Oper), ops[j]? = some o ∧ o.dst = some t
          · obtain ⟨j, o, ho, hdt⟩ := hd
            have hjs := (Array.getElem?_eq_some_iff.1 ho).1
            rw [hdst _ t j o ho hdt hjs, ht j o t ho (hall j hjs) hdt]
          · have hn : ∀ (j : Nat) (o : Oper), ops[j]? = some o → o.dst ≠ some t := fun j o ho hdt => hd ⟨j, o, ho, hdt⟩
            rw [envs_other _ _ _ _ _ (fun j o ho hdt => absurd hdt (hn j o (by rw [← hat]; exact ho))), hb t hn]
        rw [this]; exact e1 t
    | succ fuel ih =>
      intro listed S E Fz1 ρ1 a1 w1 hsz hS hSin r1 e1 x1 d1 n1 hb ht
      refine ⟨fun h0 => ?_, fun i hi => ?_⟩
      · have hall : ∀ j, j < ops.size → listed.getD j false = true := fun j => by
          induction j using Nat.strongRecOn with
          | _ j ihj =>
            intro hj
            cases hq : listed.getD j false with
            | true => rfl
            | false =>
              have hm : j ∈ Region.ready .any ops listed := mem_ready.2 ⟨by rw [hlist hsz hj]; exact hq, ops[j], by simp [hj], fun e he' hb' => by
                have hlow := D.low j ops[j] (by simp [hj]) e he' hb'
                exact ihj e.on hlow (by omega)⟩
              rw [h0] at hm; cases hm
        refine ⟨.normal, _, Fz1, ρ1, rfl, hK, r1, ?_, x1.toB hBl, d1, n1⟩
        intro t
        have : getE (envs e0 ops.toList rs ops.size) t = getE E t := by
          by_cases hd : ∃ (j : Nat) (o : Oper), ops[j]? = some o ∧ o.dst = some t
          · obtain ⟨j, o, ho, hdt⟩ := hd
            have hjs := (Array.getElem?_eq_some_iff.1 ho).1
            rw [hdst _ t j o ho hdt hjs, ht j o t ho (hall j hjs) hdt]
          · have hn : ∀ (j : Nat) (o : Oper), ops[j]? = some o → o.dst ≠ some t := fun j o ho hdt => hd ⟨j, o, ho, hdt⟩
            rw [envs_other _ _ _ _ _ (fun j o ho hdt => absurd hdt (hn j o (by rw [← hat]; exact ho))), hb t hn]
        rw [this]; exact e1 t
      · obtain ⟨hli, o, ho, hpre⟩ := mem_ready.1 hi
        have his := (Array.getElem?_eq_some_iff.1 ho).1
        rw [hlist hsz his] at hli
        have hU : ∀ t ∈ tmpsU ops o, getE E t = getE (envs e0 ops.toList rs i) t := fun t htU => by
          by_cases hd : ∃ (j : Nat) (o' : Oper), ops[j]? = some o' ∧ o'.dst = some t
          · obtain ⟨j, o', ho', hdt⟩ := hd
            obtain ⟨hji, e, he', hbn, hon⟩ := D.use i o t j o' ho htU ho' hdt
            have hlj := hpre e he' hbn
            rw [hon] at hlj
            rw [hdst i t j o' ho' hdt hji, ht j o' t ho' hlj hdt]
          · have hn : ∀ (j : Nat) (o : Oper), ops[j]? = some o → o.dst ≠ some t := fun j o ho hdt => hd ⟨j, o, ho, hdt⟩
            rw [envs_other _ _ _ _ _ (fun j o ho hdt => absurd hdt (hn j o (by rw [← hat]; exact ho))), hb t hn]
        have hop := D.ok i o ho
        have hnext : ∀ (Fz2 : Nat → Prop) (ρ2 : Nat → Nat × Nat) (a2 : Act) (w2 : World), Rel Fz2 ρ2 σ w2 → EnvR w2 Fz2 ρ2 σ.length a2 (putE E o.dst (rs.getD i .undef)) → Ext Fz ρ σ w Fz2 ρ2 σ w2 → a2.defers = [] → a2.tmps.size = N →
            wpAny P .any ops (Lift N B Fz ρ σ w Q) fuel (listed.setIfInBounds i true) a2 w2 := fun Fz2 ρ2 a2 w2 r2 e2 x2 d2 n2 => by
          have hiS := hSin i his hli
          refine ih _ (S.erase i) _ Fz2 ρ2 a2 w2 (by simpa using hsz) (by rw [List.length_erase_of_mem hiS]; omega) (fun j hj hlj => ?_) r2 e2 x2 d2 n2 (fun t hn => ?_) (fun j o' t ho' hlj hdt => ?_)
          · have hji : i ≠ j := fun e => by subst e; simp [Array.getD, hsz, his] at hlj
            rw [getD_set_ne false hji] at hlj
            exact (List.mem_erase_of_ne (Ne.symm hji)).2 (hSin j hj hlj)
          · rw [← hb t hn]
            cases hdo : o.dst with
            | none => rfl
            | some u =>
              simp only [putE, getE]
              rw [if_neg (fun e => hn i o ho (by rw [hdo, e]))]
          · by_cases hji : i = j
            · subst hji
              rw [ho] at ho'; cases ho'
              rw [hdt]; simp [putE, getE]
            · rw [getD_set_ne false hji] at hlj
              rw [← ht j o' t ho' hlj hdt]
              cases hdo : o.dst with
              | none => rfl
              | some u =>
                simp only [putE, getE]
                rw [if_neg (fun e => hji (D.dis j i o' o t ho' ho hdt (by rw [hdo, e])))]
        have hgv := hg i o ho
        unfold Gives at hgv
        rw [← guard_same hU, ← stepA_congr P (ev_same hU), ← callOf_congr (ev_same hU)] at hgv
        unfold wpOp
        simp only [ho]
        rcases hgv with ⟨hb1, hgv⟩ | ⟨hb1, hrv⟩
        · rw [wanted_of e1 hb1]
          simp only [if_true]
          refine .inl (oper_wp (s := ⟨E, σ⟩) hop r1 e1 d1 n1 (K := fun s' => s' = ⟨putE E o.dst (rs.getD i .undef), σ⟩) (fun s' Fz2 ρ2 a2 w2 hs' r2 e2 x2 d2 n2 => ?_) ?_)
          · subst hs'
            exact hnext Fz2 ρ2 a2 w2 r2 e2 (x1.trans x2) d2 n2
          · rcases hgv with ⟨hc, p, hst, hp⟩ | ⟨hc, f, as, hco, as', r, k1, k2, k3, k4, k5⟩
            · rw [hc]
              simp only [hst]
              exact ⟨hp, rfl⟩
            · rw [hc]
              simp only [hco]
              exact call_pure k1 k2 k3 (by rw [k4, k5])
        · rw [wanted_of e1 hb1]
          simp only [Bool.false_eq_true, if_false]
          have hu : VR w1 Fz1 ρ1 σ.length undef (.tup []) := ⟨#[], rfl, rfl, fun j hj => absurd hj (by simp)⟩
          rw [hrv] at hnext
          exact hnext Fz1 ρ1 _ w1 r1 (e1.put o.dst (dst_lt hop n1) hu) x1 (by rw [put_defers, d1]) (by rw [put_size, n1])
  exact key ops.size (Array.replicate ops.size false) (List.range ops.size) e0 Fz ρ a w1 (by simp) (by simp) (fun j hj _ => by simpa using hj) hr0 he0 hx0 hd hN (fun _ _ => rfl) (fun j o t ho hlj _ => by
    have hjs := (Array.getElem?_eq_some_iff.1 ho).1
    simp [Array.getD, hjs] at hlj)
end Go.AM
end
section
namespace Go.AM
def renC0 (m : Nat → Nat) : AV → AV
  | .vp id off => .vp (m id) off
  | .rp id esz d idx off => .rp (m id) esz d idx off
  | .sl id esz i0 len => .sl (m id) esz i0 len
  | .fn f [] => .fn f []
  | .fn _ _ => .undef
  | v => v
def renC (m : Nat → Nat) : AV → AV
  | .fn f caps => .fn f (caps.map (renC0 m))
  | v => renC0 m v
def renA1 (m : Nat → Nat) : AV → AV
  | .agg cs => .agg (cs.map (renC m))
  | v => renC m v
def renA (m : Nat → Nat) : AV → AV
  | .tup vs => .tup (vs.map (renA1 m))
  | v => renA1 m v
def renO (m : Nat → Nat) : Ob → Ob
  | .var v => .var (renA1 m v)
  | o => o
def lowC0 (n : Nat) : AV → Prop
  | .vp id _ => id < n
  | .rp id _ _ _ _ => id < n
  | .sl id _ _ _ => id < n
  | .fn _ caps => caps = []
  | .tup _ => False
  | .agg _ => False
  | _ => True
def lowC (n : Nat) : AV → Prop
  | .fn _ caps => ∀ c ∈ caps, lowC0 n c
  | v => lowC0 n v
def lowA1 (n : Nat) : AV → Prop
  | .agg cs => ∀ c ∈ cs, lowC n c
  | v => lowC n v
def lowA (n : Nat) : AV → Prop
  | .tup vs => ∀ c ∈ vs, lowA1 n c
  | v => lowA1 n v
section
variable {w : World} {Fz : Nat → Prop} {ρ : Nat → Nat × Nat} {n n1 : Nat} {m : Nat → Nat}
theorem VC.ren0 {v : Value} {d : AV} (h : VC w Fz ρ n v (renC0 m d)) (hl : lowC0 n1 d) : VC w Fz (fun i => ρ (m i)) n1 v d := by
  cases d with
  | vp id off =>
    cases (show VC w Fz ρ n v (.vp (m id) off) from h) with
    | cr hc => cases hc
    | vp _ _ hi => exact VC.vp (ρ := fun i => ρ (m i)) id off hl
  | rp id esz d idx off =>
    cases (show VC w Fz ρ n v (.rp (m id) esz d idx off) from h) with
    | cr hc => cases hc
    | rp _ _ _ _ _ hi => exact VC.rp (ρ := fun i => ρ (m i)) id esz d idx off hl
  | sl id esz i0 len =>
    generalize hq : len = len' at h
    cases (show VC w Fz ρ n v (.sl (m id) esz i0 len') by subst hq; exact h) with
    | cr hc => cases hc
    | sl0 o => subst hq; exact VC.sl0 o id esz i0 hl
    | sl _ _ _ _ cap hi hc hk hs => subst hq; exact VC.sl (ρ := fun i => ρ (m i)) id esz i0 _ cap hl hc hk hs
  | fn f caps =>
    have hl' : caps = [] := hl
    subst hl'
    cases (show VC w Fz ρ n v (.fn f []) from h) with
    | cr hc => exact .cr hc
    | fn h1 h2 => exact .fn h1 (fun j hj => absurd hj (by simp))
  | nils =>
    cases (show VC w Fz ρ n v .nils from h) with
    | cr hc => exact .cr hc
    | nils o => exact .nils o
  | agg => exact hl.elim
  | tup => exact hl.elim
  | undef => cases (show VC w Fz ρ n v .undef from h) with | cr hc => exact .cr hc
  | int k i => cases (show VC w Fz ρ n v (.int k i) from h) with | cr hc => exact .cr hc
  | bool b => cases (show VC w Fz ρ n v (.bool b) from h) with | cr hc => exact .cr hc
  | str s => cases (show VC w Fz ρ n v (.str s) from h) with | cr hc => exact .cr hc
  | nilp => cases (show VC w Fz ρ n v .nilp from h) with | cr hc => exact .cr hc
  | nilf => cases (show VC w Fz ρ n v .nilf from h) with | cr hc => exact .cr hc
  | tp a b c d e => cases (show VC w Fz ρ n v (.tp a b c d e) from h) with | cr hc => exact .cr hc
  | ts a b => cases (show VC w Fz ρ n v (.ts a b) from h) with | cr hc => exact .cr hc
theorem VC.ren {v : Value} {d : AV} (h : VC w Fz ρ n v (renC m d)) (hl : lowC n1 d) : VC w Fz (fun i => ρ (m i)) n1 v d := by
  by_cases hf : ∃ f caps, d = .fn f caps
  · obtain ⟨f, caps, rfl⟩ := hf
    have hl' : ∀ c ∈ caps, lowC0 n1 c := hl
    cases (show VC w Fz ρ n v (.fn f (caps.map (renC0 m))) from h) with
    | cr hc =>
      cases hc with
      | fn h1 h2 =>
        refine .fn (by simpa using h1) (fun j hj => VC.ren0 (n := n) ?_ (hl' _ (by simp [List.getD, hj])))
        have := h2 j (by simpa using hj)
        have e : (caps.map (renC0 m)).getD j .undef = renC0 m (caps.getD j .undef) := by simp [List.getD, hj]
        rw [e] at this
        exact .cr this
    | fn h1 h2 =>
      refine .fn (by simpa using h1) (fun j hj => VC.ren0 (n := n) ?_ (hl' _ (by simp [List.getD, hj])))
      have := h2 j (by simpa using hj)
      have e : (caps.map (renC0 m)).getD j .undef = renC0 m (caps.getD j .undef) := by simp [List.getD, hj]
      rw [e] at this
      exact this
  · have e : renC m d = renC0 m d := by cases d <;> first | rfl | exact absurd ⟨_, _, rfl⟩ hf
    have e2 : lowC n1 d = lowC0 n1 d := by cases d <;> first | rfl | exact absurd ⟨_, _, rfl⟩ hf
    rw [e] at h
    rw [e2] at hl
    exact h.ren0 hl
theorem V1.ren {v : Value} {d : AV} (h : V1 w Fz ρ n v (renA1 m d)) (hl : lowA1 n1 d) : V1 w Fz (fun i => ρ (m i)) n1 v d := by
  by_cases ha : ∃ cs, d = .agg cs
  · obtain ⟨cs, rfl⟩ := ha
    obtain ⟨arr, e, hs, hj⟩ := h
    refine ⟨arr, e, by simpa using hs, fun j hjl => ?_⟩
    have := hj j (by simpa using hjl)
    have e : (cs.map (renC m)).getD j .undef = renC m (cs.getD j .undef) := by simp [List.getD, hjl]
    rw [e] at this
    exact this.ren (hl _ (by simp [List.getD, hjl]))
  · have hna : ∀ cs, d ≠ .agg cs := fun cs e => ha ⟨cs, e⟩
    have e : renA1 m d = renC m d := by cases d <;> first | rfl | exact absurd rfl (hna _)
    have e2 : lowA1 n1 d = lowC n1 d := by cases d <;> first | rfl | exact absurd rfl (hna _)
    rw [e] at h
    rw [e2] at hl
    by_cases hu : d = .undef
    · subst hu; exact trivial
    · have h1 : ∀ cs, renC m d ≠ .agg cs := fun cs e => by cases d <;> simp [renC, renC0] at e <;> first | exact hna _ rfl | skip
      have h2 : renC m d ≠ .undef := fun e => by cases d <;> simp [renC, renC0] at e <;> first | exact hu rfl | skip
      exact V1.of_VC ((h.to_VC h1 h2).ren hl)
theorem VR.ren {v : Value} {d : AV} (h : VR w Fz ρ n v (renA m d)) (hl : lowA n1 d) : VR w Fz (fun i => ρ (m i)) n1 v d := by
  by_cases ht : ∃ vs, d = .tup vs
  · obtain ⟨vs, rfl⟩ := ht
    obtain ⟨arr, e, hs, hj⟩ := h
    refine ⟨arr, e, by simpa using hs, fun j hjl => ?_⟩
    have := hj j (by simpa using hjl)
    have e : (vs.map (renA1 m)).getD j .undef = renA1 m (vs.getD j .undef) := by simp [List.getD, hjl]
    rw [e] at this
    exact this.ren (hl _ (by simp [List.getD, hjl]))
  · have hnt : ∀ vs, d ≠ .tup vs := fun vs e => ht ⟨vs, e⟩
    have e : renA m d = renA1 m d := by cases d <;> first | rfl | exact absurd rfl (hnt _)
    have e2 : lowA n1 d = lowA1 n1 d := by cases d <;> first | rfl | exact absurd rfl (hnt _)
    rw [e] at h
    rw [e2] at hl
    have h1 : ∀ vs, renA1 m d ≠ .tup vs := fun vs e => by cases d <;> simp [renA1, renC, renC0] at e <;> first | exact hnt _ rfl | skip
    exact VR.of1 ((h.to1 h1).ren hl)
end
def lowO (n : Nat) : Ob → Prop
  | .var v => lowA1 n v
  | _ => True
structure Fits (B : Nat) (m : Nat → Nat) (s s1 : St) : Prop where
  low : ∀ i, i < B → m i = i
  hB : B ≤ s1.σ.length
  env : ∀ t, getE s1.env t = .undef ∨ (lowA s1.σ.length (getE s1.env t) ∧ getE s.env t = renA m (getE s1.env t))
  obs : ∀ i, i < s1.σ.length → getO s1.σ i = .none ∨ (getO s.σ (m i) = renO m (getO s1.σ i) ∧ lowO s1.σ.length (getO s1.σ i))
  inj : ∀ i j, i ≠ j → wr (getO s1.σ i) = true → some' (getO s1.σ j) = true → m i ≠ m j
section
variable {P : Program} {N B : Nat} {m : Nat → Nat} {s s1 : St}
theorem wr_ren {o : Ob} : wr (renO m o) = wr o := by cases o <;> rfl
theorem some_ren {o : Ob} : some' (renO m o) = some' o := by cases o <;> rfl
theorem Fits.same (h : Fits B m s s1) {i : Nat} (hs : some' (getO s1.σ i) = true) : getO s.σ (m i) = renO m (getO s1.σ i) ∧ lowO s1.σ.length (getO s1.σ i) := by
  rcases h.obs i (getO_lt hs) with h1 | h1
  · rw [h1] at hs; cases hs
  · exact h1
theorem Fits.wr (h : Fits B m s s1) {i : Nat} (hs : wr (getO s1.σ i) = true) : AM.wr (getO s.σ (m i)) = true := by rw [(h.same (wr_some hs)).1, wr_ren]; exact hs
theorem cellsOf_ren (v : AV) : cellsOf (renA1 m v) = (cellsOf v).map (renC m) := by
  by_cases ha : ∃ cs, v = .agg cs
  · obtain ⟨cs, rfl⟩ := ha; rfl
  · have hna : ∀ cs, v ≠ .agg cs := fun cs e => ha ⟨cs, e⟩
    have e : renA1 m v = renC m v := by cases v <;> first | rfl | exact absurd rfl (hna _)
    have h1 : ∀ cs, renC m v ≠ .agg cs := fun cs e => by
      cases v with
      | agg cs => exact hna _ rfl
      | fn f caps => cases e
      | _ => cases e
    rw [e, cellsOf_one h1, cellsOf_one hna]; rfl
theorem okStore_ren {v : AV} (h : okStore (renA1 m v) = true) : okStore v = true := by cases v <;> first | rfl | exact h
theorem Fits.rel {Fz ρ w} (h : Fits B m s s1) (hr : Rel Fz ρ s.σ w) : Rel Fz (fun i => ρ (m i)) s1.σ w := by
  refine ⟨hr.fz, fun i => ?_, fun i j hne hw hs => ?_⟩
  · cases hg : getO s1.σ i with
    | none => trivial
    | row l z xs =>
      have h1 := (h.same (i := i) (by rw [hg]; rfl)).1
      have := hr.ob (m i)
      rw [h1, hg] at this
      exact this
    | var v =>
      obtain ⟨h1, h2⟩ := h.same (i := i) (by rw [hg]; rfl)
      have hob := hr.ob (m i)
      rw [h1, hg] at hob
      rw [hg] at h2
      obtain ⟨arr, e, fr, k1, k2, k3, k4, k5, k6⟩ := hob
      rw [cellsOf_ren, List.length_map] at k4 k6
      refine ⟨arr, e, fr, k1, k2, k3, k4, okStore_ren k5, fun j hj => ?_⟩
      have hc := k6 j hj
      have e1 : ((cellsOf v).map (renC m)).getD j .undef = renC m ((cellsOf v).getD j .undef) := by simp [List.getD, hj]
      rw [e1] at hc
      refine hc.ren ?_
      have h3 : lowA1 s1.σ.length v := h2
      by_cases ha : ∃ cs, v = .agg cs
      · obtain ⟨cs, rfl⟩ := ha
        exact h3 _ (by simp only [cells_agg] at hj ⊢; simp [List.getD, hj])
      · have hna : ∀ cs, v ≠ .agg cs := fun cs e => ha ⟨cs, e⟩
        rw [cellsOf_one hna] at hj ⊢
        simp at hj
        subst hj
        have e2 : lowA1 s1.σ.length v = lowC s1.σ.length v := by cases v <;> first | rfl | exact absurd rfl (hna _)
        rw [e2] at h3
        exact h3
  · have h1 := h.wr hw
    have h2 : some' (getO s.σ (m j)) = true := by rw [(h.same hs).1, some_ren]; exact hs
    exact hr.sep (m i) (m j) (h.inj i j hne hw hs) h1 h2
theorem Fits.envR {Fz ρ w a} (h : Fits B m s s1) (he : EnvR w Fz ρ s.σ.length a s.env) : EnvR w Fz (fun i => ρ (m i)) s1.σ.length a s1.env := fun t => by
  rcases h.env t with h1 | ⟨h1, h2⟩
  · rw [h1]; exact trivial
  · have := he t
    rw [h2] at this
    exact this.ren h1
theorem Fits.from {Fz ρ w Fz' ρ' σ' w'} (h : Fits B m s s1) (x : ExtB B Fz (fun i => ρ (m i)) s1.σ w Fz' ρ' σ' w') : ExtB B Fz ρ s.σ w Fz' ρ' σ' w' where
  os := x.os
  tape := x.tape
  output := x.output
  size := x.size
  len := x.len
  rho := fun id hi => by rw [x.rho id hi, h.low id hi]
  fz := x.fz
  fznew := fun b hb => (x.fznew b hb).imp (fun y => y) (Or.imp (fun y => y) fun ⟨i, h1, h2⟩ => ⟨m i, h.wr h1, h2⟩)
  wrold := fun id hi hw => by have := h.wr (x.wrold id hi hw); rwa [h.low id hi] at this
  wrall := fun id hw => (x.wrall id hw).imp (fun y => y) fun ⟨i, h1, h2⟩ => ⟨m i, h.wr h1, h2⟩
  keep := fun b hb hn => x.keep b hb fun id hw => hn (m id) (h.wr hw)
  sizes := x.sizes
theorem Fits.to {Fz ρ σ w Fz' ρ' w'} (h : Fits B m s s1) (x : ExtB B Fz ρ σ w Fz' ρ' s.σ w') : ExtB B Fz ρ σ w Fz' (fun i => ρ' (m i)) s1.σ w' where
  os := x.os
  tape := x.tape
  output := x.output
  size := x.size
  len := h.hB
  rho := fun id hi => by rw [h.low id hi, x.rho id hi]
  fz := x.fz
  fznew := x.fznew
  wrold := fun id hi hw => x.wrold id hi (by have := h.wr hw; rwa [h.low id hi] at this)
  wrall := fun id hw => x.wrall (m id) (h.wr hw)
  keep := x.keep
  sizes := x.sizes
theorem ren_ok {c : Code} {Q : AEx → St → Prop} (h : Fits B m s s1) (k : Ok P N B c Q s1) : Ok P N B c Q s := fun _ w Fz ρ a hr he hd hN =>
  wp_mono (k h.hB w Fz (fun i => ρ (m i)) a (h.rel hr) (h.envR he) hd hN) fun _ _ _ ⟨x, s', Fz', ρ', h1, h2, h3, h4, h5, h6⟩ => ⟨x, s', Fz', ρ', h1, h2, h3, h4, h.from h5, h6⟩
theorem least {p : Nat → Prop} (h : ∃ m, p m) : ∃ m, p m ∧ ∀ k, p k → m ≤ k := by
  obtain ⟨m, hm⟩ := h
  induction m using Nat.strongRecOn with
  | _ m ih =>
    by_cases hk : ∃ k, k < m ∧ p k
    · obtain ⟨k, hk1, hk2⟩ := hk; exact ih k hk1 hk2
    · exact ⟨m, hm, fun k hk' => Nat.le_of_not_lt fun hlt => hk ⟨k, hlt, hk'⟩⟩
theorem loop_ok {c : Code} {Q : AEx → St → Prop} {α : Type} (I : α → St) (μ : α → Nat)
    (hstep : ∀ x, Ok P N B c (fun e s' => match e with | .normal => ∃ y m, Fits B m s' (I y) ∧ μ y < μ x | e => Q e s') (I x)) (x0 : α) : Ok P N B (.loop c) Q (I x0) := by
  intro hB w Fz ρ a hr he hd hN
  let J : Nat → Act → World → Prop := fun k a' w' => ∃ x Fz' ρ', μ x = k ∧ Rel Fz' ρ' (I x).σ w' ∧ EnvR w' Fz' ρ' (I x).σ.length a' (I x).env ∧ ExtB B Fz ρ (I x0).σ w Fz' ρ' (I x).σ w' ∧ a'.defers = [] ∧ a'.tmps.size = N
  have h0 : J (μ x0) a w := ⟨x0, Fz, ρ, rfl, hr, he, ExtB.refl hB, hd, hN⟩
  obtain ⟨ν, hν⟩ : ∃ ν : Act → World → Nat, ∀ a' w', (∃ k, J k a' w') → J (ν a' w') a' w' ∧ ∀ k, J k a' w' → ν a' w' ≤ k := by
    have key : ∀ (a' : Act) (w' : World), ∃ m0 : Nat, (∃ k, J k a' w') → J m0 a' w' ∧ ∀ k, J k a' w' → m0 ≤ k := fun a' w' => by
      by_cases hm : ∃ k, J k a' w'
      · obtain ⟨m0, h1, h2⟩ := least hm
        exact ⟨m0, fun _ => ⟨h1, h2⟩⟩
      · exact ⟨0, fun h => absurd h hm⟩
    exact ⟨fun a' w' => Classical.choose (key a' w'), fun a' w' => Classical.choose_spec (key a' w')⟩
  refine wp_loop (fun a' w' => ∃ k, J k a' w') ν ⟨_, h0⟩ (fun a' w' hI => ?_)
  obtain ⟨hJ, _⟩ := hν a' w' hI
  generalize hm : ν a' w' = k at hJ
  obtain ⟨x, Fz', ρ', rfl, hr', he', hx', hd', hN'⟩ := hJ
  refine wp_mono (hstep x hx'.len w' Fz' ρ' a' hr' he' hd' hN') (fun e a2 w2 hL => ?_)
  obtain ⟨ex, s2, Fz2, ρ2, hx, hQ, r2, e2, x2, d2, n2⟩ := hL
  cases e with
  | normal =>
    cases hx
    obtain ⟨y, m, hf, hlt⟩ := hQ
    have hJ2 : J (μ y) a2 w2 := ⟨y, Fz2, fun i => ρ2 (m i), rfl, hf.rel r2, hf.envR e2, hf.to (hx'.trans x2), d2, n2⟩
    refine ⟨⟨_, hJ2⟩, ?_⟩
    have := (hν a2 w2 ⟨_, hJ2⟩).2 _ hJ2
    omega
  | exit k => cases hx; exact ⟨_, s2, Fz2, ρ2, rfl, hQ, r2, e2, hx'.trans x2, d2, n2⟩
  | ret => cases hx; exact ⟨_, s2, Fz2, ρ2, rfl, hQ, r2, e2, hx'.trans x2, d2, n2⟩
  | goto => cases hx
  | panic => cases hx
  | outgrown => cases hx
end
end Go.AM
end
