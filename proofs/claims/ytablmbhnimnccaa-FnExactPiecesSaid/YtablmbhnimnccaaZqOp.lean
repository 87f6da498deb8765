/- Pw, part 3: what an operation does to the frame's state. No condition. -/
import Derived.Test.YtablmbhnimnccaaZqSt
namespace Go.Proofs.Ytablmbhnimnccaa.Pw

/-- What passes between a caller and a callee. -/
inductive TV where
  | p (x : PV)
  | rf (cs : List PV)
  | ow (E sz : Nat) (xs : List PV) (m : Nat)
  | ag (cs : List TV)
  | tu (vs : List TV)

inductive TK where
  | sca | str | bool
  | int (k : IntKind)
  | sl (e : Nat)
  | st (fs : List (Nat × Nat))
  | arr (n e : Nat)

structure TI where
  size : Nat
  bytes : Nat
  zero : Value
  kd : TK

def TI.isAgg (i : TI) : Bool := match i.kd with | .st _ => true | .arr _ _ => true | _ => false

def TKok (P : Program) (d : TypeDesc) : TK → Prop
  | .sca => (∀ fs, d ≠ .struct fs) ∧ (∀ n e, d ≠ .array n e)
  | .str => d = .string
  | .bool => d = .bool
  | .int k => d = .int k
  | .sl e => d = .slice e
  | .st fs => ∃ fields : Array Field, d = .struct fields ∧ fields.size = fs.length ∧ ∀ (j o s : Nat), fs[j]? = some (o, s) → ∃ f : Field, fields[j]? = some f ∧ f.offset = o ∧ (P.info? f.type).map (fun i : TypeInfo => i.size) = some s ∧ s ≠ 0
  | .arr n e => d = .array n e

def TOk (P : Program) (T : Nat → Option TI) : Prop :=
  ∀ t ti, T t = some ti → ∃ i d, P.info? t = some i ∧ P.underlying t = some d ∧ i.size = ti.size ∧ i.bytes = ti.bytes ∧ i.zero = some ti.zero ∧
    ti.zero.cells.size = ti.size ∧ (∀ z ∈ ti.zero.cells, z.oneCell' = true) ∧ (ti.isAgg = false → ti.size = 1 ∧ ti.zero.oneCell' = true) ∧ TKok P d ti.kd

/-- '==' of aggregates of n whole numbers at type t. -/
def EqOk (P : Program) (t n : Nat) : Prop := ∀ (w : World) (k : IntKind) (xs ys : List Int), xs.length = n → ys.length = n →
  (∀ X Y, (eqGuard .eql t X Y (.agg (xs.map (Value.int k)).toArray) (.agg (ys.map (Value.int k)).toArray)).run P w = .ok () w) ∧
  (∀ X Y, (eqGuard .neq t X Y (.agg (xs.map (Value.int k)).toArray) (.agg (ys.map (Value.int k)).toArray)).run P w = .ok () w) ∧
  (binOp .eql t (.agg (xs.map (Value.int k)).toArray) (.agg (ys.map (Value.int k)).toArray)).run P w = .ok (.bool (decide (xs = ys))) w ∧
  (binOp .neq t (.agg (xs.map (Value.int k)).toArray) (.agg (ys.map (Value.int k)).toArray)).run P w = .ok (.bool (!decide (xs = ys))) w

def St.ev (S : St) : Operand → AV
  | .tmp t => S.tm t
  | .const v => .p (.lit v)
  | .func f => .p (.fn f [])
  | .global _ => .un

def toCells : AV → List AV
  | .p x => x.cells.map .p
  | .ag cs => cs
  | x => [x]

def allP : List AV → Option (List PV)
  | [] => some []
  | .p x :: xs => (allP xs).map (x :: ·)
  | _ => none

def mkAg (cs : List AV) : AV := match allP cs with | some ps => .p (.ag ps) | none => .ag cs

def nilSl : Value := .slice none 0 0

/-- What a slice shows. -/
def St.list (S : St) : AV → Option (List PV)
  | .p (.sl _ xs) => some xs
  | .p (.lit (.slice _ 0 _)) => some []
  | .os t g len => match S.bl t g with
    | some (.arr _ _ xs _) => if xs.length = len then some xs else none
    | _ => none
  | _ => none

/-- Is the block alive, and the slice the newest one? -/
def St.okA (S : St) : AV → Bool
  | .pt t g _ => match S.bl t g with
    | some (.var _ _) => true
    | _ => false
  | .os t g len => match S.bl t g with
    | some (.arr _ _ xs _) => decide (xs.length = len)
    | _ => false
  | .pe t g len _ _ => match S.bl t g with
    | some (.arr _ _ xs _) => decide (xs.length = len)
    | _ => false
  | _ => true

def lenOf (S : St) : AV → Option Nat
  | .p (.sl _ xs) => some xs.length
  | .p (.lit (.slice none 0 0)) => some 0
  | .os t g len => if S.okA (.os t g len) then some len else none
  | _ => none

def ldA (i : TI) (cs : List AV) (off : Nat) : Option AV :=
  if i.isAgg then (if off + i.size ≤ cs.length then some (mkAg ((cs.drop off).take i.size)) else none) else cs[off]?
def ldP (i : TI) (cs : List PV) (off : Nat) : Option PV :=
  if i.isAgg then (if off + i.size ≤ cs.length then some (.ag ((cs.drop off).take i.size)) else none) else cs[off]?

/-- A block's slice shown as a plain one: what has been shown is written no more. -/
def St.seal (S : St) (t g : Nat) : St :=
  match S.bl t g with
  | some (.arr E sz xs _) => S.setBl t g (.arr E sz xs xs.length)
  | some (.var cs _) => S.setBl t g (.var cs true)
  | none => S
def St.drop (S : St) (t g : Nat) : St := { S with bl := upd2 S.bl t g none }

/-- v is handed over as tv: what it does to the state; the names of what is lent. -/
inductive Pass : St → AV → TV → St → List (Nat × Nat) → Prop
  | p (S : St) (x : PV) : Pass S (.p x) (.p x) S []
  | nil (S : St) (sz : Nat) : Pass S (.p (.lit nilSl)) (.p (.sl sz [])) S []
  | nilo (S : St) (E sz : Nat) : Pass S (.p (.lit nilSl)) (.ow E sz [] 0) S []
  | os (S : St) (t g : Nat) (E sz : Nat) (xs : List PV) (m : Nat) (h : S.bl t g = some (.arr E sz xs m)) : Pass S (.os t g xs.length) (.p (.sl sz xs)) (S.seal t g) []
  | ow (S : St) (t g : Nat) (E sz : Nat) (xs : List PV) (m m' : Nat) (h : S.bl t g = some (.arr E sz xs m)) (hm : m ≤ m') (hm' : m' ≤ xs.length) : Pass S (.os t g xs.length) (.ow E sz xs m') (S.drop t g) []
  | rf (S : St) (t g : Nat) (cs : List PV) (h : S.bl t g = some (.var (cs.map .p) false)) : Pass S (.pt t g 0) (.rf cs) (S.drop t g) [(t, g)]
  | ro (S : St) (t g off : Nat) (cs : List PV) (sd : Bool) (h : S.bl t g = some (.var (cs.map .p) sd)) : Pass S (.pt t g off) (.p (.ro (.ag cs) off)) (S.seal t g) []
  | pe (S : St) (t g i off : Nat) (E sz : Nat) (xs : List PV) (m : Nat) (y : PV) (h : S.bl t g = some (.arr E sz xs m)) (hy : xs[i]? = some y) :
      Pass S (.pe t g xs.length i off) (.p (.ro y off)) (S.seal t g) []

/-- Cells, or what a function has caught, handed over plain. -/
inductive PassPs : St → List AV → List PV → St → Prop
  | nil (S : St) : PassPs S [] [] S
  | cons (S S1 S2 : St) (v : AV) (x : PV) (vs : List AV) (xs : List PV) (h : Pass S v (.p x) S1 []) (hs : PassPs S1 vs xs S2) : PassPs S (v :: vs) (x :: xs) S2

/-- A value with parts. -/
inductive PassV : St → AV → TV → St → List (Nat × Nat) → Prop
  | one (S S' : St) (v : AV) (tv : TV) (l : List (Nat × Nat)) (h : Pass S v tv S' l) : PassV S v tv S' l
  | ag (S S' : St) (vs : List AV) (xs : List PV) (h : PassPs S vs xs S') : PassV S (.ag vs) (.p (.ag xs)) S' []
  | fn (S S' : St) (f : FuncId) (vs : List AV) (xs : List PV) (h : PassPs S vs xs S') : PassV S (.fn f vs) (.p (.fn f xs)) S' []

inductive PassL : St → List AV → List TV → St → List (Nat × Nat) → Prop
  | nil (S : St) : PassL S [] [] S []
  | cons (S S1 S2 : St) (v : AV) (x : TV) (vs : List AV) (xs : List TV) (l k : List (Nat × Nat)) (h : PassV S v x S1 l) (hs : PassL S1 vs xs S2 k) : PassL S (v :: vs) (x :: xs) S2 (l ++ k)

end Go.Proofs.Ytablmbhnimnccaa.Pw
