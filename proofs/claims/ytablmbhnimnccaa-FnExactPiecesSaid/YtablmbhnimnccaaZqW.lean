/- Pw, part 9: every operation, as a rule on the frame's state. No condition. -/
import Derived.Test.YtablmbhnimnccaaZqVal2
namespace Go.Proofs.Ytablmbhnimnccaa.Pw

/-- What shows x shows y as well (nothing at all is a row of no elements). -/
def PVle (x y : PV) : Prop := ∀ (A : Nat → Nat → Prop) (w : World) (u : Value), RepP A w x u → RepP A w y u
def VLe (v v' : AV) : Prop := v' = v ∨ ∃ x y, v = .p x ∧ v' = .p y ∧ PVle x y

theorem VLe.rep {A : Nat → Nat → Prop} {F : Nat → Nat → Value} {S : St} {w : World} {v v' : AV} {u : Value} (h : VLe v v') (hr : RepA A F S w v u) : RepA A F S w v' u := by
  rcases h with rfl | ⟨x, y, rfl, rfl, h⟩
  · exact hr
  · cases hr with | p _ _ hr => exact .p _ _ (h _ _ _ hr)

def cellsOk : AV → Bool
  | .p (.lit v) => v.oneCell'
  | .tu _ => false
  | .un => false
  | _ => true

def splice {α : Type} (cs : List α) (off : Nat) (vs : List α) : List α := cs.take off ++ vs ++ cs.drop (off + vs.length)

def zeroA (ti : TI) : List AV := ti.zero.cells.toList.map fun z => .p (.lit z)
def zeroP (ti : TI) : PV := if ti.isAgg then .ag (ti.zero.cells.toList.map .lit) else .lit ti.zero

def setCells (y : PV) (off : Nat) (ps : List PV) : Option PV :=
  match y with
  | .ag cs => if off + ps.length ≤ cs.length then some (.ag (splice cs off ps)) else none
  | _ => match off, ps with
    | 0, [.ag _] => none
    | 0, [p] => some p
    | _, _ => none

def placeOf (T : Nat → Option TI) (ti : TI) (i : Nat) : Option (Nat × Nat) :=
  match ti.kd with
  | .st fs => fs[i]?
  | .arr _ e => match T e with
    | some te => some (i * te.size, te.size)
    | none => none
  | _ => none

def fillV (T : Nat → Option TI) (ti : TI) : List (Nat × AV) → List AV → Option (List AV)
  | [], cs => some cs
  | (i, v) :: r, cs => match placeOf T ti i with
    | some (off, size) => if cellsOk v = true ∧ (toCells v).length = size ∧ off + size ≤ cs.length then fillV T ti r (splice cs off (toCells v)) else none
    | none => none

def plainOk : PV → Bool
  | .lit v => v.oneCell'
  | _ => true

def buildOk (T : Nat → Option TI) (ti : TI) : Bool :=
  match ti.kd with
  | .st _ => true
  | .arr _ e => (T e).isSome
  | _ => false

def isNilSl : AV → Bool
  | .p (.lit (.slice none 0 0)) => true
  | _ => false

/-- '== ' of whole numbers in a row. -/
def eqAg (op : BinOp) (x y : AV) : Option (Nat × Bool) :=
  match x, y with
  | .p (.ag xs), .p (.ag ys) => match litInts xs, litInts ys with
    | some a, some b => if b.length = a.length then (match op with
      | .eql => some (a.length, decide (a = b))
      | .neq => some (a.length, !decide (a = b))
      | _ => none) else none
    | _, _ => none
  | _, _ => none

def natOf : AV → Option Nat
  | .p (.lit (.int .i64 n)) => if 0 ≤ n then some n.toNat else none
  | _ => none

def St.optN (S : St) (d : Nat) : Option Operand → Option Nat
  | some x => natOf (S.ev x)
  | none => some d

/-- What a call hands back, taken into the frame: what came with it gets a name of its own. -/
inductive Recv (d : Nat) : St → TV → AV → St → Prop
  | p (S : St) (x : PV) : Recv d S (.p x) (.p x) S
  | rf (S : St) (cs : List PV) : Recv d S (.rf cs) (.pt d (S.gen d) 0) (S.mk' d (.var (cs.map .p) false))
  | ow (S : St) (E sz : Nat) (xs : List PV) (m : Nat) : Recv d S (.ow E sz xs m) (.os d (S.gen d) xs.length) (S.mk' d (.arr E sz xs m))

inductive RecvL (d : Nat) : St → List TV → List AV → St → Prop
  | nil (S : St) : RecvL d S [] [] S
  | cons (S S1 S2 : St) (x : TV) (v : AV) (xs : List TV) (vs : List AV) (h : Recv d S x v S1) (hs : RecvL d S1 xs vs S2) : RecvL d S (x :: xs) (v :: vs) S2

inductive RecvV (d : Nat) : St → TV → AV → St → Prop
  | one (S S' : St) (x : TV) (v : AV) (h : Recv d S x v S') : RecvV d S x v S'
  | ag (S S' : St) (xs : List TV) (vs : List AV) (h : RecvL d S xs vs S') : RecvV d S (.ag xs) (.ag vs) S'
  | tu (S S' : St) (xs : List TV) (vs : List AV) (h : RecvL d S xs vs S') : RecvV d S (.tu xs) (.tu vs) S'

def putBack (S : St) : List (Nat × Nat) → List (List PV) → St
  | n :: l, o :: os => putBack (S.setBl n.1 n.2 (.var (o.map .p) false)) l os
  | _, _ => S

def callee (S : St) (f : Operand) : Option (FuncId × List AV) :=
  match S.ev f with
  | .p (.fn g caps) => some (g, caps.map .p)
  | .fn g caps => some (g, caps)
  | _ => none

section
variable (P : Program) (T : Nat → Option TI)

def newBl (S : St) (d : Option Tmp) (b : Blk) (v : Nat → Nat → AV) (K : St → Prop) : Prop :=
  match d with
  | some d => K ((S.mk' d b).put (some d) (v d (S.gen d)))
  | none => False

/-- The operation o, from the state S: then K holds. -/
def opW0 (o : Oper) (S : St) (K : St → Prop) : Prop :=
  match opv T S o.op with
  | some v => ∃ v', VLe v v' ∧ K (S.put o.dst v')
  | none => match o.op with
    | .alloc t => match T t with
      | some ti => newBl S o.dst (.var (zeroA ti) false) (fun d g => .pt d g 0) K
      | none => False
    | .box _ x => cellsOk (S.ev x) = true ∧ newBl S o.dst (.var (toCells (S.ev x)) false) (fun d g => .pt d g 0) K
    | .build t ps => match T t with
      | some ti => match fillV T ti (ps.toList.map fun p => (p.1, S.ev p.2)) (zeroA ti) with
        | some cs => buildOk T ti = true ∧ ∃ v', VLe (mkAg cs) v' ∧ K (S.put o.dst v')
        | none => False
      | none => False
    | .buildSlice t len ps => match T t with
      | some ti => match ti.kd with
        | .sl e => match T e with
          | some te => (ps.toList.map (·.1)) = List.range len ∧ len ≤ 4096 ∧ 0 < te.size ∧ te.size ≤ 64 ∧
            ∃ xs S', PassL S (ps.toList.map fun p => S.ev p.2) (xs.map .p) S' [] ∧ (∀ x ∈ xs, x.size = te.size ∧ plainOk x = true) ∧ newBl S' o.dst (.arr e te.size xs 0) (fun d g => .os d g len) K
          | none => False
        | _ => False
      | none => False
    | .binOp op t x y _ => match eqAg op (S.ev x) (S.ev y) with
      | some (n, b) => EqOk P t n ∧ K (S.put o.dst (.p (.lit (.bool b))))
      | none => False
    | .store t x y => match T t with
      | some ti => cellsOk (S.ev y) = true ∧ (toCells (S.ev y)).length = ti.size ∧ o.dst = none ∧ (match S.ev x with
        | .pt t' g off => match S.bl t' g with
          | some (.var cs false) => off + ti.size ≤ cs.length ∧ K (S.setBl t' g (.var (splice cs off (toCells (S.ev y))) false))
          | _ => False
        | .pe t' g len i off => match S.bl t' g with
          | some (.arr E sz xs m) => match xs[i]?, allP (toCells (S.ev y)) with
            | some z, some ps => match setCells z off ps with
              | some z' => xs.length = len ∧ m ≤ i ∧ z'.size = z.size ∧ K (S.setBl t' g (.arr E sz (xs.set i z') m))
              | none => False
            | _, _ => False
          | _ => False
        | _ => False)
      | none => False
    | .makeSlice t l c => match T t with
      | some ti => match ti.kd with
        | .sl e => match T e with
          | some te => match natOf (S.ev l), natOf (S.ev c) with
            | some n, some n' => n = n' ∧ 0 < te.size ∧ n * te.bytes ≤ 140737488355328 ∧ n ≤ 140737488355328 ∧ newBl S o.dst (.arr e te.size (List.replicate n (zeroP te)) 0) (fun d g => .os d g n) K
            | _, _ => False
          | none => False
        | _ => False
      | none => False
    | .slice t x lo hi mx => match T t with
      | some ti => match ti.kd with
        | .str => match S.ev x, S.optN 0 lo with
          | .p (.lit (.string s)), some l => match S.optN s.size hi, mx with
            | some h, none => l ≤ h ∧ h ≤ s.size ∧ K (S.put o.dst (.p (.lit (.string (s.extract l h)))))
            | _, _ => False
          | _, _ => False
        | .sl e => match T e, S.list (S.ev x), S.optN 0 lo with
          | some te, some xs, some l => match S.optN xs.length hi with
            | some h => (∀ m, mx = some m → natOf (S.ev m) = some h ∧ hi ≠ none) ∧ l ≤ h ∧ h ≤ xs.length ∧
              ∃ S', PassV S (S.ev x) (.p (.sl te.size xs)) S' [] ∧ K (S'.put o.dst (.p (.sl te.size ((xs.take h).drop l))))
            | none => False
          | _, _, _ => False
        | _ => False
      | none => False
    | .call ⟨.builtin .append, args, tys⟩ => match args.toList, tys.toList with
      | [x, y], [t, t'] => match T t with
        | some ti => match ti.kd with
          | .sl e => match T e, S.list (S.ev y) with
            | some te, some ys => t = t' ∧ 0 < te.size ∧ (∀ y ∈ ys, y.size = te.size) ∧ (match S.ev x with
              | .os t' g len => match S.bl t' g with
                | some (.arr E sz xs m) => xs.length = len ∧ E = e ∧ sz = te.size ∧ (len + ys.length) * te.bytes ≤ 140737488355328 ∧ len + ys.length ≤ 140737488355328 ∧
                  K ((S.setBl t' g (.arr E sz (xs ++ ys) m)).put o.dst (.os t' g (len + ys.length)))
                | _ => False
              | x => isNilSl x = true ∧ ys.length * te.bytes ≤ 140737488355328 ∧ ys.length ≤ 140737488355328 ∧ newBl S o.dst (.arr e te.size ys 0) (fun d g => .os d g ys.length) K)
            | _, _ => False
          | _ => False
        | none => False
      | _, _ => False
    | .call ⟨.value f, args, _⟩ => match callee S f with
      | some (g, caps) => ∃ targs S1 l res outs v S2, PassL S (args.toList.map S.ev ++ caps) targs S1 l ∧ Fn P g targs res outs ∧ outs.length = l.length ∧
        RecvV (o.dst.getD 0) (putBack S1 l outs) res v S2 ∧ (o.dst = none → ∃ x, res = .p x ∨ res = .tu []) ∧ K (S2.put o.dst v)
      | none => False
    | _ => False

end
/-- Plain values of a row of operands. -/
inductive RepQ (A : Nat → Nat → Prop) (w : World) : List PV → List Value → Prop
  | nil : RepQ A w [] []
  | cons (x : PV) (u : Value) (xs : List PV) (us : List Value) (h : RepP A w x u) (hs : RepQ A w xs us) : RepQ A w (x :: xs) (u :: us)
/-- Of plain operands alone, and only a value: by its own law. -/
def GenOk (P : Program) (o : Oper) (S : St) (v : PV) : Prop := ∃ xs : List PV, o.op.operands.toList.map S.ev = xs.map .p ∧
  ∀ (A : Nat → Nat → Prop) (w : World) (ev : Operand → Value), RepQ A w xs (o.op.operands.toList.map ev) → ∃ u, (execOp ev o).run P w = .ok (.value u) w ∧ RepP A w v u
/-- An owned row cut short; nothing, and as many noughts behind it. -/
def opT (T : Nat → Option TI) (o : Oper) (S : St) (K : St → Prop) : Prop :=
  match o.op with
  | .slice t x none (some h) none => ∃ ti te e t' g len E sz xs m k, T t = some ti ∧ ti.kd = .sl e ∧ T e = some te ∧ te.size = sz ∧ S.ev x = .os t' g len ∧ S.bl t' g = some (.arr E sz xs m) ∧ xs.length = len ∧
      natOf (S.ev h) = some k ∧ m ≤ k ∧ k ≤ len ∧ newBl (S.drop t' g) o.dst (.arr E sz (xs.take k) m) (fun d g => .os d g k) K
  | .call ⟨.builtin .append, args, tys⟩ => ∃ x y t tn ti te e ki tin n, args.toList = [x, y] ∧ tys.toList = [t, tn] ∧ T t = some ti ∧ ti.kd = .sl e ∧ T e = some te ∧ T tn = some tin ∧ tin.kd = .int ki ∧
      S.ev x = .p (.lit nilSl) ∧ natOf (S.ev y) = some n ∧ 0 < n ∧ 0 < te.size ∧ n * te.bytes ≤ 140737488355328 ∧ n ≤ 140737488355328 ∧ newBl S o.dst (.arr e te.size (List.replicate n (zeroP te)) 0) (fun d g => .os d g n) K
  | _ => False
def opW (P : Program) (T : Nat → Option TI) (o : Oper) (S : St) (K : St → Prop) : Prop :=
  (∃ v, GenOk P o S v ∧ K (S.put o.dst (.p v))) ∨ opT T o S K ∨ opW0 P T o S K
end Go.Proofs.Ytablmbhnimnccaa.Pw
