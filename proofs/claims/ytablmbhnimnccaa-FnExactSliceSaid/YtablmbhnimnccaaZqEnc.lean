/- Pw, part 23: the program's data, and how it is told plain. No condition. -/
import Derived.Test.YtablmbhnimnccaaZqStep
namespace Go.Proofs.Ytablmbhnimnccaa.Pw

structure Pl where
  a : Int
  b : Int
  c : Int
  d : Int
  deriving DecidableEq
structure Pt where
  x : Int
  y : Int
  z : Int
  deriving DecidableEq
structure Spot where
  x : Int
  y : Int
  z : Int
  w : Int
  deriving DecidableEq
structure V3 where
  a : Int
  b : Int
  c : Int
  deriving DecidableEq
structure V4 where
  a : Int
  b : Int
  c : Int
  d : Int
  deriving DecidableEq
inductive Sol where
  | mk (i : Bool) (p : Pl) (k : List Sol)
inductive Num where
  | mk (neg : Bool) (d : List Int)
structure Chk where
  nodes : Int
structure Put where
  op : Int
  bad : Bool
structure Mer where
  op : Int
  nodes : Int
  bad : Bool
structure Cur where
  b : List Int
  i : Int
  h : Int

def Sol.i : Sol → Bool | .mk i _ _ => i
def Sol.p : Sol → Pl | .mk _ p _ => p
def Sol.k : Sol → List Sol | .mk _ _ k => k
theorem Sol.ex (s : Sol) : ∃ i p k, s = .mk i p k := by cases s; exact ⟨_, _, _, rfl⟩
theorem Num.ex (s : Num) : ∃ i p, s = .mk i p := by cases s; exact ⟨_, _, rfl⟩

abbrev u8P (n : Int) : PV := .lit (.int .u8 n)
abbrev u64P (n : Int) : PV := .lit (.int .u64 n)
abbrev u32P (n : Int) : PV := .lit (.int .u32 n)
abbrev sP (s : ByteArray) : PV := .lit (.string s)

def encP (p : Pl) : PV := .ag [iP p.a, iP p.b, iP p.c, iP p.d]
def encPt (p : Pt) : PV := .ag [iP p.x, iP p.y, iP p.z]
def encSp (p : Spot) : PV := .ag [iP p.x, iP p.y, iP p.z, iP p.w]
def encV (p : V3) : PV := .ag [iP p.a, iP p.b, iP p.c]
def encV4 (p : V4) : PV := .ag [iP p.a, iP p.b, iP p.c, iP p.d]
def encL {α : Type} (sz : Nat) (f : α → PV) (l : List α) : PV := .sl sz (l.map f)
def encN : Num → PV | .mk n d => .ag [bP n, .sl 1 (d.map iP)]
def encC (c : Chk) : PV := .ag [iP c.nodes]
def encPu (c : Put) : PV := .ag [iP c.op, bP c.bad]
def encMe (c : Mer) : PV := .ag [iP c.op, iP c.nodes, bP c.bad]
def encCu (c : Cur) : PV := .ag [.sl 1 (c.b.map u8P), iP c.i, iP c.h]
mutual
def encS : Sol → PV
  | .mk i p k => .ag [bP i, iP p.a, iP p.b, iP p.c, iP p.d, .sl 6 (encSs k)]
def encSs : List Sol → List PV
  | [] => []
  | s :: l => encS s :: encSs l
end

theorem encSs_map (l : List Sol) : encSs l = l.map encS := by
  induction l with
  | nil => rfl
  | cons s l ih => simp [encSs, ih]
@[simp] theorem encSs_len (l : List Sol) : (encSs l).length = l.length := by simp [encSs_map]
theorem getSs {l : List Sol} {i : Nat} {q : Sol} (h : l[i]? = some q) : (encSs l)[i]? = some (encS q) := by simp [encSs_map, h]
theorem encS_size (s : Sol) : (encS s).size = 6 := by cases s; rfl
theorem encSs_append {l k : List Sol} : encSs (l ++ k) = encSs l ++ encSs k := by simp [encSs_map]
theorem szS {l : List Sol} : ∀ y ∈ encSs l, y.size = 6 := by
  intro y hy
  rw [encSs_map] at hy
  obtain ⟨s, _, rfl⟩ := List.mem_map.1 hy
  exact encS_size s
theorem sz_map {α : Type} {f : α → PV} {n : Nat} {l : List α} (h : ∀ a, (f a).size = n) : ∀ y ∈ l.map f, y.size = n := by
  intro y hy
  obtain ⟨s, _, rfl⟩ := List.mem_map.1 hy
  exact h s
theorem mapT {α : Type} {f : α → PV} {l : List α} {j : Nat} : ((l.map f).take j).drop 0 = (l.take j).map f := by simp
theorem mapTD {α : Type} {f : α → PV} {l : List α} {i j : Nat} : ((l.map f).take j).drop i = ((l.take j).drop i).map f := by simp
theorem mapD {α : Type} {f : α → PV} {l : List α} {i : Nat} : ((l.map f).take l.length).drop i = (l.drop i).map f := by
  rw [List.take_of_length_le (by simp)]; simp

theorem nt {b : Bool} (h : (!b) = true) : b = false := by simpa using h
theorem nf {b : Bool} (h : (!b) = false) : b = true := by simpa using h

section
variable {P : Program} {T : Nat → Option TI} {S : St} {K : St → Prop} {d ty : Nat} {pos : String} {after : Array Edge} {gd : Option (Nat × Bool)}
theorem w_eqi {x y : Operand} {t t' : Nat} (a b : Int) (hx : S.ev x = I64 a) (hy : S.ev y = I64 b) (hk : K (S.pt' d (BO (decide (a = b))))) : opW P T ⟨some d, .binOp .eql t x y t', ty, pos, after, gd⟩ S K :=
  w_v _ (by simp [opv, hx, hy, binV, vBin]; rfl) hk
theorem w_nei {x y : Operand} {t t' : Nat} (a b : Int) (hx : S.ev x = I64 a) (hy : S.ev y = I64 b) (hk : K (S.pt' d (BO (decide (a ≠ b))))) : opW P T ⟨some d, .binOp .neq t x y t', ty, pos, after, gd⟩ S K :=
  w_v _ (by simp [opv, hx, hy, binV, vBin, bne]; by_cases h : a = b <;> simp [h]) hk
end
theorem cv {P : Program} {T : Nat → Option TI} {S : St} {ops : Array Oper} {l : List Oper} {acc : List (List Nat × List Nat)} {KK : List (List Nat × List Nat) → St → Prop} {d : Nat} {v v' : AV} (e : v = v') (h : opsW P T ops l (S.pt' d v') acc KK) : opsW P T ops l (S.pt' d v) acc KK := e ▸ h
theorem dd {b : Bool} {p : Prop} [Decidable p] (h : b = true ↔ p) : b = decide p := by
  cases b with
  | true => exact (decide_eq_true (h.1 rfl)).symm
  | false => exact (decide_eq_false fun hp => by have := h.2 hp; simp at this).symm
theorem passOs {S : St} {t g E sz m len : Nat} {xs : List PV} (h : S.bl t g = some (.arr E sz xs m)) (hl : xs.length = len) : Pass S (.os t g len) (.p (.sl sz xs)) (S.seal t g) [] := by subst hl; exact .os _ _ _ _ _ _ _ h
theorem dqPl (p q : Pl) : decide ([p.a, p.b, p.c, p.d] = [q.a, q.b, q.c, q.d]) = decide (p = q) := by cases p; cases q; simp
theorem dnPl (p q : Pl) : (!decide ([p.a, p.b, p.c, p.d] = [q.a, q.b, q.c, q.d])) = decide (p ≠ q) := by rw [dqPl]; simp
theorem dqSpot (p q : Spot) : decide ([p.x, p.y, p.z, p.w] = [q.x, q.y, q.z, q.w]) = decide (p = q) := by cases p; cases q; simp
theorem dnSpot (p q : Spot) : (!decide ([p.x, p.y, p.z, p.w] = [q.x, q.y, q.z, q.w])) = decide (p ≠ q) := by rw [dqSpot]; simp
theorem dqV3 (p q : V3) : decide ([p.a, p.b, p.c] = [q.a, q.b, q.c]) = decide (p = q) := by cases p; cases q; simp
theorem dnV3 (p q : V3) : (!decide ([p.a, p.b, p.c] = [q.a, q.b, q.c])) = decide (p ≠ q) := by rw [dqV3]; simp
end Go.Proofs.Ytablmbhnimnccaa.Pw
namespace Go.Proofs.Ytablmbhnimnccaa.Pw
/-- A row that is being filled. -/
def fillL {α : Type} (f : α → PV) (a : List α) (i : Nat) (z : PV) : List PV := (a.take i).map f ++ List.replicate (a.length - i) z
section
variable {α : Type} {f : α → PV} {a : List α} {i : Nat} {z : PV} {q : α}
@[simp] theorem fill_len : (fillL f a i z).length = a.length := by
  simp only [fillL, List.length_append, List.length_map, List.length_take, List.length_replicate]; omega
theorem fill_get (h : a[i]? = some q) : (fillL f a i z)[i]? = some z := by
  have := (List.getElem?_eq_some_iff.1 h).1
  unfold fillL
  rw [List.getElem?_append_right (by simp only [List.length_map, List.length_take]; omega), List.getElem?_replicate, if_pos (by simp only [List.length_map, List.length_take]; omega)]
theorem fill_set (h : a[i]? = some q) : (fillL f a i z).set i (f q) = fillL f a (i + 1) z := by
  have hi := (List.getElem?_eq_some_iff.1 h).1
  apply List.ext_getElem?
  intro j
  unfold fillL
  by_cases hj : j = i
  · subst hj
    rw [List.getElem?_set_self (by simp; omega), List.getElem?_append_left (by simp; omega)]
    simp [h]
  · rw [List.getElem?_set_ne (Ne.symm hj)]
    rcases Nat.lt_or_ge j i with h1 | h1
    · rw [List.getElem?_append_left (by simp; omega), List.getElem?_append_left (by simp; omega)]
      simp [List.getElem?_take, h1, Nat.lt_succ_of_lt h1]
    · rw [List.getElem?_append_right (by simp; omega), List.getElem?_append_right (by simp; omega)]
      simp only [List.length_map, List.length_take]
      rw [List.getElem?_replicate, List.getElem?_replicate]
      by_cases h2 : j < a.length
      · rw [if_pos (by omega), if_pos (by omega)]
      · rw [if_neg (by omega), if_neg (by omega)]
theorem fill_done (h : i = a.length) : fillL f a i z = a.map f := by subst h; simp [fillL]
theorem fill_doneS {a : List Sol} (h : i = a.length) : fillL encS a i z = encSs a := by rw [fill_done h, encSs_map]
end
end Go.Proofs.Ytablmbhnimnccaa.Pw
