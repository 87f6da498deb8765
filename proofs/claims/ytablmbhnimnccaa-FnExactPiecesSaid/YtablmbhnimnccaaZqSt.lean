/- Pw, part 2: the frame's own state, and how a world shows it. No condition. -/
import Derived.Test.YtablmbhnimnccaaZqRep
namespace Go.Proofs.Ytablmbhnimnccaa.Pw

inductive AV where
  | p (x : PV)
  | ag (cs : List AV)
  | tu (vs : List AV)
  | fn (f : FuncId) (caps : List AV)
  | pt (t g off : Nat)
  | os (t g len : Nat)
  | pe (t g len i off : Nat)
  | un

inductive Blk where
  | var (cs : List AV) (sd : Bool)
  | arr (E sz : Nat) (xs : List PV) (m : Nat)

structure St where
  tm : Nat → AV
  bl : Nat → Nat → Option Blk
  gen : Nat → Nat

def upd {α : Type} (f : Nat → α) (d : Nat) (v : α) : Nat → α := fun t => if t = d then v else f t
theorem upd_same {α : Type} (f : Nat → α) (d : Nat) (v : α) : upd f d v d = v := by simp [upd]
theorem upd_ne {α : Type} (f : Nat → α) (d t : Nat) (v : α) (h : t ≠ d) : upd f d v t = f t := by simp [upd, h]

def upd2 {α : Type} (f : Nat → Nat → α) (d g : Nat) (v : α) : Nat → Nat → α := fun t k => if t = d then (if k = g then v else f t k) else f t k
theorem upd2_same {α : Type} (f : Nat → Nat → α) (d g : Nat) (v : α) : upd2 f d g v d g = v := by simp [upd2]
theorem upd2_ne {α : Type} (f : Nat → Nat → α) (d g t k : Nat) (v : α) (h : ¬ (t = d ∧ k = g)) : upd2 f d g v t k = f t k := by
  unfold upd2; split
  · split
    · exact absurd ⟨‹_›, ‹_›⟩ h
    · rfl
  · rfl

def St.put (S : St) (d : Option Tmp) (v : AV) : St :=
  match d with
  | some d => { S with tm := upd S.tm d v }
  | none => S
def St.setBl (S : St) (t g : Nat) (b : Blk) : St := { S with bl := upd2 S.bl t g (some b) }
def St.mk' (S : St) (t : Nat) (b : Blk) : St := { S with bl := upd2 S.bl t (S.gen t) (some b), gen := upd S.gen t (S.gen t + 1) }

@[simp] theorem St.put_bl (S : St) (d : Option Tmp) (v : AV) : (S.put d v).bl = S.bl := by cases d <;> rfl
@[simp] theorem St.put_gen (S : St) (d : Option Tmp) (v : AV) : (S.put d v).gen = S.gen := by cases d <;> rfl

def bOf : Value → Option Nat
  | .pointer (some a) => some a.block
  | .slice (some a) _ _ => some a.block
  | _ => none

section
variable (A : Nat → Nat → Prop) (F : Nat → Nat → Value) (S : St) (w : World)

mutual
inductive RepA : AV → Value → Prop
  | p (x : PV) (u : Value) (h : RepP A w x u) : RepA (.p x) u
  | ag (cs : List AV) (us : Array Value) (h : RepAs cs us.toList) : RepA (.ag cs) (.agg us)
  | tu (vs : List AV) (us : Array Value) (h : RepTu vs us.toList) : RepA (.tu vs) (.tuple us)
  | fn (f : FuncId) (caps : List AV) (us : Array Value) (h : RepAs caps us.toList) : RepA (.fn f caps) (.func (.func f) #[] us)
  | pt (t g off : Nat) (u : Value) (hg : g < S.gen t)
      (h : ∀ cs sd, S.bl t g = some (.var cs sd) → ∃ r, F t g = .pointer (some ⟨r, 0, none⟩) ∧ u = .pointer (some ⟨r, off, none⟩)) (h1 : u.oneCell' = true) : RepA (.pt t g off) u
  | os (t g len : Nat) (u : Value) (hg : g < S.gen t)
      (h : ∀ E sz xs m, S.bl t g = some (.arr E sz xs m) → len ≤ xs.length ∧ (xs.length = len → u = F t g)) (h1 : u.oneCell' = true) : RepA (.os t g len) u
  | pe (t g len i off : Nat) (u : Value) (hg : g < S.gen t)
      (h : ∀ E sz xs m, S.bl t g = some (.arr E sz xs m) → len ≤ xs.length ∧ (xs.length = len → ∃ r, bOf (F t g) = some r ∧ u = .pointer (some ⟨r, i * sz + off, none⟩))) (h1 : u.oneCell' = true) : RepA (.pe t g len i off) u
  | un (u : Value) : RepA .un u
inductive RepAs : List AV → List Value → Prop
  | nil : RepAs [] []
  | cons (x : AV) (u : Value) (xs : List AV) (us : List Value) (h : RepA x u) (h1 : u.oneCell' = true) (hs : RepAs xs us) : RepAs (x :: xs) (u :: us)
inductive RepTu : List AV → List Value → Prop
  | nil : RepTu [] []
  | cons (x : AV) (u : Value) (xs : List AV) (us : List Value) (h : RepA x u) (hs : RepTu xs us) : RepTu (x :: xs) (u :: us)
end

def BlkOk (t g : Nat) : Blk → Prop
  | .var cs sd => ∃ r us T, F t g = .pointer (some ⟨r, 0, none⟩) ∧ w.heap[r]? = some (.cells us T (0, 0)) ∧ RepAs A F S w cs us.toList ∧
      (sd = false → ∀ o, ¬ A r o) ∧ (sd = true → ∀ o, o < cs.length → A r o)
  | .arr E sz xs m => ∃ us, w.ownsRow 0 E sz (F t g) xs.length us ∧ RepPs A w (flat xs) us ∧ (∀ x ∈ xs, x.size = sz) ∧ m ≤ xs.length ∧
      ∀ r, bOf (F t g) = some r → ∀ o, A r o → o < m * sz
end

/-- Where a frame began: its world, the cells that stay, the blocks that it was handed. -/
structure Entry where
  w : World
  A : Nat → Nat → Prop
  R : List Nat
  par : Nat → Option Value

structure Inv (E : Entry) (N : Nat) (S : St) (A : Nat → Nat → Prop) (F : Nat → Nat → Value) (a : Act) (w : World) : Prop where
  tmps : a.tmps.size = N
  defers : a.defers = []
  tm : ∀ t, RepA A F S w (S.tm t) (a.tmps.getD t undef)
  lt : ∀ t g b, S.bl t g = some b → g < S.gen t
  bl : ∀ t g b, S.bl t g = some b → BlkOk A F S w t g b
  inj : ∀ t g b t' g' b' r, S.bl t g = some b → S.bl t' g' = some b' → bOf (F t g) = some r → bOf (F t' g') = some r → t = t' ∧ g = g'
  Alt : ∀ b o, A b o → b < w.heap.size
  os : w.os = E.w.os
  tape : w.tape = E.w.tape
  output : w.output = E.w.output
  size : E.w.heap.size ≤ w.heap.size
  old : ∀ b, b < E.w.heap.size → b ∉ E.R → w.heap[b]? = E.w.heap[b]?
  keeps : Keeps E.A A E.w w
  Anew : ∀ b o, A b o → b < E.w.heap.size → E.A b o ∨ b ∈ E.R
  own : ∀ t g b r, S.bl t g = some b → bOf (F t g) = some r → E.w.heap.size ≤ r ∨ r ∈ E.R
  pgen : ∀ p v, E.par p = some v → 0 < S.gen p
  par : ∀ p v cs sd, E.par p = some v → S.bl p 0 = some (.var cs sd) → F p 0 = v

/-- How one state may follow another: what its values show stays. -/
structure Evo (A A' : Nat → Nat → Prop) (F F' : Nat → Nat → Value) (S S' : St) (w w' : World) : Prop where
  keeps : Keeps A A' w w'
  gen : ∀ t, S.gen t ≤ S'.gen t
  var : ∀ t g cs' sd', g < S.gen t → S'.bl t g = some (.var cs' sd') → ∃ cs sd, S.bl t g = some (.var cs sd) ∧ F' t g = F t g
  arr : ∀ t g E sz xs' m', g < S.gen t → S'.bl t g = some (.arr E sz xs' m') → ∃ xs m, S.bl t g = some (.arr E sz xs m) ∧ xs.length ≤ xs'.length ∧ (xs'.length = xs.length → F' t g = F t g)

section
variable {A A' : Nat → Nat → Prop} {F F' : Nat → Nat → Value} {S S' : St} {w w' : World}
mutual
theorem RepA.evo (e : Evo A A' F F' S S' w w') : ∀ {x : AV} {u : Value}, RepA A F S w x u → RepA A' F' S' w' x u
  | _, _, .p x u h => .p x u (h.mono e.keeps)
  | _, _, .ag cs us h => .ag cs us (RepAs.evo e h)
  | _, _, .tu vs us h => .tu vs us (RepTu.evo e h)
  | _, _, .fn f caps us h => .fn f caps us (RepAs.evo e h)
  | _, _, .pt t g off u hg h h1 => .pt t g off u (Nat.lt_of_lt_of_le hg (e.gen t)) (fun cs sd hb => by
      obtain ⟨cs0, sd0, hb0, hF⟩ := e.var t g cs sd hg hb
      rw [hF]; exact h cs0 sd0 hb0) h1
  | _, _, .os t g len u hg h h1 => .os t g len u (Nat.lt_of_lt_of_le hg (e.gen t)) (fun E sz xs m hb => by
      obtain ⟨xs0, m0, hb0, hl, hF⟩ := e.arr t g E sz xs m hg hb
      obtain ⟨h2, h3⟩ := h E sz xs0 m0 hb0
      exact ⟨by omega, fun hq => by rw [hF (by omega)]; exact h3 (by omega)⟩) h1
  | _, _, .pe t g len i off u hg h h1 => .pe t g len i off u (Nat.lt_of_lt_of_le hg (e.gen t)) (fun E sz xs m hb => by
      obtain ⟨xs0, m0, hb0, hl, hF⟩ := e.arr t g E sz xs m hg hb
      obtain ⟨h2, h3⟩ := h E sz xs0 m0 hb0
      exact ⟨by omega, fun hq => by rw [hF (by omega)]; exact h3 (by omega)⟩) h1
  | _, _, .un u => .un u
theorem RepAs.evo (e : Evo A A' F F' S S' w w') : ∀ {xs : List AV} {us : List Value}, RepAs A F S w xs us → RepAs A' F' S' w' xs us
  | _, _, .nil => .nil
  | _, _, .cons x u xs us h h1 hs => .cons x u xs us (RepA.evo e h) h1 (RepAs.evo e hs)
theorem RepTu.evo (e : Evo A A' F F' S S' w w') : ∀ {xs : List AV} {us : List Value}, RepTu A F S w xs us → RepTu A' F' S' w' xs us
  | _, _, .nil => .nil
  | _, _, .cons x u xs us h hs => .cons x u xs us (RepA.evo e h) (RepTu.evo e hs)
end

theorem Evo.refl : Evo A A F F S S w w := ⟨.refl _ _, fun _ => Nat.le_refl _, fun _ _ cs sd _ h => ⟨cs, sd, h, rfl⟩, fun _ _ _ _ xs m _ h => ⟨xs, m, h, Nat.le_refl _, fun _ => rfl⟩⟩

theorem RepAs.length {xs : List AV} {us : List Value} (h : RepAs A F S w xs us) : us.length = xs.length := by
  induction xs generalizing us with
  | nil => cases h; rfl
  | cons x xs ih => cases h with | cons _ u _ us h h1 hs => simp [ih hs]
theorem RepAs.one {xs : List AV} {us : List Value} (h : RepAs A F S w xs us) : ∀ u ∈ us, u.oneCell' = true := by
  induction xs generalizing us with
  | nil => cases h; simp
  | cons x xs ih =>
    cases h with
    | cons _ u _ us h h1 hs =>
      intro v hv
      rcases List.mem_cons.1 hv with rfl | hv
      · exact h1
      · exact ih hs v hv
theorem RepAs.get {xs : List AV} {us : List Value} (h : RepAs A F S w xs us) {i : Nat} {x : AV} (hx : xs[i]? = some x) : ∃ u, us[i]? = some u ∧ RepA A F S w x u ∧ u.oneCell' = true := by
  induction xs generalizing us i with
  | nil => simp at hx
  | cons y xs ih =>
    cases h with
    | cons _ u _ us h h1 hs =>
      cases i with
      | zero => simp at hx; subst hx; exact ⟨u, by simp, h, h1⟩
      | succ i => simpa using ih hs (by simpa using hx)
theorem RepAs.take {xs : List AV} {us : List Value} (h : RepAs A F S w xs us) (n : Nat) : RepAs A F S w (xs.take n) (us.take n) := by
  induction xs generalizing us n with
  | nil => cases h; simpa using RepAs.nil
  | cons x xs ih =>
    cases h with
    | cons _ u _ us h h1 hs =>
      cases n with
      | zero => simpa using RepAs.nil
      | succ n => simpa using RepAs.cons _ _ _ _ h h1 (ih hs n)
theorem RepAs.drop {xs : List AV} {us : List Value} (h : RepAs A F S w xs us) (n : Nat) : RepAs A F S w (xs.drop n) (us.drop n) := by
  induction xs generalizing us n with
  | nil => cases h; simpa using RepAs.nil
  | cons x xs ih =>
    cases h with
    | cons _ u _ us h h1 hs =>
      cases n with
      | zero => simpa using RepAs.cons _ _ _ _ h h1 hs
      | succ n => simpa using ih hs n
theorem RepAs.append {xs ys : List AV} {us vs : List Value} (h : RepAs A F S w xs us) (k : RepAs A F S w ys vs) : RepAs A F S w (xs ++ ys) (us ++ vs) := by
  induction xs generalizing us with
  | nil => cases h; exact k
  | cons x xs ih => cases h with | cons _ u _ us h h1 hs => exact .cons _ _ _ _ h h1 (ih hs)
theorem RepAs.of_p {cs : List PV} {us : List Value} (h : RepPs A w cs us) : RepAs A F S w (cs.map .p) us := by
  induction cs generalizing us with
  | nil => cases h; exact .nil
  | cons x xs ih => cases h with | cons _ u _ us h h1 hs => exact .cons _ _ _ _ (.p _ _ h) h1 (ih hs)
theorem RepAs.to_p {cs : List PV} {us : List Value} (h : RepAs A F S w (cs.map .p) us) : RepPs A w cs us := by
  induction cs generalizing us with
  | nil => cases h; exact .nil
  | cons x xs ih =>
    cases h with
    | cons _ u _ us h h1 hs => cases h with | p _ _ h => exact .cons _ _ _ _ h h1 (ih hs)
end
end Go.Proofs.Ytablmbhnimnccaa.Pw
