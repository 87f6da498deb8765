/- Pw, part 1: plain values and how they lie in memory. No condition. -/
import Derived.Laws.AppendOwn
import Derived.Below
namespace Go.Proofs.Ytablmbhnimnccaa.Pw

/-- A plain value: no name of a block of the frame's own. -/
inductive PV where
  | lit (v : Value)
  | sl (sz : Nat) (xs : List PV)
  | ag (cs : List PV)
  | fn (f : FuncId) (caps : List PV)
  | ro (x : PV) (off : Nat)

def PV.cells : PV → List PV
  | .ag cs => cs
  | x => [x]

def PV.size (x : PV) : Nat := x.cells.length

def flat : List PV → List PV
  | [] => []
  | x :: xs => x.cells ++ flat xs

mutual
inductive RepP (A : Nat → Nat → Prop) (w : World) : PV → Value → Prop
  | lit (v : Value) : RepP A w (.lit v) v
  | ag (cs : List PV) (us : Array Value) (h : RepPs A w cs us.toList) : RepP A w (.ag cs) (.agg us)
  | snil (sz c : Nat) (hc : c ≤ maxLen) (a : Option Addr) : RepP A w (.sl sz []) (.slice a 0 c)
  | sl (sz : Nat) (xs : List PV) (ad : Addr) (c : Nat) (hl : xs.length ≤ c) (hc : c ≤ maxLen) (hs : ∀ x ∈ xs, x.size = sz) (hsp : ad.spot = none)
      (h : RepCells A w ad.block ad.off (flat xs)) : RepP A w (.sl sz xs) (.slice (some ad) xs.length c)
  | fn (f : FuncId) (caps : List PV) (us : Array Value) (h : RepPs A w caps us.toList) : RepP A w (.fn f caps) (.func (.func f) #[] us)
  | ro (x : PV) (off b o : Nat) (h : RepCells A w b o x.cells) : RepP A w (.ro x off) (.pointer (some ⟨b, o + off, none⟩))
inductive RepPs (A : Nat → Nat → Prop) (w : World) : List PV → List Value → Prop
  | nil : RepPs A w [] []
  | cons (x : PV) (u : Value) (xs : List PV) (us : List Value) (h : RepP A w x u) (h1 : u.oneCell' = true) (hs : RepPs A w xs us) : RepPs A w (x :: xs) (u :: us)
inductive RepCells (A : Nat → Nat → Prop) (w : World) : Nat → Nat → List PV → Prop
  | nil (b o : Nat) : RepCells A w b o []
  | cons (b o : Nat) (x : PV) (u : Value) (xs : List PV) (hA : A b o) (hc : w.cell? ⟨b, o, none⟩ = some u) (h : RepP A w x u) (h1 : u.oneCell' = true)
      (hs : RepCells A w b (o + 1) xs) : RepCells A w b o (x :: xs)
end

/-- What holds in a wider world, in which no cell of A has turned. -/
structure Keeps (A A' : Nat → Nat → Prop) (w w' : World) : Prop where
  sub : ∀ b o, A b o → A' b o
  cell : ∀ b o, A b o → w'.cell? ⟨b, o, none⟩ = w.cell? ⟨b, o, none⟩

section
variable {A A' : Nat → Nat → Prop} {w w' : World}

mutual
theorem RepP.mono (k : Keeps A A' w w') : ∀ {x : PV} {u : Value}, RepP A w x u → RepP A' w' x u
  | _, _, .lit v => .lit v
  | _, _, .ag cs us h => .ag cs us (RepPs.mono k h)
  | _, _, .snil sz c hc a => .snil sz c hc a
  | _, _, .sl sz xs ad c hl hc hs hsp h => .sl sz xs ad c hl hc hs hsp (RepCells.mono k h)
  | _, _, .fn f caps us h => .fn f caps us (RepPs.mono k h)
  | _, _, .ro x off b o h => .ro x off b o (RepCells.mono k h)
theorem RepPs.mono (k : Keeps A A' w w') : ∀ {xs : List PV} {us : List Value}, RepPs A w xs us → RepPs A' w' xs us
  | _, _, .nil => .nil
  | _, _, .cons x u xs us h h1 hs => .cons x u xs us (RepP.mono k h) h1 (RepPs.mono k hs)
theorem RepCells.mono (k : Keeps A A' w w') : ∀ {b o : Nat} {xs : List PV}, RepCells A w b o xs → RepCells A' w' b o xs
  | _, _, _, .nil b o => .nil b o
  | _, _, _, .cons b o x u xs hA hc h h1 hs => .cons b o x u xs (k.sub _ _ hA) ((k.cell _ _ hA).trans hc) (RepP.mono k h) h1 (RepCells.mono k hs)
end

theorem Keeps.refl (A : Nat → Nat → Prop) (w : World) : Keeps A A w w := ⟨fun _ _ h => h, fun _ _ _ => rfl⟩
theorem Keeps.trans {A1 A2 A3 : Nat → Nat → Prop} {w1 w2 w3 : World} (h : Keeps A1 A2 w1 w2) (k : Keeps A2 A3 w2 w3) : Keeps A1 A3 w1 w3 :=
  ⟨fun b o a => k.sub b o (h.sub b o a), fun b o a => (k.cell b o (h.sub b o a)).trans (h.cell b o a)⟩

theorem RepPs.length {xs : List PV} {us : List Value} (h : RepPs A w xs us) : us.length = xs.length := by
  induction xs generalizing us with
  | nil => cases h; rfl
  | cons x xs ih => cases h with | cons _ u _ us h h1 hs => simp [ih hs]

theorem RepPs.one {xs : List PV} {us : List Value} (h : RepPs A w xs us) : ∀ u ∈ us, u.oneCell' = true := by
  induction xs generalizing us with
  | nil => cases h; simp
  | cons x xs ih =>
    cases h with
    | cons _ u _ us h h1 hs =>
      intro v hv
      rcases List.mem_cons.1 hv with rfl | hv
      · exact h1
      · exact ih hs v hv

theorem RepPs.append {xs ys : List PV} {us vs : List Value} (h : RepPs A w xs us) (k : RepPs A w ys vs) : RepPs A w (xs ++ ys) (us ++ vs) := by
  induction xs generalizing us with
  | nil => cases h; exact k
  | cons x xs ih => cases h with | cons _ u _ us h h1 hs => exact .cons _ _ _ _ h h1 (ih hs)

theorem RepPs.split {xs ys : List PV} {us : List Value} (h : RepPs A w (xs ++ ys) us) : RepPs A w xs (us.take xs.length) ∧ RepPs A w ys (us.drop xs.length) := by
  induction xs generalizing us with
  | nil => exact ⟨by simpa using RepPs.nil, by simpa using h⟩
  | cons x xs ih =>
    cases h with
    | cons _ u _ us h h1 hs =>
      obtain ⟨h2, h3⟩ := ih hs
      exact ⟨by simpa using RepPs.cons _ _ _ _ h h1 h2, by simpa using h3⟩

theorem RepPs.take {xs : List PV} {us : List Value} (h : RepPs A w xs us) (n : Nat) : RepPs A w (xs.take n) (us.take n) := by
  induction xs generalizing us n with
  | nil => cases h; simpa using RepPs.nil
  | cons x xs ih =>
    cases h with
    | cons _ u _ us h h1 hs =>
      cases n with
      | zero => simpa using RepPs.nil
      | succ n => simpa using RepPs.cons _ _ _ _ h h1 (ih hs n)

theorem RepPs.drop {xs : List PV} {us : List Value} (h : RepPs A w xs us) (n : Nat) : RepPs A w (xs.drop n) (us.drop n) := by
  induction xs generalizing us n with
  | nil => cases h; simpa using RepPs.nil
  | cons x xs ih =>
    cases h with
    | cons _ u _ us h h1 hs =>
      cases n with
      | zero => simpa using RepPs.cons _ _ _ _ h h1 hs
      | succ n => simpa using ih hs n

theorem RepPs.get {xs : List PV} {us : List Value} (h : RepPs A w xs us) {i : Nat} {x : PV} (hx : xs[i]? = some x) : ∃ u, us[i]? = some u ∧ RepP A w x u ∧ u.oneCell' = true := by
  induction xs generalizing us i with
  | nil => simp at hx
  | cons y xs ih =>
    cases h with
    | cons _ u _ us h h1 hs =>
      cases i with
      | zero => simp at hx; subst hx; exact ⟨u, by simp, h, h1⟩
      | succ i => simpa using ih hs (by simpa using hx)

theorem RepCells.append {b o : Nat} {xs ys : List PV} (h : RepCells A w b o xs) (k : RepCells A w b (o + xs.length) ys) : RepCells A w b o (xs ++ ys) := by
  induction xs generalizing o with
  | nil => simpa using k
  | cons x xs ih =>
    cases h with
    | cons _ _ _ u _ hA hc h h1 hs => exact .cons _ _ _ _ _ hA hc h h1 (ih hs (by simpa [Nat.add_assoc, Nat.add_comm, Nat.add_left_comm] using k))

theorem RepCells.split {b o : Nat} {xs ys : List PV} (h : RepCells A w b o (xs ++ ys)) : RepCells A w b o xs ∧ RepCells A w b (o + xs.length) ys := by
  induction xs generalizing o with
  | nil => exact ⟨.nil _ _, by simpa using h⟩
  | cons x xs ih =>
    cases h with
    | cons _ _ _ u _ hA hc h h1 hs =>
      obtain ⟨h2, h3⟩ := ih hs
      exact ⟨.cons _ _ _ _ _ hA hc h h1 h2, by simpa [Nat.add_assoc, Nat.add_comm, Nat.add_left_comm] using h3⟩

/-- The cells as they are read. -/
theorem RepCells.vals {b o : Nat} {xs : List PV} (h : RepCells A w b o xs) :
    ∃ us, RepPs A w xs us ∧ (∀ j u, us[j]? = some u → w.cell? ⟨b, o + j, none⟩ = some u) ∧ (∀ j, j < xs.length → A b (o + j)) := by
  induction xs generalizing o with
  | nil => exact ⟨[], .nil, by simp, by simp⟩
  | cons x xs ih =>
    cases h with
    | cons _ _ _ u _ hA hc h h1 hs =>
      obtain ⟨us, h2, h3, h4⟩ := ih hs
      refine ⟨u :: us, .cons _ _ _ _ h h1 h2, ?_, ?_⟩
      · intro j v hj
        cases j with
        | zero => simp at hj; subst hj; exact hc
        | succ j => simp at hj; have := h3 j v hj; rwa [Nat.add_right_comm, Nat.add_assoc] at this
      · intro j hj
        cases j with
        | zero => exact hA
        | succ j => have := h4 j (by simpa using hj); rwa [Nat.add_right_comm, Nat.add_assoc] at this

theorem RepCells.of_vals {b o : Nat} {xs : List PV} {us : List Value} (h : RepPs A w xs us) (hc : ∀ j u, us[j]? = some u → w.cell? ⟨b, o + j, none⟩ = some u)
    (hA : ∀ j, j < xs.length → A b (o + j)) : RepCells A w b o xs := by
  induction xs generalizing o us with
  | nil => exact .nil _ _
  | cons x xs ih =>
    cases h with
    | cons _ u _ us h h1 hs =>
      refine .cons _ _ _ u _ (hA 0 (by simp)) (hc 0 u (by simp)) h h1 (ih hs (fun j v hj => ?_) (fun j hj => ?_))
      · have := hc (j + 1) v (by simpa using hj); rwa [← Nat.add_assoc, Nat.add_right_comm] at this
      · have := hA (j + 1) (by simpa using hj); rwa [← Nat.add_assoc, Nat.add_right_comm] at this

theorem flat_append (xs ys : List PV) : flat (xs ++ ys) = flat xs ++ flat ys := by
  induction xs with
  | nil => rfl
  | cons x xs ih => simp [flat, ih]

theorem flat_length {sz : Nat} {xs : List PV} (h : ∀ x ∈ xs, x.size = sz) : (flat xs).length = xs.length * sz := by
  induction xs with
  | nil => simp [flat]
  | cons x xs ih =>
    have h1 : x.cells.length = sz := h x (by simp)
    have h2 := ih (fun y hy => h y (by simp [hy]))
    simp only [flat, List.length_append, h1, h2, List.length_cons, Nat.succ_mul]
    omega

theorem flat_split {sz : Nat} {xs : List PV} (h : ∀ x ∈ xs, x.size = sz) {i : Nat} {x : PV} (hx : xs[i]? = some x) :
    ∃ l r, flat xs = l ++ x.cells ++ r ∧ l.length = i * sz := by
  induction xs generalizing i with
  | nil => simp at hx
  | cons y xs ih =>
    cases i with
    | zero => simp at hx; subst hx; exact ⟨[], flat xs, by simp [flat], by simp⟩
    | succ i =>
      obtain ⟨l, r, e, hl⟩ := ih (fun z hz => h z (by simp [hz])) (i := i) (by simpa using hx)
      have h1 : y.cells.length = sz := h y (by simp)
      refine ⟨y.cells ++ l, r, by simp [flat, e], ?_⟩
      simp only [List.length_append, h1, hl, Nat.succ_mul]
      omega

/-- A slice's elements, from one on. -/
theorem RepCells.elem {sz b o : Nat} {xs : List PV} (hs : ∀ x ∈ xs, x.size = sz) (h : RepCells A w b o (flat xs)) {i : Nat} {x : PV} (hx : xs[i]? = some x) :
    RepCells A w b (o + i * sz) x.cells := by
  obtain ⟨l, r, e, hl⟩ := flat_split hs hx
  rw [e] at h
  have h1 := h.split.1.split.2
  rwa [hl] at h1

theorem RepCells.drop {sz b o : Nat} {xs : List PV} (hs : ∀ x ∈ xs, x.size = sz) (h : RepCells A w b o (flat xs)) (k : Nat) (hk : k ≤ xs.length) :
    RepCells A w b (o + k * sz) (flat (xs.drop k)) := by
  have e : flat xs = flat (xs.take k) ++ flat (xs.drop k) := by rw [← flat_append, List.take_append_drop]
  rw [e] at h
  have h1 := h.split.2
  rwa [flat_length (sz := sz) (fun x hx => hs x (List.mem_of_mem_take hx)), List.length_take, Nat.min_eq_left hk] at h1

theorem RepCells.take {b o : Nat} {xs : List PV} (h : RepCells A w b o (flat xs)) (k : Nat) : RepCells A w b o (flat (xs.take k)) := by
  have e : flat xs = flat (xs.take k) ++ flat (xs.drop k) := by rw [← flat_append, List.take_append_drop]
  rw [e] at h
  exact h.split.1
end
end Go.Proofs.Ytablmbhnimnccaa.Pw
/- Pw, part 2: the frame's own state, and how a world shows it. No condition. -/
namespace Go.Proofs.Ytablmbhnimnccaa.Pw

inductive AV where
  | p (x : PV)
  | ag (cs : List AV)
  | tu (vs : List AV)
  | fn (f : FuncId) (caps : List AV)
  | pt (t g off : Nat)
  | os (t g len : Nat)
  | pe (t g len i off : Nat)
  | un

inductive Blk where
  | var (cs : List AV) (sd : Bool)
  | arr (E sz : Nat) (xs : List PV) (m : Nat)
  | bld (T g1 n : Nat)
/-- Blocks to which a pointer leads. -/
def Blk.isP : Blk → Bool
  | .arr _ _ _ _ => false
  | _ => true

structure St where
  tm : Nat → AV
  bl : Nat → Nat → Option Blk
  gen : Nat → Nat

def upd {α : Type} (f : Nat → α) (d : Nat) (v : α) : Nat → α := fun t => if t = d then v else f t
theorem upd_same {α : Type} (f : Nat → α) (d : Nat) (v : α) : upd f d v d = v := by simp [upd]
theorem upd_ne {α : Type} (f : Nat → α) (d t : Nat) (v : α) (h : t ≠ d) : upd f d v t = f t := by simp [upd, h]

def upd2 {α : Type} (f : Nat → Nat → α) (d g : Nat) (v : α) : Nat → Nat → α := fun t k => if t = d then (if k = g then v else f t k) else f t k
theorem upd2_same {α : Type} (f : Nat → Nat → α) (d g : Nat) (v : α) : upd2 f d g v d g = v := by simp [upd2]
theorem upd2_ne {α : Type} (f : Nat → Nat → α) (d g t k : Nat) (v : α) (h : ¬ (t = d ∧ k = g)) : upd2 f d g v t k = f t k := by
  unfold upd2; split
  · split
    · exact absurd ⟨‹_›, ‹_›⟩ h
    · rfl
  · rfl

def St.put (S : St) (d : Option Tmp) (v : AV) : St :=
  match d with
  | some d => { S with tm := upd S.tm d v }
  | none => S
def St.setBl (S : St) (t g : Nat) (b : Blk) : St := { S with bl := upd2 S.bl t g (some b) }
def St.mk' (S : St) (t : Nat) (b : Blk) : St := { S with bl := upd2 S.bl t (S.gen t) (some b), gen := upd S.gen t (S.gen t + 1) }

@[simp] theorem St.put_bl (S : St) (d : Option Tmp) (v : AV) : (S.put d v).bl = S.bl := by cases d <;> rfl
@[simp] theorem St.put_gen (S : St) (d : Option Tmp) (v : AV) : (S.put d v).gen = S.gen := by cases d <;> rfl

def bOf : Value → Option Nat
  | .pointer (some a) => some a.block
  | .slice (some a) _ _ => some a.block
  | _ => none

section
variable (A : Nat → Nat → Prop) (F : Nat → Nat → Value) (S : St) (w : World)

mutual
inductive RepA : AV → Value → Prop
  | p (x : PV) (u : Value) (h : RepP A w x u) : RepA (.p x) u
  | ag (cs : List AV) (us : Array Value) (h : RepAs cs us.toList) : RepA (.ag cs) (.agg us)
  | tu (vs : List AV) (us : Array Value) (h : RepTu vs us.toList) : RepA (.tu vs) (.tuple us)
  | fn (f : FuncId) (caps : List AV) (us : Array Value) (h : RepAs caps us.toList) : RepA (.fn f caps) (.func (.func f) #[] us)
  | pt (t g off : Nat) (u : Value) (hg : g < S.gen t)
      (h : ∀ b, S.bl t g = some b → b.isP = true → ∃ r, F t g = .pointer (some ⟨r, 0, none⟩) ∧ u = .pointer (some ⟨r, off, none⟩)) (h1 : u.oneCell' = true) : RepA (.pt t g off) u
  | os (t g len : Nat) (u : Value) (hg : g < S.gen t)
      (h : ∀ E sz xs m, S.bl t g = some (.arr E sz xs m) → len ≤ xs.length ∧ (xs.length = len → u = F t g)) (h1 : u.oneCell' = true) : RepA (.os t g len) u
  | pe (t g len i off : Nat) (u : Value) (hg : g < S.gen t)
      (h : ∀ E sz xs m, S.bl t g = some (.arr E sz xs m) → len ≤ xs.length ∧ (xs.length = len → ∃ r, bOf (F t g) = some r ∧ u = .pointer (some ⟨r, i * sz + off, none⟩))) (h1 : u.oneCell' = true) : RepA (.pe t g len i off) u
  | un (u : Value) : RepA .un u
inductive RepAs : List AV → List Value → Prop
  | nil : RepAs [] []
  | cons (x : AV) (u : Value) (xs : List AV) (us : List Value) (h : RepA x u) (h1 : u.oneCell' = true) (hs : RepAs xs us) : RepAs (x :: xs) (u :: us)
inductive RepTu : List AV → List Value → Prop
  | nil : RepTu [] []
  | cons (x : AV) (u : Value) (xs : List AV) (us : List Value) (h : RepA x u) (hs : RepTu xs us) : RepTu (x :: xs) (u :: us)
end

def BlkOk (t g : Nat) : Blk → Prop
  | .var cs sd => ∃ r us T, F t g = .pointer (some ⟨r, 0, none⟩) ∧ w.heap[r]? = some (.cells us T (0, 0)) ∧ RepAs A F S w cs us.toList ∧
      (sd = false → ∀ o, ¬ A r o) ∧ (sd = true → ∀ o, o < cs.length → A r o)
  | .arr E sz xs m => ∃ us, w.ownsRow 0 E sz (F t g) xs.length us ∧ RepPs A w (flat xs) us ∧ (∀ x ∈ xs, x.size = sz) ∧ m ≤ xs.length ∧
      ∀ r, bOf (F t g) = some r → ∀ o, A r o → o < m * sz
  | .bld T g1 n => ∃ r p u, F t g = .pointer (some ⟨r, 0, none⟩) ∧ w.heap[r]? = some (.cells #[p, u] T (0, 0)) ∧ (p = .pointer none ∨ p = .pointer (some ⟨r, 0, none⟩)) ∧ RepA A F S w (.os t g1 n) u ∧ ∀ o, ¬ A r o
end

/-- Where a frame began: its world, the cells that stay, the blocks that it was handed. -/
structure Entry where
  w : World
  A : Nat → Nat → Prop
  R : List Nat
  par : Nat → Option Value

structure Inv (E : Entry) (N : Nat) (S : St) (A : Nat → Nat → Prop) (F : Nat → Nat → Value) (a : Act) (w : World) : Prop where
  tmps : a.tmps.size = N
  defers : a.defers = []
  tm : ∀ t, RepA A F S w (S.tm t) (a.tmps.getD t undef)
  lt : ∀ t g b, S.bl t g = some b → g < S.gen t
  bl : ∀ t g b, S.bl t g = some b → BlkOk A F S w t g b
  inj : ∀ t g b t' g' b' r, S.bl t g = some b → S.bl t' g' = some b' → bOf (F t g) = some r → bOf (F t' g') = some r → t = t' ∧ g = g'
  Alt : ∀ b o, A b o → b < w.heap.size
  os : w.os = E.w.os
  tape : w.tape = E.w.tape
  output : w.output = E.w.output
  size : E.w.heap.size ≤ w.heap.size
  old : ∀ b, b < E.w.heap.size → b ∉ E.R → w.heap[b]? = E.w.heap[b]?
  keeps : Keeps E.A A E.w w
  Anew : ∀ b o, A b o → b < E.w.heap.size → E.A b o ∨ b ∈ E.R
  own : ∀ t g b r, S.bl t g = some b → bOf (F t g) = some r → E.w.heap.size ≤ r ∨ r ∈ E.R
  pgen : ∀ p v, E.par p = some v → 0 < S.gen p
  par : ∀ p v b, E.par p = some v → S.bl p 0 = some b → b.isP = true → F p 0 = v

/-- How one state may follow another: what its values show stays. -/
structure Evo (A A' : Nat → Nat → Prop) (F F' : Nat → Nat → Value) (S S' : St) (w w' : World) : Prop where
  keeps : Keeps A A' w w'
  gen : ∀ t, S.gen t ≤ S'.gen t
  var : ∀ t g b', g < S.gen t → S'.bl t g = some b' → b'.isP = true → ∃ b, S.bl t g = some b ∧ b.isP = true ∧ F' t g = F t g
  arr : ∀ t g E sz xs' m', g < S.gen t → S'.bl t g = some (.arr E sz xs' m') → ∃ xs m, S.bl t g = some (.arr E sz xs m) ∧ xs.length ≤ xs'.length ∧ (xs'.length = xs.length → F' t g = F t g)

section
variable {A A' : Nat → Nat → Prop} {F F' : Nat → Nat → Value} {S S' : St} {w w' : World}
mutual
theorem RepA.evo (e : Evo A A' F F' S S' w w') : ∀ {x : AV} {u : Value}, RepA A F S w x u → RepA A' F' S' w' x u
  | _, _, .p x u h => .p x u (h.mono e.keeps)
  | _, _, .ag cs us h => .ag cs us (RepAs.evo e h)
  | _, _, .tu vs us h => .tu vs us (RepTu.evo e h)
  | _, _, .fn f caps us h => .fn f caps us (RepAs.evo e h)
  | _, _, .pt t g off u hg h h1 => .pt t g off u (Nat.lt_of_lt_of_le hg (e.gen t)) (fun b hb hp => by
      obtain ⟨b0, hb0, hp0, hF⟩ := e.var t g b hg hb hp
      rw [hF]; exact h b0 hb0 hp0) h1
  | _, _, .os t g len u hg h h1 => .os t g len u (Nat.lt_of_lt_of_le hg (e.gen t)) (fun E sz xs m hb => by
      obtain ⟨xs0, m0, hb0, hl, hF⟩ := e.arr t g E sz xs m hg hb
      obtain ⟨h2, h3⟩ := h E sz xs0 m0 hb0
      exact ⟨by omega, fun hq => by rw [hF (by omega)]; exact h3 (by omega)⟩) h1
  | _, _, .pe t g len i off u hg h h1 => .pe t g len i off u (Nat.lt_of_lt_of_le hg (e.gen t)) (fun E sz xs m hb => by
      obtain ⟨xs0, m0, hb0, hl, hF⟩ := e.arr t g E sz xs m hg hb
      obtain ⟨h2, h3⟩ := h E sz xs0 m0 hb0
      exact ⟨by omega, fun hq => by rw [hF (by omega)]; exact h3 (by omega)⟩) h1
  | _, _, .un u => .un u
theorem RepAs.evo (e : Evo A A' F F' S S' w w') : ∀ {xs : List AV} {us : List Value}, RepAs A F S w xs us → RepAs A' F' S' w' xs us
  | _, _, .nil => .nil
  | _, _, .cons x u xs us h h1 hs => .cons x u xs us (RepA.evo e h) h1 (RepAs.evo e hs)
theorem RepTu.evo (e : Evo A A' F F' S S' w w') : ∀ {xs : List AV} {us : List Value}, RepTu A F S w xs us → RepTu A' F' S' w' xs us
  | _, _, .nil => .nil
  | _, _, .cons x u xs us h hs => .cons x u xs us (RepA.evo e h) (RepTu.evo e hs)
end

theorem Evo.refl : Evo A A F F S S w w := ⟨.refl _ _, fun _ => Nat.le_refl _, fun _ _ b _ h hp => ⟨b, h, hp, rfl⟩, fun _ _ _ _ xs m _ h => ⟨xs, m, h, Nat.le_refl _, fun _ => rfl⟩⟩

theorem RepAs.length {xs : List AV} {us : List Value} (h : RepAs A F S w xs us) : us.length = xs.length := by
  induction xs generalizing us with
  | nil => cases h; rfl
  | cons x xs ih => cases h with | cons _ u _ us h h1 hs => simp [ih hs]
theorem RepAs.one {xs : List AV} {us : List Value} (h : RepAs A F S w xs us) : ∀ u ∈ us, u.oneCell' = true := by
  induction xs generalizing us with
  | nil => cases h; simp
  | cons x xs ih =>
    cases h with
    | cons _ u _ us h h1 hs =>
      intro v hv
      rcases List.mem_cons.1 hv with rfl | hv
      · exact h1
      · exact ih hs v hv
theorem RepAs.get {xs : List AV} {us : List Value} (h : RepAs A F S w xs us) {i : Nat} {x : AV} (hx : xs[i]? = some x) : ∃ u, us[i]? = some u ∧ RepA A F S w x u ∧ u.oneCell' = true := by
  induction xs generalizing us i with
  | nil => simp at hx
  | cons y xs ih =>
    cases h with
    | cons _ u _ us h h1 hs =>
      cases i with
      | zero => simp at hx; subst hx; exact ⟨u, by simp, h, h1⟩
      | succ i => simpa using ih hs (by simpa using hx)
theorem RepAs.take {xs : List AV} {us : List Value} (h : RepAs A F S w xs us) (n : Nat) : RepAs A F S w (xs.take n) (us.take n) := by
  induction xs generalizing us n with
  | nil => cases h; simpa using RepAs.nil
  | cons x xs ih =>
    cases h with
    | cons _ u _ us h h1 hs =>
      cases n with
      | zero => simpa using RepAs.nil
      | succ n => simpa using RepAs.cons _ _ _ _ h h1 (ih hs n)
theorem RepAs.drop {xs : List AV} {us : List Value} (h : RepAs A F S w xs us) (n : Nat) : RepAs A F S w (xs.drop n) (us.drop n) := by
  induction xs generalizing us n with
  | nil => cases h; simpa using RepAs.nil
  | cons x xs ih =>
    cases h with
    | cons _ u _ us h h1 hs =>
      cases n with
      | zero => simpa using RepAs.cons _ _ _ _ h h1 hs
      | succ n => simpa using ih hs n
theorem RepAs.append {xs ys : List AV} {us vs : List Value} (h : RepAs A F S w xs us) (k : RepAs A F S w ys vs) : RepAs A F S w (xs ++ ys) (us ++ vs) := by
  induction xs generalizing us with
  | nil => cases h; exact k
  | cons x xs ih => cases h with | cons _ u _ us h h1 hs => exact .cons _ _ _ _ h h1 (ih hs)
theorem RepAs.of_p {cs : List PV} {us : List Value} (h : RepPs A w cs us) : RepAs A F S w (cs.map .p) us := by
  induction cs generalizing us with
  | nil => cases h; exact .nil
  | cons x xs ih => cases h with | cons _ u _ us h h1 hs => exact .cons _ _ _ _ (.p _ _ h) h1 (ih hs)
theorem RepAs.to_p {cs : List PV} {us : List Value} (h : RepAs A F S w (cs.map .p) us) : RepPs A w cs us := by
  induction cs generalizing us with
  | nil => cases h; exact .nil
  | cons x xs ih =>
    cases h with
    | cons _ u _ us h h1 hs => cases h with | p _ _ h => exact .cons _ _ _ _ h h1 (ih hs)
end
end Go.Proofs.Ytablmbhnimnccaa.Pw
/- Pw, part 3: what an operation does to the frame's state. No condition. -/
namespace Go.Proofs.Ytablmbhnimnccaa.Pw

/-- What passes between a caller and a callee. -/
inductive TV where
  | p (x : PV)
  | rf (cs : List PV)
  | ow (E sz : Nat) (xs : List PV) (m : Nat)
  | ag (cs : List TV)
  | tu (vs : List TV)

inductive TK where
  | sca | str | bool
  | int (k : IntKind)
  | sl (e : Nat)
  | st (fs : List (Nat × Nat))
  | arr (n e : Nat)

structure TI where
  size : Nat
  bytes : Nat
  zero : Value
  kd : TK

def TI.isAgg (i : TI) : Bool := match i.kd with | .st _ => true | .arr _ _ => true | _ => false

def TKok (P : Program) (d : TypeDesc) : TK → Prop
  | .sca => (∀ fs, d ≠ .struct fs) ∧ (∀ n e, d ≠ .array n e)
  | .str => d = .string
  | .bool => d = .bool
  | .int k => d = .int k
  | .sl e => d = .slice e
  | .st fs => ∃ fields : Array Field, d = .struct fields ∧ fields.size = fs.length ∧ ∀ (j o s : Nat), fs[j]? = some (o, s) → ∃ f : Field, fields[j]? = some f ∧ f.offset = o ∧ (P.info? f.type).map (fun i : TypeInfo => i.size) = some s ∧ s ≠ 0
  | .arr n e => d = .array n e

def TOk (P : Program) (T : Nat → Option TI) : Prop :=
  ∀ t ti, T t = some ti → ∃ i d, P.info? t = some i ∧ P.underlying t = some d ∧ i.size = ti.size ∧ i.bytes = ti.bytes ∧ i.zero = some ti.zero ∧
    ti.zero.cells.size = ti.size ∧ (∀ z ∈ ti.zero.cells, z.oneCell' = true) ∧ (ti.isAgg = false → ti.size = 1 ∧ ti.zero.oneCell' = true) ∧ TKok P d ti.kd

/-- '==' of aggregates of n whole numbers at type t. -/
def EqOk (P : Program) (t n : Nat) : Prop := ∀ (w : World) (k : IntKind) (xs ys : List Int), xs.length = n → ys.length = n →
  (∀ X Y, (eqGuard .eql t X Y (.agg (xs.map (Value.int k)).toArray) (.agg (ys.map (Value.int k)).toArray)).run P w = .ok () w) ∧
  (∀ X Y, (eqGuard .neq t X Y (.agg (xs.map (Value.int k)).toArray) (.agg (ys.map (Value.int k)).toArray)).run P w = .ok () w) ∧
  (binOp .eql t (.agg (xs.map (Value.int k)).toArray) (.agg (ys.map (Value.int k)).toArray)).run P w = .ok (.bool (decide (xs = ys))) w ∧
  (binOp .neq t (.agg (xs.map (Value.int k)).toArray) (.agg (ys.map (Value.int k)).toArray)).run P w = .ok (.bool (!decide (xs = ys))) w

def St.ev (S : St) : Operand → AV
  | .tmp t => S.tm t
  | .const v => .p (.lit v)
  | .func f => .p (.fn f [])
  | .global _ => .un

def toCells : AV → List AV
  | .p x => x.cells.map .p
  | .ag cs => cs
  | x => [x]

def allP : List AV → Option (List PV)
  | [] => some []
  | .p x :: xs => (allP xs).map (x :: ·)
  | _ => none

def mkAg (cs : List AV) : AV := match allP cs with | some ps => .p (.ag ps) | none => .ag cs

def nilSl : Value := .slice none 0 0

/-- What a slice shows. -/
def St.list (S : St) : AV → Option (List PV)
  | .p (.sl _ xs) => some xs
  | .p (.lit (.slice _ 0 _)) => some []
  | .os t g len => match S.bl t g with
    | some (.arr _ _ xs _) => if xs.length = len then some xs else none
    | _ => none
  | _ => none

/-- Is the block alive, and the slice the newest one? -/
def St.okA (S : St) : AV → Bool
  | .pt t g _ => match S.bl t g with
    | some (.var _ _) => true
    | _ => false
  | .os t g len => match S.bl t g with
    | some (.arr _ _ xs _) => decide (xs.length = len)
    | _ => false
  | .pe t g len _ _ => match S.bl t g with
    | some (.arr _ _ xs _) => decide (xs.length = len)
    | _ => false
  | _ => true

def lenOf (S : St) : AV → Option Nat
  | .p (.sl _ xs) => some xs.length
  | .p (.lit (.slice none 0 0)) => some 0
  | .os t g len => if S.okA (.os t g len) then some len else none
  | _ => none

def ldA (i : TI) (cs : List AV) (off : Nat) : Option AV :=
  if i.isAgg then (if off + i.size ≤ cs.length then some (mkAg ((cs.drop off).take i.size)) else none) else cs[off]?
def ldP (i : TI) (cs : List PV) (off : Nat) : Option PV :=
  if i.isAgg then (if off + i.size ≤ cs.length then some (.ag ((cs.drop off).take i.size)) else none) else cs[off]?

/-- A block's slice shown as a plain one: what has been shown is written no more. -/
def St.seal (S : St) (t g : Nat) : St :=
  match S.bl t g with
  | some (.arr E sz xs _) => S.setBl t g (.arr E sz xs xs.length)
  | some (.var cs _) => S.setBl t g (.var cs true)
  | some (.bld _ _ _) => S
  | none => S
def St.drop (S : St) (t g : Nat) : St := { S with bl := upd2 S.bl t g none }

/-- v is handed over as tv: what it does to the state; the names of what is lent. -/
inductive Pass : St → AV → TV → St → List (Nat × Nat) → Prop
  | p (S : St) (x : PV) : Pass S (.p x) (.p x) S []
  | nil (S : St) (sz : Nat) : Pass S (.p (.lit nilSl)) (.p (.sl sz [])) S []
  | nilo (S : St) (E sz : Nat) : Pass S (.p (.lit nilSl)) (.ow E sz [] 0) S []
  | os (S : St) (t g : Nat) (E sz : Nat) (xs : List PV) (m : Nat) (h : S.bl t g = some (.arr E sz xs m)) : Pass S (.os t g xs.length) (.p (.sl sz xs)) (S.seal t g) []
  | ow (S : St) (t g : Nat) (E sz : Nat) (xs : List PV) (m m' : Nat) (h : S.bl t g = some (.arr E sz xs m)) (hm : m ≤ m') (hm' : m' ≤ xs.length) : Pass S (.os t g xs.length) (.ow E sz xs m') (S.drop t g) []
  | rf (S : St) (t g : Nat) (cs : List PV) (h : S.bl t g = some (.var (cs.map .p) false)) : Pass S (.pt t g 0) (.rf cs) (S.drop t g) [(t, g)]
  | ro (S : St) (t g off : Nat) (cs : List PV) (sd : Bool) (h : S.bl t g = some (.var (cs.map .p) sd)) : Pass S (.pt t g off) (.p (.ro (.ag cs) off)) (S.seal t g) []
  | pe (S : St) (t g i off : Nat) (E sz : Nat) (xs : List PV) (m : Nat) (y : PV) (h : S.bl t g = some (.arr E sz xs m)) (hy : xs[i]? = some y) :
      Pass S (.pe t g xs.length i off) (.p (.ro y off)) (S.seal t g) []

/-- Cells, or what a function has caught, handed over plain. -/
inductive PassPs : St → List AV → List PV → St → Prop
  | nil (S : St) : PassPs S [] [] S
  | cons (S S1 S2 : St) (v : AV) (x : PV) (vs : List AV) (xs : List PV) (h : Pass S v (.p x) S1 []) (hs : PassPs S1 vs xs S2) : PassPs S (v :: vs) (x :: xs) S2

/-- A value with parts. -/
inductive PassV : St → AV → TV → St → List (Nat × Nat) → Prop
  | one (S S' : St) (v : AV) (tv : TV) (l : List (Nat × Nat)) (h : Pass S v tv S' l) : PassV S v tv S' l
  | ag (S S' : St) (vs : List AV) (xs : List PV) (h : PassPs S vs xs S') : PassV S (.ag vs) (.p (.ag xs)) S' []
  | fn (S S' : St) (f : FuncId) (vs : List AV) (xs : List PV) (h : PassPs S vs xs S') : PassV S (.fn f vs) (.p (.fn f xs)) S' []

inductive PassL : St → List AV → List TV → St → List (Nat × Nat) → Prop
  | nil (S : St) : PassL S [] [] S []
  | cons (S S1 S2 : St) (v : AV) (x : TV) (vs : List AV) (xs : List TV) (l k : List (Nat × Nat)) (h : PassV S v x S1 l) (hs : PassL S1 vs xs S2 k) : PassL S (v :: vs) (x :: xs) S2 (l ++ k)

end Go.Proofs.Ytablmbhnimnccaa.Pw
/- Pw, part 4: handing over, and what a call says. No condition. -/
namespace Go.Proofs.Ytablmbhnimnccaa.Pw

mutual
inductive RepT (A : Nat → Nat → Prop) (w : World) : TV → Value → List Nat → Prop
  | p (x : PV) (u : Value) (h : RepP A w x u) : RepT A w (.p x) u []
  | rf (cs : List PV) (r : Nat) (us : Array Value) (T : TypeId) (hw : w.heap[r]? = some (.cells us T (0, 0))) (h : RepPs A w cs us.toList) (hA : ∀ o, ¬ A r o) :
      RepT A w (.rf cs) (.pointer (some ⟨r, 0, none⟩)) [r]
  | ow (E sz : Nat) (xs : List PV) (m : Nat) (u : Value) (us : List Value) (ho : w.ownsRow 0 E sz u xs.length us) (h : RepPs A w (flat xs) us) (hs : ∀ x ∈ xs, x.size = sz)
      (hm : m ≤ xs.length) (hA : ∀ r, bOf u = some r → ∀ o, A r o → o < m * sz) : RepT A w (.ow E sz xs m) u (bOf u).toList
  | ag (cs : List TV) (us : Array Value) (rs : List Nat) (h : RepTs A w cs us.toList rs) : RepT A w (.ag cs) (.agg us) rs
  | tu (vs : List TV) (us : Array Value) (rs : List Nat) (h : RepTt A w vs us.toList rs) : RepT A w (.tu vs) (.tuple us) rs
inductive RepTs (A : Nat → Nat → Prop) (w : World) : List TV → List Value → List Nat → Prop
  | nil : RepTs A w [] [] []
  | cons (x : TV) (u : Value) (xs : List TV) (us : List Value) (r rs : List Nat) (h : RepT A w x u r) (h1 : u.oneCell' = true) (hs : RepTs A w xs us rs) : RepTs A w (x :: xs) (u :: us) (r ++ rs)
inductive RepTt (A : Nat → Nat → Prop) (w : World) : List TV → List Value → List Nat → Prop
  | nil : RepTt A w [] [] []
  | cons (x : TV) (u : Value) (xs : List TV) (us : List Value) (r rs : List Nat) (h : RepT A w x u r) (hs : RepTt A w xs us rs) : RepTt A w (x :: xs) (u :: us) (r ++ rs)
end

/-- The pointers that are lent. -/
def rfVals : List TV → List Value → List Value
  | .rf _ :: xs, u :: us => u :: rfVals xs us
  | _ :: xs, _ :: us => rfVals xs us
  | _, _ => []

structure After (A : Nat → Nat → Prop) (w : World) (rs : List Nat) (A' : Nat → Nat → Prop) (w' : World) (ro : List Nat) : Prop where
  nodup : ro.Nodup
  own : ∀ r ∈ ro, w.heap.size ≤ r ∨ r ∈ rs
  Alt : ∀ b o, A' b o → b < w'.heap.size
  Anew : ∀ b o, A' b o → b < w.heap.size → A b o ∨ b ∈ rs
  keeps : Keeps A A' w w'
  os : w'.os = w.os
  tape : w'.tape = w.tape
  output : w'.output = w.output
  size : w.heap.size ≤ w'.heap.size
  old : ∀ b, b < w.heap.size → b ∉ rs → w'.heap[b]? = w.heap[b]?

def Callable (P : Program) (f : FuncId) : Prop := ∃ fn, P.funcs[f]? = some fn ∧ fn.body.isSome = true ∧ (fn.name == "runtime.NumGoroutine") = false

/-- Called with args, function f hands back res; what was lent to it holds outs. -/
def Fn (P : Program) (f : FuncId) (args : List TV) (res : TV) (outs : List (List PV)) : Prop :=
  Callable P f ∧ ∀ A w us rs, RepTt A w args us rs → rs.Nodup → (∀ b o, A b o → b < w.heap.size) →
    Calls P f us.toArray w fun e w' => ∃ u A' r1 r2, e = .returned u ∧ RepT A' w' res u r1 ∧ RepTt A' w' (outs.map .rf) (rfVals args us) r2 ∧ After A w rs A' w' (r1 ++ r2)

section
variable {A A' : Nat → Nat → Prop} {w w' : World}

theorem ownsRow_bOf {E sz n : Nat} {u : Value} {us : List Value} (h : w.ownsRow 0 E sz u n us) : bOf u = u.ownBlock := by
  rcases h.2 with ⟨rfl, _⟩ | ⟨g, cap, cur, rfl, _⟩ <;> rfl

theorem ownsRow_lt {E sz n : Nat} {u : Value} {us : List Value} (h : w.ownsRow 0 E sz u n us) {r : Nat} (hr : bOf u = some r) : r < w.heap.size :=
  (h.lt r (by rw [← ownsRow_bOf h]; exact hr)).2

theorem ownsRow_heap {E sz n : Nat} {u : Value} {us : List Value} (h : w.ownsRow 0 E sz u n us) (hh : ∀ r, bOf u = some r → w'.heap[r]? = w.heap[r]?) : w'.ownsRow 0 E sz u n us := by
  refine ⟨h.1, ?_⟩
  rcases h.2 with hn | ⟨g, cap, cur, rfl, h1, h2, h3⟩
  · exact .inl hn
  · exact .inr ⟨g, cap, cur, rfl, h1, (hh g rfl).trans h2, h3⟩

/-- An owned row's slice, shown plain. -/
theorem RepP.of_owns {E sz : Nat} {u : Value} {xs : List PV} {us : List Value} (h : w.ownsRow 0 E sz u xs.length us) (hr : RepPs A w (flat xs) us) (hs : ∀ x ∈ xs, x.size = sz)
    (hA : ∀ r, bOf u = some r → ∀ o, o < xs.length * sz → A r o) : RepP A w (.sl sz xs) u := by
  rcases h.2 with ⟨rfl, h0⟩ | ⟨g, cap, cur, rfl, h1, h2, h3, h4, h5, h6⟩
  · have : xs = [] := List.eq_nil_of_length_eq_zero h0
    subst this
    exact .snil sz 0 (by simp [maxLen]) none
  · refine .sl sz xs ⟨g, 0, none⟩ cap h3 h4 hs rfl ?_
    refine RepCells.of_vals hr (fun j v hj => ?_) (fun j hj => ?_)
    · have := h.cells (g := g) rfl j v hj
      rw [Addr.add] at this
      split at this
      · rename_i h0; subst h0; exact this
      · simpa using this
    · rw [flat_length hs] at hj
      simpa using hA g rfl j hj

theorem ownsRow_cell {E sz n g : Nat} {u : Value} {us : List Value} (h : w.ownsRow 0 E sz u n us) (hg : bOf u = some g) {j : Nat} {v : Value} (hj : us[j]? = some v) : w.cell? ⟨g, j, none⟩ = some v := by
  have := h.cells (g := g) (by rw [← ownsRow_bOf h]; exact hg) j v hj
  rw [Addr.add] at this
  split at this
  · rename_i h0; subst h0; exact this
  · simpa using this
end
end Go.Proofs.Ytablmbhnimnccaa.Pw
/- Pw, part 5: how the invariant is carried on. No condition. -/
namespace Go.Proofs.Ytablmbhnimnccaa.Pw

structure Wstep (Wr : Nat → Prop) (w w' : World) : Prop where
  os : w'.os = w.os
  tape : w'.tape = w.tape
  output : w'.output = w.output
  size : w.heap.size ≤ w'.heap.size
  blk : ∀ b, b < w.heap.size → ¬ Wr b → w'.heap[b]? = w.heap[b]?

theorem Wstep.refl (Wr : Nat → Prop) (w : World) : Wstep Wr w w := ⟨rfl, rfl, rfl, Nat.le_refl _, fun _ _ _ => rfl⟩

section
variable {E : Entry} {N : Nat} {A A' : Nat → Nat → Prop} {F F' : Nat → Nat → Value} {S S' : St} {a : Act} {w w' : World}

theorem lt_of_heap {r : Nat} {o : Obj} (h : w.heap[r]? = some o) : r < w.heap.size := (Array.getElem?_eq_some_iff.1 h).1

theorem BlkOk.bOf_lt {t g : Nat} {b : Blk} (h : BlkOk A F S w t g b) {r : Nat} (hr : bOf (F t g) = some r) : r < w.heap.size := by
  cases b with
  | var cs sd =>
    obtain ⟨r', us, T, hF, hw, _⟩ := h
    rw [hF] at hr; simp [bOf] at hr; subst hr
    exact lt_of_heap hw
  | arr E sz xs m =>
    obtain ⟨us, ho, _⟩ := h
    exact ownsRow_lt ho hr
  | bld T g1 n =>
    obtain ⟨r', p, u, hF, hw, _⟩ := h
    rw [hF] at hr; simp [bOf] at hr; subst hr
    exact lt_of_heap hw

theorem BlkOk.evo (e : Evo A A' F F' S S' w w') {t g : Nat} {b : Blk} (h : BlkOk A F S w t g b) (hF : F' t g = F t g)
    (hh : ∀ r, bOf (F t g) = some r → w'.heap[r]? = w.heap[r]? ∧ ∀ o, A' r o → A r o) : BlkOk A' F' S' w' t g b := by
  cases b with
  | var cs sd =>
    obtain ⟨r, us, T, hF0, hw, hr, h1, h2⟩ := h
    have h3 := hh r (by rw [hF0]; rfl)
    exact ⟨r, us, T, hF.trans hF0, h3.1.trans hw, RepAs.evo e hr, fun hs o ho => h1 hs o (h3.2 o ho), fun hs o ho => e.keeps.sub _ _ (h2 hs o ho)⟩
  | arr E sz xs m =>
    obtain ⟨us, ho, hr, hs, hm, hA⟩ := h
    refine ⟨us, ?_, hr.mono e.keeps, hs, hm, fun r hb o ha => ?_⟩
    · rw [hF]; exact ownsRow_heap ho fun r hb => (hh r hb).1
    · rw [hF] at hb; exact hA r hb o ((hh r hb).2 o ha)
  | bld T g1 n =>
    obtain ⟨r, p, u, hF0, hw, hp, hu, hA⟩ := h
    have h3 := hh r (by rw [hF0]; rfl)
    exact ⟨r, p, u, hF.trans hF0, h3.1.trans hw, hp, RepA.evo e hu, fun o ho => hA o (h3.2 o ho)⟩

theorem Inv.change (h : Inv E N S A F a w) (e : Evo A A' F F' S S' w w') (htm : S'.tm = S.tm) (hlt : ∀ t g b, S'.bl t g = some b → g < S'.gen t)
    (hbl : ∀ t g b, S'.bl t g = some b → BlkOk A' F' S' w' t g b)
    (hinj : ∀ t g b t' g' b' r, S'.bl t g = some b → S'.bl t' g' = some b' → bOf (F' t g) = some r → bOf (F' t' g') = some r → t = t' ∧ g = g')
    (hAlt : ∀ b o, A' b o → b < w'.heap.size) {Wr : Nat → Prop} (ws : Wstep Wr w w') (hWr : ∀ b, Wr b → E.w.heap.size ≤ b ∨ b ∈ E.R)
    (hAnew : ∀ b o, A' b o → b < E.w.heap.size → A b o ∨ b ∈ E.R)
    (hown : ∀ t g b r, S'.bl t g = some b → bOf (F' t g) = some r → E.w.heap.size ≤ r ∨ r ∈ E.R) : Inv E N S' A' F' a w' where
  tmps := h.tmps
  defers := h.defers
  tm := fun t => by rw [htm]; exact RepA.evo e (h.tm t)
  lt := hlt
  bl := hbl
  inj := hinj
  Alt := hAlt
  os := ws.os.trans h.os
  tape := ws.tape.trans h.tape
  output := ws.output.trans h.output
  size := Nat.le_trans h.size ws.size
  old := fun b hb hR => by
    have hnot : ¬ Wr b := fun hw => by
      rcases hWr b hw with h1 | h1
      · omega
      · exact hR h1
    exact (ws.blk b (Nat.lt_of_lt_of_le hb h.size) hnot).trans (h.old b hb hR)
  keeps := h.keeps.trans e.keeps
  Anew := fun b o ha hb => by
    rcases hAnew b o ha hb with h1 | h1
    · exact h.Anew b o h1 hb
    · exact .inr h1
  own := hown
  pgen := fun p v hp => Nat.lt_of_lt_of_le (h.pgen p v hp) (e.gen p)
  par := fun p v b hp hb hq => by
    obtain ⟨b0, h1, h3, h2⟩ := e.var p 0 b (h.pgen p v hp) hb hq
    rw [h2]; exact h.par p v b0 hp h1 h3

/-- The value of a slot is written. -/
theorem Inv.put (h : Inv E N S A F a w) {v : AV} {u : Value} (hr : RepA A F S w v u) {d : Option Tmp} (hd : ∀ t, d = some t → t < N) : Inv E N (S.put d v) A F (a.put d u) w := by
  cases d with
  | none => exact h
  | some d =>
    have hd := hd d rfl
    have e : Evo A A F F S (S.put (some d) v) w w := ⟨.refl _ _, fun _ => Nat.le_refl _, fun _ _ b _ h hp => ⟨b, h, hp, rfl⟩, fun _ _ _ _ xs m _ h => ⟨xs, m, h, Nat.le_refl _, fun _ => rfl⟩⟩
    refine { h with tmps := by simpa [Act.put] using h.tmps, tm := fun t => ?_, bl := fun t g b hb => ?_ }
    · by_cases ht : t = d
      · subst ht
        have : ((a.put (some t) u).tmps.getD t undef) = u := by
          have hs : t < a.tmps.size := by rw [h.tmps]; exact hd
          simp [Act.put, hs]
        rw [this]
        simp only [St.put, upd_same]
        exact RepA.evo e hr
      · have : ((a.put (some d) u).tmps.getD t undef) = a.tmps.getD t undef := by
          simp [Act.put, Array.getElem?_setIfInBounds_ne (Ne.symm ht)]
        rw [this]
        simp only [St.put, upd_ne _ _ _ _ ht]
        exact RepA.evo e (h.tm t)
    · exact BlkOk.evo e (h.bl t g b hb) rfl fun r _ => ⟨rfl, fun _ h => h⟩

theorem Inv.ev (h : Inv E N S A F a w) (x : Operand) : RepA A F S w (S.ev x) (a.eval x) := by
  cases x with
  | tmp t => exact h.tm t
  | const v => exact .p _ _ (.lit v)
  | func f => exact .p _ _ (.fn f [] #[] .nil)
  | global g => exact .un _

/-- The heap is as it was (a draw). -/
theorem Inv.sameHeap (h : Inv E N S A F a w) (hh : w'.heap = w.heap) (h1 : w'.os = w.os) (h2 : w'.tape = w.tape) (h3 : w'.output = w.output) : Inv E N S A F a w' := by
  have hc : ∀ p, w'.cell? p = w.cell? p := fun p => by simp [World.cell?, hh]
  have e : Evo A A F F S S w w' := ⟨⟨fun _ _ h => h, fun _ _ _ => hc _⟩, fun _ => Nat.le_refl _, fun _ _ b _ h hp => ⟨b, h, hp, rfl⟩, fun _ _ _ _ xs m _ h => ⟨xs, m, h, Nat.le_refl _, fun _ => rfl⟩⟩
  exact h.change e rfl h.lt (fun t g b hb => BlkOk.evo e (h.bl t g b hb) rfl fun r _ => ⟨by rw [hh], fun _ h => h⟩) h.inj (fun b o ha => by rw [hh]; exact h.Alt b o ha)
    (Wr := fun _ => False) ⟨h1, h2, h3, by rw [hh]; exact Nat.le_refl _, fun _ _ _ => by rw [hh]⟩ (fun _ h => h.elim) (fun b o ha _ => .inl ha) h.own

/-- A name is given up. -/
theorem Inv.dropBl (h : Inv E N S A F a w) (t g : Nat) : Inv E N (S.drop t g) A F a w := by
  have hb : ∀ t' g' b, (S.drop t g).bl t' g' = some b → S.bl t' g' = some b := fun t' g' b hb => by
    simp only [St.drop] at hb
    by_cases hc : t' = t ∧ g' = g
    · rw [hc.1, hc.2, upd2_same] at hb; simp at hb
    · rwa [upd2_ne _ _ _ _ _ _ hc] at hb
  have e : Evo A A F F S (S.drop t g) w w := ⟨.refl _ _, fun _ => Nat.le_refl _, fun t' g' b _ h hp => ⟨b, hb _ _ _ h, hp, rfl⟩, fun t' g' _ _ xs m _ h => ⟨xs, m, hb _ _ _ h, Nat.le_refl _, fun _ => rfl⟩⟩
  exact h.change e rfl (fun t' g' b hq => h.lt _ _ _ (hb _ _ _ hq)) (fun t' g' b hq => BlkOk.evo e (h.bl _ _ _ (hb _ _ _ hq)) rfl fun r _ => ⟨rfl, fun _ h => h⟩)
    (fun t1 g1 b1 t2 g2 b2 r h1 h2 => h.inj _ _ _ _ _ _ r (hb _ _ _ h1) (hb _ _ _ h2)) h.Alt (.refl (fun _ => False) w) (fun _ h => h.elim) (fun b o ha _ => .inl ha)
    (fun t' g' b r hq => h.own _ _ _ r (hb _ _ _ hq))

theorem setBl_bl {t g : Nat} {b0 : Blk} {t' g' : Nat} {b : Blk} (hb : (S.setBl t g b0).bl t' g' = some b) : (t' = t ∧ g' = g ∧ b = b0) ∨ (¬ (t' = t ∧ g' = g) ∧ S.bl t' g' = some b) := by
  simp only [St.setBl] at hb
  by_cases hc : t' = t ∧ g' = g
  · rw [hc.1, hc.2, upd2_same] at hb; simp at hb; exact .inl ⟨hc.1, hc.2, hb.symm⟩
  · rw [upd2_ne _ _ _ _ _ _ hc] at hb; exact .inr ⟨hc, hb⟩

theorem Evo.of_set_var {t g : Nat} {cs cs' : List AV} {sd sd' : Bool} (hb : S.bl t g = some (.var cs sd)) (k : Keeps A A' w w') : Evo A A' F F S (S.setBl t g (.var cs' sd')) w w' :=
  ⟨k, fun _ => Nat.le_refl _, fun t' g' b _ h hp => by
      rcases setBl_bl h with ⟨rfl, rfl, hq⟩ | ⟨_, h⟩
      · exact ⟨_, hb, rfl, rfl⟩
      · exact ⟨b, h, hp, rfl⟩,
    fun t' g' E sz xs m _ h => by
      rcases setBl_bl h with ⟨rfl, rfl, hq⟩ | ⟨_, h⟩
      · cases hq
      · exact ⟨xs, m, h, Nat.le_refl _, fun _ => rfl⟩⟩

theorem Evo.of_set_arr {t g E sz : Nat} {xs xs' : List PV} {m m' : Nat} (hb : S.bl t g = some (.arr E sz xs m)) (hl : xs.length ≤ xs'.length)
    (hF : ∀ t' g', ¬ (t' = t ∧ g' = g) → F' t' g' = F t' g') (hF2 : xs'.length = xs.length → F' t g = F t g) (k : Keeps A A' w w') :
    Evo A A' F F' S (S.setBl t g (.arr E sz xs' m')) w w' :=
  ⟨k, fun _ => Nat.le_refl _, fun t' g' b _ h hp => by
      rcases setBl_bl h with ⟨rfl, rfl, hq⟩ | ⟨hn, h⟩
      · subst hq; cases hp
      · exact ⟨b, h, hp, hF _ _ hn⟩,
    fun t' g' E' sz' ys m2 _ h => by
      rcases setBl_bl h with ⟨rfl, rfl, hq⟩ | ⟨hn, h⟩
      · cases hq; exact ⟨xs, m, hb, hl, hF2⟩
      · exact ⟨ys, m2, h, Nat.le_refl _, fun _ => hF _ _ hn⟩⟩

/-- An owned row is shown: its cells stay as they are from now on. -/
theorem Inv.sealArr (h : Inv E N S A F a w) {t g E0 sz : Nat} {xs : List PV} {m : Nat} (hb : S.bl t g = some (.arr E0 sz xs m)) :
    ∃ A', Inv E N (S.setBl t g (.arr E0 sz xs xs.length)) A' F a w ∧ Keeps A A' w w ∧ (∀ b o, A' b o → A b o ∨ bOf (F t g) = some b) ∧ RepP A' w (.sl sz xs) (F t g) ∧
      (∀ i y r, xs[i]? = some y → bOf (F t g) = some r → RepCells A' w r (i * sz) y.cells) := by
  let A' : Nat → Nat → Prop := fun b o => A b o ∨ (bOf (F t g) = some b ∧ o < xs.length * sz)
  have k : Keeps A A' w w := ⟨fun _ _ h => .inl h, fun _ _ _ => rfl⟩
  obtain ⟨us, ho, hr, hs, hm, hA⟩ := h.bl t g _ hb
  have e : Evo A A' F F S (S.setBl t g (.arr E0 sz xs xs.length)) w w := Evo.of_set_arr hb (Nat.le_refl _) (fun _ _ _ => rfl) (fun _ => rfl) k
  refine ⟨A', ?_, k, fun b o ha => ha.imp id And.left, RepP.of_owns ho (hr.mono k) hs fun r hb o ho => .inr ⟨hb, ho⟩, fun i y r hy hb => ?_⟩
  · refine h.change e rfl (fun t' g' b hq => ?_) (fun t' g' b hq => ?_) (fun t1 g1 b1 t2 g2 b2 r h1 h2 => ?_) (fun b o ha => ?_) (.refl (fun _ => False) w) (fun _ h => h.elim) (fun b o ha hb' => ?_) (fun t' g' b r hq => ?_)
    · rcases setBl_bl hq with ⟨rfl, rfl, rfl⟩ | ⟨hn, hq⟩
      · exact h.lt _ _ _ hb
      · exact h.lt _ _ _ hq
    · rcases setBl_bl hq with ⟨rfl, rfl, rfl⟩ | ⟨hn, hq⟩
      · refine ⟨us, ho, hr.mono k, hs, Nat.le_refl _, fun r hr o ha => ?_⟩
        rcases ha with ha | ha
        · exact Nat.lt_of_lt_of_le (hA r hr o ha) (Nat.mul_le_mul_right _ hm)
        · exact ha.2
      · refine BlkOk.evo e (h.bl _ _ _ hq) rfl fun r hr => ⟨rfl, fun o ha => ?_⟩
        rcases ha with ha | ha
        · exact ha
        · exact absurd (h.inj _ _ _ _ _ _ r hq hb hr ha.1) hn
    · have q1 : ∃ b, S.bl t1 g1 = some b := by rcases setBl_bl h1 with ⟨rfl, rfl, rfl⟩ | ⟨hn, hq⟩ <;> exact ⟨_, ‹_›⟩
      have q2 : ∃ b, S.bl t2 g2 = some b := by rcases setBl_bl h2 with ⟨rfl, rfl, rfl⟩ | ⟨hn, hq⟩ <;> exact ⟨_, ‹_›⟩
      exact h.inj _ _ _ _ _ _ r q1.choose_spec q2.choose_spec
    · rcases ha with ha | ha
      · exact h.Alt _ _ ha
      · exact ownsRow_lt ho ha.1
    · rcases ha with ha | ha
      · exact .inl ha
      · rcases h.own _ _ _ _ hb ha.1 with h1 | h1
        · omega
        · exact .inr h1
    · have q1 : ∃ b, S.bl t' g' = some b := by rcases setBl_bl hq with ⟨rfl, rfl, rfl⟩ | ⟨hn, hq⟩ <;> exact ⟨_, ‹_›⟩
      exact h.own _ _ _ r q1.choose_spec
  · have hc : RepCells A' w r 0 (flat xs) := RepCells.of_vals (hr.mono k) (fun j v hj => by rw [Nat.zero_add]; exact ownsRow_cell ho hb hj) (fun j hj => by
      rw [Nat.zero_add]; rw [flat_length hs] at hj; exact .inr ⟨hb, hj⟩)
    have := hc.elem hs hy
    rwa [Nat.zero_add] at this

theorem RepAs.plain {cs : List PV} {us : List Value} (h : RepAs A F S w (cs.map .p) us) : RepPs A w cs us := h.to_p

theorem cell_of_heap {r o : Nat} {us : Array Value} {T : TypeId} {fr : Nat × Nat} (h : w.heap[r]? = some (.cells us T fr)) : w.cell? ⟨r, o, none⟩ = us[o]? := by
  simp [World.cell?, h]

/-- A variable is shown: it stays as it is from now on. -/
theorem Inv.sealVar (h : Inv E N S A F a w) {t g : Nat} {cs : List PV} {sd : Bool} (hb : S.bl t g = some (.var (cs.map .p) sd)) :
    ∃ A', Inv E N (S.setBl t g (.var (cs.map .p) true)) A' F a w ∧ Keeps A A' w w ∧ (∀ b o, A' b o → A b o ∨ bOf (F t g) = some b) ∧
      ∃ r, F t g = .pointer (some ⟨r, 0, none⟩) ∧ RepCells A' w r 0 cs := by
  let A' : Nat → Nat → Prop := fun b o => A b o ∨ (bOf (F t g) = some b ∧ o < cs.length)
  have k : Keeps A A' w w := ⟨fun _ _ h => .inl h, fun _ _ _ => rfl⟩
  obtain ⟨r, us, T, hF, hw, hr, h1, h2⟩ := h.bl t g _ hb
  have hbo : bOf (F t g) = some r := by rw [hF]; rfl
  have e : Evo A A' F F S (S.setBl t g (.var (cs.map .p) true)) w w := Evo.of_set_var hb k
  refine ⟨A', ?_, k, fun b o ha => ha.imp id And.left, r, hF, ?_⟩
  · refine h.change e rfl (fun t' g' b hq => ?_) (fun t' g' b hq => ?_) (fun t1 g1 b1 t2 g2 b2 r h1 h2 => ?_) (fun b o ha => ?_) (.refl (fun _ => False) w) (fun _ h => h.elim) (fun b o ha hb' => ?_) (fun t' g' b r hq => ?_)
    · rcases setBl_bl hq with ⟨rfl, rfl, rfl⟩ | ⟨hn, hq⟩
      · exact h.lt _ _ _ hb
      · exact h.lt _ _ _ hq
    · rcases setBl_bl hq with ⟨rfl, rfl, rfl⟩ | ⟨hn, hq⟩
      · exact ⟨r, us, T, hF, hw, RepAs.evo e hr, fun hs => by simp at hs, fun _ o ho => .inr ⟨hbo, by simpa using ho⟩⟩
      · refine BlkOk.evo e (h.bl _ _ _ hq) rfl fun r hr => ⟨rfl, fun o ha => ?_⟩
        rcases ha with ha | ha
        · exact ha
        · exact absurd (h.inj _ _ _ _ _ _ r hq hb hr ha.1) hn
    · have q1 : ∃ b, S.bl t1 g1 = some b := by rcases setBl_bl h1 with ⟨rfl, rfl, rfl⟩ | ⟨hn, hq⟩ <;> exact ⟨_, ‹_›⟩
      have q2 : ∃ b, S.bl t2 g2 = some b := by rcases setBl_bl h2 with ⟨rfl, rfl, rfl⟩ | ⟨hn, hq⟩ <;> exact ⟨_, ‹_›⟩
      exact h.inj _ _ _ _ _ _ r q1.choose_spec q2.choose_spec
    · rcases ha with ha | ha
      · exact h.Alt _ _ ha
      · rw [hbo] at ha; simp at ha; rw [← ha.1]; exact lt_of_heap hw
    · rcases ha with ha | ha
      · exact .inl ha
      · rcases h.own _ _ _ _ hb ha.1 with h1 | h1
        · omega
        · exact .inr h1
    · have q1 : ∃ b, S.bl t' g' = some b := by rcases setBl_bl hq with ⟨rfl, rfl, rfl⟩ | ⟨hn, hq⟩ <;> exact ⟨_, ‹_›⟩
      exact h.own _ _ _ r q1.choose_spec
  · refine RepCells.of_vals ((RepAs.plain hr).mono k) (fun j v hj => ?_) (fun j hj => ?_)
    · rw [Nat.zero_add, cell_of_heap hw]; simpa using hj
    · rw [Nat.zero_add]; exact .inr ⟨hbo, hj⟩
end
end Go.Proofs.Ytablmbhnimnccaa.Pw
/- Pw, part 6: handing over is sound. No condition. -/
namespace Go.Proofs.Ytablmbhnimnccaa.Pw

section
variable {E : Entry} {N : Nat} {A A' : Nat → Nat → Prop} {F F' : Nat → Nat → Value} {S S' : St} {a : Act} {w w' : World}

mutual
theorem RepT.monoA (k : Keeps A A' w w) : ∀ {x : TV} {u : Value} {rs : List Nat}, RepT A w x u rs → (∀ r ∈ rs, ∀ o, A' r o → A r o) → RepT A' w x u rs
  | _, _, _, .p x u h, _ => .p x u (h.mono k)
  | _, _, _, .rf cs r us T hw h hA, hr => .rf cs r us T hw (h.mono k) fun o ha => hA o (hr r (by simp) o ha)
  | _, _, _, .ow E sz xs m u us ho h hs hm hA, hr => .ow E sz xs m u us ho (h.mono k) hs hm fun r hb o ha => hA r hb o (hr r (by rw [hb]; simp) o ha)
  | _, _, _, .ag cs us rs h, hr => .ag cs us rs (RepTs.monoA k h hr)
  | _, _, _, .tu vs us rs h, hr => .tu vs us rs (RepTt.monoA k h hr)
theorem RepTs.monoA (k : Keeps A A' w w) : ∀ {x : List TV} {u : List Value} {rs : List Nat}, RepTs A w x u rs → (∀ r ∈ rs, ∀ o, A' r o → A r o) → RepTs A' w x u rs
  | _, _, _, .nil, _ => .nil
  | _, _, _, .cons x u xs us r rs h h1 hs, hr => .cons x u xs us r rs (RepT.monoA k h fun q hq => hr q (List.mem_append_left _ hq)) h1 (RepTs.monoA k hs fun q hq => hr q (List.mem_append_right _ hq))
theorem RepTt.monoA (k : Keeps A A' w w) : ∀ {x : List TV} {u : List Value} {rs : List Nat}, RepTt A w x u rs → (∀ r ∈ rs, ∀ o, A' r o → A r o) → RepTt A' w x u rs
  | _, _, _, .nil, _ => .nil
  | _, _, _, .cons x u xs us r rs h hs, hr => .cons x u xs us r rs (RepT.monoA k h fun q hq => hr q (List.mem_append_left _ hq)) (RepTt.monoA k hs fun q hq => hr q (List.mem_append_right _ hq))
end

def Live (S : St) (F : Nat → Nat → Value) (b : Nat) : Prop := ∃ t g k, S.bl t g = some k ∧ bOf (F t g) = some b

theorem drop_bl {t g t' g' : Nat} {b : Blk} (hb : (S.drop t g).bl t' g' = some b) : ¬ (t' = t ∧ g' = g) ∧ S.bl t' g' = some b := by
  simp only [St.drop] at hb
  by_cases hc : t' = t ∧ g' = g
  · rw [hc.1, hc.2, upd2_same] at hb; simp at hb
  · rw [upd2_ne _ _ _ _ _ _ hc] at hb; exact ⟨hc, hb⟩

/-- What a handing over leaves. -/
structure PassOk (E : Entry) (N : Nat) (S : St) (A : Nat → Nat → Prop) (F : Nat → Nat → Value) (a : Act) (w : World) (S' : St) (l : List (Nat × Nat)) (A' : Nat → Nat → Prop) (rs : List Nat) : Prop where
  inv : Inv E N S' A' F a w
  keeps : Keeps A A' w w
  evo : Evo A A' F F S S' w w
  sub : ∀ b o, A' b o → A b o ∨ Live S F b
  live : ∀ b, Live S' F b → Live S F b
  was : ∀ r ∈ rs, Live S F r
  gone : ∀ r ∈ rs, ¬ Live S' F r
  names : ∀ n ∈ l, S'.bl n.1 n.2 = none ∧ (∃ cs sd, S.bl n.1 n.2 = some (.var cs sd)) ∧ ∀ r, bOf (F n.1 n.2) = some r → ¬ Live S' F r
  same : ∀ t g cs sd, S'.bl t g = some (.var cs sd) → ∃ sd0, S.bl t g = some (.var cs sd0)
  tm : S'.tm = S.tm
  gen : S'.gen = S.gen
  sameB : ∀ t g T g1 n, S'.bl t g = some (.bld T g1 n) → S.bl t g = some (.bld T g1 n)

theorem seal_arr {t g E0 sz : Nat} {xs : List PV} {m : Nat} (h : S.bl t g = some (.arr E0 sz xs m)) : S.seal t g = S.setBl t g (.arr E0 sz xs xs.length) := by simp [St.seal, h]
theorem seal_var {t g : Nat} {cs : List AV} {sd : Bool} (h : S.bl t g = some (.var cs sd)) : S.seal t g = S.setBl t g (.var cs true) := by simp [St.seal, h]

theorem live_setBl {t g : Nat} {b0 b1 : Blk} (hb : S.bl t g = some b0) {b : Nat} (h : Live (S.setBl t g b1) F b) : Live S F b := by
  obtain ⟨t', g', k, h1, h2⟩ := h
  rcases setBl_bl h1 with ⟨rfl, rfl, rfl⟩ | ⟨_, hq⟩
  · exact ⟨_, _, _, hb, h2⟩
  · exact ⟨_, _, _, hq, h2⟩

theorem live_drop {t g : Nat} {b : Nat} (h : Live (S.drop t g) F b) : Live S F b := by
  obtain ⟨t', g', k, h1, h2⟩ := h
  exact ⟨_, _, _, (drop_bl h1).2, h2⟩

theorem Evo.of_drop (t g : Nat) : Evo A A F F S (S.drop t g) w w :=
  ⟨.refl _ _, fun _ => Nat.le_refl _, fun t' g' b _ h hp => ⟨b, (drop_bl h).2, hp, rfl⟩, fun t' g' _ _ xs m _ h => ⟨xs, m, (drop_bl h).2, Nat.le_refl _, fun _ => rfl⟩⟩

theorem PassOk.idle (h : Inv E N S A F a w) : PassOk E N S A F a w S [] A [] :=
  ⟨h, .refl _ _, .refl, fun _ _ h => .inl h, fun _ h => h, by simp, by simp, by simp, fun _ _ _ sd h => ⟨sd, h⟩, rfl, rfl, fun _ _ _ _ _ h => h⟩

theorem PassOk.seal_arr (h : Inv E N S A F a w) {t g E0 sz : Nat} {xs : List PV} {m : Nat} (hb : S.bl t g = some (.arr E0 sz xs m)) :
    ∃ A', PassOk E N S A F a w (S.seal t g) [] A' [] ∧ RepP A' w (.sl sz xs) (F t g) ∧ (∀ i y r, xs[i]? = some y → bOf (F t g) = some r → RepCells A' w r (i * sz) y.cells) := by
  obtain ⟨A', h1, h2, h3, h4, h5⟩ := h.sealArr hb
  rw [Go.Proofs.Ytablmbhnimnccaa.Pw.seal_arr hb]
  exact ⟨A', ⟨h1, h2, Evo.of_set_arr hb (Nat.le_refl _) (fun _ _ _ => rfl) (fun _ => rfl) h2, fun b o ha => (h3 b o ha).imp id fun hq => ⟨t, g, _, hb, hq⟩,
    fun b hl => live_setBl hb hl, by simp, by simp, by simp, fun t' g' cs sd hq => by
      rcases setBl_bl hq with ⟨_, _, hq0⟩ | ⟨_, hq⟩
      · simp at hq0
      · exact ⟨sd, hq⟩, rfl, rfl, fun t' g' T g1 n hq => by
      rcases setBl_bl hq with ⟨_, _, hq0⟩ | ⟨_, hq⟩
      · simp at hq0
      · exact hq⟩, h4, h5⟩

theorem PassOk.seal_var (h : Inv E N S A F a w) {t g : Nat} {cs : List PV} {sd : Bool} (hb : S.bl t g = some (.var (cs.map .p) sd)) :
    ∃ A', PassOk E N S A F a w (S.seal t g) [] A' [] ∧ ∃ r, F t g = .pointer (some ⟨r, 0, none⟩) ∧ RepCells A' w r 0 cs := by
  obtain ⟨A', h1, h2, h3, h4⟩ := h.sealVar hb
  rw [Go.Proofs.Ytablmbhnimnccaa.Pw.seal_var hb]
  exact ⟨A', ⟨h1, h2, Evo.of_set_var hb h2, fun b o ha => (h3 b o ha).imp id fun hq => ⟨t, g, _, hb, hq⟩,
    fun b hl => live_setBl hb hl, by simp, by simp, by simp, fun t' g' cs' sd' hq => by
      rcases setBl_bl hq with ⟨rfl, rfl, hq0⟩ | ⟨_, hq⟩
      · simp only [Blk.var.injEq] at hq0; rw [hq0.1]; exact ⟨sd, hb⟩
      · exact ⟨sd', hq⟩, rfl, rfl, fun t' g' T g1 n hq => by
      rcases setBl_bl hq with ⟨_, _, hq0⟩ | ⟨_, hq⟩
      · simp at hq0
      · exact hq⟩, h4⟩

theorem Pass.sound {v : AV} {tv : TV} {l : List (Nat × Nat)} {u : Value} (hp : Pass S v tv S' l) (h : Inv E N S A F a w) (hv : RepA A F S w v u) :
    ∃ A' rs, PassOk E N S A F a w S' l A' rs ∧ RepT A' w tv u rs ∧ rs.Nodup ∧ rfVals [tv] [u] = l.map fun n => F n.1 n.2 := by
  cases hp with
  | p x => cases hv with | p _ _ hx => exact ⟨A, [], .idle h, .p _ _ hx, by simp, rfl⟩
  | nil sz =>
    cases hv with | p _ _ hx => cases hx; exact ⟨A, [], .idle h, .p _ _ (.snil _ _ (by simp [maxLen]) none), by simp, rfl⟩
  | nilo E0 sz =>
    cases hv with
    | p _ _ hx =>
      cases hx
      exact ⟨A, [], .idle h, .ow _ _ _ _ _ [] (World.ownsRow_nil w 0 E0 sz) .nil (by simp) (Nat.le_refl _) (fun r hb => by simp [nilSl, bOf] at hb), by simp, rfl⟩
  | os t g E0 sz xs m hb =>
    cases hv with
    | os _ _ _ _ hg hq h1 =>
      obtain ⟨A', h2, h3, h4⟩ := PassOk.seal_arr h hb
      exact ⟨A', [], h2, .p _ _ (by rw [(hq _ _ _ _ hb).2 rfl]; exact h3), by simp, rfl⟩
  | ow t g E0 sz xs m m' hb hm hm' =>
    cases hv with
    | os _ _ _ _ hg hq h1 =>
      obtain ⟨us, ho, hr, hs, hml, hA⟩ := h.bl t g _ hb
      have hu := (hq _ _ _ _ hb).2 rfl
      refine ⟨A, (bOf (F t g)).toList, ⟨h.dropBl t g, .refl _ _, Evo.of_drop t g, fun _ _ ha => .inl ha, fun b hl => live_drop hl, fun r hr => ?_, fun r hr hl => ?_, by simp, fun _ _ _ sd hq => ⟨sd, (drop_bl hq).2⟩, rfl, rfl, fun _ _ _ _ _ hq => (drop_bl hq).2⟩, ?_, ?_, rfl⟩
      · simp at hr; exact ⟨t, g, _, hb, hr⟩
      · simp at hr
        obtain ⟨t', g', k, h1, h2⟩ := hl
        exact (drop_bl h1).1 (h.inj _ _ _ _ _ _ r (drop_bl h1).2 hb h2 hr)
      · rw [hu]
        exact .ow _ _ _ _ _ us ho hr hs hm' fun r hb o ha => Nat.lt_of_lt_of_le (hA r hb o ha) (Nat.mul_le_mul_right _ hm)
      · cases bOf (F t g) <;> simp
  | rf t g cs hb =>
    cases hv with
    | pt _ _ _ _ hg hq h1 =>
      obtain ⟨r, us, T, hF, hw, hr, hs1, hs2⟩ := h.bl t g _ hb
      obtain ⟨r', hF', hu⟩ := hq _ hb rfl
      rw [hF] at hF'; simp at hF'; subst hF'
      refine ⟨A, [r], ⟨h.dropBl t g, .refl _ _, Evo.of_drop t g, fun _ _ ha => .inl ha, fun b hl => live_drop hl, fun q hq => ?_, fun q hq hl => ?_, fun n hn => ?_, fun _ _ _ sd hq => ⟨sd, (drop_bl hq).2⟩, rfl, rfl, fun _ _ _ _ _ hq => (drop_bl hq).2⟩, ?_, by simp, ?_⟩
      · simp at hq; subst hq; exact ⟨t, g, _, hb, by rw [hF]; rfl⟩
      · simp at hq; subst hq
        obtain ⟨t', g', k, h1, h2⟩ := hl
        exact (drop_bl h1).1 (h.inj _ _ _ _ _ _ q (drop_bl h1).2 hb h2 (by rw [hF]; rfl))
      · simp at hn; subst hn
        refine ⟨by simp [St.drop, upd2_same], ⟨_, _, hb⟩, fun q hq hl => ?_⟩
        obtain ⟨t', g', k, h1, h2⟩ := hl
        exact (drop_bl h1).1 (h.inj _ _ _ _ _ _ q (drop_bl h1).2 hb h2 hq)
      · rw [hu]; exact .rf _ _ us T hw hr.plain (hs1 rfl)
      · simp [rfVals, hF, hu]
  | ro t g off cs sd hb =>
    cases hv with
    | pt _ _ _ _ hg hq h1 =>
      obtain ⟨A', h2, r, hF, h3⟩ := PassOk.seal_var h hb
      obtain ⟨r', hF', hu⟩ := hq _ hb rfl
      rw [hF] at hF'; simp at hF'; subst hF'
      refine ⟨A', [], h2, .p _ _ ?_, by simp, rfl⟩
      rw [hu]
      have := RepP.ro (.ag cs) off r 0 h3
      rwa [Nat.zero_add] at this
  | pe t g i off E0 sz xs m y hb hy =>
    cases hv with
    | pe _ _ _ _ _ _ hg hq h1 =>
      obtain ⟨A', h2, h3, h4⟩ := PassOk.seal_arr h hb
      obtain ⟨r, hr, hu⟩ := (hq _ _ _ _ hb).2 rfl
      refine ⟨A', [], h2, .p _ _ ?_, by simp, rfl⟩
      rw [hu]
      exact .ro _ _ _ _ (h4 i y r hy hr)

theorem Evo.trans {A2 : Nat → Nat → Prop} {F2 : Nat → Nat → Value} {S2 : St} {w2 : World} (e : Evo A A' F F' S S' w w') (f : Evo A' A2 F' F2 S' S2 w' w2) : Evo A A2 F F2 S S2 w w2 :=
  ⟨e.keeps.trans f.keeps, fun t => Nat.le_trans (e.gen t) (f.gen t), fun t g b hg h hp => by
      obtain ⟨b1, h1, p1, hF1⟩ := f.var t g b (Nat.lt_of_lt_of_le hg (e.gen t)) h hp
      obtain ⟨b2, h2, p2, hF2⟩ := e.var t g b1 hg h1 p1
      exact ⟨b2, h2, p2, hF1.trans hF2⟩,
    fun t g E sz xs m hg h => by
      obtain ⟨x1, m1, h1, hl1, hF1⟩ := f.arr t g E sz xs m (Nat.lt_of_lt_of_le hg (e.gen t)) h
      obtain ⟨x2, m2, h2, hl2, hF2⟩ := e.arr t g E sz x1 m1 hg h1
      exact ⟨x2, m2, h2, Nat.le_trans hl2 hl1, fun hq => (hF1 (by omega)).trans (hF2 (by omega))⟩⟩

theorem PassOk.trans (h0 : Inv E N S A F a w) {S1 S2 : St} {l k : List (Nat × Nat)} {A1 A2 : Nat → Nat → Prop} {r1 r2 : List Nat} (p : PassOk E N S A F a w S1 l A1 r1) (q : PassOk E N S1 A1 F a w S2 k A2 r2) :
    PassOk E N S A F a w S2 (l ++ k) A2 (r1 ++ r2) where
  inv := q.inv
  keeps := p.keeps.trans q.keeps
  evo := p.evo.trans q.evo
  sub := fun b o ha => by
    rcases q.sub b o ha with h | h
    · exact p.sub b o h
    · exact .inr (p.live b h)
  live := fun b h => p.live b (q.live b h)
  was := fun r hr => by
    rcases List.mem_append.1 hr with h | h
    · exact p.was r h
    · exact p.live r (q.was r h)
  gone := fun r hr hl => by
    rcases List.mem_append.1 hr with h | h
    · exact p.gone r h (q.live r hl)
    · exact q.gone r h hl
  names := fun n hn => by
    rcases List.mem_append.1 hn with h | h
    · obtain ⟨h1, ⟨cs, sd, h2⟩, h3⟩ := p.names n h
      have hg : n.2 < S1.gen n.1 := by rw [p.gen]; exact h0.lt _ _ _ h2
      refine ⟨?_, ⟨cs, sd, h2⟩, fun r hr hl => h3 r hr (q.live r hl)⟩
      cases hb : S2.bl n.1 n.2 with
      | none => rfl
      | some b =>
        exfalso
        cases b with
        | var cs sd => obtain ⟨c, h4, _⟩ := q.evo.var _ _ _ hg hb rfl; rw [h1] at h4; simp at h4
        | bld T g1 n => obtain ⟨c, h4, _⟩ := q.evo.var _ _ _ hg hb rfl; rw [h1] at h4; simp at h4
        | arr E sz xs m => obtain ⟨c, s, h4, _⟩ := q.evo.arr _ _ _ _ _ _ hg hb; rw [h1] at h4; simp at h4
    · obtain ⟨h1, ⟨cs, sd, h2⟩, h3⟩ := q.names n h
      obtain ⟨sd0, h4⟩ := p.same _ _ _ _ h2
      exact ⟨h1, ⟨cs, sd0, h4⟩, h3⟩
  same := fun t g cs sd hb => by
    obtain ⟨s1, h1⟩ := q.same _ _ _ _ hb
    exact p.same _ _ _ _ h1
  tm := q.tm.trans p.tm
  gen := q.gen.trans p.gen
  sameB := fun t g T g1 n hb => p.sameB _ _ _ _ _ (q.sameB _ _ _ _ _ hb)

theorem rfVals_cons {x : TV} {u : Value} {xs : List TV} {us : List Value} : rfVals (x :: xs) (u :: us) = rfVals [x] [u] ++ rfVals xs us := by
  cases x <;> simp [rfVals]

theorem PassPs.sound {vs : List AV} {xs : List PV} : ∀ {S S' : St} {A : Nat → Nat → Prop} {us : List Value}, PassPs S vs xs S' → Inv E N S A F a w → RepAs A F S w vs us →
    ∃ A', PassOk E N S A F a w S' [] A' [] ∧ RepPs A' w xs us := by
  induction vs generalizing xs with
  | nil =>
    intro S S' A us hp h hv
    cases hp; cases hv
    exact ⟨A, .idle h, .nil⟩
  | cons v vs ih =>
    intro S S' A us hp h hv
    cases hp with
    | cons _ S1 _ _ x _ xs hp1 hps =>
      cases hv with
      | cons _ u _ us hv h1 hvs =>
        obtain ⟨A1, rs, p, hr, _, _⟩ := hp1.sound h hv
        cases hr with
        | p _ _ hr =>
          obtain ⟨A2, q, hrs⟩ := ih hps p.inv (hvs.evo p.evo)
          exact ⟨A2, p.trans h q, .cons _ _ _ _ (hr.mono q.keeps) h1 hrs⟩

theorem PassV.sound {v : AV} {tv : TV} {l : List (Nat × Nat)} {u : Value} (hp : PassV S v tv S' l) (h : Inv E N S A F a w) (hv : RepA A F S w v u) :
    ∃ A' rs, PassOk E N S A F a w S' l A' rs ∧ RepT A' w tv u rs ∧ rs.Nodup ∧ rfVals [tv] [u] = l.map fun n => F n.1 n.2 := by
  cases hp with
  | one _ _ _ _ hp => exact hp.sound h hv
  | ag _ vs xs hp =>
    cases hv with
    | ag _ us hv =>
      obtain ⟨A', p, hr⟩ := hp.sound h hv
      exact ⟨A', [], p, .p _ _ (.ag _ _ hr), by simp, rfl⟩
  | fn _ f vs xs hp =>
    cases hv with
    | fn _ _ us hv =>
      obtain ⟨A', p, hr⟩ := hp.sound h hv
      exact ⟨A', [], p, .p _ _ (.fn _ _ _ hr), by simp, rfl⟩

theorem PassOk.keep {l : List (Nat × Nat)} {rs : List Nat} {rs0 : List Nat} (p : PassOk E N S A F a w S' l A' rs) (h0 : ∀ r ∈ rs0, ¬ Live S F r) : ∀ r ∈ rs0, ∀ o, A' r o → A r o := fun r hr o ha => by
  rcases p.sub r o ha with h | h
  · exact h
  · exact absurd h (h0 r hr)

theorem PassL.sound {vs : List AV} {tvs : List TV} : ∀ {S S' : St} {A : Nat → Nat → Prop} {us : List Value} {l : List (Nat × Nat)}, PassL S vs tvs S' l → Inv E N S A F a w → RepTu A F S w vs us →
    ∃ A' rs, PassOk E N S A F a w S' l A' rs ∧ RepTt A' w tvs us rs ∧ rs.Nodup ∧ rfVals tvs us = l.map fun n => F n.1 n.2 := by
  induction vs generalizing tvs with
  | nil =>
    intro S S' A us l hp h hv
    cases hp; cases hv
    exact ⟨A, [], .idle h, .nil, by simp, rfl⟩
  | cons v vs ih =>
    intro S S' A us l hp h hv
    cases hp with
    | cons _ S1 _ _ x _ xs l1 l2 hp1 hps =>
      cases hv with
      | cons _ u _ us hv hvs =>
        obtain ⟨A1, r1, p, hr, hn, hf⟩ := hp1.sound h hv
        obtain ⟨A2, r2, q, hrs, hns, hfs⟩ := ih hps p.inv (hvs.evo p.evo)
        refine ⟨A2, r1 ++ r2, p.trans h q, .cons _ _ _ _ _ _ (hr.monoA q.keeps (q.keep p.gone)) hrs, ?_, ?_⟩
        · rw [List.nodup_append]
          exact ⟨hn, hns, fun r h1 r' h2 e => by subst e; exact p.gone r h1 (q.was r h2)⟩
        · rw [rfVals_cons, hf, hfs, List.map_append]
end
end Go.Proofs.Ytablmbhnimnccaa.Pw
