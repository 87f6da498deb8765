/- Pw, part 1: plain values and how they lie in memory. No condition. -/
import Derived.Laws.AppendOwn
import Derived.Below
namespace Go.Proofs.Ytablmbhnimnccaa.Pw

/-- A plain value: no name of a block of the frame's own. -/
inductive PV where
  | lit (v : Value)
  | sl (sz : Nat) (xs : List PV)
  | ag (cs : List PV)
  | fn (f : FuncId) (caps : List PV)
  | ro (x : PV) (off : Nat)

def PV.cells : PV → List PV
  | .ag cs => cs
  | x => [x]

def PV.size (x : PV) : Nat := x.cells.length

def flat : List PV → List PV
  | [] => []
  | x :: xs => x.cells ++ flat xs

mutual
inductive RepP (A : Nat → Nat → Prop) (w : World) : PV → Value → Prop
  | lit (v : Value) : RepP A w (.lit v) v
  | ag (cs : List PV) (us : Array Value) (h : RepPs A w cs us.toList) : RepP A w (.ag cs) (.agg us)
  | snil (sz c : Nat) (hc : c ≤ maxLen) (a : Option Addr) : RepP A w (.sl sz []) (.slice a 0 c)
  | sl (sz : Nat) (xs : List PV) (ad : Addr) (c : Nat) (hl : xs.length ≤ c) (hc : c ≤ maxLen) (hs : ∀ x ∈ xs, x.size = sz) (hsp : ad.spot = none)
      (h : RepCells A w ad.block ad.off (flat xs)) : RepP A w (.sl sz xs) (.slice (some ad) xs.length c)
  | fn (f : FuncId) (caps : List PV) (us : Array Value) (h : RepPs A w caps us.toList) : RepP A w (.fn f caps) (.func (.func f) #[] us)
  | ro (x : PV) (off b o : Nat) (h : RepCells A w b o x.cells) : RepP A w (.ro x off) (.pointer (some ⟨b, o + off, none⟩))
inductive RepPs (A : Nat → Nat → Prop) (w : World) : List PV → List Value → Prop
  | nil : RepPs A w [] []
  | cons (x : PV) (u : Value) (xs : List PV) (us : List Value) (h : RepP A w x u) (h1 : u.oneCell' = true) (hs : RepPs A w xs us) : RepPs A w (x :: xs) (u :: us)
inductive RepCells (A : Nat → Nat → Prop) (w : World) : Nat → Nat → List PV → Prop
  | nil (b o : Nat) : RepCells A w b o []
  | cons (b o : Nat) (x : PV) (u : Value) (xs : List PV) (hA : A b o) (hc : w.cell? ⟨b, o, none⟩ = some u) (h : RepP A w x u) (h1 : u.oneCell' = true)
      (hs : RepCells A w b (o + 1) xs) : RepCells A w b o (x :: xs)
end

/-- What holds in a wider world, in which no cell of A has turned. -/
structure Keeps (A A' : Nat → Nat → Prop) (w w' : World) : Prop where
  sub : ∀ b o, A b o → A' b o
  cell : ∀ b o, A b o → w'.cell? ⟨b, o, none⟩ = w.cell? ⟨b, o, none⟩

section
variable {A A' : Nat → Nat → Prop} {w w' : World}

mutual
theorem RepP.mono (k : Keeps A A' w w') : ∀ {x : PV} {u : Value}, RepP A w x u → RepP A' w' x u
  | _, _, .lit v => .lit v
  | _, _, .ag cs us h => .ag cs us (RepPs.mono k h)
  | _, _, .snil sz c hc a => .snil sz c hc a
  | _, _, .sl sz xs ad c hl hc hs hsp h => .sl sz xs ad c hl hc hs hsp (RepCells.mono k h)
  | _, _, .fn f caps us h => .fn f caps us (RepPs.mono k h)
  | _, _, .ro x off b o h => .ro x off b o (RepCells.mono k h)
theorem RepPs.mono (k : Keeps A A' w w') : ∀ {xs : List PV} {us : List Value}, RepPs A w xs us → RepPs A' w' xs us
  | _, _, .nil => .nil
  | _, _, .cons x u xs us h h1 hs => .cons x u xs us (RepP.mono k h) h1 (RepPs.mono k hs)
theorem RepCells.mono (k : Keeps A A' w w') : ∀ {b o : Nat} {xs : List PV}, RepCells A w b o xs → RepCells A' w' b o xs
  | _, _, _, .nil b o => .nil b o
  | _, _, _, .cons b o x u xs hA hc h h1 hs => .cons b o x u xs (k.sub _ _ hA) ((k.cell _ _ hA).trans hc) (RepP.mono k h) h1 (RepCells.mono k hs)
end

theorem Keeps.refl (A : Nat → Nat → Prop) (w : World) : Keeps A A w w := ⟨fun _ _ h => h, fun _ _ _ => rfl⟩
theorem Keeps.trans {A1 A2 A3 : Nat → Nat → Prop} {w1 w2 w3 : World} (h : Keeps A1 A2 w1 w2) (k : Keeps A2 A3 w2 w3) : Keeps A1 A3 w1 w3 :=
  ⟨fun b o a => k.sub b o (h.sub b o a), fun b o a => (k.cell b o (h.sub b o a)).trans (h.cell b o a)⟩

theorem RepPs.length {xs : List PV} {us : List Value} (h : RepPs A w xs us) : us.length = xs.length := by
  induction xs generalizing us with
  | nil => cases h; rfl
  | cons x xs ih => cases h with | cons _ u _ us h h1 hs => simp [ih hs]

theorem RepPs.one {xs : List PV} {us : List Value} (h : RepPs A w xs us) : ∀ u ∈ us, u.oneCell' = true := by
  induction xs generalizing us with
  | nil => cases h; simp
  | cons x xs ih =>
    cases h with
    | cons _ u _ us h h1 hs =>
      intro v hv
      rcases List.mem_cons.1 hv with rfl | hv
      · exact h1
      · exact ih hs v hv

theorem RepPs.append {xs ys : List PV} {us vs : List Value} (h : RepPs A w xs us) (k : RepPs A w ys vs) : RepPs A w (xs ++ ys) (us ++ vs) := by
  induction xs generalizing us with
  | nil => cases h; exact k
  | cons x xs ih => cases h with | cons _ u _ us h h1 hs => exact .cons _ _ _ _ h h1 (ih hs)

theorem RepPs.split {xs ys : List PV} {us : List Value} (h : RepPs A w (xs ++ ys) us) : RepPs A w xs (us.take xs.length) ∧ RepPs A w ys (us.drop xs.length) := by
  induction xs generalizing us with
  | nil => exact ⟨by simpa using RepPs.nil, by simpa using h⟩
  | cons x xs ih =>
    cases h with
    | cons _ u _ us h h1 hs =>
      obtain ⟨h2, h3⟩ := ih hs
      exact ⟨by simpa using RepPs.cons _ _ _ _ h h1 h2, by simpa using h3⟩

theorem RepPs.take {xs : List PV} {us : List Value} (h : RepPs A w xs us) (n : Nat) : RepPs A w (xs.take n) (us.take n) := by
  induction xs generalizing us n with
  | nil => cases h; simpa using RepPs.nil
  | cons x xs ih =>
    cases h with
    | cons _ u _ us h h1 hs =>
      cases n with
      | zero => simpa using RepPs.nil
      | succ n => simpa using RepPs.cons _ _ _ _ h h1 (ih hs n)

theorem RepPs.drop {xs : List PV} {us : List Value} (h : RepPs A w xs us) (n : Nat) : RepPs A w (xs.drop n) (us.drop n) := by
  induction xs generalizing us n with
  | nil => cases h; simpa using RepPs.nil
  | cons x xs ih =>
    cases h with
    | cons _ u _ us h h1 hs =>
      cases n with
      | zero => simpa using RepPs.cons _ _ _ _ h h1 hs
      | succ n => simpa using ih hs n

theorem RepPs.get {xs : List PV} {us : List Value} (h : RepPs A w xs us) {i : Nat} {x : PV} (hx : xs[i]? = some x) : ∃ u, us[i]? = some u ∧ RepP A w x u ∧ u.oneCell' = true := by
  induction xs generalizing us i with
  | nil => simp at hx
  | cons y xs ih =>
    cases h with
    | cons _ u _ us h h1 hs =>
      cases i with
      | zero => simp at hx; subst hx; exact ⟨u, by simp, h, h1⟩
      | succ i => simpa using ih hs (by simpa using hx)

theorem RepCells.append {b o : Nat} {xs ys : List PV} (h : RepCells A w b o xs) (k : RepCells A w b (o + xs.length) ys) : RepCells A w b o (xs ++ ys) := by
  induction xs generalizing o with
  | nil => simpa using k
  | cons x xs ih =>
    cases h with
    | cons _ _ _ u _ hA hc h h1 hs => exact .cons _ _ _ _ _ hA hc h h1 (ih hs (by simpa [Nat.add_assoc, Nat.add_comm, Nat.add_left_comm] using k))

theorem RepCells.split {b o : Nat} {xs ys : List PV} (h : RepCells A w b o (xs ++ ys)) : RepCells A w b o xs ∧ RepCells A w b (o + xs.length) ys := by
  induction xs generalizing o with
  | nil => exact ⟨.nil _ _, by simpa using h⟩
  | cons x xs ih =>
    cases h with
    | cons _ _ _ u _ hA hc h h1 hs =>
      obtain ⟨h2, h3⟩ := ih hs
      exact ⟨.cons _ _ _ _ _ hA hc h h1 h2, by simpa [Nat.add_assoc, Nat.add_comm, Nat.add_left_comm] using h3⟩

/-- The cells as they are read. -/
theorem RepCells.vals {b o : Nat} {xs : List PV} (h : RepCells A w b o xs) :
    ∃ us, RepPs A w xs us ∧ (∀ j u, us[j]? = some u → w.cell? ⟨b, o + j, none⟩ = some u) ∧ (∀ j, j < xs.length → A b (o + j)) := by
  induction xs generalizing o with
  | nil => exact ⟨[], .nil, by simp, by simp⟩
  | cons x xs ih =>
    cases h with
    | cons _ _ _ u _ hA hc h h1 hs =>
      obtain ⟨us, h2, h3, h4⟩ := ih hs
      refine ⟨u :: us, .cons _ _ _ _ h h1 h2, ?_, ?_⟩
      · intro j v hj
        cases j with
        | zero => simp at hj; subst hj; exact hc
        | succ j => simp at hj; have := h3 j v hj; rwa [Nat.add_right_comm, Nat.add_assoc] at this
      · intro j hj
        cases j with
        | zero => exact hA
        | succ j => have := h4 j (by simpa using hj); rwa [Nat.add_right_comm, Nat.add_assoc] at this

theorem RepCells.of_vals {b o : Nat} {xs : List PV} {us : List Value} (h : RepPs A w xs us) (hc : ∀ j u, us[j]? = some u → w.cell? ⟨b, o + j, none⟩ = some u)
    (hA : ∀ j, j < xs.length → A b (o + j)) : RepCells A w b o xs := by
  induction xs generalizing o us with
  | nil => exact .nil _ _
  | cons x xs ih =>
    cases h with
    | cons _ u _ us h h1 hs =>
      refine .cons _ _ _ u _ (hA 0 (by simp)) (hc 0 u (by simp)) h h1 (ih hs (fun j v hj => ?_) (fun j hj => ?_))
      · have := hc (j + 1) v (by simpa using hj); rwa [← Nat.add_assoc, Nat.add_right_comm] at this
      · have := hA (j + 1) (by simpa using hj); rwa [← Nat.add_assoc, Nat.add_right_comm] at this

theorem flat_append (xs ys : List PV) : flat (xs ++ ys) = flat xs ++ flat ys := by
  induction xs with
  | nil => rfl
  | cons x xs ih => simp [flat, ih]

theorem flat_length {sz : Nat} {xs : List PV} (h : ∀ x ∈ xs, x.size = sz) : (flat xs).length = xs.length * sz := by
  induction xs with
  | nil => simp [flat]
  | cons x xs ih =>
    have h1 : x.cells.length = sz := h x (by simp)
    have h2 := ih (fun y hy => h y (by simp [hy]))
    simp only [flat, List.length_append, h1, h2, List.length_cons, Nat.succ_mul]
    omega

theorem flat_split {sz : Nat} {xs : List PV} (h : ∀ x ∈ xs, x.size = sz) {i : Nat} {x : PV} (hx : xs[i]? = some x) :
    ∃ l r, flat xs = l ++ x.cells ++ r ∧ l.length = i * sz := by
  induction xs generalizing i with
  | nil => simp at hx
  | cons y xs ih =>
    cases i with
    | zero => simp at hx; subst hx; exact ⟨[], flat xs, by simp [flat], by simp⟩
    | succ i =>
      obtain ⟨l, r, e, hl⟩ := ih (fun z hz => h z (by simp [hz])) (i := i) (by simpa using hx)
      have h1 : y.cells.length = sz := h y (by simp)
      refine ⟨y.cells ++ l, r, by simp [flat, e], ?_⟩
      simp only [List.length_append, h1, hl, Nat.succ_mul]
      omega

/-- A slice's elements, from one on. -/
theorem RepCells.elem {sz b o : Nat} {xs : List PV} (hs : ∀ x ∈ xs, x.size = sz) (h : RepCells A w b o (flat xs)) {i : Nat} {x : PV} (hx : xs[i]? = some x) :
    RepCells A w b (o + i * sz) x.cells := by
  obtain ⟨l, r, e, hl⟩ := flat_split hs hx
  rw [e] at h
  have h1 := h.split.1.split.2
  rwa [hl] at h1

theorem RepCells.drop {sz b o : Nat} {xs : List PV} (hs : ∀ x ∈ xs, x.size = sz) (h : RepCells A w b o (flat xs)) (k : Nat) (hk : k ≤ xs.length) :
    RepCells A w b (o + k * sz) (flat (xs.drop k)) := by
  have e : flat xs = flat (xs.take k) ++ flat (xs.drop k) := by rw [← flat_append, List.take_append_drop]
  rw [e] at h
  have h1 := h.split.2
  rwa [flat_length (sz := sz) (fun x hx => hs x (List.mem_of_mem_take hx)), List.length_take, Nat.min_eq_left hk] at h1

theorem RepCells.take {b o : Nat} {xs : List PV} (h : RepCells A w b o (flat xs)) (k : Nat) : RepCells A w b o (flat (xs.take k)) := by
  have e : flat xs = flat (xs.take k) ++ flat (xs.drop k) := by rw [← flat_append, List.take_append_drop]
  rw [e] at h
  exact h.split.1
end
end Go.Proofs.Ytablmbhnimnccaa.Pw
