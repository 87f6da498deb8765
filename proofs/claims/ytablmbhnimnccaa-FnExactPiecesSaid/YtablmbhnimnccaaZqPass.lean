/- Pw, part 4: handing over, and what a call says. No condition. -/
import Derived.Test.YtablmbhnimnccaaZqOp
namespace Go.Proofs.Ytablmbhnimnccaa.Pw

mutual
inductive RepT (A : Nat → Nat → Prop) (w : World) : TV → Value → List Nat → Prop
  | p (x : PV) (u : Value) (h : RepP A w x u) : RepT A w (.p x) u []
  | rf (cs : List PV) (r : Nat) (us : Array Value) (T : TypeId) (hw : w.heap[r]? = some (.cells us T (0, 0))) (h : RepPs A w cs us.toList) (hA : ∀ o, ¬ A r o) :
      RepT A w (.rf cs) (.pointer (some ⟨r, 0, none⟩)) [r]
  | ow (E sz : Nat) (xs : List PV) (m : Nat) (u : Value) (us : List Value) (ho : w.ownsRow 0 E sz u xs.length us) (h : RepPs A w (flat xs) us) (hs : ∀ x ∈ xs, x.size = sz)
      (hm : m ≤ xs.length) (hA : ∀ r, bOf u = some r → ∀ o, A r o → o < m * sz) : RepT A w (.ow E sz xs m) u (bOf u).toList
  | ag (cs : List TV) (us : Array Value) (rs : List Nat) (h : RepTs A w cs us.toList rs) : RepT A w (.ag cs) (.agg us) rs
  | tu (vs : List TV) (us : Array Value) (rs : List Nat) (h : RepTt A w vs us.toList rs) : RepT A w (.tu vs) (.tuple us) rs
inductive RepTs (A : Nat → Nat → Prop) (w : World) : List TV → List Value → List Nat → Prop
  | nil : RepTs A w [] [] []
  | cons (x : TV) (u : Value) (xs : List TV) (us : List Value) (r rs : List Nat) (h : RepT A w x u r) (h1 : u.oneCell' = true) (hs : RepTs A w xs us rs) : RepTs A w (x :: xs) (u :: us) (r ++ rs)
inductive RepTt (A : Nat → Nat → Prop) (w : World) : List TV → List Value → List Nat → Prop
  | nil : RepTt A w [] [] []
  | cons (x : TV) (u : Value) (xs : List TV) (us : List Value) (r rs : List Nat) (h : RepT A w x u r) (hs : RepTt A w xs us rs) : RepTt A w (x :: xs) (u :: us) (r ++ rs)
end

/-- The pointers that are lent. -/
def rfVals : List TV → List Value → List Value
  | .rf _ :: xs, u :: us => u :: rfVals xs us
  | _ :: xs, _ :: us => rfVals xs us
  | _, _ => []

structure After (A : Nat → Nat → Prop) (w : World) (rs : List Nat) (A' : Nat → Nat → Prop) (w' : World) (ro : List Nat) : Prop where
  nodup : ro.Nodup
  own : ∀ r ∈ ro, w.heap.size ≤ r ∨ r ∈ rs
  Alt : ∀ b o, A' b o → b < w'.heap.size
  Anew : ∀ b o, A' b o → b < w.heap.size → A b o ∨ b ∈ rs
  keeps : Keeps A A' w w'
  os : w'.os = w.os
  tape : w'.tape = w.tape
  output : w'.output = w.output
  size : w.heap.size ≤ w'.heap.size
  old : ∀ b, b < w.heap.size → b ∉ rs → w'.heap[b]? = w.heap[b]?

def Callable (P : Program) (f : FuncId) : Prop := ∃ fn, P.funcs[f]? = some fn ∧ fn.body.isSome = true ∧ (fn.name == "runtime.NumGoroutine") = false

/-- Called with args, function f hands back res; what was lent to it holds outs. -/
def Fn (P : Program) (f : FuncId) (args : List TV) (res : TV) (outs : List (List PV)) : Prop :=
  Callable P f ∧ ∀ A w us rs, RepTt A w args us rs → rs.Nodup → (∀ b o, A b o → b < w.heap.size) →
    Calls P f us.toArray w fun e w' => ∃ u A' r1 r2, e = .returned u ∧ RepT A' w' res u r1 ∧ RepTt A' w' (outs.map .rf) (rfVals args us) r2 ∧ After A w rs A' w' (r1 ++ r2)

section
variable {A A' : Nat → Nat → Prop} {w w' : World}

theorem ownsRow_bOf {E sz n : Nat} {u : Value} {us : List Value} (h : w.ownsRow 0 E sz u n us) : bOf u = u.ownBlock := by
  rcases h.2 with ⟨rfl, _⟩ | ⟨g, cap, cur, rfl, _⟩ <;> rfl

theorem ownsRow_lt {E sz n : Nat} {u : Value} {us : List Value} (h : w.ownsRow 0 E sz u n us) {r : Nat} (hr : bOf u = some r) : r < w.heap.size :=
  (h.lt r (by rw [← ownsRow_bOf h]; exact hr)).2

theorem ownsRow_heap {E sz n : Nat} {u : Value} {us : List Value} (h : w.ownsRow 0 E sz u n us) (hh : ∀ r, bOf u = some r → w'.heap[r]? = w.heap[r]?) : w'.ownsRow 0 E sz u n us := by
  refine ⟨h.1, ?_⟩
  rcases h.2 with hn | ⟨g, cap, cur, rfl, h1, h2, h3⟩
  · exact .inl hn
  · exact .inr ⟨g, cap, cur, rfl, h1, (hh g rfl).trans h2, h3⟩

/-- An owned row's slice, shown plain. -/
theorem RepP.of_owns {E sz : Nat} {u : Value} {xs : List PV} {us : List Value} (h : w.ownsRow 0 E sz u xs.length us) (hr : RepPs A w (flat xs) us) (hs : ∀ x ∈ xs, x.size = sz)
    (hA : ∀ r, bOf u = some r → ∀ o, o < xs.length * sz → A r o) : RepP A w (.sl sz xs) u := by
  rcases h.2 with ⟨rfl, h0⟩ | ⟨g, cap, cur, rfl, h1, h2, h3, h4, h5, h6⟩
  · have : xs = [] := List.eq_nil_of_length_eq_zero h0
    subst this
    exact .snil sz 0 (by simp [maxLen]) none
  · refine .sl sz xs ⟨g, 0, none⟩ cap h3 h4 hs rfl ?_
    refine RepCells.of_vals hr (fun j v hj => ?_) (fun j hj => ?_)
    · have := h.cells (g := g) rfl j v hj
      rw [Addr.add] at this
      split at this
      · rename_i h0; subst h0; exact this
      · simpa using this
    · rw [flat_length hs] at hj
      simpa using hA g rfl j hj

theorem ownsRow_cell {E sz n g : Nat} {u : Value} {us : List Value} (h : w.ownsRow 0 E sz u n us) (hg : bOf u = some g) {j : Nat} {v : Value} (hj : us[j]? = some v) : w.cell? ⟨g, j, none⟩ = some v := by
  have := h.cells (g := g) (by rw [← ownsRow_bOf h]; exact hg) j v hj
  rw [Addr.add] at this
  split at this
  · rename_i h0; subst h0; exact this
  · simpa using this
end
end Go.Proofs.Ytablmbhnimnccaa.Pw
