/- Plain told functions, part 5: how great a solid is; whether two are the same; the planes of a solid. No condition. -/
import Derived.Test.YtablmbhnimnccaaZqPure4
namespace Go.Proofs.Ytablmbhnimnccaa.Pw

mutual
def szT : Sol → Int → Int
  | .mk _ _ k, l => if (if l - k.length < 0 then -1 else szL k (l - k.length)) < 0 then -1 else szL k (l - k.length)
def szL : List Sol → Int → Int
  | [], l => l
  | s :: r, l => if szT s l < 0 then -1 else szL r (szT s l)
end
def szTs (k : List Sol) (l : Int) : Int := if l - k.length < 0 then -1 else szL k (l - k.length)
theorem szT_mk (i : Bool) (p : Pl) (k : List Sol) (l : Int) : szT (.mk i p k) l = if szTs k l < 0 then -1 else szTs k l := by
  unfold szT szTs
  split
  · simp
  · split <;> simp_all
mutual
theorem szT_le : ∀ (s : Sol) (l : Int), 0 ≤ l → szT s l ≤ l
  | .mk i p k, l, h => by
    unfold szT
    by_cases h2 : l - k.length < 0
    · simp [h2]; omega
    · have := szL_le k (l - k.length) (by omega)
      simp only [h2, if_false]; split <;> omega
theorem szL_le : ∀ (k : List Sol) (l : Int), 0 ≤ l → szL k l ≤ l
  | [], l, h => by simp [szL]
  | s :: r, l, h => by
    have h1 := szT_le s l h
    unfold szL
    split
    · omega
    · have := szL_le r (szT s l) (by omega); omega
end
mutual
theorem szT_fits : ∀ (s : Sol) (l : Int), 0 ≤ l → l ≤ 1048576 → 0 ≤ szT s l → fits s
  | .mk i p k, l, h, hl, hs => by
    unfold szT at hs
    unfold fits
    by_cases h2 : l - k.length < 0
    · simp [h2] at hs
    · simp only [h2, if_false] at hs
      split at hs
      · omega
      · exact ⟨by omega, szL_fits k (l - k.length) (by omega) (by omega) hs⟩
theorem szL_fits : ∀ (k : List Sol) (l : Int), 0 ≤ l → l ≤ 1048576 → 0 ≤ szL k l → fitsS k
  | [], l, h, hl, hs => by unfold fitsS; trivial
  | s :: r, l, h, hl, hs => by
    have h1 := szT_le s l h
    unfold szL at hs
    unfold fitsS
    split at hs
    · omega
    · exact ⟨szT_fits s l h hl (by omega), szL_fits r (szT s l) (by omega) (by omega) hs⟩
end
mutual
/-- Every list within is one that memory bears. -/
def lens : Sol → Prop
  | .mk _ _ k => k.length ≤ 140737488355328 ∧ lensS k
def lensS : List Sol → Prop
  | [] => True
  | s :: l => lens s ∧ lensS l
end
theorem lensS_mem {l : List Sol} (h : lensS l) : ∀ s ∈ l, lens s := by
  induction l with
  | nil => simp
  | cons x l ih =>
    intro s hs
    unfold lensS at h
    rcases List.mem_cons.1 hs with rfl | hs
    · exact h.1
    · exact ih h.2 s hs

mutual
def eqS : Sol → Sol → Bool
  | .mk i p k, .mk j q l => (i == j) && (decide (p = q) && eqSs k l)
def eqSs : List Sol → List Sol → Bool
  | [], [] => true
  | x :: k, y :: l => eqS x y && eqSs k l
  | _, _ => false
end
mutual
theorem eqS_iff : ∀ (a b : Sol), eqS a b = true ↔ a = b
  | .mk i p k, .mk j q l => by
    unfold eqS
    have := eqSs_iff k l
    simp only [Bool.and_eq_true, beq_iff_eq, decide_eq_true_eq, this, Sol.mk.injEq]
theorem eqSs_iff : ∀ (a b : List Sol), eqSs a b = true ↔ a = b
  | [], [] => by simp [eqSs]
  | x :: k, y :: l => by
    unfold eqSs
    simp only [Bool.and_eq_true, eqS_iff x y, eqSs_iff k l, List.cons.injEq]
  | [], _ :: _ => by simp [eqSs]
  | _ :: _, [] => by simp [eqSs]
end
theorem eqS_refl (a : Sol) : eqS a a = true := (eqS_iff a a).2 rfl
theorem eqSs_len {a b : List Sol} (h : (a.length : Int) ≠ b.length) : eqSs a b = false := by
  cases hq : eqSs a b with
  | false => rfl
  | true => have := (eqSs_iff a b).1 hq; subst this; exact absurd rfl h
theorem eqSs_st {a b : List Sol} {i : Nat} {x y : Sol} (ha : a[i]? = some x) (hb : b[i]? = some y) : eqSs (a.drop i) (b.drop i) = (eqS x y && eqSs (a.drop (i + 1)) (b.drop (i + 1))) := by
  rw [drop_of ha, drop_of hb, eqSs]

def insK (out : List Pl) (p : Pl) : Nat → Nat
  | 0 => 0
  | k + 1 => match out[k]? with
    | some q => if cmpP q p > 0 then insK out p k else k + 1
    | none => k + 1
theorem insK_go {out : List Pl} {p q : Pl} {k : Nat} (h0 : 0 < k) (hq : out[((k : Int) - 1).toNat]? = some q) (h : cmpP q p > 0) : insK out p (k - 1) = insK out p k := by
  obtain ⟨j, rfl⟩ : ∃ j, k = j + 1 := ⟨k - 1, by omega⟩
  have e : (((j + 1 : Nat) : Int) - 1).toNat = j := by omega
  rw [e] at hq
  show insK out p j = _
  rw [insK, hq]; simp [h]
theorem insK_stop {out : List Pl} {p q : Pl} {k : Nat} (h0 : 0 < k) (hq : out[((k : Int) - 1).toNat]? = some q) (h : ¬ cmpP q p > 0) : insK out p k = k := by
  obtain ⟨j, rfl⟩ : ∃ j, k = j + 1 := ⟨k - 1, by omega⟩
  have e : (((j + 1 : Nat) : Int) - 1).toNat = j := by omega
  rw [e] at hq
  rw [insK, hq]; simp [h]
theorem insK_0 {out : List Pl} {p : Pl} {k : Nat} (h : ¬ (k : Int) > 0) : insK out p k = k := by
  have : k = 0 := by omega
  subst this; rfl
theorem insK_le (out : List Pl) (p : Pl) : ∀ k, insK out p k ≤ k
  | 0 => Nat.le_refl _
  | k + 1 => by
    rw [insK]
    split
    · split
      · have := insK_le out p k; omega
      · omega
    · omega
/-- A plane put into a row, at its place. -/
def insPl (out : List Pl) (p : Pl) : List Pl :=
  let k := insK out p out.length
  if k = 0 ∨ out[k - 1]? ≠ some p then out.take k ++ [p] ++ out.drop k else out
def greatS (p : Pl) : Pl := if cmpP p (flip p) < 0 then flip p else p
def planesS : Sol → List Pl → List Pl
  | .mk _ p k, out => match k with
    | [a, b] => planesS b (planesS a (insPl out (greatS p)))
    | _ => out
  termination_by s => SizeOf.sizeOf s
  decreasing_by all_goals (simp; omega)
theorem planesS_leaf (i : Bool) (p : Pl) (out : List Pl) : planesS (.mk i p []) out = out := by rw [planesS] <;> simp
theorem planesS_node (i : Bool) (p : Pl) (a b : Sol) (out : List Pl) : planesS (.mk i p [a, b]) out = planesS b (planesS a (insPl out (greatS p))) := by rw [planesS]
theorem planes_0 {i : Bool} {p : Pl} {k : List Sol} {out : List Pl} (h : (k.length : Int) = 0) : out = planesS (.mk i p k) out := by
  have : k = [] := List.eq_nil_of_length_eq_zero (by omega)
  subst this; exact (planesS_leaf _ _ _).symm
theorem planes_n {i : Bool} {p : Pl} {k : List Sol} {a b : Sol} {path out X : List Pl} (h : look (.mk i p k) path = true) (ha : k[0]? = some a) (hb : k[1]? = some b) (hX : X = insPl out (greatS p)) : planesS b (planesS a X) = planesS (.mk i p k) out := by
  obtain ⟨b', hb', hk, _⟩ := look_get h ha
  rw [hb] at hb'; simp at hb'; subst hb'; subst hk; subst hX
  exact (planesS_node _ _ _ _ _).symm
theorem insPl_le (out : List Pl) (p : Pl) : (insPl out p).length ≤ out.length + 1 := by
  unfold insPl
  simp only
  split
  · simp; omega
  · omega
theorem planes_le : ∀ (s : Sol) (out : List Pl), (planesS s out).length ≤ out.length + nodesN s
  | .mk i p k, out => by
    match k with
    | [] => rw [planesS_leaf]; omega
    | [x] => rw [planesS] <;> simp
    | x :: y :: z :: r => rw [planesS] <;> simp
    | [a, b] =>
      have h1 := insPl_le out (greatS p)
      have h2 := planes_le a (insPl out (greatS p))
      have h3 := planes_le b (planesS a (insPl out (greatS p)))
      rw [planesS_node, nodes_node]; omega
  termination_by s => SizeOf.sizeOf s
  decreasing_by all_goals (simp; omega)
theorem insPl_ok {out : List Pl} {p : Pl} (h : ∀ q ∈ out, okc q) (hp : okc p) : ∀ q ∈ insPl out p, okc q := fun q hq => by
  unfold insPl at hq
  simp only at hq
  split at hq
  · rcases List.mem_append.1 hq with hq | hq
    · rcases List.mem_append.1 hq with hq | hq
      · exact h q (List.mem_of_mem_take hq)
      · simp at hq; subst hq; exact hp
    · exact h q (List.mem_of_mem_drop hq)
  · exact h q hq
theorem ins_yes {out : List Pl} {p : Pl} {k : Nat} (hx : insK out p k = insK out p out.length) (hk : insK out p k = k) (h : (k : Int) = 0 ∨ ∃ q, out[((k : Int) - 1).toNat]? = some q ∧ q ≠ p) : out.take k ++ [p] ++ out.drop k = insPl out p := by
  unfold insPl
  simp only
  rw [← hx, hk, if_pos]
  rcases h with h | ⟨q, hq, hne⟩
  · exact .inl (by omega)
  · have e : ((k : Int) - 1).toNat = k - 1 := by omega
    rw [e] at hq
    exact .inr (by rw [hq]; simpa using hne)
theorem ins_no {out : List Pl} {p q : Pl} {k : Nat} (hx : insK out p k = insK out p out.length) (hk : insK out p k = k) (h0 : ¬ (k : Int) = 0) (hq : out[((k : Int) - 1).toNat]? = some q) (h : ¬ q ≠ p) : out = insPl out p := by
  unfold insPl
  simp only
  rw [← hx, hk, if_neg]
  intro hn
  have e : ((k : Int) - 1).toNat = k - 1 := by omega
  rw [e] at hq
  rcases hn with hn | hn
  · omega
  · rw [hq] at hn; simp at hn; exact h hn
theorem greatS_ok {p : Pl} (h : okc p) : okc (greatS p) := by
  unfold greatS
  split
  · exact okc_flip h
  · exact h
theorem planes_ok : ∀ (s : Sol) (out path : List Pl), (∀ q ∈ out, okc q) → look s path = true → ∀ q ∈ planesS s out, okc q
  | .mk i p k, out, path, ho, h => by
    match k with
    | [] => rw [planesS_leaf]; exact ho
    | [x] => rw [look_bad (by simp) (by simp)] at h; simp at h
    | x :: y :: z :: r => rw [look_bad (by simp) (by simp)] at h; simp at h
    | [a, b] =>
      have hp := look_okc h (by simp)
      rw [look_node] at h
      simp only [Bool.and_eq_true] at h
      rw [planesS_node]
      exact planes_ok b _ _ (planes_ok a _ _ (insPl_ok ho (greatS_ok hp)) h.1.2) h.2
  termination_by s => SizeOf.sizeOf s
  decreasing_by all_goals (simp; omega)
noncomputable def cellsOf (s : Sol) (inn : Bool) : List (List Pl) := if sok s = true then cellsP s inn [] else []
noncomputable def planesOfS (s : Sol) : List Pl := if sok s = true then planesS s [] else []
end Go.Proofs.Ytablmbhnimnccaa.Pw
