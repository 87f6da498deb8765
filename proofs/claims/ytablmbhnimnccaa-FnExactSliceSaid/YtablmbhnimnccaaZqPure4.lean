/- Plain told functions, part 4: the cells of a solid, its planes, what two cells share. No condition. -/
import Derived.Test.YtablmbhnimnccaaZqPure3
namespace Go.Proofs.Ytablmbhnimnccaa.Pw

noncomputable def acB : List Pl → Pl → List Pl → Bool
  | [], p, both => room both p && room both (flip p)
  | q :: l, p, both => if great q = p ∨ q ∈ both then acB l p both else if room both q = false then false else acB l p (both ++ [q])
noncomputable def across (a b : List Pl) (p : Pl) : Bool := acB [a, b].flatten p []
noncomputable def tchA (a b : List Pl) : List Pl → Bool
  | [] => false
  | q :: l => if flip q ∈ b ∧ across a b (great q) = true then true else tchA a b l
noncomputable def touch (a b : List Pl) : Bool := tchA a b a
theorem great_ok {p : Pl} (h : okc p) : okc (great p) := by
  unfold great
  split
  · exact okc_flip h
  · exact h

def cellsP : Sol → Bool → List Pl → List (List Pl)
  | .mk i p k, inn, path => match k with
    | [a, b] => cellsP a inn (path ++ [p]) ++ cellsP b inn (path ++ [flip p])
    | _ => if i = inn then [path] else []
  termination_by s => SizeOf.sizeOf s
  decreasing_by all_goals (simp; omega)
theorem cellsP_leaf (i : Bool) (p : Pl) (inn : Bool) (path : List Pl) : cellsP (.mk i p []) inn path = if i = inn then [path] else [] := by rw [cellsP] <;> simp
theorem cellsP_node (i : Bool) (p : Pl) (a b : Sol) (inn : Bool) (path : List Pl) : cellsP (.mk i p [a, b]) inn path = cellsP a inn (path ++ [p]) ++ cellsP b inn (path ++ [flip p]) := by rw [cellsP]
theorem cells_0 {i : Bool} {p : Pl} {k : List Sol} {inn : Bool} {path : List Pl} (h : (k.length : Int) = 0) : cellsP (.mk i p k) inn path = if i = inn then [path] else [] := by
  have : k = [] := List.eq_nil_of_length_eq_zero (by omega)
  subst this; exact cellsP_leaf _ _ _ _

section
variable {i : Bool} {p : Pl} {k : List Sol} {a b : Sol} {path : List Pl}
theorem look_two (h : look (.mk i p k) path = true) (h0 : ¬ (k.length : Int) = 0) : k.length = 2 := by
  rcases Nat.decEq k.length 2 with h2 | h2
  · rw [look_bad (by omega) h2] at h; simp at h
  · exact h2
theorem two_of (h2 : k.length = 2) (ha : k[0]? = some a) (hb : k[1]? = some b) : k = [a, b] := by
  match k, h2 with
  | [x, y], _ => simp at ha hb; rw [ha, hb]
theorem look_get (h : look (.mk i p k) path = true) (ha : k[0]? = some a) : ∃ b, k[1]? = some b ∧ k = [a, b] ∧ i = false ∧ plok p = true ∧ path.length ≠ 24 ∧ room path p = true ∧ room path (flip p) = true ∧ look a (path ++ [p]) = true ∧ look b (path ++ [flip p]) = true := by
  have h2 := look_two h (by have := lt_of_get ha; omega)
  obtain ⟨b, hb⟩ := getE (l := k) (i := 1) (by omega)
  have hk := two_of h2 ha hb
  subst hk
  rw [look_node] at h
  simp only [Bool.and_eq_true, Bool.not_eq_true', decide_eq_true_eq] at h
  obtain ⟨⟨⟨⟨⟨⟨q1, q2⟩, q3⟩, q4⟩, q5⟩, q6⟩, q7⟩ := h
  exact ⟨b, hb, rfl, q1, q2, q3, q4, q5, q6, q7⟩
theorem look_a (h : look (.mk i p k) path = true) (ha : k[0]? = some a) : look a (path ++ [p]) = true := let ⟨_, _, _, _, _, _, _, _, h, _⟩ := look_get h ha; h
theorem look_okc (h : look (.mk i p k) path = true) (h0 : ¬ (k.length : Int) = 0) : okc p := by
  obtain ⟨a, ha⟩ := getE (l := k) (i := 0) (by omega)
  obtain ⟨_, _, _, _, h, _⟩ := look_get h ha
  exact plok_okc h
theorem look_lt (h : look (.mk i p k) path = true) (h0 : ¬ (k.length : Int) = 0) (hn : path.length ≤ 24) : path.length < 24 := by
  obtain ⟨a, ha⟩ := getE (l := k) (i := 0) (by omega)
  obtain ⟨_, _, _, _, _, h, _⟩ := look_get h ha
  omega
theorem look_b (h : look (.mk i p k) path = true) (hb : k[1]? = some b) : look b (path ++ [flip p]) = true := by
  obtain ⟨a, ha⟩ := getE (l := k) (i := 0) (by have := lt_of_get hb; omega)
  obtain ⟨b', hb', _, _, _, _, _, _, _, h⟩ := look_get h ha
  rw [hb] at hb'; simp at hb'; subst hb'; exact h
theorem nodes_ab (h : look (.mk i p k) path = true) (ha : k[0]? = some a) (hb : k[1]? = some b) : nodesN (.mk i p k) = 1 + nodesN a + nodesN b := by
  obtain ⟨b', hb', hk, _⟩ := look_get h ha
  rw [hb] at hb'; simp at hb'; subst hb'; subst hk
  exact nodes_node _ _ _ _
theorem nodes_a (h : look (.mk i p k) path = true) (ha : k[0]? = some a) : nodesN a + 1 ≤ nodesN (.mk i p k) := by
  obtain ⟨b', hb', hk, _⟩ := look_get h ha
  subst hk; rw [nodes_node]; omega
theorem nodes_b (h : look (.mk i p k) path = true) (hb : k[1]? = some b) : nodesN b + 1 ≤ nodesN (.mk i p k) := by
  obtain ⟨a, ha⟩ := getE (l := k) (i := 0) (by have := lt_of_get hb; omega)
  rw [nodes_ab h ha hb]; omega
theorem cells_n {inn : Bool} (h : look (.mk i p k) path = true) (ha : k[0]? = some a) (hb : k[1]? = some b) : cellsP a inn (path ++ [p]) ++ cellsP b inn (path ++ [flip p]) = cellsP (.mk i p k) inn path := by
  obtain ⟨b', hb', hk, _⟩ := look_get h ha
  rw [hb] at hb'; simp at hb'; subst hb'; subst hk
  exact (cellsP_node _ _ _ _ _ _).symm
end
theorem cells_le : ∀ (s : Sol) (inn : Bool) (path path' : List Pl), look s path' = true → (cellsP s inn path).length ≤ nodesN s + 1
  | .mk i p k, inn, path, path', h => by
    match k with
    | [] => rw [cellsP_leaf]; split <;> simp
    | [x] => rw [look_bad (by simp) (by simp)] at h; simp at h
    | x :: y :: z :: r => rw [look_bad (by simp) (by simp)] at h; simp at h
    | [a, b] =>
      rw [look_node] at h
      simp only [Bool.and_eq_true] at h
      have h1 := cells_le a inn (path ++ [p]) _ h.1.2
      have h2 := cells_le b inn (path ++ [flip p]) _ h.2
      rw [cellsP_node, nodes_node, List.length_append]; omega
  termination_by s => SizeOf.sizeOf s
  decreasing_by all_goals (simp; omega)
theorem sok_look {s : Sol} (h : sok s = true) : look s [] = true := by unfold sok at h; simp at h; exact h.1
theorem sok_nodes {s : Sol} (h : sok s = true) : nodesN s ≤ 300 := by unfold sok at h; simp at h; exact h.2
end Go.Proofs.Ytablmbhnimnccaa.Pw
