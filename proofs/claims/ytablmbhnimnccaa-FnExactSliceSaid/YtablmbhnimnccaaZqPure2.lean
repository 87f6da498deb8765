/- Plain told functions, part 2: right solids, where a point lies, grids. No condition. -/
import Derived.Test.YtablmbhnimnccaaZqPure
namespace Go.Proofs.Ytablmbhnimnccaa.Pw

theorem rgt_look : ∀ (s : Sol) (path : List Pl) (n : Int), n ≤ 300 → path.length ≤ 24 →
    ((rgt s path n).1 = true ↔ look s path = true ∧ n + nodesN s ≤ 300) ∧ ((rgt s path n).1 = true → (rgt s path n).2 = n + nodesN s)
  | .mk i p k, path, n, hn, hl => by
    match k with
    | [] => simp only [rgt_leaf, look_leaf, nodes_leaf, zeroPl]; exact ⟨⟨fun h => ⟨h, by omega⟩, fun h => h.1⟩, fun _ => by omega⟩
    | [x] => rw [rgt_bad (by simp) (by simp), look_bad (by simp) (by simp)]; simp
    | x :: y :: z :: r => rw [rgt_bad (by simp) (by simp), look_bad (by simp) (by simp)]; simp
    | [a, b] =>
      rw [rgt_node, look_node, nodes_node]
      have ha := rgt_look a (path ++ [p]) (n + 1)
      have hna := nodesN a
      by_cases hc : i = false ∧ n + 1 ≤ 300 ∧ path.length < 24 ∧ plok p = true ∧ room path p = true ∧ room path (flip p) = true
      · obtain ⟨h1, h2, h3, h4, h5, h6⟩ := hc
        obtain ⟨a1, a2⟩ := ha h2 (by simp; omega)
        rw [if_pos ⟨h1, h2, h3, h4, h5, h6⟩]
        by_cases hA : (rgt a (path ++ [p]) (n + 1)).1 = true
        · have hv := a2 hA
          have hb := rgt_look b (path ++ [flip p]) (n + 1 + nodesN a)
          have hA' := a1.1 hA
          obtain ⟨b1, b2⟩ := hb (by omega) (by simp; omega)
          rw [if_pos hA, hv]
          refine ⟨?_, fun h => by rw [b2 h]; omega⟩
          rw [b1]
          simp only [h1, h4, h5, h6, hA'.1, Bool.not_false, Bool.true_and, Bool.and_true]
          have : decide (path.length ≠ 24) = true := by simp; omega
          rw [this]; simp only [Bool.true_and, and_congr_right_iff]
          intro _; omega
        · rw [if_neg hA]
          refine ⟨⟨fun h => by simp at h, fun ⟨h, h'⟩ => ?_⟩, fun h => by simp at h⟩
          simp only [Bool.and_eq_true] at h
          exact absurd (a1.2 ⟨h.1.2, by omega⟩) hA
      · rw [if_neg hc]
        refine ⟨⟨fun h => by simp at h, fun ⟨h, h'⟩ => ?_⟩, fun h => by simp at h⟩
        simp only [Bool.and_eq_true, Bool.not_eq_true', decide_eq_true_eq] at h
        obtain ⟨⟨⟨⟨⟨⟨q1, q2⟩, q3⟩, q4⟩, q5⟩, q6⟩, q7⟩ := h
        exact absurd ⟨q1, by omega, by omega, q2, q4, q5⟩ hc
  termination_by s => SizeOf.sizeOf s
  decreasing_by all_goals (simp; omega)

/-- Is a solid right? -/
noncomputable def sok (s : Sol) : Bool := look s [] && decide (nodesN s ≤ 300)
theorem sok_i (s : Sol) : (rgt s [] 0).1 = sok s := by
  have h := (rgt_look s [] 0 (by omega) (by simp)).1
  rw [Bool.eq_iff_iff, h]; simp [sok]; intro _; omega
theorem sok_s (s : Sol) : (decide (count s 301 ≤ 300) && look s []) = sok s := by
  unfold sok
  cases hl : look s [] with
  | false => simp
  | true =>
    have := count_look s [] 301 hl (by omega)
    rw [this]; simp
    split <;> omega
end Go.Proofs.Ytablmbhnimnccaa.Pw
