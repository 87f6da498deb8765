/- Plain told functions, part 6: groups of cells. No condition. -/
import Derived.Test.YtablmbhnimnccaaZqPure5
namespace Go.Proofs.Ytablmbhnimnccaa.Pw

def relabel (g : List Int) (a b : Int) : List Int := g.map fun x => if x = a then b else x
def stepG (T : Nat → Nat → Bool) (g : List Int) (i k : Nat) : List Int := if g.getD i 0 ≠ g.getD k 0 ∧ T i k = true then relabel g (g.getD i 0) (g.getD k 0) else g
def rowG (T : Nat → Nat → Bool) (g : List Int) (i : Nat) : Nat → List Int
  | 0 => g
  | k + 1 => stepG T (rowG T g i k) i k
def allG (T : Nat → Nat → Bool) (g : List Int) : Nat → List Int
  | 0 => g
  | i + 1 => rowG T (allG T g i) i i
def g0 (n : Nat) : List Int := (List.range n).map Int.ofNat
theorem g0_su (n : Nat) : g0 n ++ [(n : Int)] = g0 (n + 1) := by simp [g0, List.range_succ]
@[simp] theorem g0_len (n : Nat) : (g0 n).length = n := by simp [g0]
@[simp] theorem relabel_len (g : List Int) (a b : Int) : (relabel g a b).length = g.length := by simp [relabel]
@[simp] theorem stepG_len (T : Nat → Nat → Bool) (g : List Int) (i k : Nat) : (stepG T g i k).length = g.length := by unfold stepG; split <;> simp
@[simp] theorem rowG_len (T : Nat → Nat → Bool) (g : List Int) (i k : Nat) : (rowG T g i k).length = g.length := by
  induction k with
  | zero => rfl
  | succ k ih => simp [rowG, ih]
@[simp] theorem allG_len (T : Nat → Nat → Bool) (g : List Int) (i : Nat) : (allG T g i).length = g.length := by
  induction i with
  | zero => rfl
  | succ i ih => simp [allG, ih]

/-- A row of which the first n are told anew. -/
def mixG (g : List Int) (a b : Int) (n : Nat) : List Int := relabel (g.take n) a b ++ g.drop n
@[simp] theorem mixG_len (g : List Int) (a b : Int) (n : Nat) : (mixG g a b n).length = g.length := by simp [mixG]; omega
theorem mixG_0 (g : List Int) (a b : Int) : mixG g a b 0 = g := by simp [mixG, relabel]
theorem mixG_all (g : List Int) (a b : Int) {n : Nat} (h : g.length ≤ n) : mixG g a b n = relabel g a b := by
  simp [mixG, List.take_of_length_le h, List.drop_eq_nil_of_le h]
theorem mixG_get {g : List Int} {a b : Int} {n : Nat} (j : Nat) : (mixG g a b n)[j]? = (g[j]?).map fun x => if j < n ∧ x = a then b else x := by
  unfold mixG relabel
  by_cases h : j < n
  · by_cases hl : j < g.length
    · rw [List.getElem?_append_left (by simp; omega)]
      simp [h]
    · rw [List.getElem?_append_right (by simp; omega)]
      rw [List.getElem?_eq_none (by simp; omega), List.getElem?_eq_none (by omega)]; rfl
  · by_cases hl : j < g.length
    · rw [List.getElem?_append_right (by simp; omega), List.getElem?_drop]
      have e : n + (j - (List.map (fun x => if x = a then b else x) (List.take n g)).length) = j := by simp; omega
      rw [e]
      simp [h]
    · rw [List.getElem?_eq_none (by simp; omega), List.getElem?_eq_none (by omega)]; rfl
theorem mixG_n {g : List Int} {a b q : Int} {n : Nat} (h : (mixG g a b n)[n]? = some q) : g[n]? = some q := by
  rw [mixG_get] at h
  simp only [Nat.lt_irrefl, false_and, if_false, Option.map_id'] at h
  exact h
theorem mixG_k {g : List Int} {a b r : Int} {n k : Nat} (hk : g[k]? = some b) (hne : b ≠ a) (h : (mixG g a b n)[k]? = some r) : r = b := by
  rw [mixG_get, hk] at h
  simp [hne] at h; exact h.symm
theorem mixG_set {g : List Int} {a b : Int} {n : Nat} (h : g[n]? = some a) : (mixG g a b n).set n b = mixG g a b (n + 1) := by
  have hn := lt_of_get h
  apply List.ext_getElem?
  intro j
  rw [List.getElem?_set, mixG_get, mixG_get]
  by_cases hj : n = j
  · subst hj; rw [if_pos rfl, if_pos (by simpa using hn), h]; simp
  · rw [if_neg hj]
    congr 1; funext x
    by_cases hx : j < n
    · simp [hx, show j < n + 1 by omega]
    · simp [hx, show ¬ j < n + 1 by omega]
theorem mixG_skip {g : List Int} {a b q : Int} {n : Nat} (h : g[n]? = some q) (hne : ¬ q = a) : mixG g a b n = mixG g a b (n + 1) := by
  apply List.ext_getElem?
  intro j
  rw [mixG_get, mixG_get]
  by_cases hj : n = j
  · subst hj; simp [h, hne]
  · congr 1; funext x
    by_cases hx : j < n
    · simp [hx, show j < n + 1 by omega]
    · simp [hx, show ¬ j < n + 1 by omega]

/-! How many there are. -/
def fo (l : List Int) : List Int := l.foldl (fun acc x => if x ∈ acc then acc else acc ++ [x]) []
def card (l : List Int) : Nat := (fo l).length
theorem fo_su (l : List Int) (x : Int) : fo (l ++ [x]) = if x ∈ fo l then fo l else fo l ++ [x]   := by
  unfold fo; rw [List.foldl_append]; rfl
theorem fo_mem (l : List Int) : ∀ x, x ∈ fo l ↔ x ∈ l := by
  suffices h : ∀ (m : List Int) (acc : List Int), ∀ x, x ∈ m.foldl (fun acc x => if x ∈ acc then acc else acc ++ [x]) acc ↔ x ∈ acc ∨ x ∈ m by
    intro x; have := h l [] x; simpa [fo] using this
  intro m
  induction m with
  | nil => simp
  | cons y m ih =>
    intro acc x
    simp only [List.foldl_cons]
    rw [ih]
    split
    · rename_i hy
      simp only [List.mem_cons]
      constructor
      · rintro (h | h)
        · exact .inl h
        · exact .inr (.inr h)
      · rintro (h | rfl | h)
        · exact .inl h
        · exact .inl hy
        · exact .inr h
    · simp only [List.mem_append, List.mem_cons, List.not_mem_nil, or_false, or_assoc]
theorem fo_nodup (l : List Int) : (fo l).Nodup := by
  suffices h : ∀ (m : List Int) (acc : List Int), acc.Nodup → (m.foldl (fun acc x => if x ∈ acc then acc else acc ++ [x]) acc).Nodup from h l [] (by simp)
  intro m
  induction m with
  | nil => exact fun _ h => h
  | cons y m ih =>
    intro acc h
    simp only [List.foldl_cons]
    refine ih _ ?_
    split
    · exact h
    · rename_i hy
      rw [List.nodup_append]
      exact ⟨h, by simp, fun a ha b hb e => by simp at hb; subst hb; subst e; exact hy ha⟩
theorem card_eq {l : List Int} {m : List Int} (hm : m.Nodup) (h : ∀ x, x ∈ l ↔ x ∈ m) : card l = m.length :=
  (((List.perm_ext_iff_of_nodup (fo_nodup l) hm).2 fun a => (fo_mem l a).trans (h a))).length_eq
theorem card_relabel {g : List Int} {a b : Int} (ha : a ∈ g) (hb : b ∈ g) (hne : a ≠ b) : card (relabel g a b) + 1 = card g := by
  have h1 : card (relabel g a b) = ((fo g).erase a).length := card_eq ((fo_nodup g).erase a) fun x => by
    rw [(fo_nodup g).mem_erase_iff, fo_mem]
    unfold relabel
    rw [List.mem_map]
    constructor
    · rintro ⟨y, hy, rfl⟩
      split
      · exact ⟨fun h => hne h.symm, hb⟩
      · rename_i h; exact ⟨h, hy⟩
    · rintro ⟨h, hx⟩
      exact ⟨x, hx, by rw [if_neg h]⟩
  have h2 := List.length_erase_of_mem ((fo_mem g a).2 ha)
  have h3 : 0 < (fo g).length := List.length_pos_of_mem ((fo_mem g a).2 ha)
  rw [h1, h2]; unfold card; omega
theorem card_g0 (n : Nat) : card (g0 n) = n := by
  have key : (g0 n).Nodup ∧ ∀ x ∈ g0 n, x < n := by
    induction n with
    | zero => simp [g0]
    | succ n ih =>
      rw [← g0_su]
      refine ⟨?_, fun x hx => ?_⟩
      · rw [List.nodup_append]
        refine ⟨ih.1, by simp, fun a ha b hb e => ?_⟩
        simp at hb
        have := ih.2 a ha
        omega
      · rcases List.mem_append.1 hx with hx | hx
        · have := ih.2 x hx; omega
        · simp at hx; omega
  have this := key.1
  rw [card_eq this fun _ => Iff.rfl, g0_len]

/-! One pair in the reference. -/
def mI (T : Pl → Bool) (pl : List Pl) (G : List Int) (i k m : Nat) (g : List Int) : Prop :=
  (g = G ∧ ∀ p ∈ pl.take m, T p = false) ∨ (G.getD i 0 ≠ G.getD k 0 ∧ (∃ p ∈ pl, T p = true) ∧ g = relabel G (G.getD i 0) (G.getD k 0))
section
variable {T : Pl → Bool} {pl : List Pl} {G g : List Int} {i k m : Nat} {p : Pl}
theorem mI.z : mI T pl G i k 0 G := .inl ⟨rfl, by simp⟩
theorem mI.no (h : mI T pl G i k m g) (hp : pl[m]? = some p) (hT : T p = false) : mI T pl G i k (m + 1) g := by
  rcases h with ⟨h1, h2⟩ | h
  · refine .inl ⟨h1, fun q hq => ?_⟩
    rw [take_su hp] at hq
    rcases List.mem_append.1 hq with hq | hq
    · exact h2 q hq
    · simp at hq; subst hq; exact hT
  · exact .inr h
theorem rel_eq (hi : i < G.length) (hk : k < G.length) : (relabel G (G.getD i 0) (G.getD k 0)).getD i 0 = (relabel G (G.getD i 0) (G.getD k 0)).getD k 0 := by
  have h1 : G[i]? = some (G.getD i 0) := by simp [List.getD_eq_getElem?_getD, hi]
  have h2 : G[k]? = some (G.getD k 0) := by simp [List.getD_eq_getElem?_getD, hk]
  have e : ∀ (f : Int → Int) (j : Nat) (x : Int), G[j]? = some x → (G.map f).getD j 0 = f x := fun f j x h => by simp [List.getD_eq_getElem?_getD, h]
  unfold relabel
  rw [e _ i _ h1, e _ k _ h2]; simp
theorem mI.yes {x y : Int} (hi : i < G.length) (hk : k < G.length) (h : mI T pl G i k m g) (hx : g[i]? = some x) (hy : g[k]? = some y) (hne : x ≠ y) (hp : pl[m]? = some p) (hT : T p = true) : mI T pl G i k (m + 1) (relabel g x y) := by
  rcases h with ⟨rfl, h2⟩ | ⟨_, _, rfl⟩
  · have e1 := getD_of hx; have e2 := getD_of hy
    exact .inr ⟨by rw [e1, e2]; exact hne, ⟨p, List.mem_of_getElem? hp, hT⟩, by rw [e1, e2]⟩
  · have e := rel_eq hi hk
    rw [getD_of hx, getD_of hy] at e
    exact absurd e hne
theorem mI.end (hi : i < G.length) (hk : k < G.length) (h : mI T pl G i k m g) (he : pl.length ≤ m ∨ g.getD i 0 = g.getD k 0) {U : Nat → Nat → Bool} (hU : U i k = pl.any T) : g = stepG U G i k := by
  unfold stepG
  rcases h with ⟨rfl, h2⟩ | ⟨h1, h2, h3⟩
  · rw [if_neg]
    rintro ⟨hne, hT⟩
    rcases he with he | he
    · rw [hU, List.any_eq_true] at hT
      obtain ⟨p, hp, hT⟩ := hT
      rw [List.take_of_length_le he] at h2
      rw [h2 p hp] at hT; simp at hT
    · exact hne he
  · rw [if_pos ⟨h1, by rw [hU, List.any_eq_true]; exact h2⟩, h3]
end
/-- One pair in the program. -/
theorem step_skip {U : Nat → Nat → Bool} {g : List Int} {i k : Nat} {x y : Int} (hx : g[i]? = some x) (hy : g[k]? = some y) (h : x = y ∨ U i k = false) : g = stepG U g i k := by
  unfold stepG
  rw [getD_of hx, getD_of hy, if_neg]
  rintro ⟨h1, h2⟩
  rcases h with h | h
  · exact h1 h
  · rw [h] at h2; simp at h2
theorem step_do {U : Nat → Nat → Bool} {g : List Int} {i k : Nat} {x y : Int} (hx : g[i]? = some x) (hy : g[k]? = some y) (h : ¬ x = y) (h2 : U i k = true) : relabel g x y = stepG U g i k := by
  unfold stepG
  rw [getD_of hx, getD_of hy, if_pos ⟨h, h2⟩]
theorem allG_congr {T U : Nat → Nat → Bool} {g : List Int} : ∀ {n : Nat}, (∀ i k, i < n → k < i → T i k = U i k) → allG T g n = allG U g n
  | 0, _ => rfl
  | n + 1, h => by
    simp only [allG]
    rw [allG_congr fun i k hi hk => h i k (by omega) hk]
    suffices hs : ∀ m, m ≤ n → rowG T (allG U g n) n m = rowG U (allG U g n) n m from hs n (Nat.le_refl _)
    intro m
    induction m with
    | zero => intro _; rfl
    | succ m ih =>
      intro hm
      simp only [rowG]
      rw [ih (by omega)]
      unfold stepG
      rw [h n m (by omega) (by omega)]
noncomputable def meetT (cs : List (List Pl)) (pl : List Pl) (i k : Nat) : Bool := pl.any fun p => meetS (cs.getD i []) (cs.getD k []) p
noncomputable def touchT (cs : List (List Pl)) (i k : Nat) : Bool := touch (cs.getD i []) (cs.getD k [])
theorem getDL {α : Type} {l : List (List α)} {i : Nat} {q : List α} (h : l[i]? = some q) : l.getD i [] = q := by simp [List.getD_eq_getElem?_getD, h]
noncomputable def piecesS (s : Sol) : Nat := card (allG (meetT (cellsOf s true) (planesOfS s)) (g0 (cellsOf s true).length) (cellsOf s true).length)
noncomputable def piecesI (s : Sol) : Nat := if sok s = true then card (allG (touchT (cellsP s true [])) (g0 (cellsP s true []).length) (cellsP s true []).length) else 0
def initG (n i : Nat) : List Int := g0 i ++ List.replicate (n - i) 0
theorem initG_0 (n : Nat) : List.replicate n 0 = initG n 0 := by simp [initG, g0]
theorem initG_su {n i : Nat} (h : i < n) : (initG n i).set i (i : Int) = initG n (i + 1) := by
  unfold initG
  rw [List.set_append_right _ _ (by simp), ← g0_su]
  obtain ⟨m, hm⟩ : ∃ m, n - i = m + 1 := ⟨n - i - 1, by omega⟩
  rw [hm, List.replicate_succ]
  have : n - (i + 1) = m := by omega
  simp [this]
theorem initG_all {n i : Nat} (h : n ≤ i) (h2 : i ≤ n) : initG n i = g0 n := by
  have : i = n := by omega
  subst this; simp [initG]
theorem initG_len {n i : Nat} (h : i ≤ n) : (initG n i).length = n := by simp [initG]; omega
theorem tkG {α : Type} {l : List α} {i j : Nat} {r : α} (h : (l.take i)[j]? = some r) : j < i ∧ l[j]? = some r := by
  rw [List.getElem?_take] at h
  split at h
  · exact ⟨by assumption, h⟩
  · simp at h
theorem card_le (g : List Int) : card g ≤ g.length := by
  suffices h : ∀ (m : List Int) (acc : List Int), (m.foldl (fun acc x => if x ∈ acc then acc else acc ++ [x]) acc).length ≤ acc.length + m.length by
    have := h g []; simpa [card, fo] using this
  intro m
  induction m with
  | nil => simp
  | cons y m ih =>
    intro acc
    simp only [List.foldl_cons, List.length_cons]
    refine Nat.le_trans (ih _) ?_
    split
    · omega
    · simp; omega
theorem cells_ok : ∀ (s : Sol) (inn : Bool) (path path' : List Pl), look s path' = true → (∀ q ∈ path, okc q) → path.length ≤ 24 → path'.length = path.length → ∀ c ∈ cellsP s inn path, (∀ q ∈ c, okc q) ∧ c.length ≤ 24
  | .mk i p k, inn, path, path', h, hp, hn, hl => by
    match k with
    | [] =>
      rw [cellsP_leaf]
      intro c hc
      split at hc
      · simp at hc; subst hc; exact ⟨hp, hn⟩
      · simp at hc
    | [x] => rw [look_bad (by simp) (by simp)] at h; simp at h
    | x :: y :: z :: r => rw [look_bad (by simp) (by simp)] at h; simp at h
    | [a, b] =>
      have hk := look_okc h (by simp)
      have hlt := look_lt h (by simp) (by omega)
      rw [look_node] at h
      simp only [Bool.and_eq_true] at h
      rw [cellsP_node]
      intro c hc
      rcases List.mem_append.1 hc with hc | hc
      · exact cells_ok a inn _ _ h.1.2 (ok_app hp hk) (by simp; omega) (by simp; omega) c hc
      · exact cells_ok b inn _ _ h.2 (ok_app hp (okc_flip hk)) (by simp; omega) (by simp; omega) c hc
  termination_by s => SizeOf.sizeOf s
  decreasing_by all_goals (simp; omega)
theorem cellsOf_le (s : Sol) (inn : Bool) : (cellsOf s inn).length ≤ 301 := by
  unfold cellsOf
  split
  · rename_i h
    have := cells_le s inn [] [] (sok_look h); have := sok_nodes h; omega
  · simp
theorem planesOf_le (s : Sol) : (planesOfS s).length ≤ 300 := by
  unfold planesOfS
  split
  · rename_i h
    have := planes_le s []; have := sok_nodes h; simp at *; omega
  · simp
theorem cellsOf_ok {s : Sol} {inn : Bool} {i : Nat} {c : List Pl} (h : (cellsOf s inn)[i]? = some c) : (∀ q ∈ c, okc q) ∧ c.length ≤ 24 := by
  unfold cellsOf at h
  split at h
  · rename_i hs
    exact cells_ok s inn [] [] (sok_look hs) (by simp) (by simp) rfl c (List.mem_of_getElem? h)
  · simp at h
theorem planesOf_ok {s : Sol} {i : Nat} {p : Pl} (h : (planesOfS s)[i]? = some p) : okc p := by
  unfold planesOfS at h
  split at h
  · rename_i hs
    exact planes_ok s [] [] (by simp) (sok_look hs) p (List.mem_of_getElem? h)
  · simp at h
theorem firstT {g : List Int} {k : Nat} {c u : Int} (hf : true = decide (c ∉ g.take k)) (hu : g[k]? = some u) : decide (u ≠ c) = decide (c ∉ g.take (k + 1)) := by
  have h1 := of_decide_eq_true hf.symm
  rw [decide_eq_decide, take_su hu]
  constructor
  · intro h hx
    rcases List.mem_append.1 hx with hx | hx
    · exact h1 hx
    · simp at hx; exact h hx.symm
  · exact fun h e => h (by simp [e])
theorem firstF {g : List Int} {k : Nat} {c : Int} (hf : false = decide (c ∉ g.take k)) : false = decide (c ∉ g.take (k + 1)) := by
  have h1 := of_decide_eq_false hf.symm
  refine (decide_eq_false fun h => h1 fun hx => h ?_).symm
  have : g.take k = (g.take (k + 1)).take k := by rw [List.take_take]; congr 1; omega
  rw [this] at hx
  exact List.mem_of_mem_take hx
theorem cardS {g : List Int} {i : Nat} {f : Bool} (hi : i < g.length) (hf : f = decide (g.getD i 0 ∉ g.take i)) : card (g.take (i + 1)) = card (g.take i) + if f = true then 1 else 0 := by
  have hq : g[i]? = some (g.getD i 0) := by simp [List.getD_eq_getElem?_getD, hi]
  unfold card
  rw [take_su hq, fo_su]
  cases f with
  | true =>
    have h1 := of_decide_eq_true hf.symm
    rw [if_neg (fun h => h1 ((fo_mem _ _).1 h))]; simp
  | false =>
    have h1 := of_decide_eq_false hf.symm
    rw [if_pos]
    · simp
    · rw [fo_mem]
      exact Classical.byContradiction fun h => h1 h
end Go.Proofs.Ytablmbhnimnccaa.Pw
