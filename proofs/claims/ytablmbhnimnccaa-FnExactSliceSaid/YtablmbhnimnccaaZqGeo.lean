/- Plain law: a finite list of whole vectors either has a point on which all are above 0, or a sum of them, not all weights 0, that is nothing (Gordan). No condition. -/
namespace Go.Geo

def dotk (v x : Nat → Int) : Nat → Int
  | 0 => 0
  | k + 1 => dotk v x k + v k * x k

/-- A sum of weights: ws told beside L, none below 0, one above. -/
def lin : List Int → List (Nat → Int) → Nat → Int
  | w :: ws, v :: vs => fun i => w * v i + lin ws vs i
  | _, _ => fun _ => 0

def Pos (L : List (Nat → Int)) (u : Nat → Int) : Prop :=
  ∃ ws : List Int, ws.length = L.length ∧ (∀ w ∈ ws, 0 ≤ w) ∧ (∃ w ∈ ws, 0 < w) ∧ ∀ i, lin ws L i = u i

theorem lin_nil (ws : List Int) : lin ws [] = fun _ => 0 := by cases ws <;> rfl

theorem lin_zero (n : Nat) (L : List (Nat → Int)) (i : Nat) : lin (List.replicate n 0) L i = 0 := by
  induction n generalizing L with
  | zero => cases L <;> rfl
  | succ n ih =>
    cases L with
    | nil => rfl
    | cons v L => simp [List.replicate_succ, lin, ih]

theorem Pos.mem {L : List (Nat → Int)} {v : Nat → Int} (h : v ∈ L) : Pos L v := by
  induction L with
  | nil => simp at h
  | cons u L ih =>
    rcases List.mem_cons.1 h with rfl | h
    · refine ⟨1 :: List.replicate L.length 0, by simp, ?_, ⟨1, by simp, by omega⟩, fun i => by simp [lin, lin_zero]⟩
      intro w hw
      rcases List.mem_cons.1 hw with rfl | hw
      · omega
      · have := List.eq_of_mem_replicate hw; omega
    · obtain ⟨ws, h1, h2, h3, h4⟩ := ih h
      refine ⟨0 :: ws, by simp [h1], ?_, ?_, fun i => by simp [lin, h4]⟩
      · intro w hw
        rcases List.mem_cons.1 hw with rfl | hw
        · omega
        · exact h2 w hw
      · obtain ⟨w, hw, h0⟩ := h3
        exact ⟨w, List.mem_cons_of_mem _ hw, h0⟩

def addW : List Int → List Int → List Int
  | a :: as, b :: bs => (a + b) :: addW as bs
  | _, _ => []

theorem addW_spec : ∀ (as bs : List Int) (L : List (Nat → Int)), as.length = L.length → bs.length = L.length →
    (addW as bs).length = L.length ∧ (∀ i, lin (addW as bs) L i = lin as L i + lin bs L i) ∧
    ((∀ w ∈ as, 0 ≤ w) → (∀ w ∈ bs, 0 ≤ w) → (∀ w ∈ addW as bs, 0 ≤ w) ∧ ((∃ w ∈ as, 0 < w) → ∃ w ∈ addW as bs, 0 < w))
  | [], [], [], _, _ => ⟨rfl, fun _ => rfl, fun _ _ => ⟨by simp [addW], by simp⟩⟩
  | a :: as, b :: bs, v :: L, h1, h2 => by
    obtain ⟨i1, i2, i3⟩ := addW_spec as bs L (by simpa using h1) (by simpa using h2)
    refine ⟨by simp [addW, i1], fun i => by simp only [addW, lin, i2]; rw [Int.add_mul]; omega, fun p q => ?_⟩
    obtain ⟨j1, j2⟩ := i3 (fun w hw => p w (List.mem_cons_of_mem _ hw)) (fun w hw => q w (List.mem_cons_of_mem _ hw))
    have ha := p a (by simp)
    have hb := q b (by simp)
    refine ⟨fun w hw => ?_, fun ⟨w, hw, h0⟩ => ?_⟩
    · simp only [addW] at hw
      rcases List.mem_cons.1 hw with rfl | hw
      · omega
      · exact j1 w hw
    · rcases List.mem_cons.1 hw with rfl | hw
      · exact ⟨_, by simp only [addW]; exact List.mem_cons_self .., by omega⟩
      · obtain ⟨w', hw', h0'⟩ := j2 ⟨w, hw, h0⟩
        exact ⟨w', by simp only [addW]; exact List.mem_cons_of_mem _ hw', h0'⟩
  | [], [], _ :: _, h1, _ => by simp at h1
  | [], _ :: _, [], _, h2 => by simp at h2
  | [], _ :: _, _ :: _, h1, _ => by simp at h1
  | _ :: _, [], [], h1, _ => by simp at h1
  | _ :: _, [], _ :: _, _, h2 => by simp at h2
  | _ :: _, _ :: _, [], h1, _ => by simp at h1

theorem Pos.add {L : List (Nat → Int)} {u v : Nat → Int} (h : Pos L u) (k : Pos L v) : Pos L (fun i => u i + v i) := by
  obtain ⟨as, a1, a2, a3, a4⟩ := h
  obtain ⟨bs, b1, b2, b3, b4⟩ := k
  obtain ⟨i1, i2, i3⟩ := addW_spec as bs L a1 b1
  exact ⟨addW as bs, i1, (i3 a2 b2).1, (i3 a2 b2).2 a3, fun i => by rw [i2, a4, b4]⟩

theorem lin_mul (c : Int) : ∀ (ws : List Int) (L : List (Nat → Int)) (i : Nat), lin (ws.map (c * ·)) L i = c * lin ws L i
  | [], [], _ => by simp [lin]
  | [], _ :: _, _ => by simp [lin]
  | _ :: _, [], _ => by simp [lin]
  | w :: ws, v :: L, i => by simp only [List.map_cons, lin, lin_mul c ws L i]; rw [Int.mul_add, Int.mul_assoc]

theorem Pos.mul {L : List (Nat → Int)} {u : Nat → Int} {c : Int} (hc : 0 < c) (h : Pos L u) : Pos L (fun i => c * u i) := by
  obtain ⟨as, a1, a2, ⟨w, hw, h0⟩, a4⟩ := h
  refine ⟨as.map (c * ·), by simp [a1], fun x hx => ?_, ⟨c * w, List.mem_map.2 ⟨w, hw, rfl⟩, Int.mul_pos hc h0⟩, fun i => by rw [lin_mul, a4]⟩
  obtain ⟨y, hy, rfl⟩ := List.mem_map.1 hx
  exact Int.mul_nonneg (by omega) (a2 y hy)

theorem Pos.congr {L : List (Nat → Int)} {u v : Nat → Int} (h : Pos L u) (e : ∀ i, u i = v i) : Pos L v := by
  obtain ⟨as, a1, a2, a3, a4⟩ := h
  exact ⟨as, a1, a2, a3, fun i => (a4 i).trans (e i)⟩

theorem Pos.bind_aux {L : List (Nat → Int)} : ∀ (M : List (Nat → Int)) (ws : List Int), (∀ v ∈ M, Pos L v) → ws.length = M.length → (∀ w ∈ ws, 0 ≤ w) →
    ((∃ w ∈ ws, 0 < w) → Pos L (lin ws M)) ∧ ((¬ ∃ w ∈ ws, 0 < w) → ∀ i, lin ws M i = 0)
  | [], [], _, _, _ => ⟨by simp, fun _ _ => rfl⟩
  | v :: M, w :: ws, h, hl, h0 => by
    obtain ⟨i1, i2⟩ := Pos.bind_aux M ws (fun v hv => h v (List.mem_cons_of_mem _ hv)) (by simpa using hl) (fun x hx => h0 x (List.mem_cons_of_mem _ hx))
    have hw := h0 w (by simp)
    have hv := h v (by simp)
    refine ⟨fun hx => ?_, fun hn i => ?_⟩
    · by_cases hw0 : 0 < w
      · by_cases hr : ∃ x ∈ ws, 0 < x
        · exact ((hv.mul hw0).add (i1 hr)).congr fun i => rfl
        · exact (hv.mul hw0).congr fun i => by simp only [lin, i2 hr i]; omega
      · have hr : ∃ x ∈ ws, 0 < x := by
          obtain ⟨x, hx, h1⟩ := hx
          rcases List.mem_cons.1 hx with rfl | hx
          · omega
          · exact ⟨x, hx, h1⟩
        have hw1 : w = 0 := by omega
        exact (i1 hr).congr fun i => by simp [lin, hw1]
    · have hw1 : w = 0 := by
        by_cases hw0 : 0 < w
        · exact absurd ⟨w, by simp, hw0⟩ hn
        · omega
      have hr : ¬ ∃ x ∈ ws, 0 < x := fun ⟨x, hx, h1⟩ => hn ⟨x, List.mem_cons_of_mem _ hx, h1⟩
      simp [lin, hw1, i2 hr i]
  | [], _ :: _, _, hl, _ => by simp at hl
  | _ :: _, [], _, hl, _ => by simp at hl

theorem Pos.bind {L M : List (Nat → Int)} {u : Nat → Int} (h : ∀ v ∈ M, Pos L v) (k : Pos M u) : Pos L u := by
  obtain ⟨ws, a1, a2, a3, a4⟩ := k
  exact ((Pos.bind_aux M ws h a1 a2).1 a3).congr a4

/-- The least of some, by a ratio. -/
theorem least {α : Type} (n d : α → Int) : ∀ (l : List α), (∀ x ∈ l, 0 < d x) → l ≠ [] → ∃ x ∈ l, ∀ y ∈ l, n x * d y ≤ n y * d x
  | [], _, h => absurd rfl h
  | [x], _, _ => ⟨x, by simp, fun y hy => by simp at hy; subst hy; omega⟩
  | x :: y :: l, h, _ => by
    obtain ⟨m, hm, hl⟩ := least n d (y :: l) (fun z hz => h z (List.mem_cons_of_mem _ hz)) (by simp)
    have hx := h x (by simp)
    have hdm := h m (List.mem_cons_of_mem _ hm)
    by_cases hc : n x * d m ≤ n m * d x
    · refine ⟨x, by simp, fun z hz => ?_⟩
      rcases List.mem_cons.1 hz with rfl | hz
      · omega
      · have h1 := hl z hz
        have hdz := h z (List.mem_cons_of_mem _ hz)
        -- n x d m <= n m d x ; n m d z <= n z d m
        have h2 : (n x * d m) * d z ≤ (n m * d x) * d z := Int.mul_le_mul_of_nonneg_right hc (by omega)
        have h3 : (n m * d z) * d x ≤ (n z * d m) * d x := Int.mul_le_mul_of_nonneg_right h1 (by omega)
        have h4 : (n x * d z) * d m ≤ (n z * d x) * d m := by grind
        exact Int.le_of_mul_le_mul_right h4 hdm
    · refine ⟨m, List.mem_cons_of_mem _ hm, fun z hz => ?_⟩
      rcases List.mem_cons.1 hz with rfl | hz
      · omega
      · exact hl z hz

/-- A place between bounds. -/
theorem between {α : Type} (P N : List α) (f c : α → Int) (hP : ∀ x ∈ P, 0 < c x) (hN : ∀ x ∈ N, c x < 0) (h : ∀ x ∈ P, ∀ y ∈ N, 0 < -c y * f x + c x * f y) :
    ∃ s z : Int, 0 < s ∧ (∀ x ∈ P, 0 < s * f x + c x * z) ∧ (∀ y ∈ N, 0 < s * f y + c y * z) := by
  by_cases hp : P = []
  · by_cases hn : N = []
    · subst hp; subst hn; exact ⟨1, 0, by omega, by simp, by simp⟩
    · subst hp
      obtain ⟨y, hy, hl⟩ := least f (fun x => -c x) N (fun x hx => by have := hN x hx; omega) hn
      refine ⟨-c y, f y + c y, by have := hN y hy; omega, by simp, fun x hx => ?_⟩
      have h1 := hl x hx
      have h2 : 0 < (-c x) * (-c y) := Int.mul_pos (by have := hN x hx; omega) (by have := hN y hy; omega)
      grind
  · obtain ⟨x, hx, hlx⟩ := least f c P hP hp
    by_cases hn : N = []
    · subst hn
      refine ⟨c x, -f x + c x, hP x hx, fun y hy => ?_, by simp⟩
      have h1 := hlx y hy
      have h2 : 0 < c y * c x := Int.mul_pos (hP y hy) (hP x hx)
      grind
    · obtain ⟨y, hy, hly⟩ := least f (fun x => -c x) N (fun x hx => by have := hN x hx; omega) hn
      have cx := hP x hx
      have cy := hN y hy
      have hxy := h x hx y hy
      refine ⟨2 * (c x * -c y), c x * f y - f x * -c y, by have := Int.mul_pos cx (show 0 < -c y by omega); omega, fun p hp => ?_, fun q hq => ?_⟩
      · have h1 := hlx p hp
        have h2 : (f x * c p) * -c y ≤ (f p * c x) * -c y := Int.mul_le_mul_of_nonneg_right h1 (by omega)
        have h3 : 0 < c p * (-c y * f x + c x * f y) := Int.mul_pos (hP p hp) hxy
        grind
      · have h1 := hly q hq
        have h2 : (f y * -c q) * c x ≤ (f q * -c y) * c x := Int.mul_le_mul_of_nonneg_right h1 (by omega)
        have h3 : 0 < -c q * (-c y * f x + c x * f y) := Int.mul_pos (by have := hN q hq; omega) hxy
        grind

theorem dotk_congr {v x y : Nat → Int} : ∀ {k : Nat}, (∀ i, i < k → x i = y i) → dotk v x k = dotk v y k
  | 0, _ => rfl
  | k + 1, h => by simp only [dotk]; rw [dotk_congr fun i hi => h i (by omega), h k (by omega)]
theorem dotk_scale {v x : Nat → Int} {s : Int} : ∀ {k : Nat}, dotk v (fun i => s * x i) k = s * dotk v x k
  | 0 => by simp [dotk]
  | k + 1 => by simp only [dotk]; rw [dotk_scale, Int.mul_add]; grind
theorem dotk_comb {u v x : Nat → Int} {a b : Int} : ∀ {k : Nat}, dotk (fun i => a * u i + b * v i) x k = a * dotk u x k + b * dotk v x k
  | 0 => by simp [dotk]
  | k + 1 => by simp only [dotk]; rw [dotk_comb]; grind

theorem gordan : ∀ (k : Nat) (L : List (Nat → Int)), (∀ v ∈ L, ∀ i, k ≤ i → v i = 0) → (∃ x : Nat → Int, ∀ v ∈ L, 0 < dotk v x k) ∨ Pos L (fun _ => 0)
  | 0, [], _ => .inl ⟨fun _ => 0, by simp⟩
  | 0, v :: L, h => .inr ((Pos.mem (List.mem_cons_self ..)).congr fun i => h v (by simp) i (by omega))
  | k + 1, L, h => by
    let Z := L.filter (fun v => v k = 0)
    let P := L.filter (fun v => 0 < v k)
    let N := L.filter (fun v => v k < 0)
    let M := Z ++ (P.map fun u => N.map fun v => fun i => -v k * u i + u k * v i).flatten
    have hM : ∀ v ∈ M, Pos L v ∧ ∀ i, k ≤ i → v i = 0 := by
      intro v hv
      rcases List.mem_append.1 hv with hv | hv
      · have h1 := List.mem_filter.1 hv
        refine ⟨.mem h1.1, fun i hi => ?_⟩
        rcases Nat.eq_or_lt_of_le hi with rfl | hi
        · simpa using h1.2
        · exact h v h1.1 i (by omega)
      · obtain ⟨l, hl, hv⟩ := List.mem_flatten.1 hv
        obtain ⟨u, hu, rfl⟩ := List.mem_map.1 hl
        obtain ⟨t, ht, rfl⟩ := List.mem_map.1 hv
        have hu1 := List.mem_filter.1 hu
        have ht1 := List.mem_filter.1 ht
        have hu2 : 0 < u k := by simpa using hu1.2
        have ht2 : t k < 0 := by simpa using ht1.2
        refine ⟨((Pos.mem hu1.1).mul (c := -t k) (by omega)).add ((Pos.mem ht1.1).mul hu2), fun i hi => ?_⟩
        rcases Nat.eq_or_lt_of_le hi with rfl | hi
        · show -t k * u k + u k * t k = 0
          grind
        · show -t k * u i + u k * t i = 0
          rw [h u hu1.1 i (by omega), h t ht1.1 i (by omega)]; simp
    rcases gordan k M (fun v hv => (hM v hv).2) with ⟨x, hx⟩ | hp
    · left
      obtain ⟨s, z, hs, h1, h2⟩ := between P N (fun v => dotk v x k) (fun v => v k) (fun v hv => by simpa using (List.mem_filter.1 hv).2) (fun v hv => by simpa using (List.mem_filter.1 hv).2) (fun u hu v hv => by
        have := hx (fun i => -v k * u i + u k * v i) (List.mem_append_right _ (List.mem_flatten.2 ⟨_, List.mem_map.2 ⟨u, hu, rfl⟩, List.mem_map.2 ⟨v, hv, rfl⟩⟩))
        rwa [dotk_comb] at this)
      refine ⟨fun i => if i < k then s * x i else z, fun v hv => ?_⟩
      have e : dotk v (fun i => if i < k then s * x i else z) (k + 1) = s * dotk v x k + v k * z := by
        simp only [dotk, Nat.lt_irrefl, if_false]
        rw [dotk_congr (y := fun i => s * x i) (fun i hi => by simp [hi]), dotk_scale]
      rw [e]
      rcases Int.lt_trichotomy (v k) 0 with hk | hk | hk
      · exact h2 v (List.mem_filter.2 ⟨hv, by simpa using hk⟩)
      · have := hx v (List.mem_append_left _ (List.mem_filter.2 ⟨hv, by simpa using hk⟩))
        rw [hk]; have := Int.mul_pos hs this; omega
      · exact h1 v (List.mem_filter.2 ⟨hv, by simpa using hk⟩)
    · exact .inr (hp.bind fun v hv => (hM v hv).1)
end Go.Geo
