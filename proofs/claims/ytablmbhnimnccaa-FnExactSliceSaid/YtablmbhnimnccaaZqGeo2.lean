/- Plain law: of right planes either all sides have a point together, or two, three or four of them clash. No condition. -/
import Derived.Test.YtablmbhnimnccaaZqPure
import Derived.Test.YtablmbhnimnccaaZqGeo
namespace Go.Proofs.Ytablmbhnimnccaa.Pw
open Go.Geo

def val (p : Pl) (s : Spot) : Int := p.a * s.x + p.b * s.y + p.c * s.z + p.d * s.w
def Feas (l : List Pl) : Prop := ∃ s : Spot, 0 < s.w ∧ ∀ p ∈ l, 0 < val p s

def ss {α : Type} (f : α → Int) : List α → Int
  | [] => 0
  | x :: l => f x + ss f l

theorem ss_comb {α : Type} (f g : α → Int) (a b : Int) : ∀ l : List α, ss (fun x => a * f x + b * g x) l = a * ss f l + b * ss g l
  | [] => by simp [ss]
  | x :: l => by simp only [ss, ss_comb f g a b l]; grind

theorem ss_congr {α : Type} {f g : α → Int} : ∀ {l : List α}, (∀ x ∈ l, f x = g x) → ss f l = ss g l
  | [], _ => rfl
  | x :: l, h => by simp only [ss]; rw [h x (by simp), ss_congr fun y hy => h y (List.mem_cons_of_mem _ hy)]

theorem ss_filter {α β : Type} {n : α → Int} {t : α → Int} {m : α → β} {g : β → Int} (hg : ∀ x, g (m x) = n x * t x) : ∀ (l : List α), (∀ x ∈ l, 0 ≤ n x) →
    ss g ((l.filter fun x => 0 < n x).map m) = ss (fun x => n x * t x) l
  | [], _ => rfl
  | x :: l, h => by
    have ih := ss_filter (m := m) hg l fun y hy => h y (List.mem_cons_of_mem _ hy)
    have hx := h x (by simp)
    by_cases h0 : 0 < n x
    · simp only [List.filter_cons, h0, decide_true, if_true, List.map_cons, ss, ih, hg]
    · have : n x = 0 := by omega
      simp [List.filter_cons, h0, ss, this]; exact ih

structure Cert (C : List (Int × Pl)) : Prop where
  ne : C ≠ []
  pos : ∀ x ∈ C, 0 < x.1
  a : ss (fun x => x.1 * x.2.a) C = 0
  b : ss (fun x => x.1 * x.2.b) C = 0
  c : ss (fun x => x.1 * x.2.c) C = 0
  d : ss (fun x => x.1 * x.2.d) C ≤ 0

/-- A sum of the weights and a dependence, with less places. -/
theorem Cert.mk' {L : List (Int × Int × Pl)} (al be : Int) (h0 : ∀ x ∈ L, 0 ≤ al * x.1 + be * x.2.1) (hp : ∃ x ∈ L, 0 < al * x.1 + be * x.2.1) (hz : ∃ x ∈ L, al * x.1 + be * x.2.1 = 0)
    (ha : ss (fun x => x.1 * x.2.2.a) L = 0) (hb : ss (fun x => x.1 * x.2.2.b) L = 0) (hc : ss (fun x => x.1 * x.2.2.c) L = 0)
    (ma : ss (fun x => x.2.1 * x.2.2.a) L = 0) (mb : ss (fun x => x.2.1 * x.2.2.b) L = 0) (mc : ss (fun x => x.2.1 * x.2.2.c) L = 0)
    (hd : al * ss (fun x => x.1 * x.2.2.d) L + be * ss (fun x => x.2.1 * x.2.2.d) L ≤ 0) :
    ∃ C, Cert C ∧ (C.map Prod.snd).Sublist (L.map fun x => x.2.2) ∧ C.length < L.length := by
  let n : Int × Int × Pl → Int := fun x => al * x.1 + be * x.2.1
  have key : ∀ t : Pl → Int, ss (fun y : Int × Pl => y.1 * t y.2) ((L.filter fun x => 0 < n x).map fun x => (n x, x.2.2)) = al * ss (fun x => x.1 * t x.2.2) L + be * ss (fun x => x.2.1 * t x.2.2) L := fun t => by
    rw [ss_filter (n := n) (t := fun x => t x.2.2) (fun _ => rfl) L h0, ← ss_comb]
    exact ss_congr fun x _ => by show (al * x.1 + be * x.2.1) * t x.2.2 = _; grind
  refine ⟨(L.filter fun x => 0 < n x).map fun x => (n x, x.2.2), ⟨?_, ?_, ?_, ?_, ?_, ?_⟩, ?_, ?_⟩
  · obtain ⟨x, hx, h1⟩ := hp
    intro hn
    have : x ∈ L.filter fun x => 0 < n x := List.mem_filter.2 ⟨hx, by simpa using h1⟩
    rw [List.map_eq_nil_iff] at hn
    rw [hn] at this; simp at this
  · intro y hy
    obtain ⟨x, hx, rfl⟩ := List.mem_map.1 hy
    simpa using (List.mem_filter.1 hx).2
  · rw [key fun p => p.a, ha, ma]; simp
  · rw [key fun p => p.b, hb, mb]; simp
  · rw [key fun p => p.c, hc, mc]; simp
  · rw [key fun p => p.d]; exact hd
  · rw [List.map_map]
    exact (List.filter_sublist).map _
  · obtain ⟨x, hx, h1⟩ := hz
    rw [List.length_map]
    rcases Nat.lt_or_ge (L.filter fun x => 0 < n x).length L.length with h | h
    · exact h
    · have h2 := (List.filter_sublist (p := fun x => decide (0 < n x)) (l := L)).eq_of_length_le h
      have h3 : x ∈ L.filter fun x => 0 < n x := by rw [h2]; exact hx
      have h4 := (List.mem_filter.1 h3).2
      have h5 : 0 < n x := by simpa using h4
      have h6 : n x = 0 := h1
      omega

theorem reduce {L : List (Int × Int × Pl)} (pos : ∀ x ∈ L, 0 < x.1)
    (ha : ss (fun x => x.1 * x.2.2.a) L = 0) (hb : ss (fun x => x.1 * x.2.2.b) L = 0) (hc : ss (fun x => x.1 * x.2.2.c) L = 0) (hd : ss (fun x => x.1 * x.2.2.d) L ≤ 0)
    (ma : ss (fun x => x.2.1 * x.2.2.a) L = 0) (mb : ss (fun x => x.2.1 * x.2.2.b) L = 0) (mc : ss (fun x => x.2.1 * x.2.2.c) L = 0)
    (h0 : ∃ x ∈ L, x.2.1 = 0) (h1 : ∃ x ∈ L, x.2.1 ≠ 0) : ∃ C, Cert C ∧ (C.map Prod.snd).Sublist (L.map fun x => x.2.2) ∧ C.length < L.length := by
  have main : ∀ sg : Int, (sg = 1 ∨ sg = -1) → 0 ≤ sg * ss (fun x => x.2.1 * x.2.2.d) L → ∃ C, Cert C ∧ (C.map Prod.snd).Sublist (L.map fun x => x.2.2) ∧ C.length < L.length := by
    intro sg hs hm
    obtain ⟨z, hz, hz0⟩ := h0
    have hz1 := pos z hz
    by_cases hp : ∃ x ∈ L, 0 < sg * x.2.1
    · obtain ⟨x, hx, hx0⟩ := hp
      obtain ⟨e, he, hl⟩ := least (fun x : Int × Int × Pl => x.1) (fun x => sg * x.2.1) (L.filter fun x => 0 < sg * x.2.1) (fun x hx => by simpa using (List.mem_filter.1 hx).2)
        (fun hn => by have : x ∈ L.filter fun x => 0 < sg * x.2.1 := List.mem_filter.2 ⟨hx, by simpa using hx0⟩
                      rw [hn] at this; simp at this)
      have he1 := (List.mem_filter.1 he).1
      have he2 : 0 < sg * e.2.1 := by simpa using (List.mem_filter.1 he).2
      have he3 := pos e he1
      refine Cert.mk' (sg * e.2.1) (-(sg * e.1)) (fun y hy => ?_) ⟨z, hz, ?_⟩ ⟨e, he1, by grind⟩ ha hb hc ma mb mc ?_
      · have hy1 := pos y hy
        by_cases hy0 : 0 < sg * y.2.1
        · have := hl y (List.mem_filter.2 ⟨hy, by simpa using hy0⟩)
          grind
        · have h2 : 0 ≤ (sg * e.2.1) * y.1 := Int.mul_nonneg (by omega) (by omega)
          have h3 : 0 ≤ e.1 * -(sg * y.2.1) := Int.mul_nonneg (by omega) (by omega)
          grind
      · rw [hz0]
        have := Int.mul_pos he2 hz1
        omega
      · have h2 : 0 ≤ (sg * e.2.1) * -(ss (fun x => x.1 * x.2.2.d) L) := Int.mul_nonneg (by omega) (by omega)
        have h3 : 0 ≤ e.1 * (sg * ss (fun x => x.2.1 * x.2.2.d) L) := Int.mul_nonneg (by omega) hm
        grind
    · have hn : ∀ x ∈ L, sg * x.2.1 ≤ 0 := fun x hx => by
        have : ¬ 0 < sg * x.2.1 := fun h => hp ⟨x, hx, h⟩
        omega
      obtain ⟨y, hy, hy0⟩ := h1
      refine Cert.mk' 0 (-sg) (fun x hx => ?_) ⟨y, hy, ?_⟩ ⟨z, hz, by rw [hz0]; simp⟩ ha hb hc ma mb mc ?_
      · have := hn x hx; grind
      · have := hn y hy
        rcases hs with rfl | rfl <;> omega
      · grind
  by_cases h : 0 ≤ ss (fun x => x.2.1 * x.2.2.d) L
  · exact main 1 (.inl rfl) (by omega)
  · exact main (-1) (.inr rfl) (by omega)

/-- No dependence leaves one of them out. -/
def Irr (C : List (Int × Pl)) : Prop := ∀ L : List (Int × Int × Pl), L.map (fun x => (x.1, x.2.2)) = C →
  ss (fun x => x.2.1 * x.2.2.a) L = 0 → ss (fun x => x.2.1 * x.2.2.b) L = 0 → ss (fun x => x.2.1 * x.2.2.c) L = 0 → (∃ x ∈ L, x.2.1 = 0) → ∀ x ∈ L, x.2.1 = 0

theorem ss_map {α β : Type} (f : β → Int) (m : α → β) : ∀ l : List α, ss f (l.map m) = ss (fun x => f (m x)) l
  | [] => rfl
  | x :: l => by simp only [List.map_cons, ss, ss_map f m l]

theorem Cert.irr : ∀ (n : Nat) (C : List (Int × Pl)), C.length = n → Cert C → ∃ C', Cert C' ∧ (C'.map Prod.snd).Sublist (C.map Prod.snd) ∧ Irr C' := by
  intro n
  induction n using Nat.strongRecOn with
  | _ n ih =>
    intro C hn hC
    by_cases hI : Irr C
    · exact ⟨C, hC, .refl _, hI⟩
    · simp only [Irr, Classical.not_forall] at hI
      obtain ⟨L, hL, ma, mb, mc, h0, y, hy, hy0⟩ := hI
      have e : ∀ t : Pl → Int, ss (fun x : Int × Int × Pl => x.1 * t x.2.2) L = ss (fun x => x.1 * t x.2) C := fun t => by rw [← hL, ss_map]
      have el : L.length = n := by rw [← hn, ← hL, List.length_map]
      obtain ⟨C1, h1, h2, h3⟩ := reduce (L := L) (fun x hx => hC.pos (x.1, x.2.2) (by rw [← hL]; exact List.mem_map.2 ⟨x, hx, rfl⟩))
        ((e fun p => p.a).trans hC.a) ((e fun p => p.b).trans hC.b) ((e fun p => p.c).trans hC.c) (by rw [e fun p => p.d]; exact hC.d) ma mb mc h0 ⟨y, hy, hy0⟩
      obtain ⟨C2, g1, g2, g3⟩ := ih C1.length (by omega) C1 rfl h1
      refine ⟨C2, g1, g2.trans ?_, g3⟩
      rw [← hL, List.map_map]; exact h2

theorem ss_z {α : Type} {f : α → Int} : ∀ {l : List α}, (∀ x ∈ l, f x = 0) → ss f l = 0
  | [], _ => rfl
  | x :: l, h => by simp only [ss, h x (by simp), ss_z fun y hy => h y (List.mem_cons_of_mem _ hy)]; rfl

def rest0 (C : List (Int × Pl)) : List (Int × Int × Pl) := C.map fun x => (x.1, 0, x.2)
theorem rest0_ss (t : Pl → Int) (C : List (Int × Pl)) : ss (fun x : Int × Int × Pl => x.2.1 * t x.2.2) (rest0 C) = 0 := ss_z fun x hx => by
  obtain ⟨y, _, rfl⟩ := List.mem_map.1 hx; simp
theorem rest0_map (C : List (Int × Pl)) : (rest0 C).map (fun x => (x.1, x.2.2)) = C := by
  unfold rest0; rw [List.map_map]; exact List.map_id' C

theorem Irr.two {x y : Int × Pl} {C : List (Int × Pl)} (h : Irr (x :: y :: C)) (hC : C ≠ []) (u v : Int)
    (ha : u * x.2.a + v * y.2.a = 0) (hb : u * x.2.b + v * y.2.b = 0) (hc : u * x.2.c + v * y.2.c = 0) : u = 0 ∧ v = 0 := by
  have := h ((x.1, u, x.2) :: (y.1, v, y.2) :: rest0 C) (by simp [rest0_map]) (by simp only [ss, rest0_ss fun p => p.a]; omega) (by simp only [ss, rest0_ss fun p => p.b]; omega) (by simp only [ss, rest0_ss fun p => p.c]; omega) (by
    cases C with
    | nil => exact absurd rfl hC
    | cons z C => exact ⟨(z.1, 0, z.2), by simp [rest0], rfl⟩)
  exact ⟨this (x.1, u, x.2) (by simp), this (y.1, v, y.2) (by simp)⟩

theorem Irr.three {x y z : Int × Pl} {C : List (Int × Pl)} (h : Irr (x :: y :: z :: C)) (u v w : Int) (hC : C ≠ [] ∨ u = 0)
    (ha : u * x.2.a + v * y.2.a + w * z.2.a = 0) (hb : u * x.2.b + v * y.2.b + w * z.2.b = 0) (hc : u * x.2.c + v * y.2.c + w * z.2.c = 0) : u = 0 ∧ v = 0 ∧ w = 0 := by
  have := h ((x.1, u, x.2) :: (y.1, v, y.2) :: (z.1, w, z.2) :: rest0 C) (by simp [rest0_map]) (by simp only [ss, rest0_ss fun p => p.a]; omega) (by simp only [ss, rest0_ss fun p => p.b]; omega) (by simp only [ss, rest0_ss fun p => p.c]; omega) (by
    cases C with
    | nil =>
      rcases hC with hC | hC
      · exact absurd rfl hC
      · exact ⟨(x.1, u, x.2), by simp, hC⟩
    | cons z C => exact ⟨(z.1, 0, z.2), by simp [rest0], rfl⟩)
  exact ⟨this (x.1, u, x.2) (by simp), this (y.1, v, y.2) (by simp), this (z.1, w, z.2) (by simp)⟩

theorem Irr.four {x y z t : Int × Pl} {C : List (Int × Pl)} (h : Irr (x :: y :: z :: t :: C)) (u v w q : Int) (hC : C ≠ [] ∨ u = 0)
    (ha : u * x.2.a + v * y.2.a + w * z.2.a + q * t.2.a = 0) (hb : u * x.2.b + v * y.2.b + w * z.2.b + q * t.2.b = 0) (hc : u * x.2.c + v * y.2.c + w * z.2.c + q * t.2.c = 0) : u = 0 ∧ v = 0 ∧ w = 0 ∧ q = 0 := by
  have := h ((x.1, u, x.2) :: (y.1, v, y.2) :: (z.1, w, z.2) :: (t.1, q, t.2) :: rest0 C) (by simp [rest0_map]) (by simp only [ss, rest0_ss fun p => p.a]; omega) (by simp only [ss, rest0_ss fun p => p.b]; omega) (by simp only [ss, rest0_ss fun p => p.c]; omega) (by
    cases C with
    | nil =>
      rcases hC with hC | hC
      · exact absurd rfl hC
      · exact ⟨(x.1, u, x.2), by simp, hC⟩
    | cons z C => exact ⟨(z.1, 0, z.2), by simp [rest0], rfl⟩)
  exact ⟨this (x.1, u, x.2) (by simp), this (y.1, v, y.2) (by simp), this (z.1, w, z.2) (by simp), this (t.1, q, t.2) (by simp)⟩
end Go.Proofs.Ytablmbhnimnccaa.Pw
