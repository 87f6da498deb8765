/- Plain told functions, part 8: where a spot lies. No condition. -/
import Derived.Test.YtablmbhnimnccaaZqPure4
import Derived.Test.YtablmbhnimnccaaZqGeo2
import Derived.Test.YtablmbhnimnccaaZqStep
import Derived.Test.YtablmbhnimnccaaZqPure2
import Derived.Laws.BytesArg
namespace Go.Proofs.Ytablmbhnimnccaa.Pw
def bIn (x B : Int) : Prop := -B ≤ x ∧ x ≤ B
def spB (s : Spot) : Prop := bIn s.x 100000000000000 ∧ bIn s.y 100000000000000 ∧ bIn s.z 100000000000000 ∧ bIn s.w 100000000000000
theorem valB {p : Pl} {s : Spot} (hp : okc p) (hs : spB s) : bIn (p.a * s.x) 50000000000000000 ∧ bIn (p.b * s.y) 50000000000000000 ∧ bIn (p.c * s.z) 50000000000000000 ∧ bIn (p.d * s.w) 50000000000000000 := by
  have k1 := mulB hp.1 hs.1; have k2 := mulB hp.2.1 hs.2.1; have k3 := mulB hp.2.2.1 hs.2.2.1; have k4 := mulB hp.2.2.2 hs.2.2.2
  unfold bIn; omega
def arnd : Sol → Spot → Int × Int
  | .mk i p k, s => match k with
    | [a, b] => ((if 0 ≤ sgn (val p s) then (arnd a s).1 else 0) + (if sgn (val p s) ≤ 0 then (arnd b s).1 else 0), (if 0 ≤ sgn (val p s) then (arnd a s).2 else 0) + (if sgn (val p s) ≤ 0 then (arnd b s).2 else 0))
    | _ => if i = true then (1, 0) else (0, 1)
  termination_by s => SizeOf.sizeOf s
  decreasing_by all_goals (simp; omega)
theorem arnd_node (i : Bool) (p : Pl) (a b : Sol) (s : Spot) : arnd (.mk i p [a, b]) s = ((if 0 ≤ sgn (val p s) then (arnd a s).1 else 0) + (if sgn (val p s) ≤ 0 then (arnd b s).1 else 0), (if 0 ≤ sgn (val p s) then (arnd a s).2 else 0) + (if sgn (val p s) ≤ 0 then (arnd b s).2 else 0)) := by rw [arnd]
theorem arnd_leaf (i : Bool) (p : Pl) (s : Spot) : arnd (.mk i p []) s = if i = true then (1, 0) else (0, 1) := by rw [arnd] <;> simp
theorem arnd_0 {i : Bool} {p : Pl} {k : List Sol} {s : Spot} (h : (k.length : Int) = 0) : arnd (.mk i p k) s = if i = true then (1, 0) else (0, 1) := by
  have : k = [] := List.eq_nil_of_length_eq_zero (by omega)
  subst this; exact arnd_leaf _ _ _
theorem arnd_n {i : Bool} {p : Pl} {k : List Sol} {a b : Sol} {path : List Pl} {s : Spot} (h : look (.mk i p k) path = true) (ha : k[0]? = some a) (hb : k[1]? = some b) :
    arnd (.mk i p k) s = ((if 0 ≤ sgn (val p s) then (arnd a s).1 else 0) + (if sgn (val p s) ≤ 0 then (arnd b s).1 else 0), (if 0 ≤ sgn (val p s) then (arnd a s).2 else 0) + (if sgn (val p s) ≤ 0 then (arnd b s).2 else 0)) := by
  obtain ⟨b', hb', hk, _⟩ := look_get h ha
  rw [hb] at hb'; simp at hb'; subst hb'; subst hk
  exact arnd_node _ _ _ _ _
theorem arnd_B : ∀ (t : Sol) (s : Spot) (path : List Pl), look t path = true → (0 ≤ (arnd t s).1 ∧ (arnd t s).1 ≤ nodesN t + 1) ∧ 0 ≤ (arnd t s).2 ∧ (arnd t s).2 ≤ nodesN t + 1
  | .mk i p k, s, path, h => by
    match k with
    | [] => rw [arnd_leaf]; split <;> simp <;> omega
    | [x] => rw [look_bad (by simp) (by simp)] at h; simp at h
    | x :: y :: z :: r => rw [look_bad (by simp) (by simp)] at h; simp at h
    | [a, b] =>
      rw [look_node] at h
      simp only [Bool.and_eq_true] at h
      have h1 := arnd_B a s _ h.1.2
      have h2 := arnd_B b s _ h.2
      rw [arnd_node, nodes_node]
      simp only
      split <;> split <;> omega
  termination_by t => SizeOf.sizeOf t
  decreasing_by all_goals (simp; omega)
def whr (i o : Int) : Int := if i = 0 then -1 else if o = 0 then 1 else 0
def spotA (p : Pt) : Spot := ⟨p.x, p.y, p.z, 1⟩
def ptok (p : Pt) : Prop := (-1000000 ≤ p.x ∧ p.x ≤ 1000000) ∧ (-1000000 ≤ p.y ∧ p.y ≤ 1000000) ∧ (-1000000 ≤ p.z ∧ p.z ≤ 1000000)
instance (p : Pt) : Decidable (ptok p) := by unfold ptok; infer_instance
theorem spB_pt {p : Pt} (h : ptok p) : spB (spotA p) := by unfold ptok at h; unfold spB bIn spotA; simp only; omega
/-- Where a right point lies. -/
def whrP (s : Sol) (p : Pt) : Int := whr (arnd s (spotA p)).1 (arnd s (spotA p)).2
def gridW (lo hi : Int) : Bool := decide (0 ≤ hi - lo ∧ hi - lo ≤ 15)
def gridB (lo hi : Pt) : Bool := decide (ptok lo) && decide (ptok hi) && gridW lo.x hi.x && gridW lo.y hi.y && gridW lo.z hi.z
def spotG (x y z w : Int) : Int := if w < 0 then -(Int.gcd (Int.gcd x y) (Int.gcd z w) : Int) else (Int.gcd (Int.gcd x y) (Int.gcd z w) : Int)
def spotN (x y z w : Int) : Spot := ⟨x.tdiv (spotG x y z w), y.tdiv (spotG x y z w), z.tdiv (spotG x y z w), w.tdiv (spotG x y z w)⟩
theorem spotN_1 (x y z : Int) : spotN x y z 1 = ⟨x, y, z, 1⟩ := by
  have : spotG x y z 1 = 1 := by simp [spotG]
  simp [spotN, this]
theorem gcdB2 {a b : Int} (hb : b ≠ 0) (h : -9223372036854775807 ≤ b ∧ b ≤ 9223372036854775807) : 1 ≤ (Int.gcd a b : Int) ∧ (Int.gcd a b : Int) ≤ 9223372036854775807 := by
  have h1 : 0 < Int.gcd a b := Int.gcd_pos_of_ne_zero_right a hb
  have h2 : Int.gcd a b ≤ b.natAbs := Nat.gcd_le_right _ (by omega)
  omega
theorem tdivI {x g : Int} (hx : -9223372036854775807 ≤ x ∧ x ≤ 9223372036854775807) (hg : g ≠ 0) : inI (x.tdiv g) := by
  have h1 : (x.tdiv g).natAbs ≤ x.natAbs := by rw [Int.natAbs_tdiv]; exact Nat.div_le_self _ _
  unfold inI; omega
theorem gcdB3 {a b : Int} (h : -9223372036854775807 ≤ a ∧ a ≤ 9223372036854775807) (h2 : -9223372036854775807 ≤ b ∧ b ≤ 9223372036854775807) : 0 ≤ (Int.gcd a b : Int) ∧ (Int.gcd a b : Int) ≤ 9223372036854775807 := by
  rcases Decidable.em (b = 0) with h0 | h0
  · subst h0; simp; omega
  · have := gcdB2 (a := a) h0 h2; omega
/-! Slices of a grid, as bytes. -/
def chr (n : Int) : Int := if n = 1 then 35 else if n = 0 then 43 else 46
def rowC (s : Sol) (z y x : Int) (n : Nat) : List Int := (List.range n).map fun (i : Nat) => chr (whrP s ⟨x + (i : Int), y, z⟩)
def sliceL (s : Sol) (z x y : Int) (w h : Nat) : List Int := (List.range h).flatMap fun (j : Nat) => rowC s z (y - (j : Int)) x w ++ [10]
def gridZ (z : Int) (lo hi : Pt) : Bool := gridB ⟨lo.x, lo.y, z⟩ ⟨hi.x, hi.y, z⟩
noncomputable def sliceT (s : Sol) (z : Int) (lo hi : Pt) : ByteArray := if gridZ z lo hi = true ∧ sok s = true then strOfNums (sliceL s z lo.x hi.y (hi.x - lo.x + 1).toNat (hi.y - lo.y + 1).toNat) else ⟨#[]⟩
theorem rowC_su (s : Sol) (z y x : Int) (n : Nat) : rowC s z y x n ++ [chr (whrP s ⟨x + (n : Int), y, z⟩)] = rowC s z y x (n + 1) := by simp [rowC, List.range_succ]
theorem sliceL_su (s : Sol) (z x y : Int) (w h : Nat) : sliceL s z x y w h ++ (rowC s z (y - (h : Int)) x w ++ [10]) = sliceL s z x y w (h + 1) := by simp [sliceL, List.range_succ]
@[simp] theorem rowC_len (s : Sol) (z y x : Int) (n : Nat) : (rowC s z y x n).length = n := by simp [rowC]
theorem sliceL_le (s : Sol) (z x y : Int) (w h : Nat) (hw : w ≤ 16) : (sliceL s z x y w h).length ≤ 17 * h := by
  induction h with
  | zero => simp [sliceL]
  | succ h ih => rw [← sliceL_su]; simp; omega
theorem chr_1 {n : Int} (h : n = 1) : chr n = 35 := if_pos h
theorem chr_0 {n : Int} (h : ¬ n = 1) (h0 : n = 0) : chr n = 43 := by rw [chr, if_neg h, if_pos h0]
theorem chr_n {n : Int} (h : ¬ n = 1) (h0 : ¬ n = 0) : chr n = 46 := by rw [chr, if_neg h, if_neg h0]
theorem gridZ_of {z : Int} {lo hi : Pt} (h : gridZ z lo hi = true) : ((-1000000 ≤ lo.x ∧ lo.x ≤ 1000000) ∧ (-1000000 ≤ lo.y ∧ lo.y ≤ 1000000) ∧ -1000000 ≤ z ∧ z ≤ 1000000) ∧ ((-1000000 ≤ hi.x ∧ hi.x ≤ 1000000) ∧ -1000000 ≤ hi.y ∧ hi.y ≤ 1000000) ∧ (0 ≤ hi.x - lo.x ∧ hi.x - lo.x ≤ 15) ∧ 0 ≤ hi.y - lo.y ∧ hi.y - lo.y ≤ 15 := by
  unfold gridZ gridB gridW at h
  simp only [Bool.and_eq_true, decide_eq_true_eq] at h
  obtain ⟨⟨⟨⟨h1, h2⟩, h3⟩, h4⟩, h5⟩ := h
  unfold ptok at h1 h2
  simp only at h1 h2 h3 h4
  omega
theorem gridZ_mk {z : Int} {lo hi : Pt} (h1 : ptok ⟨lo.x, lo.y, z⟩) (h2 : ptok ⟨hi.x, hi.y, z⟩) (h3 : gridW lo.x hi.x = true) (h4 : gridW lo.y hi.y = true) : gridZ z lo hi = true := by
  unfold gridZ gridB
  have : gridW z z = true := by simp [gridW]
  simp [h1, h2, h3, h4, this]
theorem gridZ_no {z : Int} {lo hi : Pt} (h : ¬ ptok ⟨lo.x, lo.y, z⟩ ∨ ¬ ptok ⟨hi.x, hi.y, z⟩ ∨ gridW lo.x hi.x = false ∨ gridW lo.y hi.y = false) : gridZ z lo hi = false := by
  unfold gridZ gridB
  rcases h with h | h | h | h <;> simp [h]
theorem sliceT_no {s : Sol} {z : Int} {lo hi : Pt} (h : sok s = false ∨ gridZ z lo hi = false) : (⟨#[]⟩ : ByteArray) = sliceT s z lo hi := by
  unfold sliceT
  rw [if_neg]
  rintro ⟨h1, h2⟩
  rcases h with h | h <;> simp_all
theorem chr_u8 (n : Int) : 0 ≤ chr n ∧ chr n ≤ 255 := by unfold chr; split <;> (try split) <;> omega
theorem sliceL_u8 (s : Sol) (z x y : Int) (w h : Nat) : ∀ n ∈ sliceL s z x y w h, 0 ≤ n ∧ n ≤ 255 := fun n hn => by
  unfold sliceL at hn
  obtain ⟨j, _, hj⟩ := List.mem_flatMap.1 hn
  rcases List.mem_append.1 hj with hj | hj
  · unfold rowC at hj
    obtain ⟨i, _, rfl⟩ := List.mem_map.1 hj
    exact chr_u8 _
  · simp at hj; omega
theorem sliceL_ne {s : Sol} {z x y : Int} {w h : Nat} (hh : 0 < h) : sliceL s z x y w h ≠ [] := by
  obtain ⟨k, rfl⟩ : ∃ k, h = k + 1 := ⟨h - 1, by omega⟩
  rw [← sliceL_su]; simp
end Go.Proofs.Ytablmbhnimnccaa.Pw
