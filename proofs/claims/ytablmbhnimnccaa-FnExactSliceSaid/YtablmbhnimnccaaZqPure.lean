/- The program's functions, told plain. -/
import Derived.Test.YtablmbhnimnccaaZqEnc
namespace Go.Proofs.Ytablmbhnimnccaa.Pw
def dot (u v : V3) : Int := u.a * v.a + u.b * v.b + u.c * v.c
def cross (u v : V3) : V3 := ⟨u.b * v.c - u.c * v.b, u.c * v.a - u.a * v.c, u.a * v.b - u.b * v.a⟩
def nrm (p : Pl) : V3 := ⟨p.a, p.b, p.c⟩
def flip (p : Pl) : Pl := ⟨-p.a, -p.b, -p.c, -p.d⟩
def okc (p : Pl) : Prop := (-500 ≤ p.a ∧ p.a ≤ 500) ∧ (-500 ≤ p.b ∧ p.b ≤ 500) ∧ (-500 ≤ p.c ∧ p.c ≤ 500) ∧ -500 ≤ p.d ∧ p.d ≤ 500
instance (p : Pl) : Decidable (okc p) := by unfold okc; infer_instance
def inR (x l m : Int) : Bool := decide (l ≤ x ∧ x ≤ m)
def gcdL (l : List Int) : Nat := l.foldl (fun g n => Nat.gcd g n.natAbs) 0
theorem gcdL_take {l : List Int} {i : Nat} {q : Int} (h : l[i]? = some q) : gcdL (l.take (i + 1)) = Nat.gcd (gcdL (l.take i)) q.natAbs := by
  unfold gcdL
  rw [List.take_add_one, h, List.foldl_append]; rfl
theorem gcdL_all {l : List Int} {i : Nat} (h : i = l.length) : gcdL (l.take i) = gcdL l := by subst h; simp
def gcd4 (a b c d : Int) : Nat := Nat.gcd (Nat.gcd a.natAbs b.natAbs) (Nat.gcd c.natAbs d.natAbs)
theorem gcdL4 (a b c d : Int) : gcdL [a, b, c, d] = gcd4 a b c d := by simp [gcdL, gcd4, Nat.gcd_assoc]
def plok (p : Pl) : Bool := decide (okc p ∧ (p.a ≠ 0 ∨ p.b ≠ 0 ∨ p.c ≠ 0) ∧ gcd4 p.a p.b p.c p.d = 1)
theorem gcd_step (g n : Nat) (h : n ≠ 0) : Nat.gcd n (g % n) = Nat.gcd g n := by rw [Nat.gcd_comm n, ← Nat.gcd_rec, Nat.gcd_comm]
theorem gcdB {a b : Int} (ha : -500 ≤ a ∧ a ≤ 500) (hb : -500 ≤ b ∧ b ≤ 500) : -9223372036854775807 ≤ (Int.gcd a b : Int) ∧ (Int.gcd a b : Int) ≤ 9223372036854775807 := by
  have : Int.gcd a b ≤ 1000 := by
    unfold Int.gcd
    rcases Nat.eq_zero_or_pos a.natAbs with h | h
    · rw [h, Nat.gcd_zero_left]; omega
    · exact Nat.le_trans (Nat.gcd_le_left _ h) (by omega)
  omega
/-! ### vectors -/
def sm (B : Int) (v : V3) : Prop := (-B ≤ v.a ∧ v.a ≤ B) ∧ (-B ≤ v.b ∧ v.b ≤ B) ∧ -B ≤ v.c ∧ v.c ≤ B
theorem mulB {a b B C : Int} (ha : -B ≤ a ∧ a ≤ B) (hb : -C ≤ b ∧ b ≤ C) : -(B * C) ≤ a * b ∧ a * b ≤ B * C := by
  have hB : 0 ≤ B := by omega
  have hC : 0 ≤ C := by omega
  have h1 : (a * b).natAbs ≤ (B * C).natAbs := by
    rw [Int.natAbs_mul, Int.natAbs_mul]
    exact Nat.mul_le_mul (by omega) (by omega)
  have h2 : 0 ≤ B * C := Int.mul_nonneg hB hC
  omega
theorem smN {p : Pl} (h : okc p) : sm 500 (nrm p) := ⟨h.1, h.2.1, h.2.2.1⟩
theorem smCross {u v : V3} {B C : Int} (hu : sm B u) (hv : sm C v) : sm (2 * (B * C)) (cross u v) := by
  obtain ⟨h1, h2, h3⟩ := hu
  obtain ⟨k1, k2, k3⟩ := hv
  have a1 := mulB h1 k2; have a2 := mulB h1 k3; have a3 := mulB h2 k1; have a4 := mulB h2 k3; have a5 := mulB h3 k1; have a6 := mulB h3 k2
  unfold sm cross
  simp only
  omega
theorem dotB {u v : V3} {B C : Int} (hu : sm B u) (hv : sm C v) : -(3 * (B * C)) ≤ dot u v ∧ dot u v ≤ 3 * (B * C) := by
  have a1 := mulB hu.1 hv.1; have a2 := mulB hu.2.1 hv.2.1; have a3 := mulB hu.2.2 hv.2.2
  unfold dot
  omega
def sgn (n : Int) : Int := if n > 0 then 1 else if n < 0 then -1 else 0
theorem sgnB (n : Int) : -1 ≤ sgn n ∧ sgn n ≤ 1 := by unfold sgn; split <;> (try split) <;> omega
def cmpI (x y : Int) : Int := if x < y then -1 else if x > y then 1 else 0
theorem cmpI0 (n : Int) : cmpI n 0 = sgn n := by unfold cmpI sgn; split <;> split <;> (try split) <;> omega
def par (p q : Pl) : Int := if cross (nrm p) (nrm q) = ⟨0, 0, 0⟩ then sgn (dot (nrm p) (nrm q)) else 0
theorem par_n {p q : Pl} (h : cross (nrm p) (nrm q) ≠ ⟨0, 0, 0⟩) : par p q = 0 := if_neg h
theorem par_z {p q : Pl} (h : ¬ cross (nrm p) (nrm q) ≠ ⟨0, 0, 0⟩) : par p q = sgn (dot (nrm p) (nrm q)) := if_pos (Decidable.not_not.1 h)
def det3 (p q r : Pl) : Int := dot (nrm p) (cross (nrm q) (nrm r))
theorem det3B {p q r : Pl} (hp : okc p) (hq : okc q) (hr : okc r) : -750000000 ≤ det3 p q r ∧ det3 p q r ≤ 750000000 := by
  have := dotB (smN hp) (smCross (smN hq) (smN hr)); unfold det3; omega
def clash2 (p q : Pl) : Bool := decide (par p q < 0 ∧ ((q.a.natAbs + q.b.natAbs + q.c.natAbs : Nat) : Int) * p.d + ((p.a.natAbs + p.b.natAbs + p.c.natAbs : Nat) : Int) * q.d ≤ 0)
theorem clash2_no {p q : Pl} (h : par p q ≥ 0) : false = clash2 p q := (decide_eq_false fun hq => by omega).symm
theorem clash2_yes {p q : Pl} (h : ¬ par p q ≥ 0) : decide (((q.a.natAbs + q.b.natAbs + q.c.natAbs : Nat) : Int) * p.d + ((p.a.natAbs + p.b.natAbs + p.c.natAbs : Nat) : Int) * q.d ≤ 0) = clash2 p q := by
  unfold clash2; rw [decide_eq_decide]; exact ⟨fun h1 => ⟨by omega, h1⟩, fun h1 => h1.2⟩
theorem par_cross {p q : Pl} (h : ¬ par p q ≥ 0) : cross (nrm p) (nrm q) = ⟨0, 0, 0⟩ ∧ dot (nrm p) (nrm q) < 0 := by
  unfold par at h
  split at h
  · refine ⟨by assumption, ?_⟩
    unfold sgn at h; split at h
    · omega
    · split at h <;> omega
  · omega
theorem scale {x y M N a b : Int} (hy : 0 < y) (hN : 0 < N) (h : x * N = y * M) : (a * x + b * y ≤ 0) ↔ (M * a + N * b ≤ 0) := by
  have e : N * (a * x + b * y) = y * (M * a + N * b) := by
    have : N * (a * x + b * y) = a * (x * N) + N * b * y := by grind
    rw [this, h]; grind
  constructor
  · intro h1
    have h2 : y * (M * a + N * b) ≤ 0 := by rw [← e]; exact Int.mul_nonpos_of_nonneg_of_nonpos (by omega) h1
    exact Int.le_of_not_gt fun hp => by have := Int.mul_pos hy hp; omega
  · intro h1
    have h2 : N * (a * x + b * y) ≤ 0 := by rw [e]; exact Int.mul_nonpos_of_nonneg_of_nonpos (by omega) h1
    exact Int.le_of_not_gt fun hp => by have := Int.mul_pos hN hp; omega
theorem natAbs_cross {a b c d : Int} (h : a * d = b * c) : (a.natAbs : Int) * d.natAbs = b.natAbs * c.natAbs := by
  have := congrArg Int.natAbs h
  rw [Int.natAbs_mul, Int.natAbs_mul] at this
  exact_mod_cast this
theorem maxabs (x : Int) : max x (0 - x) = (x.natAbs : Int) := by omega
theorem cross_eqs {p q : Pl} (h : cross (nrm p) (nrm q) = ⟨0, 0, 0⟩) : p.b * q.c = p.c * q.b ∧ p.c * q.a = p.a * q.c ∧ p.a * q.b = p.b * q.a := by
  unfold cross nrm at h
  simp only [V3.mk.injEq] at h
  omega
theorem clash2_a {p q : Pl} (h : ¬ par p q ≥ 0) (hn : (nrm p).a ≠ 0) : decide (p.d * max (nrm q).a (0 - (nrm q).a) + q.d * max (nrm p).a (0 - (nrm p).a) ≤ 0) = clash2 p q := by
  rw [← clash2_yes h, decide_eq_decide, maxabs, maxabs]
  obtain ⟨e1, e2, e3⟩ := cross_eqs (par_cross h).1
  have a1 := natAbs_cross e1; have a2 := natAbs_cross e2; have a3 := natAbs_cross e3
  simp only [nrm] at hn ⊢
  refine scale (by omega) (by omega) ?_
  push_cast
  grind
theorem clash2_b {p q : Pl} (h : ¬ par p q ≥ 0) (hn : (nrm p).b ≠ 0) : decide (p.d * max (nrm q).b (0 - (nrm q).b) + q.d * max (nrm p).b (0 - (nrm p).b) ≤ 0) = clash2 p q := by
  rw [← clash2_yes h, decide_eq_decide, maxabs, maxabs]
  obtain ⟨e1, e2, e3⟩ := cross_eqs (par_cross h).1
  have a1 := natAbs_cross e1; have a2 := natAbs_cross e2; have a3 := natAbs_cross e3
  simp only [nrm] at hn ⊢
  refine scale (by omega) (by omega) ?_
  push_cast
  grind
theorem clash2_c {p q : Pl} (h : ¬ par p q ≥ 0) (hn : (nrm p).c ≠ 0) : decide (p.d * max (nrm q).c (0 - (nrm q).c) + q.d * max (nrm p).c (0 - (nrm p).c) ≤ 0) = clash2 p q := by
  rw [← clash2_yes h, decide_eq_decide, maxabs, maxabs]
  obtain ⟨e1, e2, e3⟩ := cross_eqs (par_cross h).1
  have a1 := natAbs_cross e1; have a2 := natAbs_cross e2; have a3 := natAbs_cross e3
  simp only [nrm] at hn ⊢
  refine scale (by omega) (by omega) ?_
  push_cast
  grind
theorem clash2_z {p q : Pl} (h : ¬ par p q ≥ 0) (ha : ¬ (nrm p).a ≠ 0) (hb : ¬ (nrm p).b ≠ 0) (hc : ¬ (nrm p).c ≠ 0) : false = clash2 p q := by
  have := (par_cross h).2
  rw [Decidable.not_not] at ha hb hc
  unfold dot at this
  rw [ha, hb, hc] at this
  simp at this
def dotT (f d : List Int) : Nat → Int
  | 0 => 0
  | i + 1 => dotT f d i + f.getD i 0 * d.getD i 0
def upT (f : List Int) : Nat → Bool
  | 0 => true
  | i + 1 => upT f i && decide (f.getD i 0 > 0)
def dnT (f : List Int) : Nat → Bool
  | 0 => true
  | i + 1 => dnT f i && decide (f.getD i 0 < 0)
def sumT (f d : List Int) : Nat → Int
  | 0 => 0
  | i + 1 => sumT f d i + (f.getD i 0).natAbs * d.getD i 0
def sumB (f d : List Int) : Bool := (upT f f.length || dnT f f.length) && decide (sumT f d f.length ≤ 0)
def wgh (f d : List Int) : Bool := decide (sgn (f.getD 0 0) ≠ 0 ∧ (∀ x ∈ f, sgn x = sgn (f.getD 0 0)) ∧ dotT f d f.length * sgn (f.getD 0 0) ≤ 0)
theorem getD_of {l : List Int} {i : Nat} {q : Int} (h : l[i]? = some q) : l.getD i 0 = q := by simp [List.getD_eq_getElem?_getD, h]
theorem wgh_step {f : List Int} {w0 x : Int} {i : Nat} (h : ∀ (j : Nat) z, j < i → f[j]? = some z → sgn w0 ≠ 0 ∧ sgn z = sgn w0) (hx : f[i]? = some x) (h1 : ¬ sgn w0 = 0) (h2 : ¬ sgn x ≠ sgn w0) :
    ∀ (j : Nat) z, j < i + 1 → f[j]? = some z → sgn w0 ≠ 0 ∧ sgn z = sgn w0 := fun j z hj hz => by
  by_cases hji : j = i
  · subst hji; rw [hx] at hz; simp at hz; subst hz; exact ⟨h1, Decidable.not_not.1 h2⟩
  · exact h j z (by omega) hz
theorem wgh_end {f d : List Int} {w0 s : Int} {i : Nat} (h0 : 0 < f.length) (hi : i = f.length) (hw : f[0]? = some w0) (h : ∀ (j : Nat) z, j < i → f[j]? = some z → sgn w0 ≠ 0 ∧ sgn z = sgn w0) (hs : s = dotT f d i) : decide (s * sgn w0 ≤ 0) = wgh f d := by
  subst hi; subst hs
  unfold wgh
  rw [getD_of hw]
  rw [decide_eq_decide]
  constructor
  · intro hq
    refine ⟨(h 0 w0 h0 hw).1, fun x hx => ?_, hq⟩
    obtain ⟨j, hj⟩ := List.getElem?_of_mem hx
    exact (h j x (List.getElem?_eq_some_iff.1 hj).1 hj).2
  · exact fun hq => hq.2.2
theorem wgh_zero {f d : List Int} {w0 : Int} (hw : f[0]? = some w0) (h : sgn w0 = 0) : false = wgh f d := by
  unfold wgh; rw [getD_of hw]; simp [h]
theorem wgh_ne {f d : List Int} {w0 x : Int} {i : Nat} (hw : f[0]? = some w0) (hx : f[i]? = some x) (h : sgn x ≠ sgn w0) : false = wgh f d := by
  refine (decide_eq_false fun hq => ?_).symm
  rw [getD_of hw] at hq
  exact h (hq.2.1 x (List.mem_of_getElem? hx))
theorem upS {f : List Int} {i : Nat} {x : Int} {up : Bool} (h : up = upT f i) (hx : f[i]? = some x) : (up && decide (x > 0)) = upT f (i + 1) := by rw [upT, ← h, getD_of hx]
theorem dnS {f : List Int} {i : Nat} {x : Int} {up : Bool} (h : up = dnT f i) (hx : f[i]? = some x) : (up && decide (x < 0)) = dnT f (i + 1) := by rw [dnT, ← h, getD_of hx]
theorem sumE {f d : List Int} {up dn : Bool} {s : Int} (h1 : up = upT f f.length) (h2 : dn = dnT f f.length) (h3 : s = sumT f d f.length) : ((up || dn) && decide (s ≤ 0)) = sumB f d := by rw [h1, h2, h3]; rfl
theorem sgn_pos {a : Int} (h : 0 < a) : sgn a = 1 := by unfold sgn; rw [if_pos h]
theorem sgn_neg {a : Int} (h : a < 0) : sgn a = -1 := by unfold sgn; rw [if_neg (by omega), if_pos h]
theorem sgn_z {a : Int} (h : a = 0) : sgn a = 0 := by subst h; rfl
theorem na_pos {a d : Int} (h : 0 < a) : (a.natAbs : Int) * d = a * d := by rw [show (a.natAbs : Int) = a by omega]
theorem na_neg {a d : Int} (h : a < 0) : (a.natAbs : Int) * d = -(a * d) := by rw [show (a.natAbs : Int) = -a by omega, Int.neg_mul]
theorem wgh4 (a b c e x y z w : Int) : wgh [a, b, c, e] [x, y, z, w] = sumB [a, b, c, e] [x, y, z, w] := by
  have tri : ∀ n : Int, n < 0 ∨ n = 0 ∨ 0 < n := fun n => by omega
  rw [Bool.eq_iff_iff]
  unfold wgh sumB
  simp only [List.length_cons, List.length_nil, Nat.zero_add, Nat.reduceAdd, dotT, upT, dnT, sumT, List.getD_cons_zero, List.getD_cons_succ, decide_eq_true_eq, Bool.and_eq_true, Bool.or_eq_true, Bool.true_and, List.mem_cons, List.not_mem_nil, or_false, forall_eq_or_imp, forall_eq]
  rcases tri a with ha | ha | ha
  · by_cases h : b < 0 ∧ c < 0 ∧ e < 0
    · rw [sgn_neg ha, sgn_neg h.1, sgn_neg h.2.1, sgn_neg h.2.2, na_neg ha, na_neg h.1, na_neg h.2.1, na_neg h.2.2]
      exact ⟨fun ⟨_, _, h5⟩ => ⟨by omega, by omega⟩, fun ⟨_, h5⟩ => ⟨by omega, ⟨trivial, rfl, rfl, rfl⟩, by omega⟩⟩
    · rw [sgn_neg ha]
      have hb : ∀ n, sgn n = -1 ↔ n < 0 := fun n => by unfold sgn; split <;> (try split) <;> omega
      rw [hb, hb, hb]
      omega
  · subst ha; simp [sgn_z]
  · by_cases h : 0 < b ∧ 0 < c ∧ 0 < e
    · rw [sgn_pos ha, sgn_pos h.1, sgn_pos h.2.1, sgn_pos h.2.2, na_pos ha, na_pos h.1, na_pos h.2.1, na_pos h.2.2]
      exact ⟨fun ⟨_, _, h5⟩ => ⟨by omega, by omega⟩, fun ⟨_, h5⟩ => ⟨by omega, ⟨trivial, rfl, rfl, rfl⟩, by omega⟩⟩
    · rw [sgn_pos ha]
      have hb : ∀ n, sgn n = 1 ↔ 0 < n := fun n => by unfold sgn; split <;> (try split) <;> omega
      rw [hb, hb, hb]
      omega
theorem wgh3 (a b c x y z : Int) : wgh [a, b, c] [x, y, z] = sumB [a, b, c] [x, y, z] := by
  have tri : ∀ n : Int, n < 0 ∨ n = 0 ∨ 0 < n := fun n => by omega
  rw [Bool.eq_iff_iff]
  unfold wgh sumB
  simp only [List.length_cons, List.length_nil, Nat.zero_add, Nat.reduceAdd, dotT, upT, dnT, sumT, List.getD_cons_zero, List.getD_cons_succ, decide_eq_true_eq, Bool.and_eq_true, Bool.or_eq_true, Bool.true_and, List.mem_cons, List.not_mem_nil, or_false, forall_eq_or_imp, forall_eq]
  rcases tri a with ha | ha | ha
  · by_cases h : b < 0 ∧ c < 0
    · rw [sgn_neg ha, sgn_neg h.1, sgn_neg h.2, na_neg ha, na_neg h.1, na_neg h.2]
      exact ⟨fun ⟨_, _, h5⟩ => ⟨by omega, by omega⟩, fun ⟨_, h5⟩ => ⟨by omega, ⟨trivial, rfl, rfl⟩, by omega⟩⟩
    · rw [sgn_neg ha]
      have hb : ∀ n, sgn n = -1 ↔ n < 0 := fun n => by unfold sgn; split <;> (try split) <;> omega
      rw [hb, hb]
      omega
  · subst ha; simp [sgn_z]
  · by_cases h : 0 < b ∧ 0 < c
    · rw [sgn_pos ha, sgn_pos h.1, sgn_pos h.2, na_pos ha, na_pos h.1, na_pos h.2]
      exact ⟨fun ⟨_, _, h5⟩ => ⟨by omega, by omega⟩, fun ⟨_, h5⟩ => ⟨by omega, ⟨trivial, rfl, rfl⟩, by omega⟩⟩
    · rw [sgn_pos ha]
      have hb : ∀ n, sgn n = 1 ↔ 0 < n := fun n => by unfold sgn; split <;> (try split) <;> omega
      rw [hb, hb]
      omega
theorem mulsgn {D s g f : Int} (hD : 0 < D) (hs : 0 < s) (h : D * g = s * f) : (g > 0 ↔ f > 0) ∧ (g < 0 ↔ f < 0) := by
  have key : ∀ {D s g f : Int}, 0 < D → 0 < s → D * g = s * f → (g > 0 → f > 0) ∧ (g < 0 → f < 0) := fun {D s g f} hD hs h => by
    refine ⟨fun hg => ?_, fun hg => ?_⟩
    · have h1 := Int.mul_pos hD hg
      exact Int.lt_of_not_ge fun hf => by have := Int.mul_nonpos_of_nonneg_of_nonpos (show 0 ≤ s by omega) hf; omega
    · have h1 := Int.mul_neg_of_pos_of_neg hD hg
      exact Int.lt_of_not_ge fun hf => by have := Int.mul_nonneg (show 0 ≤ s by omega) hf; omega
  exact ⟨⟨(key hD hs h).1, (key hs hD h.symm).1⟩, ⟨(key hD hs h).2, (key hs hD h.symm).2⟩⟩
theorem absmul {D s g f : Int} (h : D * g = s * f) : (D.natAbs : Int) * g.natAbs = s.natAbs * f.natAbs := by
  have := congrArg Int.natAbs h
  rw [Int.natAbs_mul, Int.natAbs_mul] at this
  exact_mod_cast this
theorem le0scale {D t A B : Int} (hD : 0 < D) (ht : 0 < t) (h : D * A = t * B) : A ≤ 0 ↔ B ≤ 0 := by
  have := (mulsgn hD ht h).1
  omega
theorem sumB3 {g1 g2 g3 f1 f2 f3 x y z D s : Int} (hD : 0 < D) (hs : s ≠ 0) (h1 : D * g1 = s * f1) (h2 : D * g2 = s * f2) (h3 : D * g3 = s * f3) : sumB [g1, g2, g3] [x, y, z] = sumB [f1, f2, f3] [x, y, z] := by
  rw [Bool.eq_iff_iff]
  unfold sumB
  simp only [List.length_cons, List.length_nil, Nat.zero_add, Nat.reduceAdd, upT, dnT, sumT, List.getD_cons_zero, List.getD_cons_succ, decide_eq_true_eq, Bool.and_eq_true, Bool.or_eq_true, Bool.true_and]
  have a1 := absmul h1; have a2 := absmul h2; have a3 := absmul h3
  have hDD : (D.natAbs : Int) = D := by omega
  rw [hDD] at a1 a2 a3
  have hsum : 0 + (g1.natAbs : Int) * x + g2.natAbs * y + g3.natAbs * z ≤ 0 ↔ 0 + (f1.natAbs : Int) * x + f2.natAbs * y + f3.natAbs * z ≤ 0 := by
    refine le0scale hD (t := (s.natAbs : Int)) (by omega) ?_
    grind
  rw [hsum]
  rcases Int.lt_trichotomy s 0 with hs' | hs' | hs'
  · have b1 := mulsgn (f := -f1) hD (show 0 < -s by omega) (by rw [h1]; grind)
    have b2 := mulsgn (f := -f2) hD (show 0 < -s by omega) (by rw [h2]; grind)
    have b3 := mulsgn (f := -f3) hD (show 0 < -s by omega) (by rw [h3]; grind)
    exact and_congr (by omega) Iff.rfl
  · exact absurd hs' hs
  · have b1 := mulsgn hD hs' h1
    have b2 := mulsgn hD hs' h2
    have b3 := mulsgn hD hs' h3
    exact and_congr (by omega) Iff.rfl
theorem cross_cross {a b c : V3} (h : dot a (cross b c) = 0) : let x := cross b c; let y := cross c a; let z := cross a b
    (x.a * z.b = x.b * z.a ∧ x.a * z.c = x.c * z.a ∧ x.b * z.c = x.c * z.b) ∧ (y.a * z.b = y.b * z.a ∧ y.a * z.c = y.c * z.a ∧ y.b * z.c = y.c * z.b) := by
  obtain ⟨a1, a2, a3⟩ := a; obtain ⟨b1, b2, b3⟩ := b; obtain ⟨c1, c2, c3⟩ := c
  simp only [dot, cross] at h ⊢
  refine ⟨⟨?_, ?_, ?_⟩, ?_, ?_, ?_⟩ <;> grind
def clash3 (p q r : Pl) : Bool :=
  if det3 p q r ≠ 0 then false else
    let x := cross (nrm q) (nrm r); let y := cross (nrm r) (nrm p); let z := cross (nrm p) (nrm q)
    if x.a ≠ 0 ∨ y.a ≠ 0 ∨ z.a ≠ 0 then sumB [x.a, y.a, z.a] [p.d, q.d, r.d] else
    if x.b ≠ 0 ∨ y.b ≠ 0 ∨ z.b ≠ 0 then sumB [x.b, y.b, z.b] [p.d, q.d, r.d] else
    if x.c ≠ 0 ∨ y.c ≠ 0 ∨ z.c ≠ 0 then sumB [x.c, y.c, z.c] [p.d, q.d, r.d] else false
def clash4 (p q r s : Pl) : Bool := sumB [det3 q r s, -det3 p r s, det3 p q s, -det3 p q r] [p.d, q.d, r.d, s.d]
theorem c3_a {p q r : Pl} (h : ¬ det3 p q r ≠ 0) (hn : (cross (nrm q) (nrm r)).a ≠ 0 ∨ (cross (nrm r) (nrm p)).a ≠ 0 ∨ (cross (nrm p) (nrm q)).a ≠ 0) : sumB [(cross (nrm q) (nrm r)).a, (cross (nrm r) (nrm p)).a, (cross (nrm p) (nrm q)).a] [p.d, q.d, r.d] = clash3 p q r := by
  unfold clash3; rw [if_neg h]; simp only; rw [if_pos hn]
theorem c3_b {p q r : Pl} (h : ¬ det3 p q r ≠ 0) (hn0 : ¬ ((cross (nrm q) (nrm r)).a ≠ 0 ∨ (cross (nrm r) (nrm p)).a ≠ 0 ∨ (cross (nrm p) (nrm q)).a ≠ 0)) (hn : (cross (nrm q) (nrm r)).b ≠ 0 ∨ (cross (nrm r) (nrm p)).b ≠ 0 ∨ (cross (nrm p) (nrm q)).b ≠ 0) : sumB [(cross (nrm q) (nrm r)).b, (cross (nrm r) (nrm p)).b, (cross (nrm p) (nrm q)).b] [p.d, q.d, r.d] = clash3 p q r := by
  unfold clash3; rw [if_neg h]; simp only; rw [if_neg hn0, if_pos hn]
theorem c3_c {p q r : Pl} (h : ¬ det3 p q r ≠ 0) (hn0 : ¬ ((cross (nrm q) (nrm r)).a ≠ 0 ∨ (cross (nrm r) (nrm p)).a ≠ 0 ∨ (cross (nrm p) (nrm q)).a ≠ 0)) (hn1 : ¬ ((cross (nrm q) (nrm r)).b ≠ 0 ∨ (cross (nrm r) (nrm p)).b ≠ 0 ∨ (cross (nrm p) (nrm q)).b ≠ 0)) (hn : (cross (nrm q) (nrm r)).c ≠ 0 ∨ (cross (nrm r) (nrm p)).c ≠ 0 ∨ (cross (nrm p) (nrm q)).c ≠ 0) : sumB [(cross (nrm q) (nrm r)).c, (cross (nrm r) (nrm p)).c, (cross (nrm p) (nrm q)).c] [p.d, q.d, r.d] = clash3 p q r := by
  unfold clash3; rw [if_neg h]; simp only; rw [if_neg hn0, if_neg hn1, if_pos hn]
theorem c3_n {p q r : Pl} (h : ¬ det3 p q r ≠ 0) (hn0 : ¬ ((cross (nrm q) (nrm r)).a ≠ 0 ∨ (cross (nrm r) (nrm p)).a ≠ 0 ∨ (cross (nrm p) (nrm q)).a ≠ 0)) (hn1 : ¬ ((cross (nrm q) (nrm r)).b ≠ 0 ∨ (cross (nrm r) (nrm p)).b ≠ 0 ∨ (cross (nrm p) (nrm q)).b ≠ 0)) (hn : ¬ ((cross (nrm q) (nrm r)).c ≠ 0 ∨ (cross (nrm r) (nrm p)).c ≠ 0 ∨ (cross (nrm p) (nrm q)).c ≠ 0)) : false = clash3 p q r := by
  unfold clash3; rw [if_neg h]; simp only; rw [if_neg hn0, if_neg hn1, if_neg hn]
theorem sumB_z {u v x y z : Int} : sumB [u, v, 0] [x, y, z] = false := by
  unfold sumB; simp [upT, dnT]
theorem sqpos {a b c : Int} (h : a ≠ 0 ∨ b ≠ 0 ∨ c ≠ 0) : 0 < a * a + b * b + c * c := by
  have sq : ∀ n : Int, 0 ≤ n * n := fun n => by
    rcases Int.le_total 0 n with h | h
    · exact Int.mul_nonneg h h
    · have := Int.mul_nonneg (show 0 ≤ -n by omega) (show 0 ≤ -n by omega); grind
  have sqn : ∀ n : Int, n ≠ 0 → 0 < n * n := fun n hn => by
    have h1 := sq n
    have h2 : n * n ≠ 0 := fun h0 => by rcases Int.mul_eq_zero.1 h0 with h | h <;> exact hn h
    omega
  have ha := sq a; have hb := sq b; have hc := sq c
  rcases h with h | h | h
  · have := sqn a h; omega
  · have := sqn b h; omega
  · have := sqn c h; omega
theorem clash3_aux {x y z : V3} {d e f : Int} (hx : x.a * z.b = x.b * z.a ∧ x.a * z.c = x.c * z.a ∧ x.b * z.c = x.c * z.b) (hy : y.a * z.b = y.b * z.a ∧ y.a * z.c = y.c * z.a ∧ y.b * z.c = y.c * z.b) :
    sumB [dot x z, dot y z, dot z z] [d, e, f] = (if x.a ≠ 0 ∨ y.a ≠ 0 ∨ z.a ≠ 0 then sumB [x.a, y.a, z.a] [d, e, f] else
    if x.b ≠ 0 ∨ y.b ≠ 0 ∨ z.b ≠ 0 then sumB [x.b, y.b, z.b] [d, e, f] else
    if x.c ≠ 0 ∨ y.c ≠ 0 ∨ z.c ≠ 0 then sumB [x.c, y.c, z.c] [d, e, f] else false) := by
  obtain ⟨x1, x2, x3⟩ := x; obtain ⟨y1, y2, y3⟩ := y; obtain ⟨z1, z2, z3⟩ := z
  simp only [dot] at *
  by_cases hz : z1 ≠ 0 ∨ z2 ≠ 0 ∨ z3 ≠ 0
  · have hD := sqpos hz
    have nz : ∀ {u v : Int}, u * v = 0 → v ≠ 0 → u = 0 := fun {u v} h hv => (Int.mul_eq_zero.1 h).resolve_right hv
    split
    · rename_i h
      have h1 : z1 ≠ 0 := fun h0 => by
        subst h0
        simp only [Int.mul_zero] at hx hy
        rcases hz with hz | hz | hz
        · exact hz rfl
        · rcases h with h | h | h
          · exact h (nz hx.1 hz)
          · exact h (nz hy.1 hz)
          · exact h rfl
        · rcases h with h | h | h
          · exact h (nz hx.2.1 hz)
          · exact h (nz hy.2.1 hz)
          · exact h rfl
      exact (sumB3 hD h1 (by grind) (by grind) (by grind)).symm
    · rename_i h0
      have e1 : z1 = 0 := Decidable.byContradiction fun h1 => h0 (.inr (.inr h1))
      have e2 : x1 = 0 := Decidable.byContradiction fun h1 => h0 (.inl h1)
      have e3 : y1 = 0 := Decidable.byContradiction fun h1 => h0 (.inr (.inl h1))
      subst e1; subst e2; subst e3
      split
      · rename_i h
        have h1 : z2 ≠ 0 := fun h0 => by
          subst h0
          have hz3 : z3 ≠ 0 := by rcases hz with hz | hz | hz <;> first | exact absurd rfl hz | exact hz
          rcases h with h | h | h
          · exact h (nz (by simpa using hx.2.2) hz3)
          · exact h (nz (by simpa using hy.2.2) hz3)
          · exact h rfl
        exact (sumB3 hD h1 (by grind) (by grind) (by grind)).symm
      · rename_i h0
        have e1 : z2 = 0 := Decidable.byContradiction fun h1 => h0 (.inr (.inr h1))
        have e2 : x2 = 0 := Decidable.byContradiction fun h1 => h0 (.inl h1)
        have e3 : y2 = 0 := Decidable.byContradiction fun h1 => h0 (.inr (.inl h1))
        subst e1; subst e2; subst e3
        have h1 : z3 ≠ 0 := by rcases hz with hz | hz | hz <;> first | exact absurd rfl hz | exact hz
        rw [if_pos (.inr (.inr h1))]
        exact (sumB3 hD h1 (by grind) (by grind) (by grind)).symm
  · have e1 : z1 = 0 := Decidable.byContradiction fun h1 => hz (.inl h1)
    have e2 : z2 = 0 := Decidable.byContradiction fun h1 => hz (.inr (.inl h1))
    have e3 : z3 = 0 := Decidable.byContradiction fun h1 => hz (.inr (.inr h1))
    subst e1; subst e2; subst e3
    simp [sumB_z]
theorem clash3_no {p q r : Pl} (h : det3 p q r ≠ 0) : false = clash3 p q r := by unfold clash3; rw [if_pos h]
theorem clash3_i {p q r : Pl} (h : ¬ det3 p q r ≠ 0) : wgh [dot (cross (nrm q) (nrm r)) (cross (nrm p) (nrm q)), dot (cross (nrm r) (nrm p)) (cross (nrm p) (nrm q)), dot (cross (nrm p) (nrm q)) (cross (nrm p) (nrm q))] [p.d, q.d, r.d] = clash3 p q r := by
  unfold clash3
  rw [if_neg h, wgh3]
  have hc := cross_cross (Decidable.not_not.1 h)
  exact clash3_aux hc.1 hc.2
theorem clash4_i {p q r s : Pl} : wgh [det3 q r s, 0 - det3 p r s, det3 p q s, 0 - det3 p q r] [p.d, q.d, r.d, s.d] = clash4 p q r s := by
  rw [wgh4]; simp [clash4]
theorem clash4_s {p q r s : Pl} : sumB [det3 q r s, 0 - det3 p r s, det3 p q s, 0 - det3 p q r] [p.d, q.d, r.d, s.d] = clash4 p q r s := by
  simp [clash4]
def R4 (l : List Pl) (p q r : Pl) (k : Nat) : Prop := ∀ (k' : Nat) s, k' < k → l[k']? = some s → clash4 s r q p = false
def R3 (l : List Pl) (p q : Pl) (j : Nat) : Prop := ∀ (j' : Nat) r, j' < j → l[j']? = some r → clash3 r q p = false ∧ R4 l p q r j'
def R2 (l : List Pl) (p : Pl) (i : Nat) : Prop := ∀ (i' : Nat) q, i' < i → l[i']? = some q → clash2 q p = false ∧ R3 l p q i'
def Room (l : List Pl) (p : Pl) : Prop := R2 l p l.length
open Classical in
noncomputable def room (l : List Pl) (p : Pl) : Bool := decide (Room l p)

section
variable {l : List Pl} {p q r s : Pl} {i j k : Nat}
theorem tkE (h : (l.take i)[j]? = some r) : j < i ∧ l[j]? = some r := by
  rw [List.getElem?_take] at h; split at h
  · exact ⟨by assumption, h⟩
  · simp at h
theorem R4.z : R4 l p q r 0 := fun k s h => by omega
theorem R3.z : R3 l p q 0 := fun k s h => by omega
theorem R2.z : R2 l p 0 := fun k s h => by omega
theorem R4.su (h : R4 l p q r k) (hs : (l.take j)[k]? = some s) (c : clash4 s r q p = false) : R4 l p q r (k + 1) := fun k' s' h1 h2 => by
  by_cases hk : k' = k
  · subst hk; rw [(tkE hs).2] at h2; simp at h2; subst h2; exact c
  · exact h k' s' (by omega) h2
theorem R3.su (h : R3 l p q j) (hr : (l.take i)[j]? = some r) (c : clash3 r q p = false) (h4 : R4 l p q r j) : R3 l p q (j + 1) := fun k' s' h1 h2 => by
  by_cases hk : k' = j
  · subst hk; rw [(tkE hr).2] at h2; simp at h2; subst h2; exact ⟨c, h4⟩
  · exact h k' s' (by omega) h2
theorem R2.su (h : R2 l p i) (hq : l[i]? = some q) (c : clash2 q p = false) (h3 : R3 l p q i) : R2 l p (i + 1) := fun k' s' h1 h2 => by
  by_cases hk : k' = i
  · subst hk; rw [hq] at h2; simp at h2; subst h2; exact ⟨c, h3⟩
  · exact h k' s' (by omega) h2
theorem lt_of_get {α : Type} {l : List α} {i : Nat} {q : α} (h : l[i]? = some q) : i < l.length := (List.getElem?_eq_some_iff.1 h).1
open Classical in
theorem rf2 (hq : l[i]? = some q) (c : clash2 q p = true) : false = room l p := by
  refine (decide_eq_false fun h => ?_).symm
  have := (h i q (lt_of_get hq) hq).1
  rw [c] at this; simp at this
open Classical in
theorem rf3 (hq : l[i]? = some q) (hr : (l.take i)[j]? = some r) (c : clash3 r q p = true) : false = room l p := by
  refine (decide_eq_false fun h => ?_).symm
  have := ((h i q (lt_of_get hq) hq).2 j r (tkE hr).1 (tkE hr).2).1
  rw [c] at this; simp at this
open Classical in
theorem rf4 (hq : l[i]? = some q) (hr : (l.take i)[j]? = some r) (hs : (l.take j)[k]? = some s) (c : clash4 s r q p = true) : false = room l p := by
  refine (decide_eq_false fun h => ?_).symm
  have := ((h i q (lt_of_get hq) hq).2 j r (tkE hr).1 (tkE hr).2).2 k s (tkE hs).1 (tkE hs).2
  rw [c] at this; simp at this
open Classical in
theorem rtr (h : R2 l p i) (hi : i = l.length) : true = room l p := by subst hi; exact (decide_eq_true h).symm

def W4 (l : List Pl) (p q r : Pl) (k m : Nat) : Prop := ∀ (m' : Nat) s, k < m' → m' < m → l[m']? = some s → clash4 q r s p = false
def W3 (l : List Pl) (p q : Pl) (i k : Nat) : Prop := ∀ (k' : Nat) r, i < k' → k' < k → l[k']? = some r → clash3 q r p = false ∧ W4 l p q r k' l.length
def W2 (l : List Pl) (p : Pl) (i : Nat) : Prop := ∀ (i' : Nat) q, i' < i → l[i']? = some q → clash2 q p = false ∧ W3 l p q i' l.length
theorem W4.z : W4 l p q r k (k + 1) := fun m s h1 h2 => by omega
theorem W3.z : W3 l p q i (i + 1) := fun m s h1 h2 => by omega
theorem W2.z : W2 l p 0 := fun m s h1 => by omega
theorem W4.su {m : Nat} (h : W4 l p q r k m) (hs : l[m]? = some s) (c : clash4 q r s p = false) : W4 l p q r k (m + 1) := fun m' s' h0 h1 h2 => by
  by_cases hm : m' = m
  · subst hm; rw [hs] at h2; simp at h2; subst h2; exact c
  · exact h m' s' h0 (by omega) h2
theorem W3.su (h : W3 l p q i k) (hr : l[k]? = some r) (c : clash3 q r p = false) (h4 : W4 l p q r k l.length) : W3 l p q i (k + 1) := fun m' s' h0 h1 h2 => by
  by_cases hm : m' = k
  · subst hm; rw [hr] at h2; simp at h2; subst h2; exact ⟨c, h4⟩
  · exact h m' s' h0 (by omega) h2
theorem W2.su (h : W2 l p i) (hq : l[i]? = some q) (c : clash2 q p = false) (h3 : W3 l p q i l.length) : W2 l p (i + 1) := fun m' s' h1 h2 => by
  by_cases hm : m' = i
  · subst hm; rw [hq] at h2; simp at h2; subst h2; exact ⟨c, h3⟩
  · exact h m' s' (by omega) h2
open Classical in
theorem wtr (h : W2 l p i) (hi : i = l.length) : false = !room l p := by
  subst hi
  have : room l p = true := decide_eq_true fun i q hi hq => ⟨(h i q hi hq).1, fun j r hj hr =>
    ⟨((h j r (by omega) hr).2 i q hj hi hq).1, fun k s hk hs => ((h k s (by omega) hs).2 j r hk (by omega) hr).2 i q hj hi hq⟩⟩
  rw [this]; rfl
theorem getT {α : Type} {l : List α} {i j : Nat} {r : α} (h : l[j]? = some r) (hj : j < i) : (l.take i)[j]? = some r := by rw [List.getElem?_take, if_pos hj]; exact h
theorem wf2 (hq : l[i]? = some q) (c : clash2 q p = true) : true = !room l p := by rw [← rf2 hq c]; rfl
theorem wf3 (hq : l[i]? = some q) (hr : l[k]? = some r) (hk : i < k) (c : clash3 q r p = true) : true = !room l p := by rw [← rf3 hr (getT hq hk) c]; rfl
theorem wf4 {m : Nat} (hq : l[i]? = some q) (hr : l[k]? = some r) (hs : l[m]? = some s) (hk : i < k) (hm : k < m) (c : clash4 q r s p = true) : true = !room l p := by rw [← rf4 hs (getT hr hm) (getT hq hk) c]; rfl
end

mutual
def count : Sol → Int → Int
  | .mk _ _ k, left => if k.length = 0 ∨ left ≤ 0 then 0 else countS k left 1
def countS : List Sol → Int → Int → Int
  | [], _, n => n
  | s :: l, left, n => countS l left (n + count s (left - n))
end
theorem drop_of {α : Type} {l : List α} {i : Nat} {q : α} (h : l[i]? = some q) : l.drop i = q :: l.drop (i + 1) := by
  obtain ⟨h1, h2⟩ := List.getElem?_eq_some_iff.1 h
  rw [← h2]; exact List.drop_eq_getElem_cons h1
theorem count_z {i : Bool} {p : Pl} {k : List Sol} {left : Int} (h : (k.length : Int) = 0 ∨ left ≤ 0) : 0 = count (.mk i p k) left := by
  unfold count; rw [if_pos (by omega)]
theorem count_e {i : Bool} {p : Pl} {k : List Sol} {left n : Int} {j : Nat} (h1 : ¬ (k.length : Int) = 0) (h2 : ¬ left ≤ 0) (hc : countS (k.drop j) left n = countS k left 1) (hj : k.length ≤ j) : n = count (.mk i p k) left := by
  unfold count; rw [if_neg (by omega), ← hc, List.drop_eq_nil_of_le hj]; rfl
mutual
theorem count_le : ∀ (s : Sol) (left : Int), 0 ≤ count s left ∧ (count s left ≤ left ∨ count s left = 0)
  | .mk i p k, left => by
    unfold count
    split
    · omega
    · have := countS_le k left 1 (by omega) (by omega); omega
theorem countS_le : ∀ (l : List Sol) (left n : Int), 0 ≤ n → n ≤ left → n ≤ countS l left n ∧ countS l left n ≤ left
  | [], left, n, h1, h2 => by unfold countS; omega
  | s :: l, left, n, h1, h2 => by
    unfold countS
    have a := count_le s (left - n)
    have b := countS_le l left (n + count s (left - n)) (by omega) (by omega)
    omega
end

mutual
def fits : Sol → Prop
  | .mk _ _ k => k.length ≤ 1048576 ∧ fitsS k
def fitsS : List Sol → Prop
  | [] => True
  | s :: l => fits s ∧ fitsS l
end
theorem fitsS_mem {l : List Sol} (h : fitsS l) : ∀ s ∈ l, fits s := by
  induction l with
  | nil => simp
  | cons x l ih =>
    intro s hs
    unfold fitsS at h
    rcases List.mem_cons.1 hs with rfl | hs
    · exact h.1
    · exact ih h.2 s hs
theorem sz_kid {i : Bool} {p : Pl} {k : List Sol} {s : Sol} (h : s ∈ k) : SizeOf.sizeOf s < SizeOf.sizeOf (Sol.mk i p k) := by
  have := List.sizeOf_lt_of_mem h
  simp; omega

def zeroPl : Pl := ⟨0, 0, 0, 0⟩
/-- Is a tree right along a path? -/
noncomputable def look : Sol → List Pl → Bool
  | .mk i p k, path => match k with
    | [] => decide (p = zeroPl)
    | [a, b] => !i && plok p && decide (path.length ≠ 24) && room path p && room path (flip p) && look a (path ++ [p]) && look b (path ++ [flip p])
    | _ => false
  termination_by s => SizeOf.sizeOf s
  decreasing_by all_goals (simp; omega)
/-- How many nodes a tree has. -/
def nodesN : Sol → Nat
  | .mk _ _ k => match k with
    | [a, b] => 1 + nodesN a + nodesN b
    | _ => 0
  termination_by s => SizeOf.sizeOf s
  decreasing_by all_goals (simp; omega)
theorem look_leaf (i : Bool) (p : Pl) (path : List Pl) : look (.mk i p []) path = decide (p = zeroPl) := by rw [look]
theorem look_node (i : Bool) (p : Pl) (a b : Sol) (path : List Pl) : look (.mk i p [a, b]) path = (!i && plok p && decide (path.length ≠ 24) && room path p && room path (flip p) && look a (path ++ [p]) && look b (path ++ [flip p])) := by rw [look]
theorem look_bad {i : Bool} {p : Pl} {k : List Sol} {path : List Pl} (h0 : k.length ≠ 0) (h2 : k.length ≠ 2) : look (.mk i p k) path = false := by
  match k, h0, h2 with
  | [x], _, _ => rw [look] <;> simp
  | x :: y :: z :: r, _, _ => rw [look] <;> simp
theorem nodes_leaf (i : Bool) (p : Pl) : nodesN (.mk i p []) = 0 := by rw [nodesN] <;> simp
theorem nodes_node (i : Bool) (p : Pl) (a b : Sol) : nodesN (.mk i p [a, b]) = 1 + nodesN a + nodesN b := by rw [nodesN]
theorem okc_flip {p : Pl} (h : okc p) : okc (flip p) := by unfold okc flip at *; simp only; omega
theorem plok_okc {p : Pl} (h : plok p = true) : okc p := (of_decide_eq_true h).1
theorem count_look : ∀ (s : Sol) (path : List Pl) (left : Int), look s path = true → 0 ≤ left → count s left = if (nodesN s : Int) ≤ left then (nodesN s : Int) else left
  | .mk i p k, path, left, h, hl => by
    by_cases h0 : k.length = 0
    · have : k = [] := List.eq_nil_of_length_eq_zero h0
      subst this
      rw [nodes_leaf, if_pos (by omega)]
      exact (count_z (.inl (by simp))).symm
    · by_cases h2 : k.length = 2
      · match k, h2 with
        | [a, b], _ =>
          rw [look_node] at h
          simp only [Bool.and_eq_true] at h
          obtain ⟨⟨_, ha⟩, hb⟩ := h
          rw [nodes_node]
          unfold count
          split
          · rename_i hc; simp at hc; split <;> omega
          · rename_i hc
            simp at hc
            have e1 := count_look a _ (left - 1) ha (by omega)
            have b1 := count_le a (left - 1)
            have e2 := count_look b _ (left - (1 + count a (left - 1))) hb (by omega)
            simp only [countS]
            rw [e2]
            split at e1 <;> split <;> split <;> push_cast <;> omega
      · rw [look_bad h0 h2] at h; simp at h
  termination_by s => SizeOf.sizeOf s
  decreasing_by all_goals (simp; omega)

theorem ok_app {l : List Pl} {p : Pl} (h : ∀ q ∈ l, okc q) (hp : okc p) : ∀ q ∈ l ++ [p], okc q := fun q hq => by
  rcases List.mem_append.1 hq with h1 | h1
  · exact h q h1
  · simp at h1; subst h1; exact hp
theorem look_0 {i : Bool} {p : Pl} {k : List Sol} {path : List Pl} (h : (k.length : Int) = 0) : decide (p = Pl.mk 0 0 0 0) = look (.mk i p k) path := by
  have : k = [] := List.eq_nil_of_length_eq_zero (by omega)
  subst this; rw [look_leaf]; rfl
theorem look_f {i : Bool} {p : Pl} {k : List Sol} {path : List Pl} (h0 : ¬ (k.length : Int) = 0) (h : (k.length : Int) ≠ 2 ∨ i = true ∨ plok p = false ∨ (path.length : Int) = 24 ∨ room path p = false ∨ room path (flip p) = false) : false = look (.mk i p k) path := by
  by_cases h2 : k.length = 2
  · match k, h2 with
    | [a, b], _ =>
      rw [look_node]
      rcases h with h | h | h | h | h | h
      · simp at h
      · simp [h]
      · simp [h]
      · have : path.length = 24 := by omega
        simp [this]
      · simp [h]
      · simp [h]
  · exact (look_bad (by omega) h2).symm
theorem look_n {i : Bool} {p : Pl} {k : List Sol} {a b : Sol} {path : List Pl} (h2 : ¬ (k.length : Int) ≠ 2) (ha : k[0]? = some a) (hb : k[1]? = some b) (h3 : i = false) (h4 : plok p = true) (h5 : ¬ (path.length : Int) = 24) (h6 : room path p = true) (h7 : room path (flip p) = true) :
    look (.mk i p k) path = (look a (path ++ [p]) && look b (path ++ [flip p])) := by
  match k, (show k.length = 2 by omega), ha, hb with
  | [a', b'], _, ha, hb =>
    simp at ha hb
    subst ha; subst hb
    have : path.length ≠ 24 := by omega
    rw [look_node]; simp [h3, h4, h6, h7, this]

/-- What the program's checker does: whether a tree is right, and how many nodes it has counted. -/
noncomputable def rgt : Sol → List Pl → Int → Bool × Int
  | .mk i p k, path, n => match k with
    | [] => (decide (p = Pl.mk 0 0 0 0), n)
    | [a, b] => if i = false ∧ n + 1 ≤ 300 ∧ path.length < 24 ∧ plok p = true ∧ room path p = true ∧ room path (flip p) = true then
        (if (rgt a (path ++ [p]) (n + 1)).1 = true then rgt b (path ++ [flip p]) (rgt a (path ++ [p]) (n + 1)).2 else (false, (rgt a (path ++ [p]) (n + 1)).2))
      else (false, n + 1)
    | _ => (false, n + 1)
  termination_by s => SizeOf.sizeOf s
  decreasing_by all_goals (simp; omega)
theorem rgt_leaf (i : Bool) (p : Pl) (path : List Pl) (n : Int) : rgt (.mk i p []) path n = (decide (p = Pl.mk 0 0 0 0), n) := by rw [rgt]
theorem rgt_node (i : Bool) (p : Pl) (a b : Sol) (path : List Pl) (n : Int) : rgt (.mk i p [a, b]) path n = if i = false ∧ n + 1 ≤ 300 ∧ path.length < 24 ∧ plok p = true ∧ room path p = true ∧ room path (flip p) = true then
        (if (rgt a (path ++ [p]) (n + 1)).1 = true then rgt b (path ++ [flip p]) (rgt a (path ++ [p]) (n + 1)).2 else (false, (rgt a (path ++ [p]) (n + 1)).2))
      else (false, n + 1) := by rw [rgt]
theorem rgt_bad {i : Bool} {p : Pl} {k : List Sol} {path : List Pl} {n : Int} (h0 : k.length ≠ 0) (h2 : k.length ≠ 2) : rgt (.mk i p k) path n = (false, n + 1) := by
  match k, h0, h2 with
  | [x], _, _ => rw [rgt] <;> simp
  | x :: y :: z :: r, _, _ => rw [rgt] <;> simp
theorem rgt_le : ∀ (s : Sol) (path : List Pl) (n : Int), n ≤ 300 → (rgt s path n).1 = true → n ≤ (rgt s path n).2 ∧ (rgt s path n).2 ≤ 300
  | .mk i p k, path, n, hn, h => by
    by_cases h0 : k.length = 0
    · have : k = [] := List.eq_nil_of_length_eq_zero h0
      subst this; rw [rgt_leaf]; simp only; omega
    · by_cases h2 : k.length = 2
      · match k, h2 with
        | [a, b], _ =>
          rw [rgt_node] at h ⊢
          split at h
          · rename_i hc
            rw [if_pos hc]
            split at h
            · rename_i ha
              rw [if_pos ha]
              have e1 := rgt_le a _ (n + 1) (by omega) ha
              have e2 := rgt_le b _ _ e1.2 h
              omega
            · simp at h
          · simp at h
      · rw [rgt_bad h0 h2] at h; simp at h
  termination_by s => SizeOf.sizeOf s
  decreasing_by all_goals (simp; omega)

theorem rgt_0 {i : Bool} {p : Pl} {k : List Sol} {path : List Pl} {n : Int} (h : (k.length : Int) = 0) : rgt (.mk i p k) path n = (decide (p = Pl.mk 0 0 0 0), n) := by
  have : k = [] := List.eq_nil_of_length_eq_zero (by omega)
  subst this; exact rgt_leaf _ _ _ _
theorem rgt_f {i : Bool} {p : Pl} {k : List Sol} {path : List Pl} {n : Int} (h0 : ¬ (k.length : Int) = 0) (h : i = true ∨ (k.length : Int) ≠ 2 ∨ n + 1 > 300 ∨ (path.length : Int) ≥ 24 ∨ plok p = false ∨ room path p = false ∨ room path (flip p) = false) : rgt (.mk i p k) path n = (false, n + 1) := by
  by_cases h2 : k.length = 2
  · match k, h2 with
    | [a, b], _ =>
      rw [rgt_node, if_neg]
      rintro ⟨q1, q2, q3, q4, q5, q6⟩
      rcases h with h | h | h | h | h | h | h
      · rw [h] at q1; simp at q1
      · simp at h
      · omega
      · omega
      · rw [h] at q4; simp at q4
      · rw [h] at q5; simp at q5
      · rw [h] at q6; simp at q6
  · exact rgt_bad (by omega) h2
theorem rgt_n {i : Bool} {p : Pl} {k : List Sol} {a b : Sol} {path : List Pl} {n : Int} (h2 : ¬ (k.length : Int) ≠ 2) (ha : k[0]? = some a) (hb : k[1]? = some b) (h3 : i = false) (h4 : plok p = true) (h5 : ¬ (path.length : Int) ≥ 24) (h8 : ¬ n + 1 > 300) (h6 : room path p = true) (h7 : room path (flip p) = true) :
    rgt (.mk i p k) path n = if (rgt a (path ++ [p]) (n + 1)).1 = true then rgt b (path ++ [flip p]) (rgt a (path ++ [p]) (n + 1)).2 else (false, (rgt a (path ++ [p]) (n + 1)).2) := by
  match k, (show k.length = 2 by omega), ha, hb with
  | [a', b'], _, ha, hb =>
    simp at ha hb
    subst ha; subst hb
    rw [rgt_node, if_pos ⟨h3, by omega, by omega, h4, h6, h7⟩]
end Go.Proofs.Ytablmbhnimnccaa.Pw
