/- Plain told functions, part 3: lists of planes; what two cells share. No condition. -/
import Derived.Test.YtablmbhnimnccaaZqPure2
import Derived.Test.YtablmbhnimnccaaZqGeo3
namespace Go.Proofs.Ytablmbhnimnccaa.Pw

def idxA : List Pl → Pl → Nat → Int
  | [], _, _ => -1
  | q :: l, p, i => if p = q then (i : Int) else idxA l p (i + 1)
def idxP (l : List Pl) (p : Pl) : Int := idxA l p 0
theorem idxA_ge : ∀ (l : List Pl) (p : Pl) (i : Nat), (idxA l p i ≥ 0 ↔ p ∈ l)
  | [], p, i => by simp [idxA]
  | q :: l, p, i => by
    unfold idxA
    split
    · rename_i h; simp [h]
    · rename_i h; rw [idxA_ge l p (i + 1)]; simp [h]
theorem contains_eq (l : List Pl) (p : Pl) : decide (idxP l p ≥ 0) = decide (p ∈ l) := by
  rw [decide_eq_decide]; exact idxA_ge l p 0
def rest (l : List Pl) (p : Pl) : List Pl := l.filter fun q => decide (q ≠ p) && decide (q ≠ flip p)
theorem rest_le (l : List Pl) (p : Pl) : (rest l p).length ≤ l.length := List.length_filter_le _ _
theorem rest_ok {a b : List Pl} {p : Pl} (ha : ∀ q ∈ a, okc q) (hb : ∀ q ∈ b, okc q) : ∀ q ∈ rest a p ++ rest b p, okc q := fun q hq => by
  rcases List.mem_append.1 hq with h | h
  · exact ha q (List.mem_filter.1 h).1
  · exact hb q (List.mem_filter.1 h).1
noncomputable def opnA : List Pl → List Pl → Bool
  | _, [] => true
  | pre, q :: l => room pre q && opnA (pre ++ [q]) l
noncomputable def opn (l : List Pl) : Bool := opnA [] l
theorem room_nil (p : Pl) : room [] p = true := room_iff.2 fun i q h => by simp at h
theorem opn_1 (l : List Pl) : opnA (l.take 1) (l.drop 1) = opn l := by
  cases l with
  | nil => rfl
  | cons x l => simp [opn, opnA, room_nil]
theorem take_su {α : Type} {l : List α} {i : Nat} {q : α} (h : l[i]? = some q) : l.take (i + 1) = l.take i ++ [q] := by
  rw [List.take_add_one, h]; rfl
noncomputable def meetS (a b : List Pl) (p : Pl) : Bool :=
  (decide (p ∈ a) && decide (flip p ∈ b) || decide (p ∈ b) && decide (flip p ∈ a)) && (opn (rest a p ++ rest b p) && room (rest a p ++ rest b p) p && room (rest a p ++ rest b p) (flip p))
def cmpP (p q : Pl) : Int := if p.a ≠ q.a then cmpI p.a q.a else if p.b ≠ q.b then cmpI p.b q.b else if p.c ≠ q.c then cmpI p.c q.c else if p.d ≠ q.d then cmpI p.d q.d else 0
def orL : List Int → Int
  | [] => 0
  | x :: l => if x ≠ 0 then x else orL l
theorem cmpI_z (x y : Int) : cmpI x y = 0 ↔ x = y := by unfold cmpI; split <;> (try split) <;> omega
theorem cmpI_rr (x : Int) : cmpI x x = 0 := (cmpI_z x x).2 rfl
theorem or_cmp (p q : Pl) : orL [cmpI p.a q.a, cmpI p.b q.b, cmpI p.c q.c, cmpI p.d q.d] = cmpP p q := by
  unfold cmpP orL
  simp only [orL]
  have ha := cmpI_z p.a q.a; have hb := cmpI_z p.b q.b; have hc := cmpI_z p.c q.c; have hd := cmpI_z p.d q.d
  by_cases h1 : p.a = q.a
  · simp only [ha.2 h1, h1, ne_eq, not_true_eq_false, if_false]
    by_cases h2 : p.b = q.b
    · simp only [hb.2 h2, h2, ne_eq, not_true_eq_false, if_false]
      by_cases h3 : p.c = q.c
      · simp only [hc.2 h3, h3, ne_eq, not_true_eq_false, if_false]
        by_cases h4 : p.d = q.d
        · simp [h1, h2, h3, h4, cmpI_rr]
        · have := mt hd.1 h4; simp [h1, h2, h3, h4, this, cmpI_rr]
      · have := mt hc.1 h3; simp [h1, h2, h3, this, cmpI_rr]
    · have := mt hb.1 h2; simp [h1, h2, this, cmpI_rr]
  · have := mt ha.1 h1; simp [h1, this]
def great (p : Pl) : Pl := if cmpP (flip p) p > 0 then flip p else p
end Go.Proofs.Ytablmbhnimnccaa.Pw
