/- Plain told functions, part 7: both counts of pieces are one. No condition. -/
import Derived.Test.YtablmbhnimnccaaZqPure6
import Derived.Test.YtablmbhnimnccaaZqGeo3
namespace Go.Proofs.Ytablmbhnimnccaa.Pw

def led (p : Pl) : Int := if p.a ≠ 0 then p.a else if p.b ≠ 0 then p.b else if p.c ≠ 0 then p.c else p.d
theorem cmpI_neg (x : Int) : cmpI x (-x) = if x < 0 then -1 else if x = 0 then 0 else 1 := by
  unfold cmpI; repeat' split
  all_goals first | rfl | omega
theorem cmpI_neg' (x : Int) : cmpI (-x) x = if x < 0 then 1 else if x = 0 then 0 else -1 := by
  unfold cmpI; repeat' split
  all_goals first | rfl | omega
theorem greatS_led (p : Pl) : greatS p = if led p < 0 then flip p else p := by
  have e : (cmpP p (flip p) < 0) ↔ led p < 0 := by
    unfold cmpP led flip
    simp only [cmpI_neg]
    repeat' split
    all_goals omega
  unfold greatS
  by_cases h : led p < 0
  · rw [if_pos (e.2 h), if_pos h]
  · rw [if_neg (fun q => h (e.1 q)), if_neg h]
theorem great_led (p : Pl) : great p = if led p < 0 then flip p else p := by
  have e : (cmpP (flip p) p > 0) ↔ led p < 0 := by
    unfold cmpP led flip
    simp only [cmpI_neg']
    repeat' split
    all_goals omega
  unfold great
  by_cases h : led p < 0
  · rw [if_pos (e.2 h), if_pos h]
  · rw [if_neg (fun q => h (e.1 q)), if_neg h]
theorem great_eq (p : Pl) : great p = greatS p := by rw [great_led, greatS_led]
@[simp] theorem flipflip (p : Pl) : flip (flip p) = p := by simp [flip]
theorem led_flip (p : Pl) : led (flip p) = - led p := by
  unfold led flip; simp only
  repeat' split
  all_goals omega
theorem led_nz {p : Pl} (h : nz p) : led p ≠ 0 := by
  unfold led; unfold nz at h
  repeat' split
  all_goals omega
theorem great_flip {p : Pl} (h : nz p) : great (flip p) = great p := by
  have := led_nz h
  rw [great_led, great_led, led_flip, flipflip]
  repeat' split
  all_goals first | rfl | omega
theorem great_cases (p : Pl) : great p = p ∨ great p = flip p := by
  rw [great_led]; split
  · exact .inr rfl
  · exact .inl rfl
theorem great_great {p : Pl} (h : nz p) : great (great p) = great p := by
  rcases great_cases p with e | e
  · rw [e, e]
  · rw [e, great_flip h, e]
theorem nz_flip {p : Pl} (h : nz p) : nz (flip p) := by unfold nz flip at *; simp only; omega
theorem nz_great {p : Pl} (h : nz p) : nz (great p) := by
  rcases great_cases p with e | e
  · rw [e]; exact h
  · rw [e]; exact nz_flip h
/-- For a great plane p: great q = p just when q is p or its other side. -/
theorem great_is {p q : Pl} (hp : great p = p) (hq : nz q) : great q = p ↔ q = p ∨ q = flip p := by
  constructor
  · intro h
    rcases great_cases q with e | e
    · exact .inl (e.symm.trans h)
    · exact .inr (by rw [← h, e, flipflip])
  · rintro (rfl | rfl)
    · exact hp
    · have : nz p := by have := nz_flip hq; rwa [flipflip] at this
      rw [great_flip this, hp]

theorem Feas.sub {l m : List Pl} (h : Feas l) (hs : ∀ q ∈ m, q ∈ l) : Feas m := by
  obtain ⟨s, h1, h2⟩ := h
  exact ⟨s, h1, fun p hp => h2 p (hs p hp)⟩
theorem Feas.nil : Feas [] := ⟨⟨0, 0, 0, 1⟩, by simp, by simp⟩
theorem room_feas {l : List Pl} {p : Pl} (h0 : Feas l) (hn : ∀ q ∈ l, nz q) (hp : nz p) : room l p = true ↔ Feas (l ++ [p]) := ⟨feas_of_room h0 hn hp, room_of_feas⟩
theorem opnA_feas : ∀ (l pre : List Pl), Feas pre → (∀ q ∈ pre, nz q) → (∀ q ∈ l, nz q) → (opnA pre l = true ↔ Feas (pre ++ l))
  | [], pre, h, _, _ => by simp [opnA, h]
  | q :: l, pre, h, hn, hl => by
    rw [opnA, Bool.and_eq_true, room_feas h hn (hl q (by simp))]
    constructor
    · rintro ⟨h1, h2⟩
      have := (opnA_feas l (pre ++ [q]) h1 (fun x hx => by rcases List.mem_append.1 hx with hx | hx; exact hn x hx; simp at hx; subst hx; exact hl _ (by simp)) (fun x hx => hl x (by simp [hx]))).1 h2
      simpa using this
    · intro h1
      have h3 : Feas (pre ++ [q]) := h1.sub fun x hx => by simp at hx ⊢; rcases hx with hx | hx <;> simp [hx]
      refine ⟨h3, (opnA_feas l (pre ++ [q]) h3 (fun x hx => by rcases List.mem_append.1 hx with hx | hx; exact hn x hx; simp at hx; subst hx; exact hl _ (by simp)) (fun x hx => hl x (by simp [hx]))).2 (by simpa using h1)⟩
theorem opn_feas {l : List Pl} (h : ∀ q ∈ l, nz q) : opn l = true ↔ Feas l := by
  have := opnA_feas l [] Feas.nil (by simp) h
  simpa [opn] using this

theorem acB_feas {p : Pl} (hp : nz p) : ∀ (l both : List Pl), Feas both → (∀ q ∈ both, nz q) → (∀ q ∈ l, nz q) →
    (acB l p both = true ↔ Feas (both ++ l.filter (fun q => decide (great q ≠ p)) ++ [p]) ∧ Feas (both ++ l.filter (fun q => decide (great q ≠ p)) ++ [flip p]))
  | [], both, h, hn, _ => by
    rw [acB, Bool.and_eq_true, room_feas h hn hp, room_feas h hn (nz_flip hp)]; simp
  | q :: l, both, h, hn, hl => by
    have hl' : ∀ x ∈ l, nz x := fun x hx => hl x (by simp [hx])
    rw [acB]
    by_cases h1 : great q = p
    · rw [if_pos (.inl h1), acB_feas hp l both h hn hl', List.filter_cons_of_neg (by simpa using h1)]
    · rw [List.filter_cons_of_pos (by simpa using h1)]
      by_cases h2 : q ∈ both
      · rw [if_pos (.inr h2), acB_feas hp l both h hn hl']
        have key : ∀ r, Feas (both ++ l.filter (fun q => decide (great q ≠ p)) ++ [r]) ↔ Feas (both ++ (q :: l.filter (fun q => decide (great q ≠ p))) ++ [r]) := fun r => by
          constructor
          · intro h; refine h.sub fun x hx => ?_
            simp only [List.mem_append, List.mem_cons, List.not_mem_nil, or_false] at hx ⊢
            rcases hx with (hx | rfl | hx) | hx
            · exact .inl (.inl hx)
            · exact .inl (.inl h2)
            · exact .inl (.inr hx)
            · exact .inr hx
          · intro h; refine h.sub fun x hx => ?_
            simp only [List.mem_append, List.mem_cons, List.not_mem_nil, or_false] at hx ⊢
            rcases hx with (hx | hx) | hx
            · exact .inl (.inl hx)
            · exact .inl (.inr (.inr hx))
            · exact .inr hx
        rw [key, key]
      · rw [if_neg (by rintro (h | h); exact h1 h; exact h2 h)]
        have hq := hl q (by simp)
        by_cases h3 : room both q = true
        · rw [if_neg (by simp [h3])]
          have hf := (room_feas h hn hq).1 h3
          rw [acB_feas hp l (both ++ [q]) hf (fun x hx => by rcases List.mem_append.1 hx with hx | hx; exact hn x hx; simp at hx; subst hx; exact hq) hl']
          simp
        · rw [if_pos (by simpa using h3)]
          constructor
          · simp
          · rintro ⟨h4, _⟩
            refine absurd ((room_feas h hn hq).2 (h4.sub fun x hx => ?_)) h3
            simp at hx ⊢
            rcases hx with hx | hx <;> simp [hx]

theorem tchA_iff (a b : List Pl) : ∀ l, tchA a b l = true ↔ ∃ q ∈ l, flip q ∈ b ∧ across a b (great q) = true
  | [] => by simp [tchA]
  | q :: l => by
    rw [tchA]
    split
    · rename_i h; simp [h]
    · rename_i h
      rw [tchA_iff a b l]
      constructor
      · rintro ⟨x, hx, h⟩; exact ⟨x, by simp [hx], h⟩
      · rintro ⟨x, hx, h2⟩
        rcases List.mem_cons.1 hx with rfl | hx
        · exact absurd h2 h
        · exact ⟨x, hx, h2⟩

theorem rest_mem {a b : List Pl} {p : Pl} (hp : great p = p) (ha : ∀ q ∈ a, nz q) (hb : ∀ q ∈ b, nz q) (x : Pl) : x ∈ rest a p ++ rest b p ↔ x ∈ [a, b].flatten.filter (fun q => decide (great q ≠ p)) := by
  have key : ∀ q, nz q → ((q ≠ p ∧ q ≠ flip p) ↔ great q ≠ p) := fun q hq => by
    rw [Ne, Ne, ← not_or, ← great_is hp hq]
  simp only [rest, List.mem_append, List.mem_filter, List.flatten_cons, List.flatten_nil, List.append_nil, Bool.and_eq_true, decide_eq_true_eq]
  constructor
  · rintro (⟨h, h2⟩ | ⟨h, h2⟩)
    · exact ⟨.inl h, (key x (ha x h)).1 h2⟩
    · exact ⟨.inr h, (key x (hb x h)).1 h2⟩
  · rintro ⟨h | h, h2⟩
    · exact .inl ⟨h, (key x (ha x h)).2 h2⟩
    · exact .inr ⟨h, (key x (hb x h)).2 h2⟩

/-- What the two sides ask of a plane is one. -/
theorem across_meet {a b : List Pl} {p : Pl} (hp : great p = p) (hn : nz p) (ha : ∀ q ∈ a, nz q) (hb : ∀ q ∈ b, nz q) :
    across a b p = (opn (rest a p ++ rest b p) && room (rest a p ++ rest b p) p && room (rest a p ++ rest b p) (flip p)) := by
  have hl : ∀ q ∈ [a, b].flatten, nz q := fun q hq => by
    simp at hq
    rcases hq with hq | hq
    · exact ha q hq
    · exact hb q hq
  have hr : ∀ q ∈ rest a p ++ rest b p, nz q := fun q hq => by
    have := (rest_mem hp ha hb q).1 hq
    exact hl q (List.mem_filter.1 this).1
  have hm := rest_mem hp ha hb
  rw [Bool.eq_iff_iff]
  unfold across
  rw [acB_feas hn _ [] Feas.nil (by simp) hl, Bool.and_eq_true, Bool.and_eq_true, opn_feas hr, List.nil_append]
  have key : ∀ r, Feas ([a, b].flatten.filter (fun q => decide (great q ≠ p)) ++ [r]) ↔ Feas (rest a p ++ rest b p ++ [r]) := fun r => by
    constructor
    · intro h; refine h.sub fun x hx => ?_
      rcases List.mem_append.1 hx with hx | hx
      · exact List.mem_append_left _ ((hm x).1 hx)
      · exact List.mem_append_right _ hx
    · intro h; refine h.sub fun x hx => ?_
      rcases List.mem_append.1 hx with hx | hx
      · exact List.mem_append_left _ ((hm x).2 hx)
      · exact List.mem_append_right _ hx
  rw [key, key]
  constructor
  · rintro ⟨h1, h2⟩
    have h3 : Feas (rest a p ++ rest b p) := h1.sub fun x hx => List.mem_append_left _ hx
    exact ⟨⟨h3, room_of_feas h1⟩, room_of_feas h2⟩
  · rintro ⟨⟨h1, h2⟩, h3⟩
    exact ⟨feas_of_room h1 hr hn h2, feas_of_room h1 hr (nz_flip hn) h3⟩

theorem insPl_mem {out : List Pl} {p x : Pl} : x ∈ insPl out p ↔ x ∈ out ∨ x = p := by
  unfold insPl; simp only
  split
  · constructor
    · intro h
      rcases List.mem_append.1 h with h | h
      · rcases List.mem_append.1 h with h | h
        · exact .inl (List.mem_of_mem_take h)
        · exact .inr (by simpa using h)
      · exact .inl (List.mem_of_mem_drop h)
    · rintro (h | h)
      · rw [← List.take_append_drop (insK out p out.length) out] at h
        rcases List.mem_append.1 h with h | h
        · exact List.mem_append_left _ (List.mem_append_left _ h)
        · exact List.mem_append_right _ h
      · exact List.mem_append_left _ (List.mem_append_right _ (by simp [h]))
  · rename_i h
    constructor
    · exact .inl
    · rintro (h2 | rfl)
      · exact h2
      · have := not_or.1 h
        exact List.mem_of_getElem? (Classical.not_not.1 this.2)
theorem planes_sub : ∀ (s : Sol) (out : List Pl), ∀ x ∈ out, x ∈ planesS s out
  | .mk i p k, out, x, hx => by
    match k with
    | [] => rw [planesS_leaf]; exact hx
    | [y] => rw [planesS] <;> simp [hx]
    | y :: z :: w :: r => rw [planesS] <;> simp [hx]
    | [a, b] =>
      rw [planesS_node]
      exact planes_sub b _ x (planes_sub a _ x (insPl_mem.2 (.inl hx)))
  termination_by s => SizeOf.sizeOf s
  decreasing_by all_goals (simp; omega)
theorem planes_from : ∀ (s : Sol) (out path : List Pl), look s path = true → (∀ q ∈ out, nz q ∧ great q = q) → ∀ q ∈ planesS s out, nz q ∧ great q = q
  | .mk i p k, out, path, h, ho => by
    match k with
    | [] => rw [planesS_leaf]; exact ho
    | [y] => rw [look_bad (by simp) (by simp)] at h; simp at h
    | y :: z :: w :: r => rw [look_bad (by simp) (by simp)] at h; simp at h
    | [a, b] =>
      rw [look_node] at h
      simp only [Bool.and_eq_true] at h
      rw [planesS_node]
      have hp := plok_nz h.1.1.1.1.1.2
      have h2 := planes_from a (insPl out (greatS p)) _ h.1.2 fun q hq => by
        rcases insPl_mem.1 hq with hq | rfl
        · exact ho q hq
        · rw [← great_eq]; exact ⟨nz_great hp, great_great hp⟩
      exact planes_from b _ _ h.2 h2
  termination_by s => SizeOf.sizeOf s
  decreasing_by all_goals (simp; omega)
/-- Each side of a cell is a right plane, of which the great one is listed. -/
theorem cells_from : ∀ (s : Sol) (inn : Bool) (path path' out : List Pl), look s path' = true → (∀ q ∈ path, nz q ∧ great q ∈ out) → ∀ c ∈ cellsP s inn path, ∀ q ∈ c, nz q ∧ great q ∈ planesS s out
  | .mk i p k, inn, path, path', out, h, hp => by
    match k with
    | [] =>
      rw [cellsP_leaf, planesS_leaf]
      intro c hc
      split at hc
      · simp at hc; subst hc; exact hp
      · simp at hc
    | [x] => rw [look_bad (by simp) (by simp)] at h; simp at h
    | x :: y :: z :: r => rw [look_bad (by simp) (by simp)] at h; simp at h
    | [a, b] =>
      rw [look_node] at h
      simp only [Bool.and_eq_true] at h
      have hn := plok_nz h.1.1.1.1.1.2
      rw [cellsP_node, planesS_node]
      have hmem : ∀ x ∈ out, x ∈ insPl out (greatS p) := fun x hx => insPl_mem.2 (.inl hx)
      have hself : great p ∈ insPl out (greatS p) := insPl_mem.2 (.inr (great_eq p))
      intro c hc q hq
      rcases List.mem_append.1 hc with hc | hc
      · have := cells_from a inn (path ++ [p]) _ (insPl out (greatS p)) h.1.2 (fun q hq => by
          rcases List.mem_append.1 hq with hq | hq
          · exact ⟨(hp q hq).1, hmem _ (hp q hq).2⟩
          · simp at hq; subst hq; exact ⟨hn, hself⟩) c hc q hq
        exact ⟨this.1, planes_sub b _ _ this.2⟩
      · exact cells_from b inn (path ++ [flip p]) _ (planesS a (insPl out (greatS p))) h.2 (fun q hq => by
          rcases List.mem_append.1 hq with hq | hq
          · exact ⟨(hp q hq).1, planes_sub a _ _ (hmem _ (hp q hq).2)⟩
          · simp at hq; subst hq; exact ⟨nz_flip hn, by rw [great_flip hn]; exact planes_sub a _ _ hself⟩) c hc q hq
  termination_by s => SizeOf.sizeOf s
  decreasing_by all_goals (simp; omega)

theorem touch_meet {a b pl : List Pl} (ha : ∀ q ∈ a, nz q ∧ great q ∈ pl) (hb : ∀ q ∈ b, nz q) (hpl : ∀ q ∈ pl, nz q ∧ great q = q) : touch a b = pl.any fun p => meetS a b p := by
  rw [Bool.eq_iff_iff]
  unfold touch
  rw [tchA_iff, List.any_eq_true]
  have hn : ∀ q ∈ a, nz q := fun q hq => (ha q hq).1
  constructor
  · rintro ⟨q, hq, hf, hx⟩
    obtain ⟨hqn, hqp⟩ := ha q hq
    refine ⟨great q, hqp, ?_⟩
    rw [across_meet (great_great hqn) (nz_great hqn) hn hb] at hx
    unfold meetS
    rw [Bool.and_eq_true]
    refine ⟨?_, hx⟩
    rcases great_cases q with e | e
    · rw [e]; simp [hq, hf]
    · rw [e]; simp [hq, hf]
  · rintro ⟨p, hp, hm⟩
    obtain ⟨hpn, hpg⟩ := hpl p hp
    unfold meetS at hm
    rw [Bool.and_eq_true, ← across_meet hpg hpn hn hb] at hm
    obtain ⟨hm, hx⟩ := hm
    simp only [Bool.or_eq_true, Bool.and_eq_true, decide_eq_true_eq] at hm
    rcases hm with ⟨h1, h2⟩ | ⟨h1, h2⟩
    · exact ⟨p, h1, h2, by rw [hpg]; exact hx⟩
    · exact ⟨flip p, h2, by rw [flipflip]; exact h1, by rw [great_flip hpn, hpg]; exact hx⟩

theorem pieces_eq (s : Sol) : piecesI s = piecesS s := by
  unfold piecesI piecesS
  by_cases h : sok s = true
  · have hc : cellsOf s true = cellsP s true [] := by unfold cellsOf; rw [if_pos h]
    have hp : planesOfS s = planesS s [] := by unfold planesOfS; rw [if_pos h]
    rw [if_pos h, hc, hp]
    congr 1
    refine allG_congr fun i k hi hk => ?_
    unfold touchT meetT
    have hl := sok_look h
    have hcell : ∀ j, j < (cellsP s true []).length → ∀ q ∈ (cellsP s true []).getD j [], nz q ∧ great q ∈ planesS s [] := fun j hj => by
      obtain ⟨c, hc⟩ : ∃ c, (cellsP s true [])[j]? = some c := ⟨_, List.getElem?_eq_getElem hj⟩
      rw [getDL hc]
      exact cells_from s true [] [] [] hl (by simp) c (List.mem_of_getElem? hc)
    exact touch_meet (hcell i hi) (fun q hq => (hcell k (by omega) q hq).1) (planes_from s [] [] hl (by simp))
  · have hc : cellsOf s true = [] := by unfold cellsOf; rw [if_neg h]
    rw [if_neg h, hc]; rfl
end Go.Proofs.Ytablmbhnimnccaa.Pw
