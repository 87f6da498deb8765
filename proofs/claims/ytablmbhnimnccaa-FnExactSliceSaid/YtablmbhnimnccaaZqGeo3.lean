/- Plain law: planes whose normals are not nothing have a point on all their sides, or two, three or four of them clash; what clashes has none. No condition. -/
import Derived.Test.YtablmbhnimnccaaZqGeo2
namespace Go.Proofs.Ytablmbhnimnccaa.Pw
open Go.Geo

def nz (p : Pl) : Prop := p.a ≠ 0 ∨ p.b ≠ 0 ∨ p.c ≠ 0
theorem plok_nz {p : Pl} (h : plok p = true) : nz p := (of_decide_eq_true h).2.1

def vec (p : Pl) : Nat → Int
  | 0 => p.a
  | 1 => p.b
  | 2 => p.c
  | 3 => p.d
  | _ => 0

theorem dotk_vec (p : Pl) (x : Nat → Int) : dotk (vec p) x 4 = p.a * x 0 + p.b * x 1 + p.c * x 2 + p.d * x 3 := by simp [dotk, vec]

theorem lin_vec (i : Nat) : ∀ (ws : List Int) (l : List Pl), ws.length = l.length → lin ws (l.map vec) i = ss (fun x : Int × Pl => x.1 * vec x.2 i) (ws.zip l)
  | [], [], _ => rfl
  | w :: ws, p :: l, h => by simp only [List.map_cons, lin, List.zip_cons_cons, ss, lin_vec i ws l (by simpa using h)]
  | [], _ :: _, h => by simp at h
  | _ :: _, [], h => by simp at h

theorem zip_snd : ∀ (ws : List Int) (l : List Pl), ws.length = l.length → (ws.zip l).map Prod.snd = l
  | [], [], _ => rfl
  | w :: ws, p :: l, h => by simp only [List.zip_cons_cons, List.map_cons, zip_snd ws l (by simpa using h)]
  | [], _ :: _, h => by simp at h
  | _ :: _, [], h => by simp at h

theorem zip_fst_mem {ws : List Int} {l : List Pl} {x : Int × Pl} (h : x ∈ ws.zip l) : x.1 ∈ ws := (List.of_mem_zip (a := x.1) (b := x.2) h).1

theorem mem_zip_of : ∀ (ws : List Int) (l : List Pl), ws.length = l.length → ∀ w ∈ ws, ∃ p, (w, p) ∈ ws.zip l
  | v :: ws, p :: l, h, w, hw => by
    rcases List.mem_cons.1 hw with rfl | hw
    · exact ⟨p, by simp⟩
    · obtain ⟨q, hq⟩ := mem_zip_of ws l (by simpa using h) w hw
      exact ⟨q, by simp [hq]⟩
  | [], _, _, _, hw => by simp at hw
  | _ :: _, [], h, _, _ => by simp at h

theorem feas_or_cert (l : List Pl) : Feas l ∨ ∃ C, Cert C ∧ (C.map Prod.snd).Sublist l := by
  rcases gordan 4 (vec ⟨0, 0, 0, 1⟩ :: l.map vec) (fun v hv i hi => by
    have hk : ∀ p : Pl, vec p i = 0 := fun p => by
      match i, hi with
      | i + 4, _ => rfl
    rcases List.mem_cons.1 hv with rfl | hv
    · exact hk _
    · obtain ⟨p, _, rfl⟩ := List.mem_map.1 hv; exact hk p) with ⟨x, hx⟩ | ⟨ws, h1, h2, h3, h4⟩
  · left
    refine ⟨⟨x 0, x 1, x 2, x 3⟩, ?_, fun p hp => ?_⟩
    · have := hx (vec ⟨0, 0, 0, 1⟩) (by simp)
      rw [dotk_vec] at this; simpa using this
    · have := hx (vec p) (List.mem_cons_of_mem _ (List.mem_map.2 ⟨p, hp, rfl⟩))
      rw [dotk_vec] at this; exact this
  · right
    cases ws with
    | nil => simp at h1
    | cons w0 ws =>
      have hl : ws.length = l.length := by simpa using h1
      have hw0 := h2 w0 (by simp)
      have e : ∀ i, w0 * vec ⟨0, 0, 0, 1⟩ i + ss (fun x : Int × Pl => x.1 * vec x.2 i) (ws.zip l) = 0 := fun i => by rw [← lin_vec i ws l hl]; exact h4 i
      have e0 := e 0; have e1 := e 1; have e2 := e 2; have e3 := e 3
      simp only [vec, Int.mul_zero, Int.zero_add, Int.mul_one] at e0 e1 e2 e3
      have hpos : ∃ w ∈ ws, 0 < w := by
        by_cases hn : ∃ w ∈ ws, 0 < w
        · exact hn
        · exfalso
          have hz : ∀ x ∈ ws.zip l, x.1 = 0 := fun x hx => by
            have a := h2 x.1 (List.mem_cons_of_mem _ (zip_fst_mem hx))
            have b : ¬ 0 < x.1 := fun h => hn ⟨x.1, zip_fst_mem hx, h⟩
            omega
          rw [ss_z (fun x hx => by rw [hz x hx]; simp)] at e3
          obtain ⟨w, hw, h0⟩ := h3
          rcases List.mem_cons.1 hw with rfl | hw
          · omega
          · exact hn ⟨w, hw, h0⟩
      have key : ∀ t : Pl → Int, ss (fun y : Int × Pl => y.1 * t y.2) ((ws.zip l).filter fun x => 0 < x.1) = ss (fun x => x.1 * t x.2) (ws.zip l) := fun t => by
        have := ss_filter (n := fun x : Int × Pl => x.1) (t := fun x => t x.2) (m := id) (g := fun y : Int × Pl => y.1 * t y.2) (fun _ => rfl) (ws.zip l) (fun x hx => h2 x.1 (List.mem_cons_of_mem _ (zip_fst_mem hx)))
        rwa [List.map_id] at this
      refine ⟨(ws.zip l).filter fun x => 0 < x.1, ⟨?_, ?_, ?_, ?_, ?_, ?_⟩, ?_⟩
      · obtain ⟨w, hw, h0⟩ := hpos
        obtain ⟨p, hp⟩ := mem_zip_of ws l hl w hw
        intro hn
        have : (w, p) ∈ (ws.zip l).filter fun x => 0 < x.1 := List.mem_filter.2 ⟨hp, by simpa using h0⟩
        rw [hn] at this; simp at this
      · intro x hx; simpa using (List.mem_filter.1 hx).2
      · rw [key fun p => p.a]; exact e0
      · rw [key fun p => p.b]; exact e1
      · rw [key fun p => p.c]; exact e2
      · rw [key fun p => p.d]; omega
      · have := (List.filter_sublist (p := fun x : Int × Pl => decide (0 < x.1)) (l := ws.zip l)).map Prod.snd
        rwa [zip_snd ws l hl] at this

theorem sumB4_of {f1 f2 f3 f4 x y z t l1 l2 l3 l4 : Int} (h1 : 0 < l1) (h2 : 0 < l2) (h3 : 0 < l3) (h4 : 0 < l4) (hf : f1 ≠ 0) (e2 : l1 * f2 = f1 * l2) (e3 : l1 * f3 = f1 * l3) (e4 : l1 * f4 = f1 * l4)
    (hd : l1 * x + l2 * y + l3 * z + l4 * t ≤ 0) : sumB [f1, f2, f3, f4] [x, y, z, t] = true := by
  have main : ∀ g1 g2 g3 g4 : Int, 0 < g1 → l1 * g2 = g1 * l2 → l1 * g3 = g1 * l3 → l1 * g4 = g1 * l4 → (0 < g2 ∧ 0 < g3 ∧ 0 < g4) ∧ g1 * x + g2 * y + g3 * z + g4 * t ≤ 0 := by
    intro g1 g2 g3 g4 hg a2 a3 a4
    have p2 : 0 < g2 := Int.pos_of_mul_pos_right (a := l1) (by rw [a2]; exact Int.mul_pos hg h2) h1
    have p3 : 0 < g3 := Int.pos_of_mul_pos_right (a := l1) (by rw [a3]; exact Int.mul_pos hg h3) h1
    have p4 : 0 < g4 := Int.pos_of_mul_pos_right (a := l1) (by rw [a4]; exact Int.mul_pos hg h4) h1
    refine ⟨⟨p2, p3, p4⟩, ?_⟩
    have : l1 * (g1 * x + g2 * y + g3 * z + g4 * t) = g1 * (l1 * x + l2 * y + l3 * z + l4 * t) := by grind
    have h5 : g1 * (l1 * x + l2 * y + l3 * z + l4 * t) ≤ 0 := by
      have := Int.mul_nonneg (show 0 ≤ g1 by omega) (show 0 ≤ -(l1 * x + l2 * y + l3 * z + l4 * t) by omega)
      grind
    rw [← this] at h5
    exact Int.le_of_mul_le_mul_left (by simpa using h5) h1
  rcases Int.lt_or_gt_of_ne hf with hf | hf
  · obtain ⟨⟨p2, p3, p4⟩, hs⟩ := main (-f1) (-f2) (-f3) (-f4) (by omega) (by grind) (by grind) (by grind)
    have q1 : (f1.natAbs : Int) = -f1 := by omega
    have q2 : (f2.natAbs : Int) = -f2 := by omega
    have q3 : (f3.natAbs : Int) = -f3 := by omega
    have q4 : (f4.natAbs : Int) = -f4 := by omega
    simp [sumB, upT, dnT, sumT, q1, q2, q3, q4]
    grind
  · obtain ⟨⟨p2, p3, p4⟩, hs⟩ := main f1 f2 f3 f4 (by omega) e2 e3 e4
    have q1 : (f1.natAbs : Int) = f1 := by omega
    have q2 : (f2.natAbs : Int) = f2 := by omega
    have q3 : (f3.natAbs : Int) = f3 := by omega
    have q4 : (f4.natAbs : Int) = f4 := by omega
    simp [sumB, upT, dnT, sumT, q1, q2, q3, q4]
    grind
theorem sumB3_of {f1 f2 f3 x y z l1 l2 l3 : Int} (h1 : 0 < l1) (h2 : 0 < l2) (h3 : 0 < l3) (hf : f1 ≠ 0) (e2 : l1 * f2 = f1 * l2) (e3 : l1 * f3 = f1 * l3)
    (hd : l1 * x + l2 * y + l3 * z ≤ 0) : sumB [f1, f2, f3] [x, y, z] = true := by
  have main : ∀ g1 g2 g3 : Int, 0 < g1 → l1 * g2 = g1 * l2 → l1 * g3 = g1 * l3 → (0 < g2 ∧ 0 < g3) ∧ g1 * x + g2 * y + g3 * z ≤ 0 := by
    intro g1 g2 g3 hg a2 a3
    have p2 : 0 < g2 := Int.pos_of_mul_pos_right (a := l1) (by rw [a2]; exact Int.mul_pos hg h2) h1
    have p3 : 0 < g3 := Int.pos_of_mul_pos_right (a := l1) (by rw [a3]; exact Int.mul_pos hg h3) h1
    refine ⟨⟨p2, p3⟩, ?_⟩
    have : l1 * (g1 * x + g2 * y + g3 * z) = g1 * (l1 * x + l2 * y + l3 * z) := by grind
    have h5 : g1 * (l1 * x + l2 * y + l3 * z) ≤ 0 := by
      have := Int.mul_nonneg (show 0 ≤ g1 by omega) (show 0 ≤ -(l1 * x + l2 * y + l3 * z) by omega)
      grind
    rw [← this] at h5
    exact Int.le_of_mul_le_mul_left (by simpa using h5) h1
  rcases Int.lt_or_gt_of_ne hf with hf | hf
  · obtain ⟨⟨p2, p3⟩, hs⟩ := main (-f1) (-f2) (-f3) (by omega) (by grind) (by grind)
    have q1 : (f1.natAbs : Int) = -f1 := by omega
    have q2 : (f2.natAbs : Int) = -f2 := by omega
    have q3 : (f3.natAbs : Int) = -f3 := by omega
    simp [sumB, upT, dnT, sumT, q1, q2, q3]
    grind
  · obtain ⟨⟨p2, p3⟩, hs⟩ := main f1 f2 f3 (by omega) e2 e3
    have q1 : (f1.natAbs : Int) = f1 := by omega
    have q2 : (f2.natAbs : Int) = f2 := by omega
    have q3 : (f3.natAbs : Int) = f3 := by omega
    simp [sumB, upT, dnT, sumT, q1, q2, q3]
    grind

def Clash (l : List Pl) : Prop := (∃ p q, [p, q].Sublist l ∧ clash2 p q = true) ∨ (∃ p q r, [p, q, r].Sublist l ∧ clash3 p q r = true) ∨ (∃ p q r s, [p, q, r, s].Sublist l ∧ clash4 p q r s = true)

theorem Irr.cross {x y z : Int × Pl} {C : List (Int × Pl)} (h : Irr (x :: y :: z :: C)) (hx : nz x.2) : cross (nrm x.2) (nrm y.2) ≠ ⟨0, 0, 0⟩ := by
  intro hc
  simp only [Go.Proofs.Ytablmbhnimnccaa.Pw.cross, nrm, V3.mk.injEq] at hc
  obtain ⟨c1, c2, c3⟩ := hc
  have h1 := h.two (by simp) y.2.a (-x.2.a) (by grind) (by grind) (by grind)
  have h2 := h.two (by simp) y.2.b (-x.2.b) (by grind) (by grind) (by grind)
  have h3 := h.two (by simp) y.2.c (-x.2.c) (by grind) (by grind) (by grind)
  unfold nz at hx; omega

theorem Irr.det {x y z u : Int × Pl} {C : List (Int × Pl)} (h : Irr (x :: y :: z :: u :: C)) (hx : nz x.2) : det3 x.2 y.2 z.2 ≠ 0 := by
  intro hd
  have hw := h.cross hx
  let w := Go.Proofs.Ytablmbhnimnccaa.Pw.cross (nrm x.2) (nrm y.2)
  have h1 := h.three (dot (Go.Proofs.Ytablmbhnimnccaa.Pw.cross (nrm y.2) (nrm z.2)) w) (dot (Go.Proofs.Ytablmbhnimnccaa.Pw.cross (nrm z.2) (nrm x.2)) w) (dot w w) (.inl (by simp))
    (by simp only [w, det3, dot, Go.Proofs.Ytablmbhnimnccaa.Pw.cross, nrm] at hd ⊢; grind) (by simp only [w, det3, dot, Go.Proofs.Ytablmbhnimnccaa.Pw.cross, nrm] at hd ⊢; grind) (by simp only [w, det3, dot, Go.Proofs.Ytablmbhnimnccaa.Pw.cross, nrm] at hd ⊢; grind)
  have h2 : w.a * w.a + w.b * w.b + w.c * w.c = 0 := h1.2.2
  have h3 : ¬ (w.a ≠ 0 ∨ w.b ≠ 0 ∨ w.c ≠ 0) := fun hn => by have := sqpos hn; omega
  apply hw
  show w = _
  have e : w = ⟨w.a, w.b, w.c⟩ := rfl
  rw [e]
  simp only [V3.mk.injEq]
  omega

theorem cert2 {l1 l2 : Int} {p q : Pl} (h1 : 0 < l1) (h2 : 0 < l2) (hq : nz q) (a : l1 * p.a + l2 * q.a = 0) (b : l1 * p.b + l2 * q.b = 0) (c : l1 * p.c + l2 * q.c = 0) (d : l1 * p.d + l2 * q.d ≤ 0) : clash2 p q = true := by
  have c0 : ∀ {u : Int}, l1 * u = 0 → u = 0 := fun hu => by
    rcases Int.mul_eq_zero.1 hu with h | h
    · omega
    · exact h
  have hc : cross (nrm p) (nrm q) = ⟨0, 0, 0⟩ := by
    simp only [cross, nrm, V3.mk.injEq]
    exact ⟨c0 (by grind), c0 (by grind), c0 (by grind)⟩
  have hdot : dot (nrm p) (nrm q) < 0 := by
    have h3 := sqpos (a := q.a) (b := q.b) (c := q.c) hq
    have h4 : l1 * dot (nrm p) (nrm q) = -(l2 * (q.a * q.a + q.b * q.b + q.c * q.c)) := by simp only [dot, nrm]; grind
    have h5 := Int.mul_pos h2 h3
    rcases Int.lt_or_le (dot (nrm p) (nrm q)) 0 with h | h
    · exact h
    · have := Int.mul_nonneg (show 0 ≤ l1 by omega) h; omega
  have hab : ∀ {u v : Int}, l1 * u + l2 * v = 0 → l1 * u.natAbs = l2 * v.natAbs := fun {u v} h => by
    have e1 : (l1 * u).natAbs = (l2 * v).natAbs := by omega
    rw [Int.natAbs_mul, Int.natAbs_mul] at e1
    have e2 : (l1.natAbs : Int) = l1 := by omega
    have e3 : (l2.natAbs : Int) = l2 := by omega
    have : ((l1.natAbs * u.natAbs : Nat) : Int) = ((l2.natAbs * v.natAbs : Nat) : Int) := by rw [e1]
    simp only [Int.natCast_mul] at this
    rw [e2, e3] at this; exact this
  refine decide_eq_true ⟨by unfold par; rw [if_pos hc, sgn_neg hdot]; omega, ?_⟩
  have ea := hab a; have eb := hab b; have ec := hab c
  have hP : (0 : Int) ≤ ((p.a.natAbs + p.b.natAbs + p.c.natAbs : Nat) : Int) := by omega
  have hPQ : l1 * ((p.a.natAbs + p.b.natAbs + p.c.natAbs : Nat) : Int) = l2 * ((q.a.natAbs + q.b.natAbs + q.c.natAbs : Nat) : Int) := by
    simp only [Int.natCast_add, Int.mul_add]; omega
  generalize ((p.a.natAbs + p.b.natAbs + p.c.natAbs : Nat) : Int) = P at hP hPQ ⊢
  generalize ((q.a.natAbs + q.b.natAbs + q.c.natAbs : Nat) : Int) = Q at hPQ ⊢
  have e1 : l2 * (Q * p.d + P * q.d) = P * (l1 * p.d + l2 * q.d) := by grind
  have e2 := Int.mul_nonneg hP (show 0 ≤ -(l1 * p.d + l2 * q.d) by omega)
  refine Int.le_of_mul_le_mul_left (a := l2) ?_ h2
  rw [e1]; grind

theorem cert3 {l1 l2 l3 : Int} {p q r : Pl} (h1 : 0 < l1) (h2 : 0 < l2) (h3 : 0 < l3) (hw : cross (nrm p) (nrm q) ≠ ⟨0, 0, 0⟩) (a : l1 * p.a + l2 * q.a + l3 * r.a = 0) (b : l1 * p.b + l2 * q.b + l3 * r.b = 0)
    (c : l1 * p.c + l2 * q.c + l3 * r.c = 0) (d : l1 * p.d + l2 * q.d + l3 * r.d ≤ 0) : clash3 p q r = true := by
  have c0 : ∀ {m u : Int}, 0 < m → m * u = 0 → u = 0 := fun hm hu => by
    rcases Int.mul_eq_zero.1 hu with h | h
    · omega
    · exact h
  have cc : ∀ {m u v : Int}, 0 < m → m * u = m * v → u = v := fun hm hu => Int.eq_of_mul_eq_mul_left (by omega) hu
  have hd : ¬ det3 p q r ≠ 0 := Decidable.not_not.2 (c0 h1 (by simp only [det3, dot, cross, nrm]; grind))
  have xa : l3 * (cross (nrm q) (nrm r)).a = l1 * (cross (nrm p) (nrm q)).a := by simp only [cross, nrm]; grind
  have xb : l3 * (cross (nrm q) (nrm r)).b = l1 * (cross (nrm p) (nrm q)).b := by simp only [cross, nrm]; grind
  have xc : l3 * (cross (nrm q) (nrm r)).c = l1 * (cross (nrm p) (nrm q)).c := by simp only [cross, nrm]; grind
  have ya : l3 * (cross (nrm r) (nrm p)).a = l2 * (cross (nrm p) (nrm q)).a := by simp only [cross, nrm]; grind
  have yb : l3 * (cross (nrm r) (nrm p)).b = l2 * (cross (nrm p) (nrm q)).b := by simp only [cross, nrm]; grind
  have yc : l3 * (cross (nrm r) (nrm p)).c = l2 * (cross (nrm p) (nrm q)).c := by simp only [cross, nrm]; grind
  have key : ∀ {x y w : Int}, l3 * x = l1 * w → l3 * y = l2 * w → w ≠ 0 → sumB [x, y, w] [p.d, q.d, r.d] = true := fun {x y w} hx hy hw => by
    refine sumB3_of h1 h2 h3 (fun h0 => ?_) (cc h3 (by grind)) (by grind) d
    subst h0
    exact hw (c0 h1 (by omega))
  have z : ∀ {x y w : Int}, l3 * x = l1 * w → l3 * y = l2 * w → w = 0 → ¬ (x ≠ 0 ∨ y ≠ 0 ∨ w ≠ 0) := fun {x y w} hx hy hw => by
    subst hw
    have := c0 h3 (u := x) (by omega)
    have := c0 h3 (u := y) (by omega)
    omega
  by_cases ha : (cross (nrm p) (nrm q)).a = 0
  · by_cases hb : (cross (nrm p) (nrm q)).b = 0
    · have hc : (cross (nrm p) (nrm q)).c ≠ 0 := fun hc => hw (by
        have e : cross (nrm p) (nrm q) = ⟨(cross (nrm p) (nrm q)).a, (cross (nrm p) (nrm q)).b, (cross (nrm p) (nrm q)).c⟩ := rfl
        rw [e, ha, hb, hc])
      rw [← c3_c hd (z xa ya ha) (z xb yb hb) (.inr (.inr hc))]; exact key xc yc hc
    · rw [← c3_b hd (z xa ya ha) (.inr (.inr hb))]; exact key xb yb hb
  · rw [← c3_a hd (.inr (.inr ha))]; exact key xa ya ha

theorem cert_clash {C : List (Int × Pl)} (hC : Cert C) (hI : Irr C) (hn : ∀ x ∈ C, nz x.2) : Clash (C.map Prod.snd) := by
  match C, hC, hI, hn with
  | [], hC, _, _ => exact absurd rfl hC.ne
  | [x], hC, _, hn =>
    exfalso
    have a := hC.a; have b := hC.b; have c := hC.c; have h := hC.pos x (by simp)
    simp only [ss, Int.add_zero] at a b c
    have := hn x (by simp)
    have c0 : ∀ {u : Int}, x.1 * u = 0 → u = 0 := fun hu => by
      rcases Int.mul_eq_zero.1 hu with h | h
      · omega
      · exact h
    have := c0 a; have := c0 b; have := c0 c
    unfold nz at *; omega
  | [x, y], hC, _, hn =>
    have a := hC.a; have b := hC.b; have c := hC.c; have d := hC.d
    simp only [ss, Int.add_zero] at a b c d
    exact .inl ⟨x.2, y.2, by simp, cert2 (hC.pos x (by simp)) (hC.pos y (by simp)) (hn y (by simp)) a b c d⟩
  | [x, y, z], hC, hI, hn =>
    have a := hC.a; have b := hC.b; have c := hC.c; have d := hC.d
    simp only [ss, Int.add_zero] at a b c d
    exact .inr (.inl ⟨x.2, y.2, z.2, by simp, cert3 (hC.pos x (by simp)) (hC.pos y (by simp)) (hC.pos z (by simp)) (hI.cross (hn x (by simp))) (by omega) (by omega) (by omega) (by omega)⟩)
  | [x, y, z, t], hC, hI, hn =>
    have a := hC.a; have b := hC.b; have c := hC.c; have d := hC.d
    simp only [ss, Int.add_zero] at a b c d
    have hx := hC.pos x (by simp); have hy := hC.pos y (by simp); have hz := hC.pos z (by simp); have ht := hC.pos t (by simp)
    have hd := hI.det (hn x (by simp))
    let f1 := det3 y.2 z.2 t.2; let f2 := -det3 x.2 z.2 t.2; let f3 := det3 x.2 y.2 t.2; let f4 := -det3 x.2 y.2 z.2
    obtain ⟨_, e2, e3, e4⟩ := hI.four (x.1 * f1 - f1 * x.1) (x.1 * f2 - f1 * y.1) (x.1 * f3 - f1 * z.1) (x.1 * f4 - f1 * t.1) (.inr (by grind))
      (by simp only [f1, f2, f3, f4, det3, dot, cross, nrm]; grind) (by simp only [f1, f2, f3, f4, det3, dot, cross, nrm]; grind) (by simp only [f1, f2, f3, f4, det3, dot, cross, nrm]; grind)
    have hf : f1 ≠ 0 := fun h0 => by
      rw [h0] at e4
      have : x.1 * f4 = 0 := by omega
      rcases Int.mul_eq_zero.1 this with h | h
      · omega
      · exact hd (by omega)
    exact .inr (.inr ⟨x.2, y.2, z.2, t.2, by simp, sumB4_of hx hy hz ht hf (Int.eq_of_sub_eq_zero e2) (Int.eq_of_sub_eq_zero e3) (Int.eq_of_sub_eq_zero e4) (by omega)⟩)
  | x :: y :: z :: t :: u :: C, hC, hI, hn =>
    exfalso
    have hd := hI.det (hn x (by simp))
    have := hI.four (det3 y.2 z.2 t.2) (-det3 x.2 z.2 t.2) (det3 x.2 y.2 t.2) (-det3 x.2 y.2 z.2) (.inl (by simp))
      (by simp only [det3, dot, cross, nrm]; grind) (by simp only [det3, dot, cross, nrm]; grind) (by simp only [det3, dot, cross, nrm]; grind)
    omega

theorem Clash.mono {l m : List Pl} (h : Clash l) (hs : l.Sublist m) : Clash m := by
  rcases h with ⟨p, q, h, c⟩ | ⟨p, q, r, h, c⟩ | ⟨p, q, r, s, h, c⟩
  · exact .inl ⟨p, q, h.trans hs, c⟩
  · exact .inr (.inl ⟨p, q, r, h.trans hs, c⟩)
  · exact .inr (.inr ⟨p, q, r, s, h.trans hs, c⟩)

/-- Planes have a point on all their sides, or some clash. -/
theorem feas_or_clash (l : List Pl) (hn : ∀ p ∈ l, nz p) : Feas l ∨ Clash l := by
  rcases feas_or_cert l with h | ⟨C, hC, hs⟩
  · exact .inl h
  · obtain ⟨C', h1, h2, h3⟩ := Cert.irr _ C rfl hC
    have hs' := h2.trans hs
    exact .inr ((cert_clash h1 h3 fun x hx => hn _ (hs'.subset (List.mem_map.2 ⟨x, hx, rfl⟩))).mono hs')

theorem sumB3_dest {f1 f2 f3 x y z : Int} (h : sumB [f1, f2, f3] [x, y, z] = true) :
    (0 < f1 ∧ 0 < f2 ∧ 0 < f3 ∧ f1 * x + f2 * y + f3 * z ≤ 0) ∨ (f1 < 0 ∧ f2 < 0 ∧ f3 < 0 ∧ 0 ≤ f1 * x + f2 * y + f3 * z) := by
  simp [sumB, upT, dnT, sumT] at h
  obtain ⟨h | h, hs⟩ := h
  · rw [na_pos (by omega), na_pos (by omega), na_pos (by omega)] at hs
    omega
  · rw [na_neg (by omega), na_neg (by omega), na_neg (by omega)] at hs
    omega
theorem sumB4_dest {f1 f2 f3 f4 x y z t : Int} (h : sumB [f1, f2, f3, f4] [x, y, z, t] = true) :
    (0 < f1 ∧ 0 < f2 ∧ 0 < f3 ∧ 0 < f4 ∧ f1 * x + f2 * y + f3 * z + f4 * t ≤ 0) ∨ (f1 < 0 ∧ f2 < 0 ∧ f3 < 0 ∧ f4 < 0 ∧ 0 ≤ f1 * x + f2 * y + f3 * z + f4 * t) := by
  simp [sumB, upT, dnT, sumT] at h
  obtain ⟨h | h, hs⟩ := h
  · rw [na_pos (by omega), na_pos (by omega), na_pos (by omega), na_pos (by omega)] at hs
    omega
  · rw [na_neg (by omega), na_neg (by omega), na_neg (by omega), na_neg (by omega)] at hs
    omega

theorem sum3_no {f1 f2 f3 x y z w : Int} {p q r : Pl} {s : Spot} (hw : 0 < s.w) (hp : 0 < val p s) (hq : 0 < val q s) (hr : 0 < val r s)
    (a : f1 * p.a + f2 * q.a + f3 * r.a = 0) (b : f1 * p.b + f2 * q.b + f3 * r.b = 0) (c : f1 * p.c + f2 * q.c + f3 * r.c = 0) : sumB [f1, f2, f3] [p.d, q.d, r.d] = false := by
  have e : f1 * val p s + f2 * val q s + f3 * val r s = s.w * (f1 * p.d + f2 * q.d + f3 * r.d) := by unfold val; grind
  cases h : sumB [f1, f2, f3] [p.d, q.d, r.d] with
  | false => rfl
  | true =>
    rcases sumB3_dest h with ⟨h1, h2, h3, h4⟩ | ⟨h1, h2, h3, h4⟩
    · have a1 := Int.mul_pos h1 hp; have a2 := Int.mul_pos h2 hq; have a3 := Int.mul_pos h3 hr
      have a4 := Int.mul_nonneg (show 0 ≤ s.w by omega) (show 0 ≤ -(f1 * p.d + f2 * q.d + f3 * r.d) by omega)
      rw [Int.mul_neg] at a4
      omega
    · have a1 := Int.mul_pos (show 0 < -f1 by omega) hp; have a2 := Int.mul_pos (show 0 < -f2 by omega) hq; have a3 := Int.mul_pos (show 0 < -f3 by omega) hr
      have a4 := Int.mul_nonneg (show 0 ≤ s.w by omega) h4
      rw [Int.neg_mul] at a1 a2 a3
      omega

theorem clash4_no {p q r t : Pl} {s : Spot} (hw : 0 < s.w) (hp : 0 < val p s) (hq : 0 < val q s) (hr : 0 < val r s) (ht : 0 < val t s) : clash4 p q r t = false := by
  unfold clash4
  generalize h1 : det3 q r t = f1
  generalize h2 : -det3 p r t = f2
  generalize h3 : det3 p q t = f3
  generalize h4 : -det3 p q r = f4
  have e : f1 * val p s + f2 * val q s + f3 * val r s + f4 * val t s = s.w * (f1 * p.d + f2 * q.d + f3 * r.d + f4 * t.d) := by
    rw [← h1, ← h2, ← h3, ← h4]; simp only [val, det3, dot, cross, nrm]; grind
  cases h : sumB [f1, f2, f3, f4] [p.d, q.d, r.d, t.d] with
  | false => rfl
  | true =>
    rcases sumB4_dest h with ⟨h1, h2, h3, h4, h5⟩ | ⟨h1, h2, h3, h4, h5⟩
    · have a1 := Int.mul_pos h1 hp; have a2 := Int.mul_pos h2 hq; have a3 := Int.mul_pos h3 hr; have a4 := Int.mul_pos h4 ht
      have a5 := Int.mul_nonneg (show 0 ≤ s.w by omega) (show 0 ≤ -(f1 * p.d + f2 * q.d + f3 * r.d + f4 * t.d) by omega)
      rw [Int.mul_neg] at a5
      omega
    · have a1 := Int.mul_pos (show 0 < -f1 by omega) hp; have a2 := Int.mul_pos (show 0 < -f2 by omega) hq; have a3 := Int.mul_pos (show 0 < -f3 by omega) hr; have a4 := Int.mul_pos (show 0 < -f4 by omega) ht
      have a5 := Int.mul_nonneg (show 0 ≤ s.w by omega) h5
      rw [Int.neg_mul] at a1 a2 a3 a4
      omega

theorem clash3_nov {p q r : Pl} {s : Spot} (hw : 0 < s.w) (hp : 0 < val p s) (hq : 0 < val q s) (hr : 0 < val r s) : clash3 p q r = false := by
  unfold clash3
  split
  · rfl
  · rename_i hd
    have hd := Decidable.not_not.1 hd
    simp only [det3, dot, cross, nrm] at hd
    simp only
    split
    · exact sum3_no hw hp hq hr (by simp only [cross, nrm]; grind) (by simp only [cross, nrm]; grind) (by simp only [cross, nrm]; grind) (x := 0) (y := 0) (z := 0) (w := 0)
    · split
      · exact sum3_no hw hp hq hr (by simp only [cross, nrm]; grind) (by simp only [cross, nrm]; grind) (by simp only [cross, nrm]; grind) (x := 0) (y := 0) (z := 0) (w := 0)
      · split
        · exact sum3_no hw hp hq hr (by simp only [cross, nrm]; grind) (by simp only [cross, nrm]; grind) (by simp only [cross, nrm]; grind) (x := 0) (y := 0) (z := 0) (w := 0)
        · rfl

theorem clash2_nov {p q : Pl} {s : Spot} (hw : 0 < s.w) (hp : 0 < val p s) (hq : 0 < val q s) : clash2 p q = false := by
  refine decide_eq_false fun ⟨h1, h2⟩ => ?_
  obtain ⟨hc, hd⟩ := par_cross (p := p) (q := q) (by omega)
  obtain ⟨e1, e2, e3⟩ := cross_eqs hc
  have key : ∀ {P Q : Int}, 0 < P → 0 < Q → Q * p.a + P * q.a = 0 → Q * p.b + P * q.b = 0 → Q * p.c + P * q.c = 0 → Q * p.d + P * q.d ≤ 0 → False := fun {P Q} hP hQ a b c d => by
    have e : Q * val p s + P * val q s = s.w * (Q * p.d + P * q.d) := by unfold val; grind
    have a1 := Int.mul_pos hQ hp; have a2 := Int.mul_pos hP hq
    have a3 := Int.mul_nonneg (show 0 ≤ s.w by omega) (show 0 ≤ -(Q * p.d + P * q.d) by omega)
    rw [Int.mul_neg] at a3
    omega
  have hn : p.a ≠ 0 ∨ p.b ≠ 0 ∨ p.c ≠ 0 := by
    rcases Decidable.em (p.a ≠ 0 ∨ p.b ≠ 0 ∨ p.c ≠ 0) with h | h
    · exact h
    · exfalso
      have ha : p.a = 0 := by omega
      have hb : p.b = 0 := by omega
      have hcc : p.c = 0 := by omega
      simp [dot, nrm, ha, hb, hcc] at hd
  have hsq := sqpos hn
  simp only [dot, nrm] at hd
  -- q = -(t/m) p with m = p.p, t = -p.q
  let m := p.a * p.a + p.b * p.b + p.c * p.c
  let t := -(p.a * q.a + p.b * q.b + p.c * q.c)
  have ht : 0 < t := by show 0 < -(p.a * q.a + p.b * q.b + p.c * q.c); omega
  have ma : t * p.a + m * q.a = 0 := by simp only [t, m]; grind
  have mb : t * p.b + m * q.b = 0 := by simp only [t, m]; grind
  have mc : t * p.c + m * q.c = 0 := by simp only [t, m]; grind
  have hab : ∀ {u v : Int}, t * u + m * v = 0 → t * u.natAbs = m * v.natAbs := fun {u v} h => by
    have e1 : (t * u).natAbs = (m * v).natAbs := by omega
    rw [Int.natAbs_mul, Int.natAbs_mul] at e1
    have e2 : (t.natAbs : Int) = t := by omega
    have e3 : (m.natAbs : Int) = m := by have : 0 < m := hsq; omega
    have : ((t.natAbs * u.natAbs : Nat) : Int) = ((m.natAbs * v.natAbs : Nat) : Int) := by rw [e1]
    simp only [Int.natCast_mul] at this
    rw [e2, e3] at this; exact this
  have ea := hab ma; have eb := hab mb; have ec := hab mc
  have hP : (0 : Int) < ((p.a.natAbs + p.b.natAbs + p.c.natAbs : Nat) : Int) := by omega
  have hPQ : t * ((p.a.natAbs + p.b.natAbs + p.c.natAbs : Nat) : Int) = m * ((q.a.natAbs + q.b.natAbs + q.c.natAbs : Nat) : Int) := by
    simp only [Int.natCast_add, Int.mul_add]; omega
  generalize ((p.a.natAbs + p.b.natAbs + p.c.natAbs : Nat) : Int) = P at hP hPQ h2
  generalize ((q.a.natAbs + q.b.natAbs + q.c.natAbs : Nat) : Int) = Q at hPQ h2
  have hm : 0 < m := hsq
  have hQ : 0 < Q := Int.pos_of_mul_pos_right (a := m) (by rw [← hPQ]; exact Int.mul_pos ht hP) hm
  have c0 : ∀ {u v : Int}, t * u + m * v = 0 → Q * u + P * v = 0 := fun {u v} h => by
    have : m * (Q * u + P * v) = 0 := by grind
    rcases Int.mul_eq_zero.1 this with h | h
    · omega
    · exact h
  exact key hP hQ (c0 ma) (c0 mb) (c0 mc) h2

theorem sub1 {q : Pl} : ∀ {l : List Pl}, [q].Sublist l → ∃ i : Nat, l[i]? = some q := fun h => by
  have : q ∈ _ := h.subset (by simp)
  exact List.mem_iff_getElem?.1 this
theorem sub2 {p q : Pl} : ∀ {l : List Pl}, [p, q].Sublist l → ∃ i j : Nat, i < j ∧ l[i]? = some p ∧ l[j]? = some q
  | [], h => by simp at h
  | x :: l, h => by
    cases h with
    | cons _ h => obtain ⟨i, j, h1, h2, h3⟩ := sub2 h; exact ⟨i + 1, j + 1, by omega, by simpa using h2, by simpa using h3⟩
    | cons_cons _ h => obtain ⟨j, h3⟩ := sub1 h; exact ⟨0, j + 1, by omega, by simp, by simpa using h3⟩
theorem sub3 {p q r : Pl} : ∀ {l : List Pl}, [p, q, r].Sublist l → ∃ i j k : Nat, i < j ∧ j < k ∧ l[i]? = some p ∧ l[j]? = some q ∧ l[k]? = some r
  | [], h => by simp at h
  | x :: l, h => by
    cases h with
    | cons _ h => obtain ⟨i, j, k, h1, h2, h3, h4, h5⟩ := sub3 h; exact ⟨i + 1, j + 1, k + 1, by omega, by omega, by simpa using h3, by simpa using h4, by simpa using h5⟩
    | cons_cons _ h => obtain ⟨i, j, h1, h2, h3⟩ := sub2 h; exact ⟨0, i + 1, j + 1, by omega, by omega, by simp, by simpa using h2, by simpa using h3⟩

theorem sub_last {l m : List Pl} {p : Pl} (h : l.Sublist (m ++ [p])) : l.Sublist m ∨ ∃ l', l = l' ++ [p] ∧ l'.Sublist m := by
  obtain ⟨l1, l2, rfl, h1, h2⟩ := List.sublist_append_iff.1 h
  cases h2 with
  | cons _ h2 => cases h2; simp; exact .inl h1
  | cons_cons _ h2 => cases h2; exact .inr ⟨l1, rfl, h1⟩

theorem room_iff {l : List Pl} {p : Pl} : room l p = true ↔ Room l p := by unfold room; exact @decide_eq_true_iff _ (Classical.propDecidable _)

/-- Room is a point. -/
theorem room_of_feas {path : List Pl} {p : Pl} (h : Feas (path ++ [p])) : room path p = true := by
  obtain ⟨s, hw, hs⟩ := h
  have hp := hs p (by simp)
  have hm : ∀ {i : Nat} {q : Pl}, path[i]? = some q → 0 < val q s := fun hq => hs _ (List.mem_append_left _ (List.mem_of_getElem? hq))
  exact room_iff.2 fun i q _ hq => ⟨clash2_nov hw (hm hq) hp, fun j r _ hr => ⟨clash3_nov hw (hm hr) (hm hq) hp, fun k t _ ht => clash4_no hw (hm ht) (hm hr) (hm hq) hp⟩⟩

theorem not_clash_of_feas {l : List Pl} (h : Feas l) : ¬ Clash l := by
  obtain ⟨s, hw, hs⟩ := h
  rintro (⟨p, q, h, c⟩ | ⟨p, q, r, h, c⟩ | ⟨p, q, r, t, h, c⟩)
  · rw [clash2_nov hw (hs p (h.subset (by simp))) (hs q (h.subset (by simp)))] at c; simp at c
  · rw [clash3_nov hw (hs p (h.subset (by simp))) (hs q (h.subset (by simp))) (hs r (h.subset (by simp)))] at c; simp at c
  · rw [clash4_no hw (hs p (h.subset (by simp))) (hs q (h.subset (by simp))) (hs r (h.subset (by simp))) (hs t (h.subset (by simp)))] at c; simp at c

theorem feas_of_room {path : List Pl} {p : Pl} (h0 : Feas path) (hn : ∀ q ∈ path, nz q) (hp : nz p) (h : room path p = true) : Feas (path ++ [p]) := by
  have hR : Room path p := room_iff.1 h
  rcases feas_or_clash (path ++ [p]) (fun q hq => by
    rcases List.mem_append.1 hq with hq | hq
    · exact hn q hq
    · simp at hq; subst hq; exact hp) with hf | hc
  · exact hf
  · exfalso
    have ln : ∀ {i : Nat} {q : Pl}, path[i]? = some q → i < path.length := fun h => lt_of_get h
    rcases hc with ⟨q, r, hs, c⟩ | ⟨q, r, t, hs, c⟩ | ⟨q, r, t, u, hs, c⟩
    · rcases sub_last hs with hs | ⟨l', e, hs'⟩
      · exact not_clash_of_feas h0 (.inl ⟨_, _, hs, c⟩)
      · have e' : l' = [q] ∧ r = p := by
          have := List.append_inj' (s₁ := [q]) (t₁ := [r]) (s₂ := l') (t₂ := [p]) e rfl
          exact ⟨this.1.symm, by simpa using this.2⟩
        obtain ⟨rfl, rfl⟩ := e'
        obtain ⟨i, hi⟩ := sub1 hs'
        rw [(hR i q (ln hi) hi).1] at c; simp at c
    · rcases sub_last hs with hs | ⟨l', e, hs'⟩
      · exact not_clash_of_feas h0 (.inr (.inl ⟨_, _, _, hs, c⟩))
      · have e' : l' = [q, r] ∧ t = p := by
          have := List.append_inj' (s₁ := [q, r]) (t₁ := [t]) (s₂ := l') (t₂ := [p]) e rfl
          exact ⟨this.1.symm, by simpa using this.2⟩
        obtain ⟨rfl, rfl⟩ := e'
        obtain ⟨i, j, hij, hi, hj⟩ := sub2 hs'
        rw [((hR j r (ln hj) hj).2 i q hij hi).1] at c; simp at c
    · rcases sub_last hs with hs | ⟨l', e, hs'⟩
      · exact not_clash_of_feas h0 (.inr (.inr ⟨_, _, _, _, hs, c⟩))
      · have e' : l' = [q, r, t] ∧ u = p := by
          have := List.append_inj' (s₁ := [q, r, t]) (t₁ := [u]) (s₂ := l') (t₂ := [p]) e rfl
          exact ⟨this.1.symm, by simpa using this.2⟩
        obtain ⟨rfl, rfl⟩ := e'
        obtain ⟨i, j, k, hij, hjk, hi, hj, hk⟩ := sub3 hs'
        rw [(((hR k t (ln hk) hk).2 j r hjk hj).2 i q hij hi)] at c; simp at c
end Go.Proofs.Ytablmbhnimnccaa.Pw
