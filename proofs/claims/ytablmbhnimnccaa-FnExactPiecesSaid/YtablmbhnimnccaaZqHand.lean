/- Pw, part 6: handing over is sound. No condition. -/
import Derived.Test.YtablmbhnimnccaaZqInv
namespace Go.Proofs.Ytablmbhnimnccaa.Pw

section
variable {E : Entry} {N : Nat} {A A' : Nat → Nat → Prop} {F F' : Nat → Nat → Value} {S S' : St} {a : Act} {w w' : World}

mutual
theorem RepT.monoA (k : Keeps A A' w w) : ∀ {x : TV} {u : Value} {rs : List Nat}, RepT A w x u rs → (∀ r ∈ rs, ∀ o, A' r o → A r o) → RepT A' w x u rs
  | _, _, _, .p x u h, _ => .p x u (h.mono k)
  | _, _, _, .rf cs r us T hw h hA, hr => .rf cs r us T hw (h.mono k) fun o ha => hA o (hr r (by simp) o ha)
  | _, _, _, .ow E sz xs m u us ho h hs hm hA, hr => .ow E sz xs m u us ho (h.mono k) hs hm fun r hb o ha => hA r hb o (hr r (by rw [hb]; simp) o ha)
  | _, _, _, .ag cs us rs h, hr => .ag cs us rs (RepTs.monoA k h hr)
  | _, _, _, .tu vs us rs h, hr => .tu vs us rs (RepTt.monoA k h hr)
theorem RepTs.monoA (k : Keeps A A' w w) : ∀ {x : List TV} {u : List Value} {rs : List Nat}, RepTs A w x u rs → (∀ r ∈ rs, ∀ o, A' r o → A r o) → RepTs A' w x u rs
  | _, _, _, .nil, _ => .nil
  | _, _, _, .cons x u xs us r rs h h1 hs, hr => .cons x u xs us r rs (RepT.monoA k h fun q hq => hr q (List.mem_append_left _ hq)) h1 (RepTs.monoA k hs fun q hq => hr q (List.mem_append_right _ hq))
theorem RepTt.monoA (k : Keeps A A' w w) : ∀ {x : List TV} {u : List Value} {rs : List Nat}, RepTt A w x u rs → (∀ r ∈ rs, ∀ o, A' r o → A r o) → RepTt A' w x u rs
  | _, _, _, .nil, _ => .nil
  | _, _, _, .cons x u xs us r rs h hs, hr => .cons x u xs us r rs (RepT.monoA k h fun q hq => hr q (List.mem_append_left _ hq)) (RepTt.monoA k hs fun q hq => hr q (List.mem_append_right _ hq))
end

def Live (S : St) (F : Nat → Nat → Value) (b : Nat) : Prop := ∃ t g k, S.bl t g = some k ∧ bOf (F t g) = some b

theorem drop_bl {t g t' g' : Nat} {b : Blk} (hb : (S.drop t g).bl t' g' = some b) : ¬ (t' = t ∧ g' = g) ∧ S.bl t' g' = some b := by
  simp only [St.drop] at hb
  by_cases hc : t' = t ∧ g' = g
  · rw [hc.1, hc.2, upd2_same] at hb; simp at hb
  · rw [upd2_ne _ _ _ _ _ _ hc] at hb; exact ⟨hc, hb⟩

/-- What a handing over leaves. -/
structure PassOk (E : Entry) (N : Nat) (S : St) (A : Nat → Nat → Prop) (F : Nat → Nat → Value) (a : Act) (w : World) (S' : St) (l : List (Nat × Nat)) (A' : Nat → Nat → Prop) (rs : List Nat) : Prop where
  inv : Inv E N S' A' F a w
  keeps : Keeps A A' w w
  evo : Evo A A' F F S S' w w
  sub : ∀ b o, A' b o → A b o ∨ Live S F b
  live : ∀ b, Live S' F b → Live S F b
  was : ∀ r ∈ rs, Live S F r
  gone : ∀ r ∈ rs, ¬ Live S' F r
  names : ∀ n ∈ l, S'.bl n.1 n.2 = none ∧ (∃ cs sd, S.bl n.1 n.2 = some (.var cs sd)) ∧ ∀ r, bOf (F n.1 n.2) = some r → ¬ Live S' F r
  same : ∀ t g cs sd, S'.bl t g = some (.var cs sd) → ∃ sd0, S.bl t g = some (.var cs sd0)
  tm : S'.tm = S.tm
  gen : S'.gen = S.gen

theorem seal_arr {t g E0 sz : Nat} {xs : List PV} {m : Nat} (h : S.bl t g = some (.arr E0 sz xs m)) : S.seal t g = S.setBl t g (.arr E0 sz xs xs.length) := by simp [St.seal, h]
theorem seal_var {t g : Nat} {cs : List AV} {sd : Bool} (h : S.bl t g = some (.var cs sd)) : S.seal t g = S.setBl t g (.var cs true) := by simp [St.seal, h]

theorem live_setBl {t g : Nat} {b0 b1 : Blk} (hb : S.bl t g = some b0) {b : Nat} (h : Live (S.setBl t g b1) F b) : Live S F b := by
  obtain ⟨t', g', k, h1, h2⟩ := h
  rcases setBl_bl h1 with ⟨rfl, rfl, rfl⟩ | ⟨_, hq⟩
  · exact ⟨_, _, _, hb, h2⟩
  · exact ⟨_, _, _, hq, h2⟩

theorem live_drop {t g : Nat} {b : Nat} (h : Live (S.drop t g) F b) : Live S F b := by
  obtain ⟨t', g', k, h1, h2⟩ := h
  exact ⟨_, _, _, (drop_bl h1).2, h2⟩

theorem Evo.of_drop (t g : Nat) : Evo A A F F S (S.drop t g) w w :=
  ⟨.refl _ _, fun _ => Nat.le_refl _, fun t' g' cs sd _ h => ⟨cs, sd, (drop_bl h).2, rfl⟩, fun t' g' _ _ xs m _ h => ⟨xs, m, (drop_bl h).2, Nat.le_refl _, fun _ => rfl⟩⟩

theorem PassOk.idle (h : Inv E N S A F a w) : PassOk E N S A F a w S [] A [] :=
  ⟨h, .refl _ _, .refl, fun _ _ h => .inl h, fun _ h => h, by simp, by simp, by simp, fun _ _ _ sd h => ⟨sd, h⟩, rfl, rfl⟩

theorem PassOk.seal_arr (h : Inv E N S A F a w) {t g E0 sz : Nat} {xs : List PV} {m : Nat} (hb : S.bl t g = some (.arr E0 sz xs m)) :
    ∃ A', PassOk E N S A F a w (S.seal t g) [] A' [] ∧ RepP A' w (.sl sz xs) (F t g) ∧ (∀ i y r, xs[i]? = some y → bOf (F t g) = some r → RepCells A' w r (i * sz) y.cells) := by
  obtain ⟨A', h1, h2, h3, h4, h5⟩ := h.sealArr hb
  rw [Go.Proofs.Ytablmbhnimnccaa.Pw.seal_arr hb]
  exact ⟨A', ⟨h1, h2, Evo.of_set_arr hb (Nat.le_refl _) (fun _ _ _ => rfl) (fun _ => rfl) h2, fun b o ha => (h3 b o ha).imp id fun hq => ⟨t, g, _, hb, hq⟩,
    fun b hl => live_setBl hb hl, by simp, by simp, by simp, fun t' g' cs sd hq => by
      rcases setBl_bl hq with ⟨_, _, hq0⟩ | ⟨_, hq⟩
      · simp at hq0
      · exact ⟨sd, hq⟩, rfl, rfl⟩, h4, h5⟩

theorem PassOk.seal_var (h : Inv E N S A F a w) {t g : Nat} {cs : List PV} {sd : Bool} (hb : S.bl t g = some (.var (cs.map .p) sd)) :
    ∃ A', PassOk E N S A F a w (S.seal t g) [] A' [] ∧ ∃ r, F t g = .pointer (some ⟨r, 0, none⟩) ∧ RepCells A' w r 0 cs := by
  obtain ⟨A', h1, h2, h3, h4⟩ := h.sealVar hb
  rw [Go.Proofs.Ytablmbhnimnccaa.Pw.seal_var hb]
  exact ⟨A', ⟨h1, h2, Evo.of_set_var hb h2, fun b o ha => (h3 b o ha).imp id fun hq => ⟨t, g, _, hb, hq⟩,
    fun b hl => live_setBl hb hl, by simp, by simp, by simp, fun t' g' cs' sd' hq => by
      rcases setBl_bl hq with ⟨rfl, rfl, hq0⟩ | ⟨_, hq⟩
      · simp only [Blk.var.injEq] at hq0; rw [hq0.1]; exact ⟨sd, hb⟩
      · exact ⟨sd', hq⟩, rfl, rfl⟩, h4⟩

theorem Pass.sound {v : AV} {tv : TV} {l : List (Nat × Nat)} {u : Value} (hp : Pass S v tv S' l) (h : Inv E N S A F a w) (hv : RepA A F S w v u) :
    ∃ A' rs, PassOk E N S A F a w S' l A' rs ∧ RepT A' w tv u rs ∧ rs.Nodup ∧ rfVals [tv] [u] = l.map fun n => F n.1 n.2 := by
  cases hp with
  | p x => cases hv with | p _ _ hx => exact ⟨A, [], .idle h, .p _ _ hx, by simp, rfl⟩
  | nil sz =>
    cases hv with | p _ _ hx => cases hx; exact ⟨A, [], .idle h, .p _ _ (.snil _ _ (by simp [maxLen]) none), by simp, rfl⟩
  | nilo E0 sz =>
    cases hv with
    | p _ _ hx =>
      cases hx
      exact ⟨A, [], .idle h, .ow _ _ _ _ _ [] (World.ownsRow_nil w 0 E0 sz) .nil (by simp) (Nat.le_refl _) (fun r hb => by simp [nilSl, bOf] at hb), by simp, rfl⟩
  | os t g E0 sz xs m hb =>
    cases hv with
    | os _ _ _ _ hg hq h1 =>
      obtain ⟨A', h2, h3, h4⟩ := PassOk.seal_arr h hb
      exact ⟨A', [], h2, .p _ _ (by rw [(hq _ _ _ _ hb).2 rfl]; exact h3), by simp, rfl⟩
  | ow t g E0 sz xs m m' hb hm hm' =>
    cases hv with
    | os _ _ _ _ hg hq h1 =>
      obtain ⟨us, ho, hr, hs, hml, hA⟩ := h.bl t g _ hb
      have hu := (hq _ _ _ _ hb).2 rfl
      refine ⟨A, (bOf (F t g)).toList, ⟨h.dropBl t g, .refl _ _, Evo.of_drop t g, fun _ _ ha => .inl ha, fun b hl => live_drop hl, fun r hr => ?_, fun r hr hl => ?_, by simp, fun _ _ _ sd hq => ⟨sd, (drop_bl hq).2⟩, rfl, rfl⟩, ?_, ?_, rfl⟩
      · simp at hr; exact ⟨t, g, _, hb, hr⟩
      · simp at hr
        obtain ⟨t', g', k, h1, h2⟩ := hl
        exact (drop_bl h1).1 (h.inj _ _ _ _ _ _ r (drop_bl h1).2 hb h2 hr)
      · rw [hu]
        exact .ow _ _ _ _ _ us ho hr hs hm' fun r hb o ha => Nat.lt_of_lt_of_le (hA r hb o ha) (Nat.mul_le_mul_right _ hm)
      · cases bOf (F t g) <;> simp
  | rf t g cs hb =>
    cases hv with
    | pt _ _ _ _ hg hq h1 =>
      obtain ⟨r, us, T, hF, hw, hr, hs1, hs2⟩ := h.bl t g _ hb
      obtain ⟨r', hF', hu⟩ := hq _ _ hb
      rw [hF] at hF'; simp at hF'; subst hF'
      refine ⟨A, [r], ⟨h.dropBl t g, .refl _ _, Evo.of_drop t g, fun _ _ ha => .inl ha, fun b hl => live_drop hl, fun q hq => ?_, fun q hq hl => ?_, fun n hn => ?_, fun _ _ _ sd hq => ⟨sd, (drop_bl hq).2⟩, rfl, rfl⟩, ?_, by simp, ?_⟩
      · simp at hq; subst hq; exact ⟨t, g, _, hb, by rw [hF]; rfl⟩
      · simp at hq; subst hq
        obtain ⟨t', g', k, h1, h2⟩ := hl
        exact (drop_bl h1).1 (h.inj _ _ _ _ _ _ q (drop_bl h1).2 hb h2 (by rw [hF]; rfl))
      · simp at hn; subst hn
        refine ⟨by simp [St.drop, upd2_same], ⟨_, _, hb⟩, fun q hq hl => ?_⟩
        obtain ⟨t', g', k, h1, h2⟩ := hl
        exact (drop_bl h1).1 (h.inj _ _ _ _ _ _ q (drop_bl h1).2 hb h2 hq)
      · rw [hu]; exact .rf _ _ us T hw hr.plain (hs1 rfl)
      · simp [rfVals, hF, hu]
  | ro t g off cs sd hb =>
    cases hv with
    | pt _ _ _ _ hg hq h1 =>
      obtain ⟨A', h2, r, hF, h3⟩ := PassOk.seal_var h hb
      obtain ⟨r', hF', hu⟩ := hq _ _ hb
      rw [hF] at hF'; simp at hF'; subst hF'
      refine ⟨A', [], h2, .p _ _ ?_, by simp, rfl⟩
      rw [hu]
      have := RepP.ro (.ag cs) off r 0 h3
      rwa [Nat.zero_add] at this
  | pe t g i off E0 sz xs m y hb hy =>
    cases hv with
    | pe _ _ _ _ _ _ hg hq h1 =>
      obtain ⟨A', h2, h3, h4⟩ := PassOk.seal_arr h hb
      obtain ⟨r, hr, hu⟩ := (hq _ _ _ _ hb).2 rfl
      refine ⟨A', [], h2, .p _ _ ?_, by simp, rfl⟩
      rw [hu]
      exact .ro _ _ _ _ (h4 i y r hy hr)

theorem Evo.trans {A2 : Nat → Nat → Prop} {F2 : Nat → Nat → Value} {S2 : St} {w2 : World} (e : Evo A A' F F' S S' w w') (f : Evo A' A2 F' F2 S' S2 w' w2) : Evo A A2 F F2 S S2 w w2 :=
  ⟨e.keeps.trans f.keeps, fun t => Nat.le_trans (e.gen t) (f.gen t), fun t g cs sd hg h => by
      obtain ⟨c1, s1, h1, hF1⟩ := f.var t g cs sd (Nat.lt_of_lt_of_le hg (e.gen t)) h
      obtain ⟨c2, s2, h2, hF2⟩ := e.var t g c1 s1 hg h1
      exact ⟨c2, s2, h2, hF1.trans hF2⟩,
    fun t g E sz xs m hg h => by
      obtain ⟨x1, m1, h1, hl1, hF1⟩ := f.arr t g E sz xs m (Nat.lt_of_lt_of_le hg (e.gen t)) h
      obtain ⟨x2, m2, h2, hl2, hF2⟩ := e.arr t g E sz x1 m1 hg h1
      exact ⟨x2, m2, h2, Nat.le_trans hl2 hl1, fun hq => (hF1 (by omega)).trans (hF2 (by omega))⟩⟩

theorem PassOk.trans (h0 : Inv E N S A F a w) {S1 S2 : St} {l k : List (Nat × Nat)} {A1 A2 : Nat → Nat → Prop} {r1 r2 : List Nat} (p : PassOk E N S A F a w S1 l A1 r1) (q : PassOk E N S1 A1 F a w S2 k A2 r2) :
    PassOk E N S A F a w S2 (l ++ k) A2 (r1 ++ r2) where
  inv := q.inv
  keeps := p.keeps.trans q.keeps
  evo := p.evo.trans q.evo
  sub := fun b o ha => by
    rcases q.sub b o ha with h | h
    · exact p.sub b o h
    · exact .inr (p.live b h)
  live := fun b h => p.live b (q.live b h)
  was := fun r hr => by
    rcases List.mem_append.1 hr with h | h
    · exact p.was r h
    · exact p.live r (q.was r h)
  gone := fun r hr hl => by
    rcases List.mem_append.1 hr with h | h
    · exact p.gone r h (q.live r hl)
    · exact q.gone r h hl
  names := fun n hn => by
    rcases List.mem_append.1 hn with h | h
    · obtain ⟨h1, ⟨cs, sd, h2⟩, h3⟩ := p.names n h
      have hg : n.2 < S1.gen n.1 := by rw [p.gen]; exact h0.lt _ _ _ h2
      refine ⟨?_, ⟨cs, sd, h2⟩, fun r hr hl => h3 r hr (q.live r hl)⟩
      cases hb : S2.bl n.1 n.2 with
      | none => rfl
      | some b =>
        exfalso
        cases b with
        | var cs sd => obtain ⟨c, s, h4, _⟩ := q.evo.var _ _ _ _ hg hb; rw [h1] at h4; simp at h4
        | arr E sz xs m => obtain ⟨c, s, h4, _⟩ := q.evo.arr _ _ _ _ _ _ hg hb; rw [h1] at h4; simp at h4
    · obtain ⟨h1, ⟨cs, sd, h2⟩, h3⟩ := q.names n h
      obtain ⟨sd0, h4⟩ := p.same _ _ _ _ h2
      exact ⟨h1, ⟨cs, sd0, h4⟩, h3⟩
  same := fun t g cs sd hb => by
    obtain ⟨s1, h1⟩ := q.same _ _ _ _ hb
    exact p.same _ _ _ _ h1
  tm := q.tm.trans p.tm
  gen := q.gen.trans p.gen

theorem rfVals_cons {x : TV} {u : Value} {xs : List TV} {us : List Value} : rfVals (x :: xs) (u :: us) = rfVals [x] [u] ++ rfVals xs us := by
  cases x <;> simp [rfVals]

theorem PassPs.sound {vs : List AV} {xs : List PV} : ∀ {S S' : St} {A : Nat → Nat → Prop} {us : List Value}, PassPs S vs xs S' → Inv E N S A F a w → RepAs A F S w vs us →
    ∃ A', PassOk E N S A F a w S' [] A' [] ∧ RepPs A' w xs us := by
  induction vs generalizing xs with
  | nil =>
    intro S S' A us hp h hv
    cases hp; cases hv
    exact ⟨A, .idle h, .nil⟩
  | cons v vs ih =>
    intro S S' A us hp h hv
    cases hp with
    | cons _ S1 _ _ x _ xs hp1 hps =>
      cases hv with
      | cons _ u _ us hv h1 hvs =>
        obtain ⟨A1, rs, p, hr, _, _⟩ := hp1.sound h hv
        cases hr with
        | p _ _ hr =>
          obtain ⟨A2, q, hrs⟩ := ih hps p.inv (hvs.evo p.evo)
          exact ⟨A2, p.trans h q, .cons _ _ _ _ (hr.mono q.keeps) h1 hrs⟩

theorem PassV.sound {v : AV} {tv : TV} {l : List (Nat × Nat)} {u : Value} (hp : PassV S v tv S' l) (h : Inv E N S A F a w) (hv : RepA A F S w v u) :
    ∃ A' rs, PassOk E N S A F a w S' l A' rs ∧ RepT A' w tv u rs ∧ rs.Nodup ∧ rfVals [tv] [u] = l.map fun n => F n.1 n.2 := by
  cases hp with
  | one _ _ _ _ hp => exact hp.sound h hv
  | ag _ vs xs hp =>
    cases hv with
    | ag _ us hv =>
      obtain ⟨A', p, hr⟩ := hp.sound h hv
      exact ⟨A', [], p, .p _ _ (.ag _ _ hr), by simp, rfl⟩
  | fn _ f vs xs hp =>
    cases hv with
    | fn _ _ us hv =>
      obtain ⟨A', p, hr⟩ := hp.sound h hv
      exact ⟨A', [], p, .p _ _ (.fn _ _ _ hr), by simp, rfl⟩

theorem PassOk.keep {l : List (Nat × Nat)} {rs : List Nat} {rs0 : List Nat} (p : PassOk E N S A F a w S' l A' rs) (h0 : ∀ r ∈ rs0, ¬ Live S F r) : ∀ r ∈ rs0, ∀ o, A' r o → A r o := fun r hr o ha => by
  rcases p.sub r o ha with h | h
  · exact h
  · exact absurd h (h0 r hr)

theorem PassL.sound {vs : List AV} {tvs : List TV} : ∀ {S S' : St} {A : Nat → Nat → Prop} {us : List Value} {l : List (Nat × Nat)}, PassL S vs tvs S' l → Inv E N S A F a w → RepTu A F S w vs us →
    ∃ A' rs, PassOk E N S A F a w S' l A' rs ∧ RepTt A' w tvs us rs ∧ rs.Nodup ∧ rfVals tvs us = l.map fun n => F n.1 n.2 := by
  induction vs generalizing tvs with
  | nil =>
    intro S S' A us l hp h hv
    cases hp; cases hv
    exact ⟨A, [], .idle h, .nil, by simp, rfl⟩
  | cons v vs ih =>
    intro S S' A us l hp h hv
    cases hp with
    | cons _ S1 _ _ x _ xs l1 l2 hp1 hps =>
      cases hv with
      | cons _ u _ us hv hvs =>
        obtain ⟨A1, r1, p, hr, hn, hf⟩ := hp1.sound h hv
        obtain ⟨A2, r2, q, hrs, hns, hfs⟩ := ih hps p.inv (hvs.evo p.evo)
        refine ⟨A2, r1 ++ r2, p.trans h q, .cons _ _ _ _ _ _ (hr.monoA q.keeps (q.keep p.gone)) hrs, ?_, ?_⟩
        · rw [List.nodup_append]
          exact ⟨hn, hns, fun r h1 r' h2 e => by subst e; exact p.gone r h1 (q.was r h2)⟩
        · rw [rfVals_cons, hf, hfs, List.map_append]
end
end Go.Proofs.Ytablmbhnimnccaa.Pw
