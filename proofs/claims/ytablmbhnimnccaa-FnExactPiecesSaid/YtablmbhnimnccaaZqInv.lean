/- Pw, part 5: how the invariant is carried on. No condition. -/
import Derived.Test.YtablmbhnimnccaaZqPass
namespace Go.Proofs.Ytablmbhnimnccaa.Pw

structure Wstep (Wr : Nat → Prop) (w w' : World) : Prop where
  os : w'.os = w.os
  tape : w'.tape = w.tape
  output : w'.output = w.output
  size : w.heap.size ≤ w'.heap.size
  blk : ∀ b, b < w.heap.size → ¬ Wr b → w'.heap[b]? = w.heap[b]?

theorem Wstep.refl (Wr : Nat → Prop) (w : World) : Wstep Wr w w := ⟨rfl, rfl, rfl, Nat.le_refl _, fun _ _ _ => rfl⟩

section
variable {E : Entry} {N : Nat} {A A' : Nat → Nat → Prop} {F F' : Nat → Nat → Value} {S S' : St} {a : Act} {w w' : World}

theorem lt_of_heap {r : Nat} {o : Obj} (h : w.heap[r]? = some o) : r < w.heap.size := (Array.getElem?_eq_some_iff.1 h).1

theorem BlkOk.bOf_lt {t g : Nat} {b : Blk} (h : BlkOk A F S w t g b) {r : Nat} (hr : bOf (F t g) = some r) : r < w.heap.size := by
  cases b with
  | var cs sd =>
    obtain ⟨r', us, T, hF, hw, _⟩ := h
    rw [hF] at hr; simp [bOf] at hr; subst hr
    exact lt_of_heap hw
  | arr E sz xs m =>
    obtain ⟨us, ho, _⟩ := h
    exact ownsRow_lt ho hr

theorem BlkOk.evo (e : Evo A A' F F' S S' w w') {t g : Nat} {b : Blk} (h : BlkOk A F S w t g b) (hF : F' t g = F t g)
    (hh : ∀ r, bOf (F t g) = some r → w'.heap[r]? = w.heap[r]? ∧ ∀ o, A' r o → A r o) : BlkOk A' F' S' w' t g b := by
  cases b with
  | var cs sd =>
    obtain ⟨r, us, T, hF0, hw, hr, h1, h2⟩ := h
    have h3 := hh r (by rw [hF0]; rfl)
    exact ⟨r, us, T, hF.trans hF0, h3.1.trans hw, RepAs.evo e hr, fun hs o ho => h1 hs o (h3.2 o ho), fun hs o ho => e.keeps.sub _ _ (h2 hs o ho)⟩
  | arr E sz xs m =>
    obtain ⟨us, ho, hr, hs, hm, hA⟩ := h
    refine ⟨us, ?_, hr.mono e.keeps, hs, hm, fun r hb o ha => ?_⟩
    · rw [hF]; exact ownsRow_heap ho fun r hb => (hh r hb).1
    · rw [hF] at hb; exact hA r hb o ((hh r hb).2 o ha)

theorem Inv.change (h : Inv E N S A F a w) (e : Evo A A' F F' S S' w w') (htm : S'.tm = S.tm) (hlt : ∀ t g b, S'.bl t g = some b → g < S'.gen t)
    (hbl : ∀ t g b, S'.bl t g = some b → BlkOk A' F' S' w' t g b)
    (hinj : ∀ t g b t' g' b' r, S'.bl t g = some b → S'.bl t' g' = some b' → bOf (F' t g) = some r → bOf (F' t' g') = some r → t = t' ∧ g = g')
    (hAlt : ∀ b o, A' b o → b < w'.heap.size) {Wr : Nat → Prop} (ws : Wstep Wr w w') (hWr : ∀ b, Wr b → E.w.heap.size ≤ b ∨ b ∈ E.R)
    (hAnew : ∀ b o, A' b o → b < E.w.heap.size → A b o ∨ b ∈ E.R)
    (hown : ∀ t g b r, S'.bl t g = some b → bOf (F' t g) = some r → E.w.heap.size ≤ r ∨ r ∈ E.R) : Inv E N S' A' F' a w' where
  tmps := h.tmps
  defers := h.defers
  tm := fun t => by rw [htm]; exact RepA.evo e (h.tm t)
  lt := hlt
  bl := hbl
  inj := hinj
  Alt := hAlt
  os := ws.os.trans h.os
  tape := ws.tape.trans h.tape
  output := ws.output.trans h.output
  size := Nat.le_trans h.size ws.size
  old := fun b hb hR => by
    have hnot : ¬ Wr b := fun hw => by
      rcases hWr b hw with h1 | h1
      · omega
      · exact hR h1
    exact (ws.blk b (Nat.lt_of_lt_of_le hb h.size) hnot).trans (h.old b hb hR)
  keeps := h.keeps.trans e.keeps
  Anew := fun b o ha hb => by
    rcases hAnew b o ha hb with h1 | h1
    · exact h.Anew b o h1 hb
    · exact .inr h1
  own := hown
  pgen := fun p v hp => Nat.lt_of_lt_of_le (h.pgen p v hp) (e.gen p)
  par := fun p v cs sd hp hb => by
    obtain ⟨cs0, sd0, h1, h2⟩ := e.var p 0 cs sd (h.pgen p v hp) hb
    rw [h2]; exact h.par p v cs0 sd0 hp h1

/-- The value of a slot is written. -/
theorem Inv.put (h : Inv E N S A F a w) {v : AV} {u : Value} (hr : RepA A F S w v u) {d : Option Tmp} (hd : ∀ t, d = some t → t < N) : Inv E N (S.put d v) A F (a.put d u) w := by
  cases d with
  | none => exact h
  | some d =>
    have hd := hd d rfl
    have e : Evo A A F F S (S.put (some d) v) w w := ⟨.refl _ _, fun _ => Nat.le_refl _, fun _ _ cs sd _ h => ⟨cs, sd, h, rfl⟩, fun _ _ _ _ xs m _ h => ⟨xs, m, h, Nat.le_refl _, fun _ => rfl⟩⟩
    refine { h with tmps := by simpa [Act.put] using h.tmps, tm := fun t => ?_, bl := fun t g b hb => ?_ }
    · by_cases ht : t = d
      · subst ht
        have : ((a.put (some t) u).tmps.getD t undef) = u := by
          have hs : t < a.tmps.size := by rw [h.tmps]; exact hd
          simp [Act.put, hs]
        rw [this]
        simp only [St.put, upd_same]
        exact RepA.evo e hr
      · have : ((a.put (some d) u).tmps.getD t undef) = a.tmps.getD t undef := by
          simp [Act.put, Array.getElem?_setIfInBounds_ne (Ne.symm ht)]
        rw [this]
        simp only [St.put, upd_ne _ _ _ _ ht]
        exact RepA.evo e (h.tm t)
    · exact BlkOk.evo e (h.bl t g b hb) rfl fun r _ => ⟨rfl, fun _ h => h⟩

theorem Inv.ev (h : Inv E N S A F a w) (x : Operand) : RepA A F S w (S.ev x) (a.eval x) := by
  cases x with
  | tmp t => exact h.tm t
  | const v => exact .p _ _ (.lit v)
  | func f => exact .p _ _ (.fn f [] #[] .nil)
  | global g => exact .un _

/-- The heap is as it was (a draw). -/
theorem Inv.sameHeap (h : Inv E N S A F a w) (hh : w'.heap = w.heap) (h1 : w'.os = w.os) (h2 : w'.tape = w.tape) (h3 : w'.output = w.output) : Inv E N S A F a w' := by
  have hc : ∀ p, w'.cell? p = w.cell? p := fun p => by simp [World.cell?, hh]
  have e : Evo A A F F S S w w' := ⟨⟨fun _ _ h => h, fun _ _ _ => hc _⟩, fun _ => Nat.le_refl _, fun _ _ cs sd _ h => ⟨cs, sd, h, rfl⟩, fun _ _ _ _ xs m _ h => ⟨xs, m, h, Nat.le_refl _, fun _ => rfl⟩⟩
  exact h.change e rfl h.lt (fun t g b hb => BlkOk.evo e (h.bl t g b hb) rfl fun r _ => ⟨by rw [hh], fun _ h => h⟩) h.inj (fun b o ha => by rw [hh]; exact h.Alt b o ha)
    (Wr := fun _ => False) ⟨h1, h2, h3, by rw [hh]; exact Nat.le_refl _, fun _ _ _ => by rw [hh]⟩ (fun _ h => h.elim) (fun b o ha _ => .inl ha) h.own

/-- A name is given up. -/
theorem Inv.dropBl (h : Inv E N S A F a w) (t g : Nat) : Inv E N (S.drop t g) A F a w := by
  have hb : ∀ t' g' b, (S.drop t g).bl t' g' = some b → S.bl t' g' = some b := fun t' g' b hb => by
    simp only [St.drop] at hb
    by_cases hc : t' = t ∧ g' = g
    · rw [hc.1, hc.2, upd2_same] at hb; simp at hb
    · rwa [upd2_ne _ _ _ _ _ _ hc] at hb
  have e : Evo A A F F S (S.drop t g) w w := ⟨.refl _ _, fun _ => Nat.le_refl _, fun t' g' cs sd _ h => ⟨cs, sd, hb _ _ _ h, rfl⟩, fun t' g' _ _ xs m _ h => ⟨xs, m, hb _ _ _ h, Nat.le_refl _, fun _ => rfl⟩⟩
  exact h.change e rfl (fun t' g' b hq => h.lt _ _ _ (hb _ _ _ hq)) (fun t' g' b hq => BlkOk.evo e (h.bl _ _ _ (hb _ _ _ hq)) rfl fun r _ => ⟨rfl, fun _ h => h⟩)
    (fun t1 g1 b1 t2 g2 b2 r h1 h2 => h.inj _ _ _ _ _ _ r (hb _ _ _ h1) (hb _ _ _ h2)) h.Alt (.refl (fun _ => False) w) (fun _ h => h.elim) (fun b o ha _ => .inl ha)
    (fun t' g' b r hq => h.own _ _ _ r (hb _ _ _ hq))

theorem setBl_bl {t g : Nat} {b0 : Blk} {t' g' : Nat} {b : Blk} (hb : (S.setBl t g b0).bl t' g' = some b) : (t' = t ∧ g' = g ∧ b = b0) ∨ (¬ (t' = t ∧ g' = g) ∧ S.bl t' g' = some b) := by
  simp only [St.setBl] at hb
  by_cases hc : t' = t ∧ g' = g
  · rw [hc.1, hc.2, upd2_same] at hb; simp at hb; exact .inl ⟨hc.1, hc.2, hb.symm⟩
  · rw [upd2_ne _ _ _ _ _ _ hc] at hb; exact .inr ⟨hc, hb⟩

theorem Evo.of_set_var {t g : Nat} {cs cs' : List AV} {sd sd' : Bool} (hb : S.bl t g = some (.var cs sd)) (k : Keeps A A' w w') : Evo A A' F F S (S.setBl t g (.var cs' sd')) w w' :=
  ⟨k, fun _ => Nat.le_refl _, fun t' g' c d _ h => by
      rcases setBl_bl h with ⟨rfl, rfl, hq⟩ | ⟨_, h⟩
      · exact ⟨cs, sd, hb, rfl⟩
      · exact ⟨c, d, h, rfl⟩,
    fun t' g' E sz xs m _ h => by
      rcases setBl_bl h with ⟨rfl, rfl, hq⟩ | ⟨_, h⟩
      · cases hq
      · exact ⟨xs, m, h, Nat.le_refl _, fun _ => rfl⟩⟩

theorem Evo.of_set_arr {t g E sz : Nat} {xs xs' : List PV} {m m' : Nat} (hb : S.bl t g = some (.arr E sz xs m)) (hl : xs.length ≤ xs'.length)
    (hF : ∀ t' g', ¬ (t' = t ∧ g' = g) → F' t' g' = F t' g') (hF2 : xs'.length = xs.length → F' t g = F t g) (k : Keeps A A' w w') :
    Evo A A' F F' S (S.setBl t g (.arr E sz xs' m')) w w' :=
  ⟨k, fun _ => Nat.le_refl _, fun t' g' c d _ h => by
      rcases setBl_bl h with ⟨rfl, rfl, hq⟩ | ⟨hn, h⟩
      · cases hq
      · exact ⟨c, d, h, hF _ _ hn⟩,
    fun t' g' E' sz' ys m2 _ h => by
      rcases setBl_bl h with ⟨rfl, rfl, hq⟩ | ⟨hn, h⟩
      · cases hq; exact ⟨xs, m, hb, hl, hF2⟩
      · exact ⟨ys, m2, h, Nat.le_refl _, fun _ => hF _ _ hn⟩⟩

/-- An owned row is shown: its cells stay as they are from now on. -/
theorem Inv.sealArr (h : Inv E N S A F a w) {t g E0 sz : Nat} {xs : List PV} {m : Nat} (hb : S.bl t g = some (.arr E0 sz xs m)) :
    ∃ A', Inv E N (S.setBl t g (.arr E0 sz xs xs.length)) A' F a w ∧ Keeps A A' w w ∧ (∀ b o, A' b o → A b o ∨ bOf (F t g) = some b) ∧ RepP A' w (.sl sz xs) (F t g) ∧
      (∀ i y r, xs[i]? = some y → bOf (F t g) = some r → RepCells A' w r (i * sz) y.cells) := by
  let A' : Nat → Nat → Prop := fun b o => A b o ∨ (bOf (F t g) = some b ∧ o < xs.length * sz)
  have k : Keeps A A' w w := ⟨fun _ _ h => .inl h, fun _ _ _ => rfl⟩
  obtain ⟨us, ho, hr, hs, hm, hA⟩ := h.bl t g _ hb
  have e : Evo A A' F F S (S.setBl t g (.arr E0 sz xs xs.length)) w w := Evo.of_set_arr hb (Nat.le_refl _) (fun _ _ _ => rfl) (fun _ => rfl) k
  refine ⟨A', ?_, k, fun b o ha => ha.imp id And.left, RepP.of_owns ho (hr.mono k) hs fun r hb o ho => .inr ⟨hb, ho⟩, fun i y r hy hb => ?_⟩
  · refine h.change e rfl (fun t' g' b hq => ?_) (fun t' g' b hq => ?_) (fun t1 g1 b1 t2 g2 b2 r h1 h2 => ?_) (fun b o ha => ?_) (.refl (fun _ => False) w) (fun _ h => h.elim) (fun b o ha hb' => ?_) (fun t' g' b r hq => ?_)
    · rcases setBl_bl hq with ⟨rfl, rfl, rfl⟩ | ⟨hn, hq⟩
      · exact h.lt _ _ _ hb
      · exact h.lt _ _ _ hq
    · rcases setBl_bl hq with ⟨rfl, rfl, rfl⟩ | ⟨hn, hq⟩
      · refine ⟨us, ho, hr.mono k, hs, Nat.le_refl _, fun r hr o ha => ?_⟩
        rcases ha with ha | ha
        · exact Nat.lt_of_lt_of_le (hA r hr o ha) (Nat.mul_le_mul_right _ hm)
        · exact ha.2
      · refine BlkOk.evo e (h.bl _ _ _ hq) rfl fun r hr => ⟨rfl, fun o ha => ?_⟩
        rcases ha with ha | ha
        · exact ha
        · exact absurd (h.inj _ _ _ _ _ _ r hq hb hr ha.1) hn
    · have q1 : ∃ b, S.bl t1 g1 = some b := by rcases setBl_bl h1 with ⟨rfl, rfl, rfl⟩ | ⟨hn, hq⟩ <;> exact ⟨_, ‹_›⟩
      have q2 : ∃ b, S.bl t2 g2 = some b := by rcases setBl_bl h2 with ⟨rfl, rfl, rfl⟩ | ⟨hn, hq⟩ <;> exact ⟨_, ‹_›⟩
      exact h.inj _ _ _ _ _ _ r q1.choose_spec q2.choose_spec
    · rcases ha with ha | ha
      · exact h.Alt _ _ ha
      · exact ownsRow_lt ho ha.1
    · rcases ha with ha | ha
      · exact .inl ha
      · rcases h.own _ _ _ _ hb ha.1 with h1 | h1
        · omega
        · exact .inr h1
    · have q1 : ∃ b, S.bl t' g' = some b := by rcases setBl_bl hq with ⟨rfl, rfl, rfl⟩ | ⟨hn, hq⟩ <;> exact ⟨_, ‹_›⟩
      exact h.own _ _ _ r q1.choose_spec
  · have hc : RepCells A' w r 0 (flat xs) := RepCells.of_vals (hr.mono k) (fun j v hj => by rw [Nat.zero_add]; exact ownsRow_cell ho hb hj) (fun j hj => by
      rw [Nat.zero_add]; rw [flat_length hs] at hj; exact .inr ⟨hb, hj⟩)
    have := hc.elem hs hy
    rwa [Nat.zero_add] at this

theorem RepAs.plain {cs : List PV} {us : List Value} (h : RepAs A F S w (cs.map .p) us) : RepPs A w cs us := h.to_p

theorem cell_of_heap {r o : Nat} {us : Array Value} {T : TypeId} {fr : Nat × Nat} (h : w.heap[r]? = some (.cells us T fr)) : w.cell? ⟨r, o, none⟩ = us[o]? := by
  simp [World.cell?, h]

/-- A variable is shown: it stays as it is from now on. -/
theorem Inv.sealVar (h : Inv E N S A F a w) {t g : Nat} {cs : List PV} {sd : Bool} (hb : S.bl t g = some (.var (cs.map .p) sd)) :
    ∃ A', Inv E N (S.setBl t g (.var (cs.map .p) true)) A' F a w ∧ Keeps A A' w w ∧ (∀ b o, A' b o → A b o ∨ bOf (F t g) = some b) ∧
      ∃ r, F t g = .pointer (some ⟨r, 0, none⟩) ∧ RepCells A' w r 0 cs := by
  let A' : Nat → Nat → Prop := fun b o => A b o ∨ (bOf (F t g) = some b ∧ o < cs.length)
  have k : Keeps A A' w w := ⟨fun _ _ h => .inl h, fun _ _ _ => rfl⟩
  obtain ⟨r, us, T, hF, hw, hr, h1, h2⟩ := h.bl t g _ hb
  have hbo : bOf (F t g) = some r := by rw [hF]; rfl
  have e : Evo A A' F F S (S.setBl t g (.var (cs.map .p) true)) w w := Evo.of_set_var hb k
  refine ⟨A', ?_, k, fun b o ha => ha.imp id And.left, r, hF, ?_⟩
  · refine h.change e rfl (fun t' g' b hq => ?_) (fun t' g' b hq => ?_) (fun t1 g1 b1 t2 g2 b2 r h1 h2 => ?_) (fun b o ha => ?_) (.refl (fun _ => False) w) (fun _ h => h.elim) (fun b o ha hb' => ?_) (fun t' g' b r hq => ?_)
    · rcases setBl_bl hq with ⟨rfl, rfl, rfl⟩ | ⟨hn, hq⟩
      · exact h.lt _ _ _ hb
      · exact h.lt _ _ _ hq
    · rcases setBl_bl hq with ⟨rfl, rfl, rfl⟩ | ⟨hn, hq⟩
      · exact ⟨r, us, T, hF, hw, RepAs.evo e hr, fun hs => by simp at hs, fun _ o ho => .inr ⟨hbo, by simpa using ho⟩⟩
      · refine BlkOk.evo e (h.bl _ _ _ hq) rfl fun r hr => ⟨rfl, fun o ha => ?_⟩
        rcases ha with ha | ha
        · exact ha
        · exact absurd (h.inj _ _ _ _ _ _ r hq hb hr ha.1) hn
    · have q1 : ∃ b, S.bl t1 g1 = some b := by rcases setBl_bl h1 with ⟨rfl, rfl, rfl⟩ | ⟨hn, hq⟩ <;> exact ⟨_, ‹_›⟩
      have q2 : ∃ b, S.bl t2 g2 = some b := by rcases setBl_bl h2 with ⟨rfl, rfl, rfl⟩ | ⟨hn, hq⟩ <;> exact ⟨_, ‹_›⟩
      exact h.inj _ _ _ _ _ _ r q1.choose_spec q2.choose_spec
    · rcases ha with ha | ha
      · exact h.Alt _ _ ha
      · rw [hbo] at ha; simp at ha; rw [← ha.1]; exact lt_of_heap hw
    · rcases ha with ha | ha
      · exact .inl ha
      · rcases h.own _ _ _ _ hb ha.1 with h1 | h1
        · omega
        · exact .inr h1
    · have q1 : ∃ b, S.bl t' g' = some b := by rcases setBl_bl hq with ⟨rfl, rfl, rfl⟩ | ⟨hn, hq⟩ <;> exact ⟨_, ‹_›⟩
      exact h.own _ _ _ r q1.choose_spec
  · refine RepCells.of_vals ((RepAs.plain hr).mono k) (fun j v hj => ?_) (fun j hj => ?_)
    · rw [Nat.zero_add, cell_of_heap hw]; simpa using hj
    · rw [Nat.zero_add]; exact .inr ⟨hbo, hj⟩
end
end Go.Proofs.Ytablmbhnimnccaa.Pw
