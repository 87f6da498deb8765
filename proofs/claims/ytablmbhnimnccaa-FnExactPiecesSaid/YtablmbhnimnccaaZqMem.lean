/- Pw, part 10: blocks that are made and written. No condition. -/
import Derived.Test.YtablmbhnimnccaaZqW
namespace Go.Proofs.Ytablmbhnimnccaa.Pw
section
variable {P : Program} {T : Nat → Option TI} {E : Entry} {N : Nat} {A : Nat → Nat → Prop} {F : Nat → Nat → Value} {S S' : St} {a : Act} {w w' : World}

theorem mk'_bl {d : Nat} {b0 : Blk} {t g : Nat} {b : Blk} (hb : (S.mk' d b0).bl t g = some b) : (t = d ∧ g = S.gen d ∧ b = b0) ∨ (¬ (t = d ∧ g = S.gen d) ∧ S.bl t g = some b) := by
  simp only [St.mk'] at hb
  by_cases hc : t = d ∧ g = S.gen d
  · rw [hc.1, hc.2, upd2_same] at hb; simp at hb; exact .inl ⟨hc.1, hc.2, hb.symm⟩
  · rw [upd2_ne _ _ _ _ _ _ hc] at hb; exact .inr ⟨hc, hb⟩

theorem Evo.of_mk {d : Nat} {b : Blk} {Fv : Value} {A' : Nat → Nat → Prop} (k : Keeps A A' w w') : Evo A A' F (upd2 F d (S.gen d) Fv) S (S.mk' d b) w w' :=
  ⟨k, fun t => by by_cases h : t = d
                  · subst h; simp [St.mk', upd_same]
                  · simp [St.mk', upd_ne _ _ _ _ h],
    fun t g cs sd hg hb => by
      rcases mk'_bl hb with ⟨rfl, rfl, _⟩ | ⟨hn, hb⟩
      · omega
      · exact ⟨cs, sd, hb, upd2_ne _ _ _ _ _ _ hn⟩,
    fun t g E0 sz xs m hg hb => by
      rcases mk'_bl hb with ⟨rfl, rfl, _⟩ | ⟨hn, hb⟩
      · omega
      · exact ⟨xs, m, hb, Nat.le_refl _, fun _ => upd2_ne _ _ _ _ _ _ hn⟩⟩

theorem Keeps.of_step {Wr : Nat → Prop} (h : Inv E N S A F a w) (ws : Wstep Wr w w') (hc : ∀ b o, A b o → Wr b → w'.cell? ⟨b, o, none⟩ = w.cell? ⟨b, o, none⟩) : Keeps A A w w' :=
  ⟨fun _ _ h => h, fun b o ha => by
    by_cases hw : Wr b
    · exact hc b o ha hw
    · have := ws.blk b (h.Alt b o ha) hw
      simp [World.cell?, this]⟩

theorem Inv.newBlk' (h : Inv E N S A F a w) (ws : Wstep (fun _ => False) w w') {d : Nat} {b : Blk} {Fv : Value} (hok : BlkOk A (upd2 F d (S.gen d) Fv) (S.mk' d b) w' d (S.gen d) b)
    (hnl : ∀ r, bOf Fv = some r → ¬ Live S F r) (hno : ∀ r, bOf Fv = some r → E.w.heap.size ≤ r ∨ r ∈ E.R) : Inv E N (S.mk' d b) A (upd2 F d (S.gen d) Fv) a w' := by
  have k : Keeps A A w w' := Keeps.of_step h ws fun _ _ _ h => h.elim
  have e : Evo A A F (upd2 F d (S.gen d) Fv) S (S.mk' d b) w w' := Evo.of_mk k
  have hF : ∀ {t g}, ¬ (t = d ∧ g = S.gen d) → upd2 F d (S.gen d) Fv t g = F t g := fun hn => upd2_ne _ _ _ _ _ _ hn
  have hFs : upd2 F d (S.gen d) Fv d (S.gen d) = Fv := upd2_same _ _ _ _
  refine h.change e rfl (fun t g b' hb => ?_) (fun t g b' hb => ?_) (fun t1 g1 b1 t2 g2 b2 r h1 h2 q1 q2 => ?_) (fun b o ha => Nat.lt_of_lt_of_le (h.Alt b o ha) ws.size) ws (fun _ h => h.elim) (fun b o ha _ => .inl ha) (fun t g b' r hb hr => ?_)
  · rcases mk'_bl hb with ⟨rfl, rfl, _⟩ | ⟨hn, hb⟩
    · simp [St.mk', upd_same]
    · have := h.lt _ _ _ hb
      by_cases ht : t = d
      · subst ht; simp [St.mk', upd_same]; omega
      · simp [St.mk', upd_ne _ _ _ _ ht]; exact this
  · rcases mk'_bl hb with ⟨rfl, rfl, rfl⟩ | ⟨hn, hb⟩
    · exact hok
    · have hb0 := h.bl _ _ _ hb
      exact BlkOk.evo e hb0 (hF hn) fun r hr => ⟨ws.blk r (hb0.bOf_lt hr) (fun h => h), fun _ h => h⟩
  · rcases mk'_bl h1 with ⟨rfl, rfl, rfl⟩ | ⟨n1, p1⟩
    · rcases mk'_bl h2 with ⟨rfl, rfl, rfl⟩ | ⟨n2, h2⟩
      · exact ⟨rfl, rfl⟩
      · rw [hFs] at q1; rw [hF n2] at q2
        exact absurd ⟨_, _, _, h2, q2⟩ (hnl r q1)
    · rcases mk'_bl h2 with ⟨rfl, rfl, rfl⟩ | ⟨n2, p2⟩
      · rw [hFs] at q2; rw [hF n1] at q1
        exact absurd ⟨_, _, _, p1, q1⟩ (hnl r q2)
      · rw [hF n1] at q1; rw [hF n2] at q2
        exact h.inj _ _ _ _ _ _ r p1 p2 q1 q2
  · rcases mk'_bl hb with ⟨rfl, rfl, rfl⟩ | ⟨n1, hb⟩
    · rw [hFs] at hr; exact hno r hr
    · rw [hF n1] at hr; exact h.own _ _ _ r hb hr

theorem Inv.newBlk (h : Inv E N S A F a w) (ws : Wstep (fun _ => False) w w') {d : Nat} {b : Blk} {Fv : Value} (hok : BlkOk A (upd2 F d (S.gen d) Fv) (S.mk' d b) w' d (S.gen d) b)
    (hnew : ∀ r, bOf Fv = some r → w.heap.size ≤ r) : Inv E N (S.mk' d b) A (upd2 F d (S.gen d) Fv) a w' :=
  h.newBlk' ws hok (fun r hr ⟨t, g, k, h1, h2⟩ => by have := hnew r hr; have := (h.bl _ _ _ h1).bOf_lt h2; omega) fun r hr => .inl (Nat.le_trans h.size (hnew r hr))

theorem Inv.updBlk (h : Inv E N S A F a w) {t g : Nat} {b0 b1 : Blk} (hb0 : S.bl t g = some b0) {Fv : Value} (ws : Wstep (fun b => bOf (F t g) = some b) w w')
    (e : Evo A A F (upd2 F t g Fv) S (S.setBl t g b1) w w') (hok : BlkOk A (upd2 F t g Fv) (S.setBl t g b1) w' t g b1)
    (hnew : ∀ r, bOf Fv = some r → bOf (F t g) = some r ∨ w.heap.size ≤ r) : Inv E N (S.setBl t g b1) A (upd2 F t g Fv) a w' := by
  have hF : ∀ {t' g'}, ¬ (t' = t ∧ g' = g) → upd2 F t g Fv t' g' = F t' g' := fun hn => upd2_ne _ _ _ _ _ _ hn
  have hFs : upd2 F t g Fv t g = Fv := upd2_same _ _ _ _
  refine h.change e rfl (fun t' g' b' hb => ?_) (fun t' g' b' hb => ?_) (fun t1 g1 b1 t2 g2 b2 r h1 h2 q1 q2 => ?_) (fun b o ha => Nat.lt_of_lt_of_le (h.Alt b o ha) ws.size) ws
    (fun b hb => h.own _ _ _ _ hb0 hb) (fun b o ha _ => .inl ha) (fun t' g' b' r hb hr => ?_)
  · rcases setBl_bl hb with ⟨rfl, rfl, _⟩ | ⟨hn, hb⟩
    · exact h.lt _ _ _ hb0
    · exact h.lt _ _ _ hb
  · rcases setBl_bl hb with ⟨rfl, rfl, rfl⟩ | ⟨hn, hb⟩
    · exact hok
    · have hq := h.bl _ _ _ hb
      exact BlkOk.evo e hq (hF hn) fun r hr => ⟨ws.blk r (hq.bOf_lt hr) (fun h' => hn (h.inj _ _ _ _ _ _ r hb hb0 hr h')), fun _ h => h⟩
  · rcases setBl_bl h1 with ⟨rfl, rfl, rfl⟩ | ⟨n1, p1⟩
    · rcases setBl_bl h2 with ⟨rfl, rfl, rfl⟩ | ⟨n2, h2⟩
      · exact ⟨rfl, rfl⟩
      · rw [hFs] at q1; rw [hF n2] at q2
        rcases hnew r q1 with q | q
        · exact h.inj _ _ _ _ _ _ r hb0 h2 q q2
        · have := (h.bl _ _ _ h2).bOf_lt q2; omega
    · rcases setBl_bl h2 with ⟨rfl, rfl, rfl⟩ | ⟨n2, p2⟩
      · rw [hFs] at q2; rw [hF n1] at q1
        rcases hnew r q2 with q | q
        · exact h.inj _ _ _ _ _ _ r p1 hb0 q1 q
        · have := (h.bl _ _ _ p1).bOf_lt q1; omega
      · rw [hF n1] at q1; rw [hF n2] at q2
        exact h.inj _ _ _ _ _ _ r p1 p2 q1 q2
  · rcases setBl_bl hb with ⟨rfl, rfl, rfl⟩ | ⟨n1, hb⟩
    · rw [hFs] at hr
      rcases hnew r hr with q | q
      · exact h.own _ _ _ r hb0 q
      · exact .inl (Nat.le_trans h.size q)
    · rw [hF n1] at hr; exact h.own _ _ _ r hb hr

theorem upd2_self (t g : Nat) : upd2 F t g (F t g) = F := by
  funext t' g'
  by_cases hc : t' = t ∧ g' = g
  · rw [hc.1, hc.2, upd2_same]
  · rw [upd2_ne _ _ _ _ _ _ hc]

theorem wstep_alloc (w : World) (o : Obj) : Wstep (fun _ => False) w (w.alloc o) := ⟨rfl, rfl, rfl, by simp, fun b hb _ => by simpa using heap_alloc_old w o b hb⟩

theorem Inv.newVar (h : Inv E N S A F a w) {cs : List AV} {us : Array Value} (hr : RepAs A F S w cs us.toList) (t : TypeId) (d : Nat) :
    Inv E N (S.mk' d (.var cs false)) A (upd2 F d (S.gen d) (.pointer (some ⟨w.heap.size, 0, none⟩))) a (w.alloc (.cells us t)) := by
  have ws := wstep_alloc w (.cells us t)
  have e : Evo A A F (upd2 F d (S.gen d) (.pointer (some ⟨w.heap.size, 0, none⟩))) S (S.mk' d (.var cs false)) w (w.alloc (.cells us t)) :=
    Evo.of_mk (Keeps.of_step h ws fun _ _ _ h => h.elim)
  refine h.newBlk ws ⟨w.heap.size, us, t, upd2_same _ _ _ _, by simpa using heap_alloc_new w _, RepAs.evo e hr, fun _ o ha => ?_, fun hq => by simp at hq⟩ fun r hr => by simp [bOf] at hr; omega
  have := h.Alt _ _ ha; omega

theorem RepA.newPt {d g : Nat} {b : Blk} {r : Nat} {Fv : Value} (hF : F d g = .pointer (some ⟨r, 0, none⟩)) (hg : g < S.gen d) : RepA A F S w (.pt d g 0) (.pointer (some ⟨r, 0, none⟩)) :=
  .pt _ _ _ _ hg (fun cs sd hb => ⟨r, hF, rfl⟩) rfl

theorem RepA.newOs {d g len : Nat} {E0 sz : Nat} {xs : List PV} {m : Nat} (hg : g < S.gen d) (hb : S.bl d g = some (.arr E0 sz xs m)) (hl : xs.length = len) (h1 : (F d g).oneCell' = true) : RepA A F S w (.os d g len) (F d g) :=
  .os _ _ _ _ hg (fun E' sz' xs' m' hb' => by rw [hb] at hb'; simp at hb'; obtain ⟨rfl, rfl, rfl, rfl⟩ := hb'; exact ⟨by omega, fun _ => rfl⟩) h1

theorem toCells_sound {x : AV} {u : Value} (hk : cellsOk x = true) (hx : RepA A F S w x u) : RepAs A F S w (toCells x) u.cells.toList := by
  have one : ∀ {x : AV} {u : Value}, RepA A F S w x u → u.oneCell' = true → toCells x = [x] → RepAs A F S w (toCells x) u.cells.toList := fun {x u} hx h1 ht => by
    rw [ht]
    have : u.cells = #[u] := by cases u <;> simp_all [Value.cells, Value.oneCell']
    rw [this]
    exact .cons _ _ _ _ hx h1 .nil
  cases x with
  | p q =>
    cases hx with
    | p _ _ hx =>
      cases hx with
      | lit => exact one (.p _ _ (.lit _)) hk rfl
      | ag cs us h => exact RepAs.of_p h
      | snil sz c hc ad => exact one (.p _ _ (.snil _ _ hc ad)) rfl rfl
      | sl sz xs ad c hl hc hs hsp h => exact one (.p _ _ (.sl _ _ _ _ hl hc hs hsp h)) rfl rfl
      | fn f caps us h => exact one (.p _ _ (.fn _ _ _ h)) rfl rfl
      | ro x off b o h => exact one (.p _ _ (.ro _ _ _ _ h)) rfl rfl
  | ag cs => cases hx with | ag _ us h => exact h
  | tu vs => simp [cellsOk] at hk
  | fn f caps => cases hx with | fn _ _ us h => exact one (.fn _ _ _ h) rfl rfl
  | pt t g off => cases hx with | pt _ _ _ _ hg hq h1 => exact one (.pt _ _ _ _ hg hq h1) h1 rfl
  | os t g len => cases hx with | os _ _ _ _ hg hq h1 => exact one (.os _ _ _ _ hg hq h1) h1 rfl
  | pe t g len i off => cases hx with | pe _ _ _ _ _ _ hg hq h1 => exact one (.pe _ _ _ _ _ _ hg hq h1) h1 rfl
  | un => simp [cellsOk] at hk

theorem run_newVar (t : TypeId) (v : Value) : (newVar t v).run P w = .ok ⟨w.heap.size, 0, none⟩ (w.alloc (.cells v.cells t)) := by
  simp [newVar, newRow]
end
end Go.Proofs.Ytablmbhnimnccaa.Pw
