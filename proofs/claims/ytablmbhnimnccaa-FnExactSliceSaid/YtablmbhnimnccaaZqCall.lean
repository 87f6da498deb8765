/- Pw, part 15: a call is sound. No condition. -/
import Derived.Test.YtablmbhnimnccaaZqOps1
import Derived.Lib.AppendZeros
namespace Go.Proofs.Ytablmbhnimnccaa.Pw
section
variable {P : Program} {T : Nat → Option TI} {E : Entry} {N : Nat} {A A' : Nat → Nat → Prop} {F : Nat → Nat → Value} {S S1 S' : St} {a : Act} {w w' : World} {K : St → Prop} {Q : Exit → Act → World → Prop}

theorem putBack_bl {l : List (Nat × Nat)} : ∀ {S : St} {outs : List (List PV)} {t g : Nat} {b : Blk}, (putBack S l outs).bl t g = some b →
    (∃ (i : Nat) (o : List PV), l[i]? = some (t, g) ∧ outs[i]? = some o ∧ b = .var (o.map .p) false) ∨ S.bl t g = some b := by
  induction l with
  | nil => intro S outs t g b h; exact .inr (by simpa [putBack] using h)
  | cons n l ih =>
    intro S outs t g b h
    cases outs with
    | nil => exact .inr (by simpa [putBack] using h)
    | cons o os =>
      rcases ih h with ⟨i, o', h1, h2, h3⟩ | h
      · exact .inl ⟨i + 1, o', by simpa using h1, by simpa using h2, h3⟩
      · rcases setBl_bl h with ⟨rfl, rfl, rfl⟩ | ⟨_, h⟩
        · exact .inl ⟨0, o, by simp, by simp, rfl⟩
        · exact .inr h

theorem putBack_tm (l : List (Nat × Nat)) : ∀ (S : St) (outs : List (List PV)), (putBack S l outs).tm = S.tm ∧ (putBack S l outs).gen = S.gen := by
  induction l with
  | nil => intro S outs; simp [putBack]
  | cons n l ih =>
    intro S outs
    cases outs with
    | nil => simp [putBack]
    | cons o os => exact ⟨(ih _ _).1, (ih _ _).2⟩

theorem RepTt.getRf {outs : List (List PV)} {us : List Value} {rs : List Nat} (h : RepTt A w (outs.map .rf) us rs) {i : Nat} {o : List PV} (ho : outs[i]? = some o) :
    ∃ r, us[i]? = some (.pointer (some ⟨r, 0, none⟩)) ∧ r ∈ rs ∧ RepT A w (.rf o) (.pointer (some ⟨r, 0, none⟩)) [r] := by
  induction outs generalizing us rs i with
  | nil => simp at ho
  | cons x xs ih =>
    cases h with
    | cons _ u _ us r rs h hs =>
      cases i with
      | zero =>
        simp at ho; subst ho
        cases h with
        | rf _ r us T hw hr hA => exact ⟨r, by simp, by simp, .rf _ _ _ _ hw hr hA⟩
      | succ i =>
        obtain ⟨r', h1, h2, h3⟩ := ih hs (by simpa using ho)
        exact ⟨r', by simpa using h1, List.mem_append_right _ h2, h3⟩

theorem Inv.afterCall (h : Inv E N S A F a w) {l : List (Nat × Nat)} {A1 : Nat → Nat → Prop} {rs : List Nat} (p : PassOk E N S A F a w S1 l A1 rs) {ro : List Nat} (af : After A1 w rs A' w' ro)
    {outs : List (List PV)} {r2 : List Nat} (hro : RepTt A' w' (outs.map .rf) (l.map fun n => F n.1 n.2) r2) (hl : outs.length = l.length) :
    Inv E N (putBack S1 l outs) A' F a w' ∧ (∀ b, Live (putBack S1 l outs) F b → b ∈ r2 ∨ (b < w.heap.size ∧ b ∉ rs)) := by
  obtain ⟨htm, hgen⟩ := putBack_tm l S1 outs
  have keep : Keeps A A' w w' := p.keeps.trans af.keeps
  -- every name was a name before
  have was1 : ∀ t g b, S1.bl t g = some b → ∃ b0, S.bl t g = some b0 := fun t g b hb => by
    have hg : g < S.gen t := by rw [← p.gen]; exact p.inv.lt _ _ _ hb
    cases b with
    | var cs sd => obtain ⟨c, h1, _⟩ := p.evo.var _ _ _ hg hb rfl; exact ⟨_, h1⟩
    | bld T0 g1 n => obtain ⟨c, h1, _⟩ := p.evo.var _ _ _ hg hb rfl; exact ⟨_, h1⟩
    | arr E0 sz xs m => obtain ⟨c, s, h1, _⟩ := p.evo.arr _ _ _ _ _ _ hg hb; exact ⟨_, h1⟩
  have was : ∀ t g b, (putBack S1 l outs).bl t g = some b → ∃ b0, S.bl t g = some b0 := fun t g b hb => by
    rcases putBack_bl hb with ⟨i, o, h1, h2, h3⟩ | hb
    · obtain ⟨_, ⟨cs, sd, h4⟩, _⟩ := p.names _ (List.mem_of_getElem? h1)
      exact ⟨_, h4⟩
    · exact was1 _ _ _ hb
  have e : Evo A A' F F S (putBack S1 l outs) w w' := ⟨keep, fun t => by rw [hgen, p.gen]; exact Nat.le_refl _,
    fun t g b hg hb hp => by
      rcases putBack_bl hb with ⟨i, o, h1, h2, h3⟩ | hb
      · obtain ⟨_, ⟨cs0, sd0, h4⟩, _⟩ := p.names _ (List.mem_of_getElem? h1)
        exact ⟨_, h4, rfl, rfl⟩
      · obtain ⟨c, h1, h2, _⟩ := p.evo.var _ _ _ hg hb hp; exact ⟨c, h1, h2, rfl⟩,
    fun t g E0 sz xs m hg hb => by
      rcases putBack_bl hb with ⟨i, o, h1, h2, h3⟩ | hb
      · cases h3
      · exact p.evo.arr _ _ _ _ _ _ hg hb⟩
  have live1 : ∀ t g b r, S1.bl t g = some b → bOf (F t g) = some r → r < w.heap.size ∧ r ∉ rs := fun t g b r hb hr =>
    ⟨(p.inv.bl _ _ _ hb).bOf_lt hr, fun hq => p.gone r hq ⟨_, _, _, hb, hr⟩⟩
  refine ⟨?_, fun b ⟨t, g, k, h1, h2⟩ => ?_⟩
  · refine h.change e (htm.trans p.tm) (fun t g b hb => ?_) (fun t g b hb => ?_) (fun t1 g1 b1 t2 g2 b2 r h1 h2 q1 q2 => ?_) af.Alt (Wr := fun b => b ∈ rs) ⟨af.os, af.tape, af.output, af.size, af.old⟩ (fun b hb => ?_) (fun b o ha hb => ?_) (fun t g b r hb hr => ?_)
    · obtain ⟨b0, h0⟩ := was _ _ _ hb
      rw [hgen, p.gen]; exact h.lt _ _ _ h0
    · rcases putBack_bl hb with ⟨i, o, h1, h2, rfl⟩ | hb1
      · obtain ⟨r, q1, q2, q3⟩ := hro.getRf h2
        simp only [List.getElem?_map, h1, Option.map_some, Option.some.injEq] at q1
        cases q3 with
        | rf _ _ us T hw hr hA => exact ⟨r, us, T, q1, hw, RepAs.of_p hr, fun _ => hA, fun hq => by simp at hq⟩
      · cases b with
        | arr E0 sz xs m =>
          obtain ⟨us, ho, hr, hs, hm, hA⟩ := p.inv.bl _ _ _ hb1
          refine ⟨us, ownsRow_heap ho fun r hr => ?_, hr.mono af.keeps, hs, hm, fun r hr o ha => ?_⟩
          · obtain ⟨q1, q2⟩ := live1 _ _ _ r hb1 hr
            exact af.old r q1 q2
          · obtain ⟨q1, q2⟩ := live1 _ _ _ r hb1 hr
            rcases af.Anew r o ha q1 with q | q
            · exact hA r hr o q
            · exact absurd q q2
        | var cs sd =>
          obtain ⟨r, us, T, hF, hw, _, hs1, hs2⟩ := p.inv.bl _ _ _ hb1
          obtain ⟨sd0, h0⟩ := p.same _ _ _ _ hb1
          obtain ⟨r0, us0, T0, hF0, hw0, hr0, _, _⟩ := h.bl _ _ _ h0
          rw [hF] at hF0; simp at hF0; subst hF0
          rw [hw] at hw0; simp at hw0; obtain ⟨rfl, rfl⟩ := hw0
          obtain ⟨q1, q2⟩ := live1 _ _ _ r hb1 (by rw [hF]; rfl)
          refine ⟨r, us, T, hF, (af.old r q1 q2).trans hw, RepAs.evo e hr0, fun hq o ha => ?_, fun hq o ho => af.keeps.sub _ _ (hs2 hq o ho)⟩
          rcases af.Anew r o ha q1 with q | q
          · exact hs1 hq o q
          · exact absurd q q2
        | bld T0 g1 n =>
          obtain ⟨r, pp, u, hF, hw, hp, _, hA⟩ := p.inv.bl _ _ _ hb1
          obtain ⟨r0, p0, u0, hF0, hw0, _, hu0, _⟩ := h.bl _ _ _ (p.sameB _ _ _ _ _ hb1)
          rw [hF] at hF0; simp at hF0; subst hF0
          rw [hw] at hw0; simp at hw0; obtain ⟨rfl, rfl⟩ := hw0
          obtain ⟨q1, q2⟩ := live1 _ _ _ r hb1 (by rw [hF]; rfl)
          refine ⟨r, pp, u, hF, (af.old r q1 q2).trans hw, hp, RepA.evo e hu0, fun o ha => ?_⟩
          rcases af.Anew r o ha q1 with q | q
          · exact hA o q
          · exact absurd q q2
    · obtain ⟨b1', h1'⟩ := was _ _ _ h1
      obtain ⟨b2', h2'⟩ := was _ _ _ h2
      exact h.inj _ _ _ _ _ _ r h1' h2' q1 q2
    · obtain ⟨t, g, k, h1, h2⟩ := p.was b hb
      exact h.own _ _ _ b h1 h2
    · have hbw : b < w.heap.size := Nat.lt_of_lt_of_le hb h.size
      rcases af.Anew b o ha hbw with q | q
      · rcases p.sub b o q with q | ⟨t, g, k, h1, h2⟩
        · exact .inl q
        · rcases h.own _ _ _ b h1 h2 with q | q
          · omega
          · exact .inr q
      · obtain ⟨t, g, k, h1, h2⟩ := p.was b q
        rcases h.own _ _ _ b h1 h2 with q | q
        · omega
        · exact .inr q
    · obtain ⟨b0, h0⟩ := was _ _ _ hb
      exact h.own _ _ _ r h0 hr
  · rcases putBack_bl h1 with ⟨i, o, q1, q2, rfl⟩ | hb1
    · obtain ⟨r, p1, p2, p3⟩ := hro.getRf q2
      simp only [List.getElem?_map, q1, Option.map_some, Option.some.injEq] at p1
      rw [p1] at h2; simp [bOf] at h2; subst h2
      exact .inl p2
    · exact .inr (live1 _ _ _ b hb1 h2)

structure Own (E : Entry) (S : St) (F : Nat → Nat → Value) (w : World) (rs : List Nat) : Prop where
  nodup : rs.Nodup
  dead : ∀ r ∈ rs, ¬ Live S F r
  own : ∀ r ∈ rs, E.w.heap.size ≤ r ∨ r ∈ E.R

theorem live_mk {d : Nat} {b : Blk} {Fv : Value} {r : Nat} (h : Live (S.mk' d b) (upd2 F d (S.gen d) Fv) r) : Live S F r ∨ bOf Fv = some r := by
  obtain ⟨t, g, k, h1, h2⟩ := h
  rcases mk'_bl h1 with ⟨rfl, rfl, _⟩ | ⟨hn, h1⟩
  · rw [upd2_same] at h2; exact .inr h2
  · rw [upd2_ne _ _ _ _ _ _ hn] at h2; exact .inl ⟨_, _, _, h1, h2⟩

theorem Recv.sound {d : Nat} {x : TV} {v : AV} (hr : Recv d S x v S') (h : Inv E N S A F a w) {u : Value} {rs : List Nat} (hx : RepT A w x u rs) (ho : Own E S F w rs) :
    ∃ F', Inv E N S' A F' a w ∧ RepA A F' S' w v u ∧ Evo A A F F' S S' w w ∧ (∀ r, Live S' F' r → Live S F r ∨ r ∈ rs) := by
  cases hr with
  | p x => cases hx with | p _ _ hx => exact ⟨F, h, .p _ _ hx, .refl, fun r hr => .inl hr⟩
  | rf cs =>
    cases hx with
    | rf _ r us T hw hr hA =>
      have e : Evo A A F (upd2 F d (S.gen d) (.pointer (some ⟨r, 0, none⟩))) S (S.mk' d (.var (cs.map .p) false)) w w := Evo.of_mk (.refl _ _)
      refine ⟨_, h.newBlk' (.refl _ w) ⟨r, us, T, upd2_same _ _ _ _, hw, RepAs.of_p hr, fun _ => hA, fun hq => by simp at hq⟩ (fun q hq => ?_) (fun q hq => ?_), RepA.newPt (b := .var (cs.map .p) false) (Fv := undef) (upd2_same _ _ _ _) (by simp [St.mk', upd_same]), e, fun q hq => ?_⟩
      · simp [bOf] at hq; subst hq; exact ho.dead _ (by simp)
      · simp [bOf] at hq; subst hq; exact ho.own _ (by simp)
      · rcases live_mk hq with hq | hq
        · exact .inl hq
        · simp [bOf] at hq; subst hq; exact .inr (by simp)
  | ow E0 sz xs m =>
    cases hx with
    | ow _ _ _ _ _ us hw hr hs hm hA =>
      have e : Evo A A F (upd2 F d (S.gen d) u) S (S.mk' d (.arr E0 sz xs m)) w w := Evo.of_mk (.refl _ _)
      have h1c := ownsRow_one hw
      refine ⟨_, h.newBlk' (Fv := u) (.refl _ w) ⟨us, by rw [upd2_same]; exact hw, hr, hs, hm, fun q hq o ha => by rw [upd2_same] at hq; exact hA q hq o ha⟩ (fun q hq => ho.dead q (by rw [hq]; simp)) (fun q hq => ho.own q (by rw [hq]; simp)), ?_, e, fun q hq => ?_⟩
      · have := RepA.newOs (A := A) (F := upd2 F d (S.gen d) u) (S := S.mk' d (.arr E0 sz xs m)) (w := w) (d := d) (g := S.gen d) (len := xs.length) (E0 := E0) (sz := sz) (xs := xs) (m := m)
          (by simp [St.mk', upd_same]) (by simp [St.mk', upd2_same]) rfl (by rw [upd2_same]; exact h1c)
        rwa [upd2_same] at this
      · rcases live_mk hq with hq | hq
        · exact .inl hq
        · exact .inr (by rw [hq]; simp)

theorem Own.left {r1 r2 : List Nat} (h : Own E S F w (r1 ++ r2)) : Own E S F w r1 :=
  ⟨(List.nodup_append.1 h.nodup).1, fun r hr => h.dead r (List.mem_append_left _ hr), fun r hr => h.own r (List.mem_append_left _ hr)⟩

theorem Own.right {F' : Nat → Nat → Value} {r1 r2 : List Nat} (h : Own E S F w (r1 ++ r2)) (hl : ∀ r, Live S' F' r → Live S F r ∨ r ∈ r1) : Own E S' F' w r2 :=
  ⟨(List.nodup_append.1 h.nodup).2.1, fun r hr hq => by
    rcases hl r hq with q | q
    · exact h.dead r (List.mem_append_right _ hr) q
    · exact (List.nodup_append.1 h.nodup).2.2 r q r hr rfl, fun r hr => h.own r (List.mem_append_right _ hr)⟩

theorem RecvL.soundS {d : Nat} {xs : List TV} : ∀ {S S' : St} {F : Nat → Nat → Value} {vs : List AV} {us : List Value} {rs : List Nat}, RecvL d S xs vs S' → Inv E N S A F a w → RepTs A w xs us rs → Own E S F w rs →
    ∃ F', Inv E N S' A F' a w ∧ RepAs A F' S' w vs us ∧ Evo A A F F' S S' w w := by
  induction xs with
  | nil => intro S S' F vs us rs hr h hx ho; cases hr; cases hx; exact ⟨F, h, .nil, .refl⟩
  | cons x xs ih =>
    intro S S' F vs us rs hr h hx ho
    cases hr with
    | cons _ S1 _ _ v _ vs h1 hs =>
      cases hx with
      | cons _ u _ us r rs hx hu hxs =>
        obtain ⟨F1, i1, ra, e1, l1⟩ := h1.sound h hx ho.left
        obtain ⟨F2, i2, ras, e2⟩ := ih hs i1 hxs (ho.right l1)
        exact ⟨F2, i2, .cons _ _ _ _ (RepA.evo e2 ra) hu ras, e1.trans e2⟩

theorem RecvL.soundT {d : Nat} {xs : List TV} : ∀ {S S' : St} {F : Nat → Nat → Value} {vs : List AV} {us : List Value} {rs : List Nat}, RecvL d S xs vs S' → Inv E N S A F a w → RepTt A w xs us rs → Own E S F w rs →
    ∃ F', Inv E N S' A F' a w ∧ RepTu A F' S' w vs us ∧ Evo A A F F' S S' w w := by
  induction xs with
  | nil => intro S S' F vs us rs hr h hx ho; cases hr; cases hx; exact ⟨F, h, .nil, .refl⟩
  | cons x xs ih =>
    intro S S' F vs us rs hr h hx ho
    cases hr with
    | cons _ S1 _ _ v _ vs h1 hs =>
      cases hx with
      | cons _ u _ us r rs hx hxs =>
        obtain ⟨F1, i1, ra, e1, l1⟩ := h1.sound h hx ho.left
        obtain ⟨F2, i2, ras, e2⟩ := ih hs i1 hxs (ho.right l1)
        exact ⟨F2, i2, .cons _ _ _ _ (RepA.evo e2 ra) ras, e1.trans e2⟩

theorem RecvV.sound {d : Nat} {x : TV} {v : AV} (hr : RecvV d S x v S') (h : Inv E N S A F a w) {u : Value} {rs : List Nat} (hx : RepT A w x u rs) (ho : Own E S F w rs) :
    ∃ F', Inv E N S' A F' a w ∧ RepA A F' S' w v u := by
  cases hr with
  | one _ _ _ hr => obtain ⟨F', h1, h2, _⟩ := hr.sound h hx ho; exact ⟨F', h1, h2⟩
  | ag _ xs vs hr =>
    cases hx with
    | ag _ us _ hx => obtain ⟨F', h1, h2, _⟩ := hr.soundS h hx ho; exact ⟨F', h1, .ag _ _ h2⟩
  | tu _ xs vs hr =>
    cases hx with
    | tu _ us _ hx => obtain ⟨F', h1, h2, _⟩ := hr.soundT h hx ho; exact ⟨F', h1, .tu _ _ h2⟩

theorem callee_val (hI : Inv E N S A F a w) {f : Operand} {g : FuncId} {caps : List AV} (h : callee S f = some (g, caps)) : ∃ us : Array Value, a.eval f = .func (.func g) #[] us ∧ RepTu A F S w caps us.toList := by
  have hf := hI.ev f
  unfold callee at h
  have up : ∀ {cs : List AV} {us : List Value}, RepAs A F S w cs us → RepTu A F S w cs us := fun {cs us} hr => by
    induction cs generalizing us with
    | nil => cases hr; exact .nil
    | cons c cs ih => cases hr with | cons _ u _ us h h1 hs => exact .cons _ _ _ _ h (ih hs)
  split at h
  · rename_i hc
    rw [hc] at hf
    simp at h; obtain ⟨rfl, rfl⟩ := h
    obtain ⟨us, hu, hr⟩ := repA_pfn hf
    exact ⟨us, hu, up (RepAs.of_p hr)⟩
  · rename_i hc
    rw [hc] at hf
    simp at h; obtain ⟨rfl, rfl⟩ := h
    obtain ⟨us, hu, hr⟩ := repA_fn hf
    exact ⟨us, hu, up hr⟩
  · simp at h

theorem RepTu.append {xs ys : List AV} {us vs : List Value} (h : RepTu A F S w xs us) (k : RepTu A F S w ys vs) : RepTu A F S w (xs ++ ys) (us ++ vs) := by
  induction xs generalizing us with
  | nil => cases h; exact k
  | cons x xs ih => cases h with | cons _ u _ us h hs => exact .cons _ _ _ _ h (ih hs)

theorem call_sound (hI : Inv E N S A F a w) {dst : Option Tmp} {ty : Nat} {f : Operand} {args : Array Operand} {tys : Array TypeId} {pos : String} {after : Array Edge} {guard : Option (Nat × Bool)} (hd : ∀ t, dst = some t → t < N)
    {g : FuncId} {caps : List AV} (hc : callee S f = some (g, caps)) {targs : List TV} {S1 S2 : St} {l : List (Nat × Nat)} {res : TV} {outs : List (List PV)} {v : AV}
    (hp : PassL S (args.toList.map S.ev ++ caps) targs S1 l) (hf : Fn P g targs res outs) (hl : outs.length = l.length) (hr : RecvV (dst.getD 0) (putBack S1 l outs) res v S2) (hk : K (S2.put dst v)) :
    Oper.wp P ⟨dst, .call ⟨.value f, args, tys⟩, ty, pos, after, guard⟩ a w (Nx E N K) Q := by
  obtain ⟨us, hfv, hcaps⟩ := callee_val hI hc
  obtain ⟨⟨fn, hfn, hbody, hname⟩, hcall⟩ := hf
  obtain ⟨A1, rs, pk, hta, hnd, hrf⟩ := hp.sound hI ((hI.evs args.toList).append hcaps)
  have hrun : (execOp a.eval ⟨dst, .call ⟨.value f, args, tys⟩, ty, pos, after, guard⟩).run P w = .ok (.enter g (args.map a.eval ++ us)) w := by
    have hb : fn.body.isNone = false := by cases hq : fn.body <;> simp_all
    simp only [execOp, resolve, hfv, Deferred.ofValue, Sem.run_bind, Sem.run_pure, Result.andThen_ok, invoke, callFunc, run_program, hfn, hname, hb, Bool.false_eq_true, if_false, Array.empty_append]
  have hC := hcall A1 w _ rs hta hnd pk.inv.Alt
  have harr : (args.toList.map a.eval ++ us.toList).toArray = args.map a.eval ++ us := by
    apply Array.ext'; simp
  rw [harr] at hC
  unfold Oper.wp
  rw [hrun, Oper.upon_enter]
  refine hC.mono fun e w' he => ?_
  obtain ⟨u, A', r1, r2, rfl, hres, hro, af⟩ := he
  rw [hrf] at hro
  obtain ⟨i3, hlive⟩ := hI.afterCall pk af hro hl
  have hown : Own E (putBack S1 l outs) F w' r1 := by
    refine ⟨(List.nodup_append.1 af.nodup).1, fun r hr hq => ?_, fun r hr => ?_⟩
    · rcases hlive r hq with q | ⟨q1, q2⟩
      · exact (List.nodup_append.1 af.nodup).2.2 r hr r q rfl
      · rcases af.own r (List.mem_append_left _ hr) with q | q
        · omega
        · exact q2 q
    · rcases af.own r (List.mem_append_left _ hr) with q | q
      · exact .inl (Nat.le_trans hI.size q)
      · obtain ⟨t, g, k, h1, h2⟩ := pk.was r q
        exact hI.own _ _ _ r h1 h2
  obtain ⟨F', i4, hra⟩ := hr.sound i3 hres hown
  exact ⟨_, _, _, i4.put hra hd, hk⟩
end
end Go.Proofs.Ytablmbhnimnccaa.Pw
/- Pw, part 15b: an owned row cut short; noughts behind nothing. No condition. -/
namespace Go.Proofs.Ytablmbhnimnccaa.Pw
section
variable {P : Program} {T : Nat → Option TI} {E : Entry} {N : Nat} {A A' : Nat → Nat → Prop} {F : Nat → Nat → Value} {S S1 S' : St} {a : Act} {w w' : World} {K : St → Prop} {Q : Exit → Act → World → Prop}

theorem flat_takeN {sz : Nat} : ∀ {xs : List PV} (k : Nat), (∀ x ∈ xs, x.size = sz) → flat (xs.take k) = (flat xs).take (k * sz)
  | [], k, _ => by simp [flat]
  | x :: xs, 0, _ => by simp [flat]
  | x :: xs, k + 1, h => by
    have hx : x.cells.length = sz := h x (by simp)
    have h2 : (k + 1) * sz = x.cells.length + k * sz := by rw [hx, Nat.add_mul]; omega
    simp only [List.take_succ_cons, flat]
    rw [flat_takeN k fun y hy => h y (List.mem_cons_of_mem _ hy), h2, List.take_length_add_append]

theorem ownsRow_take {E0 sz n k : Nat} {g cap : Nat} {us : List Value} (h : w.ownsRow 0 E0 sz (.slice (some ⟨g, 0, none⟩) n cap) n us) (hk : k ≤ n) : w.ownsRow 0 E0 sz (.slice (some ⟨g, 0, none⟩) k cap) k (us.take (k * sz)) := by
  have hks : k * sz ≤ n * sz := Nat.mul_le_mul_right _ hk
  refine ⟨by rw [List.length_take, h.1]; omega, .inr ?_⟩
  rcases h.2 with ⟨h1, _⟩ | ⟨g', cap', cur, h1, q1, q2, q3, q4, q5, q6⟩
  · simp at h1
  · simp at h1
    obtain ⟨rfl, rfl⟩ := h1
    exact ⟨g, cap, cur, rfl, q1, q2, by omega, q4, q5, by rw [← q6, List.take_take]; congr 1; omega⟩

theorem trunc_sound (hT : TOk P T) (hI : Inv E N S A F a w) {dst : Option Tmp} {t ty : Nat} {x h : Operand} {pos : String} {after : Array Edge} {guard : Option (Nat × Bool)} (hd : ∀ t, dst = some t → t < N)
    {ti te : TI} {e : Nat} (hti : T t = some ti) (hkd : ti.kd = .sl e) (hte : T e = some te) {t' g len E0 sz m k : Nat} {xs : List PV} (hsz : te.size = sz) (hx : S.ev x = .os t' g len) (hb : S.bl t' g = some (.arr E0 sz xs m))
    (hl : xs.length = len) (hh : natOf (S.ev h) = some k) (hmk : m ≤ k) (hkl : k ≤ len) (hk : newBl (S.drop t' g) dst (.arr E0 sz (xs.take k) m) (fun d g => .os d g k) K) :
    Oper.wp P ⟨dst, .slice t x none (some h) none, ty, pos, after, guard⟩ a w (Nx E N K) Q := by
  cases dst with
  | none => exact hk.elim
  | some d =>
  obtain ⟨dd, hdd, hk2⟩ := hT.kind hti
  rw [hkd] at hk2
  simp only [TKok] at hk2
  subst hk2
  have hxr := hI.ev x
  rw [hx] at hxr
  have hv := natOf_val hh (hI.ev h)
  obtain ⟨us, ho, hr, hs, hml, hA⟩ := hI.bl _ _ _ hb
  cases hxr with
  | os _ _ _ u hg hq h1 =>
    have hu := (hq _ _ _ _ hb).2 hl
    subst hl
    have i1 := hI.dropBl t' g
    have dead : ∀ r, bOf (F t' g) = some r → ¬ Live (S.drop t' g) F r := fun r hr ⟨t2, g2, b2, h2, h3⟩ => (drop_bl h2).1 (hI.inj _ _ _ _ _ _ r (drop_bl h2).2 hb h3 hr)
    -- the value, cut
    have hcut : ∃ v, (execOp a.eval ⟨some d, .slice t x none (some h) none, ty, pos, after, guard⟩).run P w = .ok (.value v) w ∧ w.ownsRow 0 E0 sz v k (us.take (k * sz)) ∧ bOf v = bOf (F t' g) := by
      rcases ho.2 with ⟨hF, hn⟩ | ⟨g0, cap, cur, hF, q1, q2, q3, q4, q5, q6⟩
      · have hk0 : k = 0 := by omega
        subst hk0
        have hb2 := run_bounds (P := P) (w := w) (isS := true) (len := 0) (cap := 0) (l := 0) (h := 0) (m := 0) (lo := none) (hi := some (.int .i64 (0 : Nat))) (mx := none) (.inl ⟨rfl, rfl⟩) (.inr rfl) (.inl ⟨rfl, rfl⟩) (Nat.le_refl _) (Nat.le_refl _)
        refine ⟨.slice none 0 0, ?_, ⟨by simp, .inl ⟨rfl, rfl⟩⟩, by rw [hF]⟩
        have hux : a.eval x = .slice none 0 0 := hu.trans hF
        simp only [execOp, Instr.sliceAt, Sem.run_bind, run_underlying hdd, Result.andThen_ok, hux, Instr.slice, Option.map_none, Option.map_some, hv, hb2, hT.size hte, Sem.run_pure, if_true, Nat.sub_self]
      · have hb2 := run_bounds (P := P) (w := w) (isS := true) (len := xs.length) (cap := cap) (l := 0) (h := k) (m := cap) (lo := none) (hi := some (.int .i64 k)) (mx := none) (.inl ⟨rfl, rfl⟩) (.inr rfl) (.inl ⟨rfl, rfl⟩) (Nat.zero_le _) (by omega)
        have hux : a.eval x = .slice (some ⟨g0, 0, none⟩) xs.length cap := hu.trans hF
        have ho2 : w.ownsRow 0 E0 sz (.slice (some ⟨g0, 0, none⟩) k cap) k (us.take (k * sz)) := ownsRow_take (by rw [← hF]; exact ho) hkl
        refine ⟨.slice (some ⟨g0, 0, none⟩) k cap, ?_, ho2, by rw [hF]; rfl⟩
        simp only [execOp, Instr.sliceAt, Sem.run_bind, run_underlying hdd, Result.andThen_ok, hux, Instr.slice, Option.map_none, Option.map_some, hv, hb2, hT.size hte, Sem.run_pure, Nat.sub_zero, Nat.zero_mul, Addr.add_lit]
        by_cases hc : cap = 0
        · simp [hc]
        · simp [hc]
    obtain ⟨v, hrun, ho2, hbv⟩ := hcut
    have hlk : (xs.take k).length = k := by rw [List.length_take]; omega
    have h2 : Inv E N ((S.drop t' g).mk' d (.arr E0 sz (xs.take k) m)) A (upd2 F d ((S.drop t' g).gen d) v) a w := by
      refine i1.newBlk' (.refl _ w) ⟨us.take (k * sz), ?_, ?_, fun x hx => hs x (List.mem_of_mem_take hx), by omega, fun r hbr o ha => ?_⟩ (fun r hbr => dead r (by rw [← hbv]; exact hbr)) (fun r hbr => hI.own _ _ _ r hb (by rw [← hbv]; exact hbr))
      · rw [upd2_same, hlk]; exact ho2
      · rw [flat_takeN k hs]; exact hr.take _
      · rw [upd2_same, hbv] at hbr
        exact hA r hbr o ha
    have h1c : v.oneCell' = true := by rcases ho2.2 with ⟨rfl, _⟩ | ⟨g, cap, cur, rfl, _⟩ <;> rfl
    have hra : RepA A (upd2 F d ((S.drop t' g).gen d) v) ((S.drop t' g).mk' d (.arr E0 sz (xs.take k) m)) w (.os d ((S.drop t' g).gen d) k) v := by
      have := RepA.newOs (A := A) (F := upd2 F d ((S.drop t' g).gen d) v) (S := (S.drop t' g).mk' d (.arr E0 sz (xs.take k) m)) (w := w) (d := d) (g := (S.drop t' g).gen d) (len := k) (E0 := E0) (sz := sz) (xs := xs.take k) (m := m)
        (by simp [St.mk', upd_same]) (by simp [St.mk', upd2_same]) hlk (by rw [upd2_same]; exact h1c)
      rwa [upd2_same] at this
    exact wp_val hrun ⟨_, _, _, h2.put hra hd, hk⟩

theorem zeros_sound (hT : TOk P T) (hI : Inv E N S A F a w) {dst : Option Tmp} {ty : Nat} {args : Array Operand} {tys : Array TypeId} {pos : String} {after : Array Edge} {guard : Option (Nat × Bool)} (hd : ∀ t, dst = some t → t < N)
    {x y : Operand} {t tn e n : Nat} {ki : IntKind} {ti te tin : TI} (ha : args.toList = [x, y]) (hts : tys.toList = [t, tn]) (hti : T t = some ti) (hkd : ti.kd = .sl e) (hte : T e = some te) (htn : T tn = some tin) (hkn : tin.kd = .int ki)
    (hx : S.ev x = .p (.lit nilSl)) (hy : natOf (S.ev y) = some n) (hn0 : 0 < n) (h0 : 0 < te.size) (hb : n * te.bytes ≤ 140737488355328) (hn : n ≤ 140737488355328)
    (hk : newBl S dst (.arr e te.size (List.replicate n (zeroP te)) 0) (fun d g => .os d g n) K) :
    Oper.wp P ⟨dst, .call ⟨.builtin .append, args, tys⟩, ty, pos, after, guard⟩ a w (Nx E N K) Q := by
  obtain ⟨d, hdd, hk2⟩ := hT.kind hti
  rw [hkd] at hk2
  simp only [TKok] at hk2
  subst hk2
  obtain ⟨dn, hdn, hk3⟩ := hT.kind htn
  rw [hkn] at hk3
  simp only [TKok] at hk3
  subst hk3
  obtain ⟨ie, hie, hs, hby, hz, hcz⟩ := hT.info hte
  obtain ⟨hzr, hzs⟩ := zeroP_cells (A := A) (w := w) hT hte
  have v1 : a.eval x = nilSl := repA_lit (by rw [← hx]; exact hI.ev x)
  have v2 := natOf_val hy (hI.ev y)
  have e1 : args = #[x, y] := by apply Array.ext'; simpa using ha
  have e2 : tys = #[t, tn] := by apply Array.ext'; simpa using hts
  subst e1; subst e2
  have hrun := Go.Lib.run_append_nil_zeros (P := P) w t tn ty e ie te.zero .i64 ki hdd hdn hie hz n hn0 (by rw [hs]; exact h0) (by omega) (by rw [hby]; omega)
  have hge := grownCap_ge w n 0 e
  have hmx := grownCap_le_maxLen w n 0 e (by simp [maxLen]; omega)
  generalize grownCap w n 0 e = cap at hrun hge hmx
  have hzc : ∀ j, Builtin.zeroCells te.zero.cells j = madeCells te.zero.cells (j * te.size) := fun j => by simp [Builtin.zeroCells, madeCells, hcz]
  rw [hzc, hzc] at hrun
  have hszA : ∀ j, (madeCells te.zero.cells j).size = j := fun j => by simp [madeCells]
  refine wp_val (u := .slice (some ⟨w.heap.size, 0, none⟩) n cap) (w' := w.drew.alloc (.cells (madeCells te.zero.cells (n * te.size) ++ madeCells te.zero.cells ((cap - n) * te.size)) e)) ?_ ?_
  · simp only [execOp, resolve, invoke, builtin, Sem.run_bind, Sem.run_pure, Result.andThen_ok, List.map_toArray, List.map_cons, List.map_nil, v1, v2, nilSl, hrun]
  · refine newBl_arr (xs := List.replicate n (zeroP te)) (us := (List.replicate n te.zero.cells.toList).flatten) hI (w' := w.drew.alloc _) ?_ ?_ (fun r hr => by simp [bOf] at hr; omega) (repl_flat hzr n) (fun x hx => by rw [List.eq_of_mem_replicate hx]; exact hzs) hd (by simp) hk
    · exact (wstep_draw w).trans (wstep_alloc w.drew _)
    · rw [List.length_replicate]
      refine ⟨?_, .inr ⟨w.heap.size, cap, _, rfl, Nat.zero_le _, heap_alloc_new w.drew _, hge, hmx, ?_, ?_⟩⟩
      · rw [← madeCells_flat te hcz h0 n]; simp [hszA]
      · rw [Array.size_append, hszA, hszA, ← Nat.add_mul]; congr 1; omega
      · rw [← madeCells_flat te hcz h0 n, Array.toList_append, List.take_append_of_le_length (by simp [hszA]), List.take_of_length_le (by simp [hszA])]

theorem opT_sound (hT : TOk P T) (hI : Inv E N S A F a w) {o : Oper} (hd : ∀ t, o.dst = some t → t < N) (hk : opT T o S K) : o.wp P a w (Nx E N K) Q := by
  obtain ⟨dst, op, ty, pos, after, guard⟩ := o
  unfold opT at hk
  simp only at hk hd
  split at hk
  · obtain ⟨ti, te, e, t', g, len, E0, sz, xs, m, k, q1, q2, q3, q4, q5, q6, q7, q8, q9, q10, q11⟩ := hk
    exact trunc_sound hT hI hd q1 q2 q3 q4 q5 q6 q7 q8 q9 q10 q11
  · obtain ⟨x, y, t, tn, ti, te, e, ki, tin, n, q1, q2, q3, q4, q5, q6, q7, q8, q9, q10, q11, q12, q13, q14⟩ := hk
    exact zeros_sound hT hI hd q1 q2 q3 q4 q5 q6 q7 q8 q9 q10 q11 q12 q13 q14
  · exact hk.elim
end
end Go.Proofs.Ytablmbhnimnccaa.Pw
/- Pw, part 16: every operation is sound. No condition. -/
namespace Go.Proofs.Ytablmbhnimnccaa.Pw
section
variable {P : Program} {T : Nat → Option TI} {E : Entry} {N : Nat} {A A' : Nat → Nat → Prop} {F : Nat → Nat → Value} {S S1 S' : St} {a : Act} {w w' : World} {K : St → Prop} {Q : Exit → Act → World → Prop}

theorem opW0_sound (hT : TOk P T) (hI : Inv E N S A F a w) {o : Oper} (hd : ∀ t, o.dst = some t → t < N) (hk : opW0 P T o S K) : o.wp P a w (Nx E N K) Q := by
  unfold opW0 at hk
  split at hk
  · rename_i v hv
    obtain ⟨v', h3, hk⟩ := hk
    obtain ⟨u, h1, h2⟩ := opv_sound hT hI hv
    exact wp_val h1 ⟨_, _, _, hI.put (h3.rep h2) hd, hk⟩
  · obtain ⟨dst, op, ty, pos, after, guard⟩ := o
    simp only at hk hd ⊢
    split at hk
    · rename_i t
      split at hk
      · rename_i ti hti; exact alloc_sound hT hI hd hti hk
      · exact hk.elim
    · exact box_sound hI hd hk.1 hk.2
    · rename_i t ps
      split at hk
      · rename_i ti hti
        split at hk
        · rename_i cs hf; obtain ⟨h0, v', hv', hk⟩ := hk; exact build_sound hT hI hd hti hf h0 hv' hk
        · exact hk.elim
      · exact hk.elim
    · rename_i t len ps
      split at hk
      · rename_i ti hti
        split at hk
        · rename_i e hkd
          split at hk
          · rename_i te hte
            obtain ⟨h1, h2, h3, h4, xs, S', h5, h6, h7⟩ := hk
            exact buildSlice_sound hT hI hd hti hkd hte h1 h2 h3 h4 h5 (fun x hx => (h6 x hx).1) (fun x hx => (h6 x hx).2) h7
          · exact hk.elim
        · exact hk.elim
      · exact hk.elim
    · split at hk
      · rename_i hq; exact eqAg_sound hI hd hq hk.1 hk.2
      · exact hk.elim
    · rename_i t x y
      split at hk
      · rename_i ti hti
        obtain ⟨h1, h2, h3, hk⟩ := hk
        subst h3
        split at hk
        · rename_i t' g off hx
          split at hk
          · rename_i cs hb; exact store_var_sound hT hI hti h1 h2 hx hb hk.1 hk.2
          · exact hk.elim
        · rename_i t' g len i off hx
          split at hk
          · rename_i E0 sz xs m hb
            split at hk
            · rename_i z ps hz hp
              split at hk
              · rename_i z' hset
                obtain ⟨q1, q2, q3, q4⟩ := hk
                exact store_arr_sound hT hI hti h1 h2 hx hb hz hp hset q1 q2 q3 q4
              · exact hk.elim
            · exact hk.elim
          · exact hk.elim
        · exact hk.elim
      · exact hk.elim
    · rename_i t l c
      split at hk
      · rename_i ti hti
        split at hk
        · rename_i e hkd
          split at hk
          · rename_i te hte
            split at hk
            · rename_i n n' hn hn'
              obtain ⟨rfl, q1, q2, q3, q4⟩ := hk
              exact makeSlice_sound hT hI hd hti hkd hte hn hn' q1 q2 q3 q4
            · exact hk.elim
          · exact hk.elim
        · exact hk.elim
      · exact hk.elim
    · rename_i t x lo hi mx
      split at hk
      · rename_i ti hti
        split at hk
        · rename_i hkd
          split at hk
          · rename_i s l hx hl
            split at hk
            · rename_i h hh
              obtain ⟨q1, q2, q3⟩ := hk
              exact slice_str_sound hT hI hd hti hkd hx hl hh q1 q2 q3
            · exact hk.elim
          · exact hk.elim
        · rename_i e hkd
          split at hk
          · rename_i te xs l hte hxs hl
            split at hk
            · rename_i h hh
              obtain ⟨q1, q2, q3, S', q4, q5⟩ := hk
              exact slice_sl_sound hT hI hd hti hkd hte hl hh q1 q2 q3 q4 q5
            · exact hk.elim
          · exact hk.elim
        · exact hk.elim
      · exact hk.elim
    · rename_i args tys _
      split at hk
      · rename_i x y t t' hargs htys
        split at hk
        · rename_i ti hti
          split at hk
          · rename_i e hkd
            split at hk
            · rename_i te ys hte hys
              obtain ⟨rfl, h0, hsz, hk⟩ := hk
              obtain ⟨d, hdd, hk2⟩ := hT.kind hti
              rw [hkd] at hk2
              simp only [TKok] at hk2
              subst hk2
              have ha : args = #[x, y] := by apply Array.ext'; simpa using hargs
              have ht : tys = #[t, t] := by apply Array.ext'; simpa using htys
              subst ha; subst ht
              have fin : ∀ v' w', (Builtin.append_ #[t, t] ty #[a.eval x, a.eval y]).run P w = .ok v' w' → Nx E N K (a.put dst v') w' →
                  Oper.wp P ⟨dst, .call ⟨.builtin .append, #[x, y], #[t, t]⟩, ty, pos, after, guard⟩ a w (Nx E N K) Q := fun v' w' h1 h2 => by
                refine wp_val (u := v') (w' := w') ?_ h2
                simp only [execOp, resolve, invoke, builtin, Sem.run_bind, Sem.run_pure, Result.andThen_ok, List.map_toArray, List.map_cons, List.map_nil, h1]
              have hxr := hI.ev x
              have hyr := hI.ev y
              split at hk
              · rename_i t' g len hx
                rw [hx] at hxr
                split at hk
                · rename_i E0 sz xs m hb
                  obtain ⟨q1, rfl, rfl, q2, q3, q4⟩ := hk
                  obtain ⟨v', w', h1, h2⟩ := append_os (P := P) (ty := ty) hT hI hte hdd h0 hb q1 hxr hys hyr hsz q2 q3 hd q4
                  exact fin v' w' h1 h2
                · exact hk.elim
              · obtain ⟨q1, q2, q3, q4⟩ := hk
                obtain ⟨v', w', h1, h2⟩ := append_nil (P := P) (ty := ty) hT hI hte hdd h0 q1 hxr hys hyr hsz q2 q3 hd q4
                exact fin v' w' h1 h2
            · exact hk.elim
          · exact hk.elim
        · exact hk.elim
      · exact hk.elim
    · rename_i f args tys _
      split at hk
      · rename_i g caps hc
        obtain ⟨targs, S1, l, res, outs, v, S2, q1, q2, q3, q4, q5, q6⟩ := hk
        exact call_sound hI hd hc q1 q2 q3 q4 q6
      · exact hk.elim
    · exact hk.elim

theorem RepQ.of (hI : Inv E N S A F a w) : ∀ {l : List Operand} {xs : List PV}, l.map S.ev = xs.map .p → RepQ A w xs (l.map a.eval)
  | [], [], _ => .nil
  | x :: l, y :: xs, h => by
    simp only [List.map_cons, List.cons.injEq] at h
    have := hI.ev x
    rw [h.1] at this
    cases this with | p _ _ hx => exact .cons _ _ _ _ hx (RepQ.of hI h.2)
  | [], _ :: _, h => by simp at h
  | _ :: _, [], h => by simp at h

theorem Seen.rep (hI : Inv E N S A F a w) {v : AV} {x : PV} (h : Seen S v x) {u : Value} (hr : RepA A F S w v u) : RepP (fun _ _ => True) w x u := by
  cases h with
  | p x => cases hr with | p _ _ hx => exact hx.mono ⟨fun _ _ _ => trivial, fun _ _ _ => rfl⟩
  | os t g E0 sz m len xs hb hl =>
    cases hr with
    | os _ _ _ _ hg hq h1 =>
      obtain ⟨A', h2, h3, h4, h5, h6⟩ := hI.sealArr hb
      rw [(hq _ _ _ _ hb).2 hl]
      exact h5.mono ⟨fun _ _ _ => trivial, fun _ _ _ => rfl⟩
theorem RepQ.seen (hI : Inv E N S A F a w) : ∀ {l : List Operand} {xs : List PV}, SeenL S (l.map S.ev) xs → RepQ (fun _ _ => True) w xs (l.map a.eval)
  | [], _, .nil => .nil
  | x :: l, _, .cons _ _ _ _ h hs => .cons _ _ _ _ (h.rep hI (hI.ev x)) (RepQ.seen hI hs)

theorem opW_sound (hT : TOk P T) (hI : Inv E N S A F a w) {o : Oper} (hd : ∀ t, o.dst = some t → t < N) (hk : opW P T o S K) : o.wp P a w (Nx E N K) Q := by
  rcases hk with ⟨v, ⟨xs, h1, h2⟩ | ⟨⟨u0, rfl⟩, xs, h1, h2⟩, hk⟩ | hk | hk
  · obtain ⟨u, h3, h4⟩ := h2 A w a.eval (RepQ.of hI h1)
    exact wp_val h3 ⟨_, _, _, hI.put (.p _ _ h4) hd, hk⟩
  · obtain ⟨u, h3, h4⟩ := h2 _ w a.eval (RepQ.seen hI h1)
    cases h4
    exact wp_val h3 ⟨_, _, _, hI.put (.p _ _ (.lit _)) hd, hk⟩
  · exact opT_sound hT hI hd hk
  · exact opW0_sound hT hI hd hk
end
end Go.Proofs.Ytablmbhnimnccaa.Pw
/- Pw, part 17: what an operation looks at, and what it leaves alone. No condition. -/
namespace Go.Proofs.Ytablmbhnimnccaa.Pw

mutual
def nm : AV → List Nat
  | .p _ => []
  | .ag cs => nms cs
  | .tu vs => nms vs
  | .fn _ caps => nms caps
  | .pt t _ _ => [t]
  | .os t _ _ => [t]
  | .pe t _ _ _ _ => [t]
  | .un => []
def nms : List AV → List Nat
  | [] => []
  | x :: xs => nm x ++ nms xs
end

def opNames (S : St) (o : Op) : List Nat := nms (o.operands.toList.map S.ev)
def dstL (o : Oper) : List Nat := [o.dst.getD 0]

/-- The blocks that an operation writes, makes or shows. -/
def fw (S : St) (o : Oper) : List Nat :=
  match o.op with
  | .alloc _ => dstL o
  | .box _ _ => dstL o
  | .makeSlice _ _ _ => dstL o
  | .buildSlice _ _ _ => opNames S o.op ++ dstL o
  | .store _ x _ => nm (S.ev x)
  | .slice _ x _ _ _ => nm (S.ev x) ++ dstL o
  | .call ⟨.builtin .append, args, _⟩ => nms ((args.toList.take 1).map S.ev) ++ dstL o
  | .call ⟨.value _, _, _⟩ => opNames S o.op ++ dstL o
  | _ => []

def Agr (W : List Nat) (τ S : St) : Prop := ∀ t ∈ W, (∀ g, τ.bl t g = S.bl t g) ∧ τ.gen t = S.gen t
def over (τ S : St) (W : List Nat) : St := { tm := τ.tm, bl := fun t g => if t ∈ W then S.bl t g else τ.bl t g, gen := fun t => if t ∈ W then S.gen t else τ.gen t }
def ovT (τ S : St) (d : Option Tmp) (W : List Nat) : St := { over τ S W with tm := fun t => if d = some t then S.tm t else τ.tm t }

theorem St.ext' {S S' : St} (h1 : ∀ t, S.tm t = S'.tm t) (h2 : ∀ t g, S.bl t g = S'.bl t g) (h3 : ∀ t, S.gen t = S'.gen t) : S = S' := by
  cases S; cases S'
  simp only [St.mk.injEq]
  exact ⟨funext h1, funext fun t => funext (h2 t), funext h3⟩

section
variable {P : Program} {T : Nat → Option TI} {τ S S1 S' : St} {W : List Nat}

theorem Agr.over : Agr W (over τ S W) S := fun t ht => ⟨fun g => by simp [Go.Proofs.Ytablmbhnimnccaa.Pw.over, ht], by simp [Go.Proofs.Ytablmbhnimnccaa.Pw.over, ht]⟩

theorem Agr.sub {W' : List Nat} (h : Agr W τ S) (hs : ∀ t ∈ W', t ∈ W) : Agr W' τ S := fun t ht => h t (hs t ht)

/-- States that are alike outside of W. -/
def Out (W : List Nat) (S S' : St) : Prop := ∀ t, t ∉ W → (∀ g, S'.bl t g = S.bl t g) ∧ S'.gen t = S.gen t

theorem Out.refl : Out W S S := fun _ _ => ⟨fun _ => rfl, rfl⟩
theorem Out.trans {S2 : St} (h : Out W S S1) (k : Out W S1 S2) : Out W S S2 := fun t ht => ⟨fun g => ((k t ht).1 g).trans ((h t ht).1 g), (k t ht).2.trans (h t ht).2⟩

theorem over_trans {S2 : St} : over (over τ S W) S2 W = over τ S2 W := by
  apply St.ext' <;> intros <;> simp only [over] <;> (try split) <;> rfl

theorem over_self (h : Agr W τ S) : over τ S W = τ := by
  apply St.ext'
  · intro t; rfl
  · intro t g; simp only [over]; split
    · rename_i ht; exact ((h t ht).1 g).symm
    · rfl
  · intro t; simp only [over]; split
    · rename_i ht; exact (h t ht).2.symm
    · rfl

theorem over_set {t g : Nat} {b : Blk} (h : Agr W τ S) (ht : t ∈ W) : over τ (S.setBl t g b) W = τ.setBl t g b := by
  apply St.ext'
  · intro t; rfl
  · intro t' g'
    simp only [over, St.setBl, upd2]
    by_cases h1 : t' = t
    · subst h1; simp only [if_true, ht]; split <;> first | rfl | exact ((h _ ht).1 g').symm
    · simp only [h1, if_false]
      split
      · rename_i hq; exact ((h _ hq).1 g').symm
      · rfl
  · intro t'
    simp only [over, St.setBl]
    split
    · rename_i hq; exact (h _ hq).2.symm
    · rfl

theorem over_drop {t g : Nat} (h : Agr W τ S) (ht : t ∈ W) : over τ (S.drop t g) W = τ.drop t g := by
  apply St.ext'
  · intro t; rfl
  · intro t' g'
    simp only [over, St.drop, upd2]
    by_cases h1 : t' = t
    · subst h1; simp only [if_true, ht]; split <;> first | rfl | exact ((h _ ht).1 g').symm
    · simp only [h1, if_false]
      split
      · rename_i hq; exact ((h _ hq).1 g').symm
      · rfl
  · intro t'
    simp only [over, St.drop]
    split
    · rename_i hq; exact (h _ hq).2.symm
    · rfl

theorem over_mk {t : Nat} {b : Blk} (h : Agr W τ S) (ht : t ∈ W) : over τ (S.mk' t b) W = τ.mk' t b := by
  have hg := (h t ht).2
  apply St.ext'
  · intro t; rfl
  · intro t' g'
    simp only [over, St.mk', upd2, hg]
    by_cases h1 : t' = t
    · subst h1; simp only [if_true, ht]; split <;> first | rfl | exact ((h _ ht).1 g').symm
    · simp only [h1, if_false]
      split
      · rename_i hq; exact ((h _ hq).1 g').symm
      · rfl
  · intro t'
    simp only [over, St.mk', upd, hg]
    by_cases h1 : t' = t
    · subst h1; simp [ht]
    · simp only [h1, if_false]
      split
      · rename_i hq; exact (h _ hq).2.symm
      · rfl

theorem out_set {t g : Nat} {b : Blk} (ht : t ∈ W) : Out W S (S.setBl t g b) := fun t' hn => ⟨fun g' => by simp only [St.setBl]; exact upd2_ne _ _ _ _ _ _ (fun hq => hn (hq.1 ▸ ht)), rfl⟩
theorem out_drop {t g : Nat} (ht : t ∈ W) : Out W S (S.drop t g) := fun t' hn => ⟨fun g' => by simp only [St.drop]; exact upd2_ne _ _ _ _ _ _ (fun hq => hn (hq.1 ▸ ht)), rfl⟩
theorem out_mk {t : Nat} {b : Blk} (ht : t ∈ W) : Out W S (S.mk' t b) := fun t' hn =>
  ⟨fun g' => by simp only [St.mk']; exact upd2_ne _ _ _ _ _ _ (fun hq => hn (hq.1 ▸ ht)), by simp only [St.mk']; exact upd_ne _ _ _ _ (fun hq => hn (hq ▸ ht))⟩
theorem out_put {d : Option Tmp} {v : AV} : Out W S (S.put d v) := fun t hn => ⟨fun g => by rw [St.put_bl], by rw [St.put_gen]⟩

theorem seal_loc {t g : Nat} (h : Agr W τ S) (ht : t ∈ W) : τ.seal t g = over τ (S.seal t g) W ∧ Out W S (S.seal t g) ∧ (S.seal t g).tm = S.tm := by
  unfold St.seal
  rw [(h t ht).1 g]
  cases hb : S.bl t g with
  | none => exact ⟨(over_self h).symm, .refl, rfl⟩
  | some b =>
    cases b with
    | var cs sd => exact ⟨(over_set h ht).symm, out_set ht, rfl⟩
    | arr E sz xs m => exact ⟨(over_set h ht).symm, out_set ht, rfl⟩
    | bld T g1 n => exact ⟨(over_self h).symm, .refl, rfl⟩

theorem Pass.loc {v : AV} {tv : TV} {l : List (Nat × Nat)} (hp : Pass S v tv S' l) (h : Agr W τ S) (hn : ∀ t ∈ nm v, t ∈ W) :
    Pass τ v tv (over τ S' W) l ∧ Out W S S' ∧ S'.tm = S.tm ∧ ∀ n ∈ l, n.1 ∈ W := by
  cases hp with
  | p x => rw [over_self h]; exact ⟨.p _ _, .refl, rfl, by simp⟩
  | nil sz => rw [over_self h]; exact ⟨.nil _ _, .refl, rfl, by simp⟩
  | nilo E sz => rw [over_self h]; exact ⟨.nilo _ _ _, .refl, rfl, by simp⟩
  | os t g E sz xs m hb =>
    have ht : t ∈ W := hn t (by simp [nm])
    obtain ⟨h1, h2, h3⟩ := seal_loc (g := g) h ht
    rw [← h1]
    exact ⟨.os _ _ _ _ _ _ _ (by rw [(h t ht).1 g]; exact hb), h2, h3, by simp⟩
  | ow t g E sz xs m m' hb h1 h2 =>
    have ht : t ∈ W := hn t (by simp [nm])
    rw [over_drop h ht]
    exact ⟨.ow _ _ _ _ _ _ _ _ (by rw [(h t ht).1 g]; exact hb) h1 h2, out_drop ht, rfl, by simp⟩
  | rf t g cs hb =>
    have ht : t ∈ W := hn t (by simp [nm])
    rw [over_drop h ht]
    exact ⟨.rf _ _ _ _ (by rw [(h t ht).1 g]; exact hb), out_drop ht, rfl, by simp [ht]⟩
  | ro t g off cs sd hb =>
    have ht : t ∈ W := hn t (by simp [nm])
    obtain ⟨h1, h2, h3⟩ := seal_loc (g := g) h ht
    rw [← h1]
    exact ⟨.ro _ _ _ _ _ _ (by rw [(h t ht).1 g]; exact hb), h2, h3, by simp⟩
  | pe t g i off E sz xs m y hb hy =>
    have ht : t ∈ W := hn t (by simp [nm])
    obtain ⟨h1, h2, h3⟩ := seal_loc (g := g) h ht
    rw [← h1]
    exact ⟨.pe _ _ _ _ _ _ _ _ _ _ (by rw [(h t ht).1 g]; exact hb) hy, h2, h3, by simp⟩

theorem PassPs.loc {vs : List AV} : ∀ {S τ S' : St} {xs : List PV}, PassPs S vs xs S' → Agr W τ S → (∀ t ∈ nms vs, t ∈ W) → PassPs τ vs xs (over τ S' W) ∧ Out W S S' ∧ S'.tm = S.tm := by
  induction vs with
  | nil => intro S τ S' xs hp h hn; cases hp; rw [over_self h]; exact ⟨.nil _, .refl, rfl⟩
  | cons v vs ih =>
    intro S τ S' xs hp h hn
    cases hp with
    | cons _ S1 _ _ x _ xs hp1 hps =>
      obtain ⟨h1, h2, h3, _⟩ := hp1.loc h fun t ht => hn t (by simp [nms, ht])
      obtain ⟨h4, h5, h6⟩ := ih hps (τ := over τ S1 W) Agr.over fun t ht => hn t (by simp [nms, ht])
      rw [over_trans] at h4
      exact ⟨.cons _ _ _ _ _ _ _ h1 h4, h2.trans h5, h6.trans h3⟩

theorem PassV.loc {v : AV} {tv : TV} {l : List (Nat × Nat)} (hp : PassV S v tv S' l) (h : Agr W τ S) (hn : ∀ t ∈ nm v, t ∈ W) :
    PassV τ v tv (over τ S' W) l ∧ Out W S S' ∧ S'.tm = S.tm ∧ ∀ n ∈ l, n.1 ∈ W := by
  cases hp with
  | one _ _ _ _ hp => obtain ⟨h1, h2, h3, h4⟩ := hp.loc h hn; exact ⟨.one _ _ _ _ _ h1, h2, h3, h4⟩
  | ag _ vs xs hp => obtain ⟨h1, h2, h3⟩ := hp.loc h (fun t ht => hn t (by simpa [nm] using ht)); exact ⟨.ag _ _ _ _ h1, h2, h3, by simp⟩
  | fn _ f vs xs hp => obtain ⟨h1, h2, h3⟩ := hp.loc h (fun t ht => hn t (by simpa [nm] using ht)); exact ⟨.fn _ _ _ _ _ h1, h2, h3, by simp⟩

theorem PassL.loc {vs : List AV} : ∀ {S τ S' : St} {xs : List TV} {l : List (Nat × Nat)}, PassL S vs xs S' l → Agr W τ S → (∀ t ∈ nms vs, t ∈ W) →
    PassL τ vs xs (over τ S' W) l ∧ Out W S S' ∧ S'.tm = S.tm ∧ ∀ n ∈ l, n.1 ∈ W := by
  induction vs with
  | nil => intro S τ S' xs l hp h hn; cases hp; rw [over_self h]; exact ⟨.nil _, .refl, rfl, by simp⟩
  | cons v vs ih =>
    intro S τ S' xs l hp h hn
    cases hp with
    | cons _ S1 _ _ x _ xs l1 l2 hp1 hps =>
      obtain ⟨h1, h2, h3, h7⟩ := hp1.loc h fun t ht => hn t (by simp [nms, ht])
      obtain ⟨h4, h5, h6, h8⟩ := ih hps (τ := over τ S1 W) Agr.over fun t ht => hn t (by simp [nms, ht])
      rw [over_trans] at h4
      refine ⟨.cons _ _ _ _ _ _ _ _ _ h1 h4, h2.trans h5, h6.trans h3, fun n hq => ?_⟩
      rcases List.mem_append.1 hq with hq | hq
      · exact h7 n hq
      · exact h8 n hq

theorem putBack_loc {l : List (Nat × Nat)} : ∀ {S τ : St} {outs : List (List PV)}, Agr W τ S → (∀ n ∈ l, n.1 ∈ W) → putBack τ l outs = over τ (putBack S l outs) W ∧ Out W S (putBack S l outs) ∧ (putBack S l outs).tm = S.tm := by
  induction l with
  | nil => intro S τ outs h hn; simp only [putBack]; exact ⟨(over_self h).symm, .refl, trivial⟩
  | cons n l ih =>
    intro S τ outs h hn
    cases outs with
    | nil => simp only [putBack]; exact ⟨(over_self h).symm, .refl, trivial⟩
    | cons o os =>
      simp only [putBack]
      have hw := hn n (by simp)
      have e := over_set (g := n.2) (b := .var (o.map .p) false) h hw
      obtain ⟨h1, h2, h3⟩ := ih (S := S.setBl n.1 n.2 (.var (o.map .p) false)) (τ := τ.setBl n.1 n.2 (.var (o.map .p) false)) (outs := os) (by rw [← e]; exact Agr.over) fun m hm => hn m (by simp [hm])
      refine ⟨?_, (out_set hw).trans h2, h3⟩
      rw [h1, ← e, over_trans]

theorem Recv.loc {d : Nat} {x : TV} {v : AV} (hr : Recv d S x v S') (h : Agr W τ S) (hd : d ∈ W) : Recv d τ x v (over τ S' W) ∧ Out W S S' ∧ S'.tm = S.tm := by
  have hg := (h d hd).2
  cases hr with
  | p x => rw [over_self h]; exact ⟨.p _ _, .refl, rfl⟩
  | rf cs => rw [over_mk h hd, ← hg]; exact ⟨.rf _ _, out_mk hd, rfl⟩
  | ow E sz xs m => rw [over_mk h hd, ← hg]; exact ⟨.ow _ _ _ _ _, out_mk hd, rfl⟩

theorem RecvL.loc {d : Nat} {xs : List TV} (hd : d ∈ W) : ∀ {S τ S' : St} {vs : List AV}, RecvL d S xs vs S' → Agr W τ S → RecvL d τ xs vs (over τ S' W) ∧ Out W S S' ∧ S'.tm = S.tm := by
  induction xs with
  | nil => intro S τ S' vs hr h; cases hr; rw [over_self h]; exact ⟨.nil _, .refl, rfl⟩
  | cons x xs ih =>
    intro S τ S' vs hr h
    cases hr with
    | cons _ S1 _ _ v _ vs h1 hs =>
      obtain ⟨q1, q2, q3⟩ := h1.loc h hd
      obtain ⟨q4, q5, q6⟩ := ih hs (τ := over τ S1 W) Agr.over
      rw [over_trans] at q4
      exact ⟨.cons _ _ _ _ _ _ _ q1 q4, q2.trans q5, q6.trans q3⟩

theorem RecvV.loc {d : Nat} {x : TV} {v : AV} (hr : RecvV d S x v S') (h : Agr W τ S) (hd : d ∈ W) : RecvV d τ x v (over τ S' W) ∧ Out W S S' ∧ S'.tm = S.tm := by
  cases hr with
  | one _ _ _ hr => obtain ⟨h1, h2, h3⟩ := hr.loc h hd; exact ⟨.one _ _ _ _ h1, h2, h3⟩
  | ag _ xs vs hr => obtain ⟨h1, h2, h3⟩ := hr.loc hd h; exact ⟨.ag _ _ _ _ h1, h2, h3⟩
  | tu _ xs vs hr => obtain ⟨h1, h2, h3⟩ := hr.loc hd h; exact ⟨.tu _ _ _ _ h1, h2, h3⟩
end
end Go.Proofs.Ytablmbhnimnccaa.Pw
/- Pw, part 18: an operation hangs on what it looks at alone. No condition. -/
namespace Go.Proofs.Ytablmbhnimnccaa.Pw
section
variable {P : Program} {T : Nat → Option TI} {τ S S1 S' : St} {W : List Nat}

theorem okA_congr {v : AV} (h : ∀ t ∈ nm v, ∀ g, τ.bl t g = S.bl t g) : τ.okA v = S.okA v := by
  cases v <;> simp only [St.okA] <;> rw [h _ (by simp [nm])]
theorem ptAdd_congr {v : AV} {k : Nat} (h : ∀ t ∈ nm v, ∀ g, τ.bl t g = S.bl t g) : ptAdd τ k v = ptAdd S k v := by
  unfold ptAdd
  split
  · rw [okA_congr h]
  · rw [okA_congr h]
  · rfl
  · rfl
theorem list_congr {v : AV} (h : ∀ t ∈ nm v, ∀ g, τ.bl t g = S.bl t g) : τ.list v = S.list v := by
  unfold St.list
  split
  · rfl
  · rfl
  · rw [h _ (by simp [nm])]
  · rfl
theorem lenOf_congr {v : AV} (h : ∀ t ∈ nm v, ∀ g, τ.bl t g = S.bl t g) : lenOf τ v = lenOf S v := by
  unfold lenOf
  split
  · rfl
  · rfl
  · rw [okA_congr h]
  · rfl
theorem loadV_congr {v : AV} {t : Nat} (h : ∀ t ∈ nm v, ∀ g, τ.bl t g = S.bl t g) : loadV T τ t v = loadV T S t v := by
  unfold loadV
  cases T t with
  | none => rfl
  | some ti =>
    dsimp only
    split
    · rw [h _ (by simp [nm])]
    · rw [h _ (by simp [nm])]
    · rfl
    · rfl
theorem idxV_congr {v i : AV} {t : Nat} (h : ∀ t ∈ nm v, ∀ g, τ.bl t g = S.bl t g) : idxV T τ t v i = idxV T S t v i := by
  unfold idxV
  simp only [ptAdd_congr h]
  split
  · cases T t with
    | none => rfl
    | some ti =>
      dsimp only
      cases ti.kd with
      | sl e =>
        dsimp only
        cases T e with
        | none => rfl
        | some te =>
          dsimp only
          split
          · rfl
          · rw [h _ (by simp [nm])]
          · rfl
      | _ => rfl
  · rfl

theorem mem_nms {x : AV} {xs : List AV} (h : x ∈ xs) : ∀ t ∈ nm x, t ∈ nms xs := by
  induction xs with
  | nil => simp at h
  | cons y xs ih =>
    intro t ht
    rcases List.mem_cons.1 h with rfl | h
    · simp [nms, ht]
    · simp [nms, ih h t ht]

theorem opNames_mem {o : Op} {x : Operand} (hx : x ∈ o.operands) : ∀ t ∈ nm (S.ev x), t ∈ opNames S o := fun t ht =>
  mem_nms (List.mem_map.2 ⟨x, by simpa using hx, rfl⟩) t ht

theorem opv_congr {o : Op} (he : ∀ x ∈ o.operands, τ.ev x = S.ev x) (hb : ∀ t ∈ opNames S o, ∀ g, τ.bl t g = S.bl t g) : opv T τ o = opv T S o := by
  have hb' : ∀ x ∈ o.operands, ∀ t ∈ nm (S.ev x), ∀ g, τ.bl t g = S.bl t g := fun x hx t ht => hb t (opNames_mem hx t ht)
  clear hb
  cases o
  case move x => simp only [Op.operands] at he hb'; simp only [opv]; rw [he x (by simp)]
  case assign x => simp only [Op.operands] at he hb'; simp only [opv]; rw [he x (by simp)]
  case pick c x y => simp only [Op.operands] at he hb'; simp only [opv]; rw [he c (by simp), he x (by simp), he y (by simp)]
  case load t x => simp only [Op.operands] at he hb'; simp only [opv]; rw [he x (by simp), loadV_congr (hb' x (by simp))]
  case nilCheck x =>
    simp only [Op.operands] at he hb'; simp only [opv]
    rw [he x (by simp)]
    have := hb' x (by simp)
    split <;> simp only [*] at this ⊢
    · exact ptAdd_congr this
    · exact ptAdd_congr this
  case binOp op t x y yt => simp only [Op.operands] at he hb'; simp only [opv]; rw [he x (by simp), he y (by simp)]
  case unOp op t x => simp only [Op.operands] at he hb'; cases op <;> simp only [opv] <;> rw [he x (by simp)]
  case convert s t x => simp only [Op.operands] at he hb'; simp only [opv]; rw [he x (by simp)]
  case fieldAddr s x f =>
    simp only [Op.operands] at he hb'; simp only [opv]; rw [he x (by simp)]
    split
    · exact ptAdd_congr (hb' x (by simp))
    · rfl
  case indexAddr t x i => simp only [Op.operands] at he hb'; simp only [opv]; rw [he x (by simp), he i (by simp), idxV_congr (hb' x (by simp))]
  case extract x i => simp only [Op.operands] at he hb'; simp only [opv]; rw [he x (by simp)]
  case makeFunc fn first caps =>
    simp only [Op.operands] at he hb'
    have : caps.toList.map τ.ev = caps.toList.map S.ev := List.map_congr_left fun x hx => he x (by simp; exact .inr (by simpa using hx))
    cases fn <;> simp only [opv, this]
  case call c =>
    obtain ⟨callee, args, tys⟩ := c
    simp only [Op.operands, Call.operands] at he hb'
    cases callee with
    | value f => rfl
    | invoke r m => rfl
    | builtin b =>
      have hm : ∀ (xs : List Operand), (∀ x ∈ xs, x ∈ args) → xs.map τ.ev = xs.map S.ev := fun xs hx => List.map_congr_left fun x hq => he x (by simpa using hx x hq)
      have hmem : ∀ (x : Operand) (xs : List Operand), args.toList = x :: xs → x ∈ args ∧ ∀ y ∈ xs, y ∈ args := fun x xs hx =>
        ⟨by rw [← Array.mem_toList_iff, hx]; simp, fun y hy => by rw [← Array.mem_toList_iff, hx]; simp [hy]⟩
      cases b
      case len =>
        simp only [opv]
        split
        · rename_i x t hx ht
          have hmem : x ∈ args := Array.mem_of_getElem? hx
          rw [he x (by simpa using hmem), lenOf_congr (hb' x (by simpa using hmem))]
        · rfl
      case max =>
        simp only [opv]
        split
        · rename_i x xs hx
          obtain ⟨h1, h2⟩ := hmem x xs hx
          rw [he x (by simpa using h1), hm xs h2]
        · rfl
      case min =>
        simp only [opv]
        split
        · rename_i x xs hx
          obtain ⟨h1, h2⟩ := hmem x xs hx
          rw [he x (by simpa using h1), hm xs h2]
        · rfl
      all_goals rfl
  all_goals rfl

theorem ovT_put {X : St} {d : Option Tmp} {v : AV} : ovT τ (X.put d v) d W = (over τ X W).put d v := by
  cases d with
  | none => rfl
  | some d =>
    apply St.ext'
    · intro t
      simp only [ovT, over, St.put, upd, Option.some.injEq]
      by_cases h : t = d
      · subst h; simp
      · simp [h, Ne.symm h]
    · intro t g; rfl
    · intro t; rfl

theorem put_tm_ne {X : St} {d : Option Tmp} {v : AV} {t : Nat} (h : d ≠ some t) : (X.put d v).tm t = X.tm t := by
  cases d with
  | none => rfl
  | some d => simp only [St.put]; exact upd_ne _ _ _ _ (fun hq => h (by rw [hq]))

/-- What locality says of a rule. -/
def Loc (o : Oper) (W : List Nat) (τ S S' : St) (f : St → (St → Prop) → Prop) : Prop :=
  f τ (fun X => X = ovT τ S' o.dst W) ∧ Out W S S' ∧ ∀ t, o.dst ≠ some t → S'.tm t = S.tm t

theorem put_loc {o : Oper} {v : AV} (hW : Agr W τ S) : τ.put o.dst v = ovT τ (S.put o.dst v) o.dst W ∧ Out W S (S.put o.dst v) ∧ ∀ t, o.dst ≠ some t → (S.put o.dst v).tm t = S.tm t :=
  ⟨by rw [ovT_put, over_self hW], out_put, fun t h => put_tm_ne h⟩

theorem put_loc' {o : Oper} {v : AV} {X : St} (hW : over τ X W = S1) (ho : Out W S X) (ht : X.tm = S.tm) : S1.put o.dst v = ovT τ (X.put o.dst v) o.dst W ∧ Out W S (X.put o.dst v) ∧ ∀ t, o.dst ≠ some t → (X.put o.dst v).tm t = S.tm t :=
  ⟨by rw [ovT_put, hW], ho.trans out_put, fun t h => by rw [put_tm_ne h, ht]⟩

theorem newBl_loc {o : Oper} {b : Blk} {v : Nat → Nat → AV} (hW : Agr W τ S) (hd : o.dst.getD 0 ∈ W) (hk : newBl S o.dst b v (fun X => X = S')) :
    newBl τ o.dst b v (fun X => X = ovT τ S' o.dst W) ∧ Out W S S' ∧ ∀ t, o.dst ≠ some t → S'.tm t = S.tm t := by
  obtain ⟨dst, op, ty, pos, after, guard⟩ := o
  cases dst with
  | none => exact hk.elim
  | some d =>
    simp only [newBl] at hk ⊢
    simp only [Option.getD_some] at hd
    subst hk
    have hg := (hW d hd).2
    refine ⟨?_, (out_mk hd).trans out_put, fun t h => by rw [put_tm_ne h]; rfl⟩
    rw [ovT_put, over_mk hW hd, hg]

theorem fillV_congr {ps : List (Nat × Operand)} (h : ∀ p ∈ ps, τ.ev p.2 = S.ev p.2) : ps.map (fun p => (p.1, τ.ev p.2)) = ps.map (fun p => (p.1, S.ev p.2)) :=
  List.map_congr_left fun p hp => by rw [h p hp]

theorem opW0_loc {o : Oper} (hk : opW0 P T o S (fun X => X = S')) (he : ∀ x ∈ o.op.operands, τ.ev x = S.ev x) (ha : Agr (opNames S o.op ++ fw S o) τ S) : Loc o (fw S o) τ S S' (opW0 P T o) := by
  have hW : Agr (fw S o) τ S := ha.sub fun t ht => List.mem_append_right _ ht
  have hN : ∀ t ∈ opNames S o.op, ∀ g, τ.bl t g = S.bl t g := fun t ht => (ha t (List.mem_append_left _ ht)).1
  have hb' : ∀ x ∈ o.op.operands, ∀ t ∈ nm (S.ev x), ∀ g, τ.bl t g = S.bl t g := fun x hx t ht => hN t (opNames_mem hx t ht)
  have hopv := opv_congr (T := T) he hN
  unfold Loc
  generalize hWW : fw S o = W at *
  unfold opW0 at hk ⊢
  rw [hopv]
  split at hk
  · rename_i v hv
    obtain ⟨v', h0, hk⟩ := hk
    subst hk
    obtain ⟨h1, h2, h3⟩ := put_loc (o := o) (v := v') hW
    exact ⟨⟨v', h0, h1⟩, h2, h3⟩
  · rename_i hv
    obtain ⟨dst, op, ty, pos, after, guard⟩ := o
    simp only at hk he hb' ⊢
    cases op <;> simp only [Op.operands] at hk he hb' ⊢
    case alloc t =>
      split at hk
      · exact newBl_loc (o := ⟨dst, .alloc t, ty, pos, after, guard⟩) hW (by rw [← hWW]; simp [fw, dstL]) hk
      · exact hk.elim
    case box t x =>
      have hx := he x (by simp)
      rw [hx]
      obtain ⟨h1, h2, h3⟩ := newBl_loc (o := ⟨dst, .box t x, ty, pos, after, guard⟩) hW (by rw [← hWW]; simp [fw, dstL]) hk.2
      exact ⟨⟨hk.1, h1⟩, h2, h3⟩
    case build t ps =>
      have hps : ps.toList.map (fun p => (p.1, τ.ev p.2)) = ps.toList.map (fun p => (p.1, S.ev p.2)) := fillV_congr fun p hp => he p.2 (by simp; exact ⟨p.1, by simpa using hp⟩)
      rw [hps]
      split at hk
      · split at hk
        · obtain ⟨h0, v', hv', rfl⟩ := hk
          obtain ⟨h1, h2, h3⟩ := put_loc (o := ⟨dst, .build t ps, ty, pos, after, guard⟩) (v := v') hW
          exact ⟨⟨h0, v', hv', h1⟩, h2, h3⟩
        · exact hk.elim
      · exact hk.elim
    case buildSlice t len ps =>
      have hps : ps.toList.map (fun p => τ.ev p.2) = ps.toList.map (fun p => S.ev p.2) := List.map_congr_left fun p hp => he p.2 (by simp; exact ⟨p.1, by simpa using hp⟩)
      rw [hps]
      split at hk
      · split at hk
        · split at hk
          · obtain ⟨q1, q2, q3, q4, xs, S1, q5, q6, q7⟩ := hk
            obtain ⟨p1, p2, p3, _⟩ := q5.loc hW (fun t ht => by
              rw [← hWW]; simp only [fw, opNames, Op.operands, List.mem_append]
              exact .inl (by simpa [Function.comp_def] using ht))
            obtain ⟨r1, r2, r3⟩ := newBl_loc (o := ⟨dst, .buildSlice t len ps, ty, pos, after, guard⟩) (τ := over τ S1 W) Agr.over (by rw [← hWW]; simp [fw, dstL]) q7
            refine ⟨⟨q1, q2, q3, q4, xs, _, p1, q6, ?_⟩, p2.trans r2, fun t h => (r3 t h).trans (by rw [p3])⟩
            have : ovT (over τ S1 W) S' dst W = ovT τ S' dst W := by
              simp only [ovT, over]
              congr 1
              · funext t g; split <;> rfl
              · funext t; split <;> rfl
            rwa [this] at r1
          · exact hk.elim
        · exact hk.elim
      · exact hk.elim
    case binOp op t x y t2 =>
      rw [he x (by simp), he y (by simp)]
      split at hk
      · obtain ⟨h0, rfl⟩ := hk
        obtain ⟨h1, h2, h3⟩ := put_loc (o := ⟨dst, .binOp op t x y t2, ty, pos, after, guard⟩) hW
        exact ⟨⟨h0, h1⟩, h2, h3⟩
      · exact hk.elim
    case store t x y =>
      have hx := he x (by simp)
      have hy := he y (by simp)
      have hWx : ∀ t ∈ nm (S.ev x), t ∈ W := fun t ht => by rw [← hWW]; exact ht
      rw [hx, hy]
      split at hk
      · obtain ⟨q1, q2, q3, hk⟩ := hk
        subst q3
        split at hk
        · rename_i t' g off hxe
          have ht : t' ∈ W := hWx t' (by rw [hxe]; simp [nm])
          rw [(hW t' ht).1 g]
          split at hk
          · obtain ⟨q4, rfl⟩ := hk
            refine ⟨⟨q1, q2, rfl, q4, ?_⟩, out_set ht, fun t _ => rfl⟩
            rw [← over_set hW ht]
            apply St.ext' <;> intros <;> simp [ovT, over]
          · exact hk.elim
        · rename_i t' g len i off hxe
          have ht : t' ∈ W := hWx t' (by rw [hxe]; simp [nm])
          rw [(hW t' ht).1 g]
          split at hk
          · split at hk
            · split at hk
              · obtain ⟨q4, q5, q6, rfl⟩ := hk
                refine ⟨⟨q1, q2, rfl, q4, q5, q6, ?_⟩, out_set ht, fun t _ => rfl⟩
                rw [← over_set hW ht]
                apply St.ext' <;> intros <;> simp [ovT, over]
              · exact hk.elim
            · exact hk.elim
          · exact hk.elim
        · exact hk.elim
      · exact hk.elim
    case makeSlice t l c =>
      rw [he l (by simp), he c (by simp)]
      split at hk
      · split at hk
        · split at hk
          · split at hk
            · obtain ⟨q1, q2, q3, q4, q5⟩ := hk
              obtain ⟨h1, h2, h3⟩ := newBl_loc (o := ⟨dst, .makeSlice t l c, ty, pos, after, guard⟩) hW (by rw [← hWW]; simp [fw, dstL]) q5
              exact ⟨⟨q1, q2, q3, q4, h1⟩, h2, h3⟩
            · exact hk.elim
          · exact hk.elim
        · exact hk.elim
      · exact hk.elim
    case slice t x lo hi mx =>
      have hx := he x (by simp)
      have hlo : τ.optN 0 lo = S.optN 0 lo := by
        cases lo with
        | none => rfl
        | some l => simp only [St.optN]; rw [he l (by simp)]
      have hhi : ∀ d, τ.optN d hi = S.optN d hi := fun d => by
        cases hi with
        | none => rfl
        | some l => simp only [St.optN]; rw [he l (by simp)]
      have hmx : ∀ m, mx = some m → τ.ev m = S.ev m := fun m hm => he m (by simp [hm])
      rw [hx, list_congr (hb' x (by simp))]
      simp only [hlo, hhi]
      split at hk
      · split at hk
        · split at hk
          · split at hk
            · obtain ⟨q1, q2, rfl⟩ := hk
              obtain ⟨h1, h2, h3⟩ := put_loc (o := ⟨dst, .slice t x lo hi none, ty, pos, after, guard⟩) hW
              exact ⟨⟨q1, q2, h1⟩, h2, h3⟩
            · exact hk.elim
          · exact hk.elim
        · split at hk
          · split at hk
            · obtain ⟨q1, q2, q3, S1, q4, rfl⟩ := hk
              obtain ⟨p1, p2, p3, _⟩ := q4.loc hW (fun t ht => by rw [← hWW]; exact List.mem_append_left _ ht)
              obtain ⟨h1, h2, h3⟩ := put_loc' (o := ⟨dst, .slice t x lo hi mx, ty, pos, after, guard⟩) (τ := τ) (W := W) (S := S) (X := S1) rfl p2 p3
              exact ⟨⟨fun m hm => by rw [hmx m hm]; exact q1 m hm, q2, q3, _, p1, h1⟩, h2, h3⟩
            · exact hk.elim
          · exact hk.elim
        · exact hk.elim
      · exact hk.elim
    case call c =>
      obtain ⟨callee, args, tys⟩ := c
      simp only [Call.operands] at he hb'
      cases callee with
      | invoke r m => exact hk.elim
      | builtin b =>
        cases b <;> simp only at hk ⊢
        case append =>
          split at hk
          · rename_i x y t t' hargs htys
            have hx1 : x ∈ args := by rw [← Array.mem_toList_iff, hargs]; simp
            have hy1 : y ∈ args := by rw [← Array.mem_toList_iff, hargs]; simp
            have hx := he x (by simpa using hx1)
            have hy := he y (by simpa using hy1)
            rw [hx, hy, list_congr (hb' y (by simpa using hy1))]
            have hWx : ∀ t ∈ nm (S.ev x), t ∈ W := fun t ht => by
              rw [← hWW]; simp only [fw, hargs, List.take_succ_cons, List.take_zero, List.map_cons, List.map_nil, nms, List.append_nil, List.mem_append]
              exact .inl ht
            have hWd : dst.getD 0 ∈ W := by rw [← hWW]; simp [fw, dstL]
            split at hk
            · split at hk
              · split at hk
                · obtain ⟨q1, q2, q3, hk⟩ := hk
                  split at hk
                  · rename_i t0 g len hxe
                    have ht : t0 ∈ W := hWx t0 (by rw [hxe]; simp [nm])
                    rw [(hW t0 ht).1 g]
                    split at hk
                    · obtain ⟨q4, q5, q6, q7, q8, rfl⟩ := hk
                      obtain ⟨h1, h2, h3⟩ := put_loc' (o := ⟨dst, .call ⟨.builtin .append, args, tys⟩, ty, pos, after, guard⟩) (τ := τ) (W := W) (S := S) (over_set hW ht) (out_set ht) rfl
                      exact ⟨⟨q1, q2, q3, q4, q5, q6, q7, q8, h1⟩, h2, h3⟩
                    · exact hk.elim
                  · obtain ⟨q4, q5, q6, q7⟩ := hk
                    obtain ⟨h1, h2, h3⟩ := newBl_loc (o := ⟨dst, .call ⟨.builtin .append, args, tys⟩, ty, pos, after, guard⟩) hW hWd q7
                    exact ⟨⟨q1, q2, q3, q4, q5, q6, h1⟩, h2, h3⟩
                · exact hk.elim
              · exact hk.elim
            · exact hk.elim
          · exact hk.elim
      | value f =>
        simp only at hk ⊢
        have hf := he f (by simp)
        have hargs : args.toList.map τ.ev = args.toList.map S.ev := List.map_congr_left fun x hx => he x (by simp; exact .inr (by simpa using hx))
        have hcal : callee τ f = callee S f := by unfold Go.Proofs.Ytablmbhnimnccaa.Pw.callee; rw [hf]
        rw [hcal, hargs]
        split at hk
        · rename_i g caps hc
          obtain ⟨targs, S1, l, res, outs, v, S2, q1, q2, q3, q4, q5, rfl⟩ := hk
          have hcn : ∀ t ∈ nms caps, t ∈ nm (S.ev f) := fun t ht => by
            unfold Go.Proofs.Ytablmbhnimnccaa.Pw.callee at hc
            split at hc
            · rename_i hq
              simp at hc; obtain ⟨rfl, rfl⟩ := hc
              exfalso
              have : ∀ cs : List PV, nms (cs.map .p) = [] := fun cs => by induction cs <;> simp_all [nms, nm]
              rw [this] at ht; simp at ht
            · rename_i hq
              simp at hc; obtain ⟨rfl, rfl⟩ := hc
              rw [hq]; simpa [nm] using ht
            · simp at hc
          have hall : ∀ t ∈ nms (args.toList.map S.ev ++ caps), t ∈ W := fun t ht => by
            have happ : ∀ xs ys : List AV, nms (xs ++ ys) = nms xs ++ nms ys := fun xs ys => by induction xs <;> simp_all [nms]
            rw [happ, List.mem_append] at ht
            rw [← hWW]
            simp only [fw, opNames, Op.operands, Call.operands, List.mem_append]
            refine .inl ?_
            simp only [Array.toList_append, List.map_append, happ, List.mem_append]
            rcases ht with ht | ht
            · exact .inr ht
            · exact .inl (by simpa [nms] using hcn t ht)
          obtain ⟨p1, p2, p3, p4⟩ := q1.loc hW hall
          obtain ⟨r1, r2, r3⟩ := putBack_loc (outs := outs) (S := S1) (τ := over τ S1 W) Agr.over p4
          obtain ⟨s1, s2, s3⟩ := q4.loc (τ := over (over τ S1 W) (putBack S1 l outs) W) Agr.over (by rw [← hWW]; simp [fw, dstL])
          rw [over_trans, over_trans] at s1
          obtain ⟨h1, h2, h3⟩ := put_loc' (v := v) (o := ⟨dst, .call ⟨.value f, args, tys⟩, ty, pos, after, guard⟩) (τ := τ) (W := W) (S := S) (X := S2) rfl ((p2.trans r2).trans s2) (s3.trans (r3.trans p3))
          refine ⟨⟨targs, _, l, res, outs, v, _, p1, q2, q3, ?_, q5, h1⟩, h2, h3⟩
          rw [r1, over_trans]
          exact s1
        · exact hk.elim

theorem opT_loc {o : Oper} (hk : opT T o S (fun X => X = S')) (he : ∀ x ∈ o.op.operands, τ.ev x = S.ev x) (ha : Agr (opNames S o.op ++ fw S o) τ S) : Loc o (fw S o) τ S S' (opT T o) := by
  have hW : Agr (fw S o) τ S := ha.sub fun t ht => List.mem_append_right _ ht
  unfold Loc
  generalize hWW : fw S o = W at *
  obtain ⟨dst, op, ty, pos, after, guard⟩ := o
  unfold opT at hk ⊢
  simp only at hk he ⊢
  split at hk
  · rename_i t x h
    obtain ⟨ti, te, e, t', g, len, E0, sz, xs, m, k, q1, q2, q3, q4, q5, q6, q7, q8, q9, q10, q11⟩ := hk
    have ht : t' ∈ W := by rw [← hWW]; simp [fw, q5, nm]
    obtain ⟨r1, r2, r3⟩ := newBl_loc (o := ⟨dst, .slice t x none (some h) none, ty, pos, after, guard⟩) (τ := over τ (S.drop t' g) W) Agr.over (by rw [← hWW]; simp [fw, dstL]) q11
    have this : ovT (over τ (S.drop t' g) W) S' dst W = ovT τ S' dst W := by
      simp only [ovT, over]
      congr 1
      · funext t g; split <;> rfl
      · funext t; split <;> rfl
    rw [this, over_drop hW ht] at r1
    exact ⟨⟨ti, te, e, t', g, len, E0, sz, xs, m, k, q1, q2, q3, q4, by rw [he x (by simp [Op.operands])]; exact q5, by rw [(hW t' ht).1 g]; exact q6, q7, by rw [he h (by simp [Op.operands])]; exact q8, q9, q10, r1⟩, (out_drop ht).trans r2, fun t h => r3 t h⟩
  · rename_i args tys
    obtain ⟨x, y, t, tn, ti, te, e, ki, tin, n, q1, q2, q3, q4, q5, q6, q7, q8, q9, q10, q11, q12, q13, q14⟩ := hk
    have hm : ∀ z ∈ args.toList, τ.ev z = S.ev z := fun z hz => he z (by simp only [Op.operands, Call.operands]; simpa using hz)
    obtain ⟨r1, r2, r3⟩ := newBl_loc (o := ⟨dst, .call ⟨.builtin .append, args, tys⟩, ty, pos, after, guard⟩) hW (by rw [← hWW]; simp [fw, dstL]) q14
    exact ⟨⟨x, y, t, tn, ti, te, e, ki, tin, n, q1, q2, q3, q4, q5, q6, q7, by rw [hm x (by rw [q1]; simp)]; exact q8, by rw [hm y (by rw [q1]; simp)]; exact q9, q10, q11, q12, q13, r1⟩, r2, r3⟩
  · exact hk.elim

theorem SeenL.loc : ∀ {l : List Operand} {xs : List PV}, SeenL S (l.map S.ev) xs → (∀ x ∈ l, τ.ev x = S.ev x) → (∀ x ∈ l, ∀ t ∈ nm (S.ev x), ∀ g, τ.bl t g = S.bl t g) → SeenL τ (l.map τ.ev) xs
  | [], _, .nil, _, _ => .nil
  | x :: l, _, .cons _ y _ ys h hs, he, hb => by
    refine .cons _ y _ ys ?_ (SeenL.loc hs (fun z hz => he z (by simp [hz])) (fun z hz => hb z (by simp [hz])))
    rw [he x (by simp)]
    have hb0 := hb x (by simp)
    generalize S.ev x = v at h hb0
    cases h with
    | p y => exact .p y
    | os t g E0 sz m len xs h hl => exact .os t g E0 sz m len xs (by rw [hb0 t (by simp [nm]) g]; exact h) hl
theorem opW_loc {o : Oper} (hk : opW P T o S (fun X => X = S')) (he : ∀ x ∈ o.op.operands, τ.ev x = S.ev x) (ha : Agr (opNames S o.op ++ fw S o) τ S) : Loc o (fw S o) τ S S' (opW P T o) := by
  rcases hk with ⟨v, h0, hk⟩ | hk | hk
  · have hW : Agr (fw S o) τ S := ha.sub fun t ht => List.mem_append_right _ ht
    subst hk
    obtain ⟨q1, q2, q3⟩ := put_loc (o := o) (v := .p v) hW
    refine ⟨.inl ⟨v, ?_, q1⟩, q2, q3⟩
    rcases h0 with ⟨xs, h1, h2⟩ | ⟨hv, xs, h1, h2⟩
    · refine .inl ⟨xs, ?_, h2⟩
      rw [← h1]
      exact List.map_congr_left fun x hx => he x (by simpa using hx)
    · refine .inr ⟨hv, xs, h1.loc (fun x hx => he x (by simpa using hx)) (fun x hx t ht g => ?_), h2⟩
      exact (ha t (List.mem_append_left _ (opNames_mem (by simpa using hx) t ht))).1 g
  · obtain ⟨q1, q2, q3⟩ := opT_loc hk he ha
    exact ⟨.inr (.inl q1), q2, q3⟩
  · obtain ⟨q1, q2, q3⟩ := opW0_loc hk he ha
    exact ⟨.inr (.inr q1), q2, q3⟩
end
end Go.Proofs.Ytablmbhnimnccaa.Pw
