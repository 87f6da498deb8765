/- Pw, part 15: a call is sound. No condition. -/
import Derived.Test.YtablmbhnimnccaaZqOps4
namespace Go.Proofs.Ytablmbhnimnccaa.Pw
section
variable {P : Program} {T : Nat → Option TI} {E : Entry} {N : Nat} {A A' : Nat → Nat → Prop} {F : Nat → Nat → Value} {S S1 S' : St} {a : Act} {w w' : World} {K : St → Prop} {Q : Exit → Act → World → Prop}

theorem putBack_bl {l : List (Nat × Nat)} : ∀ {S : St} {outs : List (List PV)} {t g : Nat} {b : Blk}, (putBack S l outs).bl t g = some b →
    (∃ (i : Nat) (o : List PV), l[i]? = some (t, g) ∧ outs[i]? = some o ∧ b = .var (o.map .p) false) ∨ S.bl t g = some b := by
  induction l with
  | nil => intro S outs t g b h; exact .inr (by simpa [putBack] using h)
  | cons n l ih =>
    intro S outs t g b h
    cases outs with
    | nil => exact .inr (by simpa [putBack] using h)
    | cons o os =>
      rcases ih h with ⟨i, o', h1, h2, h3⟩ | h
      · exact .inl ⟨i + 1, o', by simpa using h1, by simpa using h2, h3⟩
      · rcases setBl_bl h with ⟨rfl, rfl, rfl⟩ | ⟨_, h⟩
        · exact .inl ⟨0, o, by simp, by simp, rfl⟩
        · exact .inr h

theorem putBack_tm (l : List (Nat × Nat)) : ∀ (S : St) (outs : List (List PV)), (putBack S l outs).tm = S.tm ∧ (putBack S l outs).gen = S.gen := by
  induction l with
  | nil => intro S outs; simp [putBack]
  | cons n l ih =>
    intro S outs
    cases outs with
    | nil => simp [putBack]
    | cons o os => exact ⟨(ih _ _).1, (ih _ _).2⟩

theorem RepTt.getRf {outs : List (List PV)} {us : List Value} {rs : List Nat} (h : RepTt A w (outs.map .rf) us rs) {i : Nat} {o : List PV} (ho : outs[i]? = some o) :
    ∃ r, us[i]? = some (.pointer (some ⟨r, 0, none⟩)) ∧ r ∈ rs ∧ RepT A w (.rf o) (.pointer (some ⟨r, 0, none⟩)) [r] := by
  induction outs generalizing us rs i with
  | nil => simp at ho
  | cons x xs ih =>
    cases h with
    | cons _ u _ us r rs h hs =>
      cases i with
      | zero =>
        simp at ho; subst ho
        cases h with
        | rf _ r us T hw hr hA => exact ⟨r, by simp, by simp, .rf _ _ _ _ hw hr hA⟩
      | succ i =>
        obtain ⟨r', h1, h2, h3⟩ := ih hs (by simpa using ho)
        exact ⟨r', by simpa using h1, List.mem_append_right _ h2, h3⟩

theorem Inv.afterCall (h : Inv E N S A F a w) {l : List (Nat × Nat)} {A1 : Nat → Nat → Prop} {rs : List Nat} (p : PassOk E N S A F a w S1 l A1 rs) {ro : List Nat} (af : After A1 w rs A' w' ro)
    {outs : List (List PV)} {r2 : List Nat} (hro : RepTt A' w' (outs.map .rf) (l.map fun n => F n.1 n.2) r2) (hl : outs.length = l.length) :
    Inv E N (putBack S1 l outs) A' F a w' ∧ (∀ b, Live (putBack S1 l outs) F b → b ∈ r2 ∨ (b < w.heap.size ∧ b ∉ rs)) := by
  obtain ⟨htm, hgen⟩ := putBack_tm l S1 outs
  have keep : Keeps A A' w w' := p.keeps.trans af.keeps
  -- every name was a name before
  have was1 : ∀ t g b, S1.bl t g = some b → ∃ b0, S.bl t g = some b0 := fun t g b hb => by
    have hg : g < S.gen t := by rw [← p.gen]; exact p.inv.lt _ _ _ hb
    cases b with
    | var cs sd => obtain ⟨c, s, h1, _⟩ := p.evo.var _ _ _ _ hg hb; exact ⟨_, h1⟩
    | arr E0 sz xs m => obtain ⟨c, s, h1, _⟩ := p.evo.arr _ _ _ _ _ _ hg hb; exact ⟨_, h1⟩
  have was : ∀ t g b, (putBack S1 l outs).bl t g = some b → ∃ b0, S.bl t g = some b0 := fun t g b hb => by
    rcases putBack_bl hb with ⟨i, o, h1, h2, h3⟩ | hb
    · obtain ⟨_, ⟨cs, sd, h4⟩, _⟩ := p.names _ (List.mem_of_getElem? h1)
      exact ⟨_, h4⟩
    · exact was1 _ _ _ hb
  have e : Evo A A' F F S (putBack S1 l outs) w w' := ⟨keep, fun t => by rw [hgen, p.gen]; exact Nat.le_refl _,
    fun t g cs sd hg hb => by
      rcases putBack_bl hb with ⟨i, o, h1, h2, h3⟩ | hb
      · obtain ⟨_, ⟨cs0, sd0, h4⟩, _⟩ := p.names _ (List.mem_of_getElem? h1)
        exact ⟨cs0, sd0, h4, rfl⟩
      · obtain ⟨c, s, h1, _⟩ := p.evo.var _ _ _ _ hg hb; exact ⟨c, s, h1, rfl⟩,
    fun t g E0 sz xs m hg hb => by
      rcases putBack_bl hb with ⟨i, o, h1, h2, h3⟩ | hb
      · cases h3
      · exact p.evo.arr _ _ _ _ _ _ hg hb⟩
  have live1 : ∀ t g b r, S1.bl t g = some b → bOf (F t g) = some r → r < w.heap.size ∧ r ∉ rs := fun t g b r hb hr =>
    ⟨(p.inv.bl _ _ _ hb).bOf_lt hr, fun hq => p.gone r hq ⟨_, _, _, hb, hr⟩⟩
  refine ⟨?_, fun b ⟨t, g, k, h1, h2⟩ => ?_⟩
  · refine h.change e (htm.trans p.tm) (fun t g b hb => ?_) (fun t g b hb => ?_) (fun t1 g1 b1 t2 g2 b2 r h1 h2 q1 q2 => ?_) af.Alt (Wr := fun b => b ∈ rs) ⟨af.os, af.tape, af.output, af.size, af.old⟩ (fun b hb => ?_) (fun b o ha hb => ?_) (fun t g b r hb hr => ?_)
    · obtain ⟨b0, h0⟩ := was _ _ _ hb
      rw [hgen, p.gen]; exact h.lt _ _ _ h0
    · rcases putBack_bl hb with ⟨i, o, h1, h2, rfl⟩ | hb1
      · obtain ⟨r, q1, q2, q3⟩ := hro.getRf h2
        simp only [List.getElem?_map, h1, Option.map_some, Option.some.injEq] at q1
        cases q3 with
        | rf _ _ us T hw hr hA => exact ⟨r, us, T, q1, hw, RepAs.of_p hr, fun _ => hA, fun hq => by simp at hq⟩
      · cases b with
        | arr E0 sz xs m =>
          obtain ⟨us, ho, hr, hs, hm, hA⟩ := p.inv.bl _ _ _ hb1
          refine ⟨us, ownsRow_heap ho fun r hr => ?_, hr.mono af.keeps, hs, hm, fun r hr o ha => ?_⟩
          · obtain ⟨q1, q2⟩ := live1 _ _ _ r hb1 hr
            exact af.old r q1 q2
          · obtain ⟨q1, q2⟩ := live1 _ _ _ r hb1 hr
            rcases af.Anew r o ha q1 with q | q
            · exact hA r hr o q
            · exact absurd q q2
        | var cs sd =>
          obtain ⟨r, us, T, hF, hw, _, hs1, hs2⟩ := p.inv.bl _ _ _ hb1
          obtain ⟨sd0, h0⟩ := p.same _ _ _ _ hb1
          obtain ⟨r0, us0, T0, hF0, hw0, hr0, _, _⟩ := h.bl _ _ _ h0
          rw [hF] at hF0; simp at hF0; subst hF0
          rw [hw] at hw0; simp at hw0; obtain ⟨rfl, rfl⟩ := hw0
          obtain ⟨q1, q2⟩ := live1 _ _ _ r hb1 (by rw [hF]; rfl)
          refine ⟨r, us, T, hF, (af.old r q1 q2).trans hw, RepAs.evo e hr0, fun hq o ha => ?_, fun hq o ho => af.keeps.sub _ _ (hs2 hq o ho)⟩
          rcases af.Anew r o ha q1 with q | q
          · exact hs1 hq o q
          · exact absurd q q2
    · obtain ⟨b1', h1'⟩ := was _ _ _ h1
      obtain ⟨b2', h2'⟩ := was _ _ _ h2
      exact h.inj _ _ _ _ _ _ r h1' h2' q1 q2
    · obtain ⟨t, g, k, h1, h2⟩ := p.was b hb
      exact h.own _ _ _ b h1 h2
    · have hbw : b < w.heap.size := Nat.lt_of_lt_of_le hb h.size
      rcases af.Anew b o ha hbw with q | q
      · rcases p.sub b o q with q | ⟨t, g, k, h1, h2⟩
        · exact .inl q
        · rcases h.own _ _ _ b h1 h2 with q | q
          · omega
          · exact .inr q
      · obtain ⟨t, g, k, h1, h2⟩ := p.was b q
        rcases h.own _ _ _ b h1 h2 with q | q
        · omega
        · exact .inr q
    · obtain ⟨b0, h0⟩ := was _ _ _ hb
      exact h.own _ _ _ r h0 hr
  · rcases putBack_bl h1 with ⟨i, o, q1, q2, rfl⟩ | hb1
    · obtain ⟨r, p1, p2, p3⟩ := hro.getRf q2
      simp only [List.getElem?_map, q1, Option.map_some, Option.some.injEq] at p1
      rw [p1] at h2; simp [bOf] at h2; subst h2
      exact .inl p2
    · exact .inr (live1 _ _ _ b hb1 h2)

structure Own (E : Entry) (S : St) (F : Nat → Nat → Value) (w : World) (rs : List Nat) : Prop where
  nodup : rs.Nodup
  dead : ∀ r ∈ rs, ¬ Live S F r
  own : ∀ r ∈ rs, E.w.heap.size ≤ r ∨ r ∈ E.R

theorem live_mk {d : Nat} {b : Blk} {Fv : Value} {r : Nat} (h : Live (S.mk' d b) (upd2 F d (S.gen d) Fv) r) : Live S F r ∨ bOf Fv = some r := by
  obtain ⟨t, g, k, h1, h2⟩ := h
  rcases mk'_bl h1 with ⟨rfl, rfl, _⟩ | ⟨hn, h1⟩
  · rw [upd2_same] at h2; exact .inr h2
  · rw [upd2_ne _ _ _ _ _ _ hn] at h2; exact .inl ⟨_, _, _, h1, h2⟩

theorem Recv.sound {d : Nat} {x : TV} {v : AV} (hr : Recv d S x v S') (h : Inv E N S A F a w) {u : Value} {rs : List Nat} (hx : RepT A w x u rs) (ho : Own E S F w rs) :
    ∃ F', Inv E N S' A F' a w ∧ RepA A F' S' w v u ∧ Evo A A F F' S S' w w ∧ (∀ r, Live S' F' r → Live S F r ∨ r ∈ rs) := by
  cases hr with
  | p x => cases hx with | p _ _ hx => exact ⟨F, h, .p _ _ hx, .refl, fun r hr => .inl hr⟩
  | rf cs =>
    cases hx with
    | rf _ r us T hw hr hA =>
      have e : Evo A A F (upd2 F d (S.gen d) (.pointer (some ⟨r, 0, none⟩))) S (S.mk' d (.var (cs.map .p) false)) w w := Evo.of_mk (.refl _ _)
      refine ⟨_, h.newBlk' (.refl _ w) ⟨r, us, T, upd2_same _ _ _ _, hw, RepAs.of_p hr, fun _ => hA, fun hq => by simp at hq⟩ (fun q hq => ?_) (fun q hq => ?_), RepA.newPt (b := .var (cs.map .p) false) (Fv := undef) (upd2_same _ _ _ _) (by simp [St.mk', upd_same]), e, fun q hq => ?_⟩
      · simp [bOf] at hq; subst hq; exact ho.dead _ (by simp)
      · simp [bOf] at hq; subst hq; exact ho.own _ (by simp)
      · rcases live_mk hq with hq | hq
        · exact .inl hq
        · simp [bOf] at hq; subst hq; exact .inr (by simp)
  | ow E0 sz xs m =>
    cases hx with
    | ow _ _ _ _ _ us hw hr hs hm hA =>
      have e : Evo A A F (upd2 F d (S.gen d) u) S (S.mk' d (.arr E0 sz xs m)) w w := Evo.of_mk (.refl _ _)
      have h1c := ownsRow_one hw
      refine ⟨_, h.newBlk' (Fv := u) (.refl _ w) ⟨us, by rw [upd2_same]; exact hw, hr, hs, hm, fun q hq o ha => by rw [upd2_same] at hq; exact hA q hq o ha⟩ (fun q hq => ho.dead q (by rw [hq]; simp)) (fun q hq => ho.own q (by rw [hq]; simp)), ?_, e, fun q hq => ?_⟩
      · have := RepA.newOs (A := A) (F := upd2 F d (S.gen d) u) (S := S.mk' d (.arr E0 sz xs m)) (w := w) (d := d) (g := S.gen d) (len := xs.length) (E0 := E0) (sz := sz) (xs := xs) (m := m)
          (by simp [St.mk', upd_same]) (by simp [St.mk', upd2_same]) rfl (by rw [upd2_same]; exact h1c)
        rwa [upd2_same] at this
      · rcases live_mk hq with hq | hq
        · exact .inl hq
        · exact .inr (by rw [hq]; simp)

theorem Own.left {r1 r2 : List Nat} (h : Own E S F w (r1 ++ r2)) : Own E S F w r1 :=
  ⟨(List.nodup_append.1 h.nodup).1, fun r hr => h.dead r (List.mem_append_left _ hr), fun r hr => h.own r (List.mem_append_left _ hr)⟩

theorem Own.right {F' : Nat → Nat → Value} {r1 r2 : List Nat} (h : Own E S F w (r1 ++ r2)) (hl : ∀ r, Live S' F' r → Live S F r ∨ r ∈ r1) : Own E S' F' w r2 :=
  ⟨(List.nodup_append.1 h.nodup).2.1, fun r hr hq => by
    rcases hl r hq with q | q
    · exact h.dead r (List.mem_append_right _ hr) q
    · exact (List.nodup_append.1 h.nodup).2.2 r q r hr rfl, fun r hr => h.own r (List.mem_append_right _ hr)⟩

theorem RecvL.soundS {d : Nat} {xs : List TV} : ∀ {S S' : St} {F : Nat → Nat → Value} {vs : List AV} {us : List Value} {rs : List Nat}, RecvL d S xs vs S' → Inv E N S A F a w → RepTs A w xs us rs → Own E S F w rs →
    ∃ F', Inv E N S' A F' a w ∧ RepAs A F' S' w vs us ∧ Evo A A F F' S S' w w := by
  induction xs with
  | nil => intro S S' F vs us rs hr h hx ho; cases hr; cases hx; exact ⟨F, h, .nil, .refl⟩
  | cons x xs ih =>
    intro S S' F vs us rs hr h hx ho
    cases hr with
    | cons _ S1 _ _ v _ vs h1 hs =>
      cases hx with
      | cons _ u _ us r rs hx hu hxs =>
        obtain ⟨F1, i1, ra, e1, l1⟩ := h1.sound h hx ho.left
        obtain ⟨F2, i2, ras, e2⟩ := ih hs i1 hxs (ho.right l1)
        exact ⟨F2, i2, .cons _ _ _ _ (RepA.evo e2 ra) hu ras, e1.trans e2⟩

theorem RecvL.soundT {d : Nat} {xs : List TV} : ∀ {S S' : St} {F : Nat → Nat → Value} {vs : List AV} {us : List Value} {rs : List Nat}, RecvL d S xs vs S' → Inv E N S A F a w → RepTt A w xs us rs → Own E S F w rs →
    ∃ F', Inv E N S' A F' a w ∧ RepTu A F' S' w vs us ∧ Evo A A F F' S S' w w := by
  induction xs with
  | nil => intro S S' F vs us rs hr h hx ho; cases hr; cases hx; exact ⟨F, h, .nil, .refl⟩
  | cons x xs ih =>
    intro S S' F vs us rs hr h hx ho
    cases hr with
    | cons _ S1 _ _ v _ vs h1 hs =>
      cases hx with
      | cons _ u _ us r rs hx hxs =>
        obtain ⟨F1, i1, ra, e1, l1⟩ := h1.sound h hx ho.left
        obtain ⟨F2, i2, ras, e2⟩ := ih hs i1 hxs (ho.right l1)
        exact ⟨F2, i2, .cons _ _ _ _ (RepA.evo e2 ra) ras, e1.trans e2⟩

theorem RecvV.sound {d : Nat} {x : TV} {v : AV} (hr : RecvV d S x v S') (h : Inv E N S A F a w) {u : Value} {rs : List Nat} (hx : RepT A w x u rs) (ho : Own E S F w rs) :
    ∃ F', Inv E N S' A F' a w ∧ RepA A F' S' w v u := by
  cases hr with
  | one _ _ _ hr => obtain ⟨F', h1, h2, _⟩ := hr.sound h hx ho; exact ⟨F', h1, h2⟩
  | ag _ xs vs hr =>
    cases hx with
    | ag _ us _ hx => obtain ⟨F', h1, h2, _⟩ := hr.soundS h hx ho; exact ⟨F', h1, .ag _ _ h2⟩
  | tu _ xs vs hr =>
    cases hx with
    | tu _ us _ hx => obtain ⟨F', h1, h2, _⟩ := hr.soundT h hx ho; exact ⟨F', h1, .tu _ _ h2⟩

theorem callee_val (hI : Inv E N S A F a w) {f : Operand} {g : FuncId} {caps : List AV} (h : callee S f = some (g, caps)) : ∃ us : Array Value, a.eval f = .func (.func g) #[] us ∧ RepTu A F S w caps us.toList := by
  have hf := hI.ev f
  unfold callee at h
  have up : ∀ {cs : List AV} {us : List Value}, RepAs A F S w cs us → RepTu A F S w cs us := fun {cs us} hr => by
    induction cs generalizing us with
    | nil => cases hr; exact .nil
    | cons c cs ih => cases hr with | cons _ u _ us h h1 hs => exact .cons _ _ _ _ h (ih hs)
  split at h
  · rename_i hc
    rw [hc] at hf
    simp at h; obtain ⟨rfl, rfl⟩ := h
    obtain ⟨us, hu, hr⟩ := repA_pfn hf
    exact ⟨us, hu, up (RepAs.of_p hr)⟩
  · rename_i hc
    rw [hc] at hf
    simp at h; obtain ⟨rfl, rfl⟩ := h
    obtain ⟨us, hu, hr⟩ := repA_fn hf
    exact ⟨us, hu, up hr⟩
  · simp at h

theorem RepTu.append {xs ys : List AV} {us vs : List Value} (h : RepTu A F S w xs us) (k : RepTu A F S w ys vs) : RepTu A F S w (xs ++ ys) (us ++ vs) := by
  induction xs generalizing us with
  | nil => cases h; exact k
  | cons x xs ih => cases h with | cons _ u _ us h hs => exact .cons _ _ _ _ h (ih hs)

theorem call_sound (hI : Inv E N S A F a w) {dst : Option Tmp} {ty : Nat} {f : Operand} {args : Array Operand} {tys : Array TypeId} {pos : String} {after : Array Edge} {guard : Option (Nat × Bool)} (hd : ∀ t, dst = some t → t < N)
    {g : FuncId} {caps : List AV} (hc : callee S f = some (g, caps)) {targs : List TV} {S1 S2 : St} {l : List (Nat × Nat)} {res : TV} {outs : List (List PV)} {v : AV}
    (hp : PassL S (args.toList.map S.ev ++ caps) targs S1 l) (hf : Fn P g targs res outs) (hl : outs.length = l.length) (hr : RecvV (dst.getD 0) (putBack S1 l outs) res v S2) (hk : K (S2.put dst v)) :
    Oper.wp P ⟨dst, .call ⟨.value f, args, tys⟩, ty, pos, after, guard⟩ a w (Nx E N K) Q := by
  obtain ⟨us, hfv, hcaps⟩ := callee_val hI hc
  obtain ⟨⟨fn, hfn, hbody, hname⟩, hcall⟩ := hf
  obtain ⟨A1, rs, pk, hta, hnd, hrf⟩ := hp.sound hI ((hI.evs args.toList).append hcaps)
  have hrun : (execOp a.eval ⟨dst, .call ⟨.value f, args, tys⟩, ty, pos, after, guard⟩).run P w = .ok (.enter g (args.map a.eval ++ us)) w := by
    have hb : fn.body.isNone = false := by cases hq : fn.body <;> simp_all
    simp only [execOp, resolve, hfv, Deferred.ofValue, Sem.run_bind, Sem.run_pure, Result.andThen_ok, invoke, callFunc, run_program, hfn, hname, hb, Bool.false_eq_true, if_false, Array.empty_append]
  have hC := hcall A1 w _ rs hta hnd pk.inv.Alt
  have harr : (args.toList.map a.eval ++ us.toList).toArray = args.map a.eval ++ us := by
    apply Array.ext'; simp
  rw [harr] at hC
  unfold Oper.wp
  rw [hrun, Oper.upon_enter]
  refine hC.mono fun e w' he => ?_
  obtain ⟨u, A', r1, r2, rfl, hres, hro, af⟩ := he
  rw [hrf] at hro
  obtain ⟨i3, hlive⟩ := hI.afterCall pk af hro hl
  have hown : Own E (putBack S1 l outs) F w' r1 := by
    refine ⟨(List.nodup_append.1 af.nodup).1, fun r hr hq => ?_, fun r hr => ?_⟩
    · rcases hlive r hq with q | ⟨q1, q2⟩
      · exact (List.nodup_append.1 af.nodup).2.2 r hr r q rfl
      · rcases af.own r (List.mem_append_left _ hr) with q | q
        · omega
        · exact q2 q
    · rcases af.own r (List.mem_append_left _ hr) with q | q
      · exact .inl (Nat.le_trans hI.size q)
      · obtain ⟨t, g, k, h1, h2⟩ := pk.was r q
        exact hI.own _ _ _ r h1 h2
  obtain ⟨F', i4, hra⟩ := hr.sound i3 hres hown
  exact ⟨_, _, _, i4.put hra hd, hk⟩
end
end Go.Proofs.Ytablmbhnimnccaa.Pw
