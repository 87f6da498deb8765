/- Pw, part 8: operations that only give a value are sound. No condition. -/
import Derived.Test.YtablmbhnimnccaaZqVal
namespace Go.Proofs.Ytablmbhnimnccaa.Pw
section
variable {P : Program} {T : Nat → Option TI} {E : Entry} {N : Nat} {A : Nat → Nat → Prop} {F : Nat → Nat → Value} {S : St} {a : Act} {w : World}

theorem repA_lit {v u : Value} (h : RepA A F S w (.p (.lit v)) u) : u = v := by
  cases h with | p _ _ h => cases h; rfl

theorem repA_ro {x : PV} {off : Nat} {u : Value} (h : RepA A F S w (.p (.ro x off)) u) : ∃ b o, u = .pointer (some ⟨b, o + off, none⟩) ∧ RepCells A w b o x.cells := by
  cases h with | p _ _ h => cases h with | ro _ _ b o h => exact ⟨b, o, rfl, h⟩
theorem repA_pfn {f : FuncId} {caps : List PV} {u : Value} (h : RepA A F S w (.p (.fn f caps)) u) : ∃ us : Array Value, u = .func (.func f) #[] us ∧ RepPs A w caps us.toList := by
  cases h with | p _ _ h => cases h with | fn _ _ us h => exact ⟨us, rfl, h⟩
theorem repA_fn {f : FuncId} {caps : List AV} {u : Value} (h : RepA A F S w (.fn f caps) u) : ∃ us : Array Value, u = .func (.func f) #[] us ∧ RepAs A F S w caps us.toList := by
  cases h with | fn _ _ us h => exact ⟨us, rfl, h⟩
theorem repA_tu {vs : List AV} {u : Value} (h : RepA A F S w (.tu vs) u) : ∃ us : Array Value, u = .tuple us ∧ RepTu A F S w vs us.toList := by
  cases h with | tu _ us h => exact ⟨us, rfl, h⟩

theorem run_equalIn_bool {t : TypeId} (hd : P.underlying t = some .bool) (d : Nat) (x y : Bool) : (Op.equalIn (d + 1) t (.bool x) (.bool y)).run P w = .ok (x == y) w := by
  simp [Op.equalIn, run_underlying hd]
theorem run_equal_bool {t : TypeId} (hd : P.underlying t = some .bool) (x y : Bool) : (Op.equal t (.bool x) (.bool y)).run P w = .ok (x == y) w :=
  run_equalIn_bool hd 9999 x y
theorem run_eql_bool {t : TypeId} (hd : P.underlying t = some .bool) (x y : Bool) : (binOp .eql t (.bool x) (.bool y)).run P w = .ok (.bool (x == y)) w := by
  have : binOp .eql t (.bool x) (.bool y) = (do pure (.bool (← Op.equal t (.bool x) (.bool y)))) := rfl
  rw [this]
  simp only [Sem.run_bind, run_equal_bool hd, Result.andThen_ok, Sem.run_pure]
theorem run_neq_bool {t : TypeId} (hd : P.underlying t = some .bool) (x y : Bool) : (binOp .neq t (.bool x) (.bool y)).run P w = .ok (.bool (!(x == y))) w := by
  have : binOp .neq t (.bool x) (.bool y) = (do pure (.bool (!(← Op.equal t (.bool x) (.bool y))))) := rfl
  rw [this]
  simp only [Sem.run_bind, run_equal_bool hd, Result.andThen_ok, Sem.run_pure]
theorem eqGuard_bool {op : BinOp} {t : TypeId} {X Y : Operand} {x y : Bool} : (eqGuard op t X Y (.bool x) (.bool y)).run P w = .ok () w := by
  unfold eqGuard; split <;> simp

theorem RepTu.get {vs : List AV} {us : List Value} (h : RepTu A F S w vs us) {i : Nat} {x : AV} (hx : vs[i]? = some x) : ∃ u, us[i]? = some u ∧ RepA A F S w x u := by
  induction vs generalizing us i with
  | nil => simp at hx
  | cons y xs ih =>
    cases h with
    | cons _ u _ us h hs =>
      cases i with
      | zero => simp at hx; subst hx; exact ⟨u, by simp, h⟩
      | succ i => simpa using ih hs (by simpa using hx)

theorem lenOf_sound (hI : Inv E N S A F a w) {x : AV} {n : Nat} {u : Value} (h : lenOf S x = some n) (hx : RepA A F S w x u) : ∃ ad c, u = .slice ad n c := by
  unfold lenOf at h
  split at h
  · simp at h; subst h
    cases hx with
    | p _ _ hx =>
      cases hx with
      | snil sz c hc ad => exact ⟨ad, c, rfl⟩
      | sl sz xs ad c => exact ⟨_, c, rfl⟩
  · simp at h; subst h
    have := repA_lit hx; subst this
    exact ⟨none, 0, rfl⟩
  · split at h
    · rename_i hk
      simp at h; subst h
      obtain ⟨E0, sz, xs, m, us, hb, hl, rfl, ho, _⟩ := okA_os hI hk hx
      rcases ho.2 with ⟨h1, h2⟩ | ⟨g, cap, cur, h1, _⟩
      · exact ⟨none, 0, by rw [h1]; congr 1; omega⟩
      · exact ⟨_, cap, by rw [h1, hl]⟩
    · simp at h
  · simp at h

theorem maxV_sound {big : Bool} {x y z : AV} {u v : Value} (h : maxV big x y = some z) (hx : RepA A F S w x u) (hy : RepA A F S w y v) :
    ∃ r, ((if big then Builtin.max2 else Builtin.min2) u v).run P w = .ok r w ∧ RepA A F S w z r := by
  unfold maxV at h
  split at h
  · simp at h
    have h1 := repA_lit hx; have h2 := repA_lit hy
    subst h1; subst h2; subst h
    cases big
    · exact ⟨_, by simp [Builtin.min2], .p _ _ (.lit _)⟩
    · exact ⟨_, by simp [Builtin.max2], .p _ _ (.lit _)⟩
  · simp at h

theorem maxL_sound {big : Bool} {ys : List AV} : ∀ {x z : AV} {u : Value} {vs : List Value}, maxL big x ys = some z → RepA A F S w x u → RepTu A F S w ys vs →
    ∃ r, (vs.foldlM (if big then Builtin.max2 else Builtin.min2) u).run P w = .ok r w ∧ RepA A F S w z r := by
  induction ys with
  | nil => intro x z u vs h hx hy; cases hy; simp [maxL] at h; subst h; exact ⟨u, by simp, hx⟩
  | cons y ys ih =>
    intro x z u vs h hx hy
    cases hy with
    | cons _ v _ vs hv hvs =>
      simp only [maxL] at h
      cases hm : maxV big x y with
      | none => simp [hm] at h
      | some q =>
        simp only [hm] at h
        obtain ⟨r, h1, h2⟩ := maxV_sound (P := P) hm hx hv
        obtain ⟨r', h3, h4⟩ := ih h h2 hvs
        exact ⟨r', by simp only [List.foldlM_cons, Sem.run_bind, h1, Result.andThen_ok, h3], h4⟩

theorem Inv.evs (h : Inv E N S A F a w) (xs : List Operand) : RepTu A F S w (xs.map S.ev) (xs.map a.eval) := by
  induction xs with
  | nil => exact .nil
  | cons x xs ih => exact .cons _ _ _ _ (h.ev x) ih

theorem fieldAt_sound (hT : TOk P T) (hI : Inv E N S A F a w) {s f k : Nat} {x v : AV} {p : Value} (hk : fieldOff T s f = some k) (hl : ptAdd S k x = some v) (hx : RepA A F S w x p) :
    ∃ u, (Instr.fieldAt s p f).run P w = .ok u w ∧ RepA A F S w v u := by
  obtain ⟨b, o, rfl, hr⟩ := ptAdd_sound hI hl hx
  unfold fieldOff at hk
  cases hti : T s with
  | none => simp [hti] at hk
  | some ti =>
    simp only [hti] at hk
    obtain ⟨d, hd, hkd⟩ := hT.kind hti
    cases hq : ti.kd <;> simp only [hq, reduceCtorEq, Option.map_eq_some_iff] at hk
    rename_i fs
    obtain ⟨⟨off, sz⟩, hf, rfl⟩ := hk
    rw [hq] at hkd
    obtain ⟨fields, rfl, hsz, hall⟩ := hkd
    obtain ⟨fd, h1, h2, h3, h4⟩ := hall f off sz hf
    simp only [Option.map_eq_some_iff] at h3
    obtain ⟨i, h3, h5⟩ := h3
    refine ⟨_, ?_, hr⟩
    subst h5
    simp [Instr.fieldAt, run_underlying hd, h1, Instr.sureAddr, fieldPlace, run_sizeOf' h3, h4, h2, Addr.add_lit]

theorem idxV_sound (hT : TOk P T) (hI : Inv E N S A F a w) {t : Nat} {x i v : AV} {p q : Value} (hl : idxV T S t x i = some v) (hx : RepA A F S w x p) (hi : RepA A F S w i q) :
    ∃ u, (Instr.indexAt t p q).run P w = .ok u w ∧ RepA A F S w v u := by
  unfold idxV at hl
  split at hl
  · rename_i k i
    have := repA_lit hi; subst this
    cases hti : T t with
    | none => simp [hti] at hl
    | some ti =>
      simp only [hti] at hl
      obtain ⟨d, hd, hkd⟩ := hT.kind hti
      cases hq : ti.kd <;> simp only [hq, reduceCtorEq] at hl
      · -- a slice
        rename_i e
        rw [hq] at hkd
        simp only [TKok] at hkd
        subst hkd
        cases hte : T e with
        | none => simp [hte] at hl
        | some te =>
          simp only [hte] at hl
          split at hl
          · rename_i sz xs
            split at hl
            · rename_i h0
              obtain ⟨rfl, h0⟩ := h0
              simp only [Option.map_eq_some_iff] at hl
              obtain ⟨y, hy, rfl⟩ := hl
              have hlt : i.toNat < xs.length := (List.getElem?_eq_some_iff.1 hy).1
              cases hx with
              | p _ _ hx =>
                cases hx with
                | snil => simp at hlt
                | sl _ _ ad c hle hc hs hsp hcells =>
                  have he := hcells.elem hs hy
                  have hr : RepA A F S w (.p (.ro y 0)) (.pointer (some ⟨ad.block, ad.off + i.toNat * te.size + 0, none⟩)) := .p _ _ (.ro _ _ _ _ he)
                  refine ⟨_, ?_, hr⟩
                  have hbd : 0 ≤ i ∧ i < (xs.length : Int) := by omega
                  have hadd : ad.add (i.toNat * te.size) = ⟨ad.block, ad.off + i.toNat * te.size + 0, none⟩ := by
                    obtain ⟨b, o, sp⟩ := ad
                    simp only at hsp
                    subst hsp
                    rw [Addr.add_lit]; rfl
                  simp [Instr.indexAt, asIntOf, run_underlying hd, hbd, hT.size hte, hadd]
            · simp at hl
          · rename_i t' g len
            split at hl
            · rename_i E0 sz xs m hb
              split at hl
              · rename_i h0
                obtain ⟨h1, rfl, h0, hlt⟩ := h0
                simp only [Option.some.injEq] at hl
                subst hl
                cases hx with
                | os _ _ _ _ hg hqq _ =>
                  have hu := (hqq _ _ _ _ hb).2 h1
                  obtain ⟨us, ho, hr, hs, _⟩ := hI.bl _ _ _ hb
                  rcases ho.2 with ⟨h3, h4⟩ | ⟨g0, cap, cur, h3, h5, h6, h7, h8, h9, h10⟩
                  · omega
                  · have hr : RepA A F S w (.pe t' g len i.toNat 0) (.pointer (some ⟨g0, i.toNat * te.size + 0, none⟩)) :=
                      .pe _ _ _ _ _ _ hg (fun E' sz' xs' m' hb' => by
                        rw [hb] at hb'; simp at hb'; obtain ⟨rfl, rfl, rfl, rfl⟩ := hb'
                        exact ⟨by omega, fun _ => ⟨g0, by rw [h3]; rfl, rfl⟩⟩) rfl
                    refine ⟨_, ?_, hr⟩
                    have hbd : 0 ≤ i ∧ i < (xs.length : Int) := by omega
                    rw [hu, h3]
                    simp [Instr.indexAt, asIntOf, run_underlying hd, hbd, hT.size hte, Addr.add_lit]
              · simp at hl
            · simp at hl
          · simp at hl
      · -- an array
        rename_i n e
        rw [hq] at hkd
        simp only [TKok] at hkd
        subst hkd
        cases hte : T e with
        | none => simp [hte] at hl
        | some te =>
          simp only [hte] at hl
          split at hl
          · rename_i hbd
            obtain ⟨b, o, rfl, hr⟩ := ptAdd_sound hI hl hx
            refine ⟨_, ?_, hr⟩
            simp [Instr.indexAt, asIntOf, run_underlying hd, hbd, hT.size hte, Instr.sureAddr, Addr.add_lit]
          · simp at hl
  · simp at hl

theorem pickV_sound {t : Bool} {x y : AV} {u v : Value} (hx : RepA A F S w x u) (hy : RepA A F S w y v) : RepA A F S w (pickV t x y) (if t then u else v) := by
  unfold pickV
  split
  · have h1 := repA_lit hx; have h2 := repA_lit hy
    subst h1; subst h2
    cases t <;> exact .p _ _ (.lit _)
  · cases t
    · exact hy
    · exact hx

theorem eqGuard_run {op : BinOp} {t : TypeId} {X Y : Operand} {x y v : Value} (h : vBin op x y = some v) : (eqGuard op t X Y x y).run P w = .ok () w := by
  cases x <;> cases y <;> simp only [vBin, reduceCtorEq] at h <;> (unfold eqGuard; split <;> simp)

theorem RepTu.ofPt {vs : List AV} {us : List Value} (h : RepTu A F S w vs us) (hp : allPt vs = true) : RepAs A F S w vs us := by
  induction vs generalizing us with
  | nil => cases h; exact .nil
  | cons x xs ih =>
    cases h with
    | cons _ u _ us h hs =>
      cases x <;> simp only [allPt, Bool.false_eq_true] at hp
      cases h with
      | pt _ _ _ _ hg hq h1 => exact .cons _ _ _ _ (.pt _ _ _ _ hg hq h1) h1 (ih hs hp)

theorem opv_sound (hT : TOk P T) (hI : Inv E N S A F a w) {o : Oper} {v : AV} (h : opv T S o.op = some v) : ∃ u, (execOp a.eval o).run P w = .ok (.value u) w ∧ RepA A F S w v u := by
  obtain ⟨dst, op, ty, pos, after, guard⟩ := o
  simp only at h
  cases op <;> simp only [opv, reduceCtorEq] at h
  case move x => simp at h; subst h; exact ⟨_, by simp [execOp], hI.ev x⟩
  case assign x => simp at h; subst h; exact ⟨_, by simp [execOp], hI.ev x⟩
  case pick c x y =>
    split at h
    · rename_i t hc
      simp at h; subst h
      have := hI.ev c; rw [hc] at this
      have hv := repA_lit this
      exact ⟨_, by simp [execOp, asBool, hv], pickV_sound (hI.ev x) (hI.ev y)⟩
    · simp at h
  case load t x =>
    obtain ⟨u, h1, h2⟩ := loadV_sound hT hI h (hI.ev x)
    exact ⟨u, by simp [execOp, h1], h2⟩
  case nilCheck x =>
    have hx := hI.ev x
    split at h
    · rename_i hc; rw [hc] at hx
      obtain ⟨b, o, hp, hr⟩ := ptAdd_sound hI h hx
      exact ⟨.pointer (some ⟨b, o, none⟩), by simp [execOp, hp], by simpa using hr⟩
    · rename_i hc; rw [hc] at hx
      obtain ⟨b, o, hp, hr⟩ := ptAdd_sound hI h hx
      exact ⟨.pointer (some ⟨b, o, none⟩), by simp [execOp, hp], by simpa using hr⟩
    · rename_i hc; rw [hc] at hx
      simp at h; subst h
      obtain ⟨b, o, hq, _⟩ := repA_ro hx
      rw [hq] at hx
      exact ⟨_, by simp only [execOp, hq]; rfl, hx⟩
    · rename_i hc; rw [hc] at hx
      simp at h; subst h
      obtain ⟨us, hq, _⟩ := repA_pfn hx
      rw [hq] at hx
      exact ⟨_, by simp only [execOp, hq]; rfl, hx⟩
    · rename_i hc; rw [hc] at hx
      simp at h; subst h
      obtain ⟨us, hq, _⟩ := repA_fn hx
      rw [hq] at hx
      exact ⟨_, by simp only [execOp, hq]; rfl, hx⟩
    · simp at h
  case binOp op t x y yt =>
    have hx := hI.ev x
    have hy := hI.ev y
    unfold binV at h
    split at h
    · rename_i p q hc1 hc2
      rw [hc1] at hx; rw [hc2] at hy
      have h1 := repA_lit hx; have h2 := repA_lit hy
      split at h
      · rename_i hb
        unfold isBool at hb
        split at hb
        · rename_i ti hti
          split at hb
          · rename_i hk
            obtain ⟨d, hd, hkd⟩ := hT.kind hti
            rw [hk] at hkd
            simp only [TKok] at hkd
            subst hkd
            cases op <;> simp only [reduceCtorEq, Option.some.injEq] at h <;> subst h
            · exact ⟨_, by simp only [execOp, h1, h2, Sem.run_bind, eqGuard_bool, run_eql_bool hd, Result.andThen_ok, Sem.run_pure], .p _ _ (.lit _)⟩
            · exact ⟨_, by simp only [execOp, h1, h2, Sem.run_bind, eqGuard_bool, run_neq_bool hd, Result.andThen_ok, Sem.run_pure], .p _ _ (.lit _)⟩
          · simp at hb
        · simp at hb
      · simp at h
    · rename_i p q _ hc1 hc2
      rw [hc1] at hx; rw [hc2] at hy
      have h1 := repA_lit hx; have h2 := repA_lit hy
      simp only [Option.map_eq_some_iff] at h
      obtain ⟨z, hz, rfl⟩ := h
      exact ⟨z, by simp only [execOp, h1, h2, Sem.run_bind, eqGuard_run hz, vBin_sound hz, Result.andThen_ok, Sem.run_pure], .p _ _ (.lit _)⟩
    · simp at h
  case unOp op t x =>
    have hx := hI.ev x
    cases op <;> simp only [opv, reduceCtorEq] at h <;> (split at h <;> simp only [Option.some.injEq, reduceCtorEq] at h) <;> subst h
    all_goals (rename_i hc; rw [hc] at hx; have h1 := repA_lit hx; exact ⟨_, by simp [execOp, h1, Op.unary, Op.intArith], .p _ _ (.lit _)⟩)
  case convert src t x =>
    have hx := hI.ev x
    split at h
    · rename_i k n hc
      rw [hc] at hx
      have h1 := repA_lit hx
      split at h
      · rename_i ts ti hts hti
        split at h
        · rename_i k' hk
          simp at h; subst h
          obtain ⟨d0, hd0, _⟩ := hT.kind hts
          obtain ⟨d, hd, hkd⟩ := hT.kind hti
          rw [hk] at hkd
          simp only [TKok] at hkd
          subst hkd
          exact ⟨_, by simp [execOp, h1, convert, run_underlying hd, run_underlying hd0, Conv.intToInt], .p _ _ (.lit _)⟩
        · simp at h
      · simp at h
    · simp at h
  case fieldAddr s x f =>
    split at h
    · rename_i k hk
      obtain ⟨u, h1, h2⟩ := fieldAt_sound hT hI hk h (hI.ev x)
      exact ⟨u, by simp [execOp, h1], h2⟩
    · simp at h
  case indexAddr t x i =>
    obtain ⟨u, h1, h2⟩ := idxV_sound hT hI h (hI.ev x) (hI.ev i)
    exact ⟨u, by simp [execOp, h1], h2⟩
  case extract x i =>
    have hx := hI.ev x
    split at h
    · rename_i vs hc
      rw [hc] at hx
      obtain ⟨us, hq, hus⟩ := repA_tu hx
      obtain ⟨u, h1, h2⟩ := hus.get h
      exact ⟨u, by simp only [Array.getElem?_toList] at h1; simp [execOp, hq, Instr.extract, h1], h2⟩
    · simp at h
  case makeFunc fn first caps =>
    cases fn <;> simp only [opv, reduceCtorEq] at h
    rename_i f
    split at h
    · rename_i h0
      simp at h; subst h
      have : first = #[] := Array.eq_empty_of_size_eq_zero h0.1
      subst this
      refine ⟨.func (.func f) #[] (caps.map a.eval), by simp [execOp, Instr.makeFunc], .fn _ _ _ ?_⟩
      have := (hI.evs caps.toList).ofPt h0.2
      simpa using this
    · simp at h
  case call c =>
    obtain ⟨callee, args, tys⟩ := c
    cases callee with
    | value f => simp [opv] at h
    | invoke r m => simp [opv] at h
    | builtin b =>
      have hb : ∀ r, (builtin b tys ty (args.map fun | .const _ => true | _ => false) (args.map a.eval)).run P w = .ok (.value r) w →
          (execOp a.eval ⟨dst, .call ⟨.builtin b, args, tys⟩, ty, pos, after, guard⟩).run P w = .ok (.value r) w := fun r hr => by
        simp only [execOp, resolve, invoke, Sem.run_bind, Sem.run_pure, Result.andThen_ok]; exact hr
      cases b <;> simp only [opv, reduceCtorEq] at h
      case len =>
        split at h
        · rename_i x t hx ht
          cases hti : T t with
          | none => simp [hti] at h
          | some ti =>
            simp only [hti] at h
            obtain ⟨d, hd, hkd⟩ := hT.kind hti
            have hx0 : (args.map a.eval)[0]? = some (a.eval x) := by simp [hx]
            have hv := hI.ev x
            have hlen : ∀ r, (Builtin.len_ tys ty (args.map a.eval)).run P w = .ok r w → (builtin .len tys ty (args.map fun | .const _ => true | _ => false) (args.map a.eval)).run P w = .ok (.value r) w := fun r hr => by
              simp only [builtin, Sem.run_bind, hr, Result.andThen_ok, Sem.run_pure]
            cases hq : ti.kd <;> simp only [hq, reduceCtorEq] at h <;> rw [hq] at hkd <;> simp only [TKok] at hkd
            · subst hkd
              split at h
              · rename_i s hc
                simp at h; subst h
                rw [hc] at hv
                have := repA_lit hv
                exact ⟨_, hb _ (hlen _ (by simp [Builtin.len_, ht, hx0, run_underlying hd, this]; rfl)), .p _ _ (.lit _)⟩
              · simp at h
            · subst hkd
              simp only [Option.map_eq_some_iff] at h
              obtain ⟨n, hn, rfl⟩ := h
              obtain ⟨ad, c, hu⟩ := lenOf_sound hI hn hv
              exact ⟨_, hb _ (hlen _ (by simp [Builtin.len_, ht, hx0, run_underlying hd, hu]; rfl)), .p _ _ (.lit _)⟩
            · subst hkd
              simp at h; subst h
              exact ⟨_, hb _ (hlen _ (by simp [Builtin.len_, ht, hx0, run_underlying hd]; rfl)), .p _ _ (.lit _)⟩
        · simp at h
      case max =>
        split at h
        · rename_i x xs hx
          obtain ⟨r, h1, h2⟩ := maxL_sound (P := P) h (hI.ev x) (hI.evs xs)
          refine ⟨r, hb _ ?_, h2⟩
          have e : (args.map a.eval).toList = a.eval x :: xs.map a.eval := by simp [hx]
          simp only [builtin, Builtin.max_, e, Sem.run_bind, Sem.run_pure, if_true] at h1 ⊢
          rw [h1]; rfl
        · simp at h
      case min =>
        split at h
        · rename_i x xs hx
          obtain ⟨r, h1, h2⟩ := maxL_sound (P := P) h (hI.ev x) (hI.evs xs)
          refine ⟨r, hb _ ?_, h2⟩
          have e : (args.map a.eval).toList = a.eval x :: xs.map a.eval := by simp [hx]
          simp only [builtin, Builtin.min_, e, Sem.run_bind, Sem.run_pure, Bool.false_eq_true, if_false] at h1 ⊢
          rw [h1]; rfl
        · simp at h
end
end Go.Proofs.Ytablmbhnimnccaa.Pw
