/- Pw, part 11: alloc, box, build, buildSlice, makeSlice. No condition. -/
import Derived.Test.YtablmbhnimnccaaZqVal
import Derived.Great.FillDense
import Derived.Great.BuildSlice
import Derived.Laws.MakeOwn
namespace Go.Proofs.Ytablmbhnimnccaa.Pw

def Nx (E : Entry) (N : Nat) (K : St → Prop) (a : Act) (w : World) : Prop := ∃ S A F, Inv E N S A F a w ∧ K S

section
variable {P : Program} {T : Nat → Option TI} {E : Entry} {N : Nat} {A : Nat → Nat → Prop} {F : Nat → Nat → Value} {S S' : St} {a : Act} {w w' : World} {K : St → Prop} {Q : Exit → Act → World → Prop}

theorem wp_val {o : Oper} {next : Act → World → Prop} {u : Value} (h : (execOp a.eval o).run P w = .ok (.value u) w') (hn : next (a.put o.dst u) w') : o.wp P a w next Q := by
  unfold Oper.wp; rw [h]; exact hn
theorem wp_skp {o : Oper} {next : Act → World → Prop} (h : (execOp a.eval o).run P w = .ok .skip w') (hn : next (a.put o.dst undef) w') : o.wp P a w next Q := by
  unfold Oper.wp; rw [h]; exact hn

theorem TOk.zero (hT : TOk P T) {t : Nat} {ti : TI} (h : T t = some ti) : (zeroValue t).run P w = .ok ti.zero w := by
  obtain ⟨i, hi, h1, h2, h3, h4⟩ := hT.info h
  simp [zeroValue, run_info hi, h3]

theorem TOk.zeroOne (hT : TOk P T) {t : Nat} {ti : TI} (h : T t = some ti) : (∀ z ∈ ti.zero.cells, z.oneCell' = true) ∧ ti.zero.cells.size = ti.size ∧ (ti.isAgg = false → ti.size = 1 ∧ ti.zero.oneCell' = true) := by
  obtain ⟨i, d, hi, hd, hs, hb, hz, hc, h1, h2, hk⟩ := hT t ti h
  exact ⟨h1, hc, h2⟩

theorem lits_rep {zs : List Value} (h : ∀ z ∈ zs, z.oneCell' = true) : RepPs A w (zs.map .lit) zs := by
  induction zs with
  | nil => exact .nil
  | cons z zs ih => exact .cons _ _ _ _ (.lit z) (h z (by simp)) (ih fun y hy => h y (by simp [hy]))

theorem zeroA_rep (hT : TOk P T) {t : Nat} {ti : TI} (h : T t = some ti) : RepAs A F S w (zeroA ti) ti.zero.cells.toList := by
  have := RepAs.of_p (F := F) (S := S) (lits_rep (A := A) (w := w) (zs := ti.zero.cells.toList) fun z hz => (hT.zeroOne h).1 z (by simpa using hz))
  simpa [zeroA, Function.comp_def] using this

theorem newBl_var (hI : Inv E N S A F a w) {cs : List AV} {us : Array Value} (hr : RepAs A F S w cs us.toList) (t : TypeId) {dst : Option Tmp} (hd : ∀ t, dst = some t → t < N)
    (hk : newBl S dst (.var cs false) (fun d g => .pt d g 0) K) : Nx E N K (a.put dst (.pointer (some ⟨w.heap.size, 0, none⟩))) (w.alloc (.cells us t)) := by
  cases dst with
  | none => exact hk.elim
  | some d =>
    have h1 := hI.newVar hr t d
    refine ⟨_, _, _, h1.put (RepA.newPt (b := .var cs false) (Fv := undef) (upd2_same _ _ _ _) (by simp [St.mk', upd_same])) hd, hk⟩

theorem newBl_arr (hI : Inv E N S A F a w) {E0 sz : Nat} {xs : List PV} {us : List Value} {v : Value} (ws : Wstep (fun _ => False) w w') (ho : w'.ownsRow 0 E0 sz v xs.length us)
    (hnew : ∀ r, bOf v = some r → w.heap.size ≤ r) (hr : RepPs A w (flat xs) us) (hs : ∀ x ∈ xs, x.size = sz) {dst : Option Tmp} (hd : ∀ t, dst = some t → t < N)
    {len : Nat} (hl : len = xs.length) (hk : newBl S dst (.arr E0 sz xs 0) (fun d g => .os d g len) K) : Nx E N K (a.put dst v) w' := by
  cases dst with
  | none => exact hk.elim
  | some d =>
    have k : Keeps A A w w' := Keeps.of_step hI ws fun _ _ _ h => h.elim
    have h1 : Inv E N (S.mk' d (.arr E0 sz xs 0)) A (upd2 F d (S.gen d) v) a w' := by
      refine hI.newBlk ws ⟨us, ?_, hr.mono k, hs, Nat.zero_le _, fun r hb o ha => ?_⟩ hnew
      · rw [upd2_same]; exact ho
      · rw [upd2_same] at hb
        have := hI.Alt _ _ ha; have := hnew r hb; omega
    have h1c : v.oneCell' = true := by rcases ho.2 with ⟨rfl, _⟩ | ⟨g, cap, cur, rfl, _⟩ <;> rfl
    have hra : RepA A (upd2 F d (S.gen d) v) (S.mk' d (.arr E0 sz xs 0)) w' (.os d (S.gen d) len) v := by
      have := RepA.newOs (A := A) (F := upd2 F d (S.gen d) v) (S := S.mk' d (.arr E0 sz xs 0)) (w := w') (d := d) (g := S.gen d) (len := len) (E0 := E0) (sz := sz) (xs := xs) (m := 0)
        (by simp [St.mk', upd_same]) (by simp [St.mk', upd2_same]) hl.symm (by rw [upd2_same]; exact h1c)
      rwa [upd2_same] at this
    exact ⟨_, _, _, h1.put hra hd, hk⟩

theorem alloc_sound (hT : TOk P T) (hI : Inv E N S A F a w) {dst : Option Tmp} {t ty : Nat} {pos : String} {after : Array Edge} {guard : Option (Nat × Bool)} (hd : ∀ t, dst = some t → t < N)
    {ti : TI} (hti : T t = some ti) (hk : newBl S dst (.var (zeroA ti) false) (fun d g => .pt d g 0) K) : Oper.wp P ⟨dst, .alloc t, ty, pos, after, guard⟩ a w (Nx E N K) Q := by
  refine wp_val (u := .pointer (some ⟨w.heap.size, 0, none⟩)) (w' := w.alloc (.cells ti.zero.cells t)) ?_ (newBl_var hI (zeroA_rep hT hti) t hd hk)
  simp [execOp, Instr.alloc, hT.zero hti, run_newVar]

theorem box_sound (hI : Inv E N S A F a w) {dst : Option Tmp} {t ty : Nat} {x : Operand} {pos : String} {after : Array Edge} {guard : Option (Nat × Bool)} (hd : ∀ t, dst = some t → t < N)
    (hc : cellsOk (S.ev x) = true) (hk : newBl S dst (.var (toCells (S.ev x)) false) (fun d g => .pt d g 0) K) : Oper.wp P ⟨dst, .box t x, ty, pos, after, guard⟩ a w (Nx E N K) Q := by
  refine wp_val (u := .pointer (some ⟨w.heap.size, 0, none⟩)) (w' := w.alloc (.cells (a.eval x).cells t)) ?_ (newBl_var hI (toCells_sound hc (hI.ev x)) t hd hk)
  simp [execOp, Instr.box, run_newVar]

theorem splice_foldl (off : Nat) (l : List Value) (cs : Array Value) (h : off + l.length ≤ cs.size) :
    ((l.zipIdx 0).foldl (fun cs (x : Value × Nat) => cs.setIfInBounds (off + x.2) x.1) cs) = (splice cs.toList off l).toArray := by
  obtain ⟨h1, h2⟩ := Go.Great.foldl_set off l 0 cs
  apply Array.ext_getElem?
  intro k
  rw [h2 k]
  simp only [splice, Nat.add_zero]
  have hc : (cs.toList.take off ++ l ++ cs.toList.drop (off + l.length)).toArray[k]? = (cs.toList.take off ++ l ++ cs.toList.drop (off + l.length))[k]? := by simp
  rw [hc, List.append_assoc]
  have hlt : (cs.toList.take off).length = off := by simp; omega
  by_cases hk : k < off
  · rw [if_neg (by omega), List.getElem?_append_left (by omega), List.getElem?_take]
    simp [hk]
  · rw [List.getElem?_append_right (by omega), hlt]
    by_cases hk2 : k < off + l.length
    · rw [if_pos (by omega), List.getElem?_append_left (by omega)]
    · rw [if_neg (by omega), List.getElem?_append_right (by omega), List.getElem?_drop]
      have : off + l.length + (k - off - l.length) = k := by omega
      simp [this]

theorem RepAs.splice {cs vs : List AV} {us ws : List Value} (h : RepAs A F S w cs us) (k : RepAs A F S w vs ws) (off : Nat) : RepAs A F S w (splice cs off vs) (splice us off ws) := by
  unfold Go.Proofs.Ytablmbhnimnccaa.Pw.splice
  rw [k.length]
  exact ((h.take off).append k).append (h.drop _)

theorem fill_sound {place : Nat → Option (Nat × Nat)} {ti : TI} {ps : List (Nat × AV)} : ∀ {cs cs' : List AV} {us : Array Value} {vs : List (Nat × Value)}, fillV T ti ps cs = some cs' →
    (∀ i off size, placeOf T ti i = some (off, size) → place i = some (off, size)) → RepAs A F S w cs us.toList → vs.map (·.1) = ps.map (·.1) → RepTu A F S w (ps.map (·.2)) (vs.map (·.2)) →
    ∃ us', Instr.fill place us vs = some us' ∧ RepAs A F S w cs' us'.toList := by
  induction ps with
  | nil =>
    intro cs cs' us vs h hp hr h1 h2
    simp [fillV] at h; subst h
    have : vs = [] := by simpa using h1
    subst this
    exact ⟨us, rfl, hr⟩
  | cons p ps ih =>
    intro cs cs' us vs h hp hr h1 h2
    obtain ⟨i, x⟩ := p
    cases vs with
    | nil => simp at h1
    | cons q vs =>
      obtain ⟨j, v⟩ := q
      simp only [List.map_cons, List.cons.injEq] at h1 h2
      obtain ⟨rfl, h1⟩ := h1
      simp only [fillV] at h
      cases hpl : placeOf T ti j with
      | none => simp [hpl] at h
      | some os =>
        obtain ⟨off, size⟩ := os
        simp only [hpl] at h
        split at h
        · rename_i hc
          cases h2 with
          | cons _ _ _ _ hx hxs =>
            have hcs := toCells_sound hc.1 hx
            have hlen := hcs.length
            have hl2 := hr.length
            have hsz : v.cells.size = size := by rw [← hc.2.1, ← hlen]; simp
            have hr' := hr.splice hcs off
            obtain ⟨us', hf, hq⟩ := ih (us := (Go.Proofs.Ytablmbhnimnccaa.Pw.splice us.toList off v.cells.toList).toArray) h hp (by simpa using hr') h1 hxs
            refine ⟨us', ?_, hq⟩
            unfold Instr.fill
            simp only [hp j off size hpl]
            rw [if_neg (by simp only [Bool.or_eq_true, decide_eq_true_eq, not_or, ne_eq, Decidable.not_not]; simp at hl2; exact ⟨hsz, by omega⟩)]
            rw [← hf]
            congr 1
            rw [← splice_foldl off v.cells.toList us (by simp at hl2 ⊢; omega)]
            simp only [← Array.foldl_toList, Array.toList_zipIdx]
        · simp at h

theorem RepA.ag_of {cs : List AV} {us : Array Value} (h : RepAs A F S w cs us.toList) : RepA A F S w (Go.Proofs.Ytablmbhnimnccaa.Pw.mkAg cs) (.agg us) := by
  have := RepA.mkAg h
  simpa using this

theorem mapM_of_get {α β : Type} {f : α → Option β} : ∀ (l : List α) (r : List β), l.length = r.length → (∀ (j : Nat) (y : β), r[j]? = some y → ∃ x, l[j]? = some x ∧ f x = some y) → l.mapM f = some r
  | [], [], _, _ => rfl
  | [], _ :: _, h, _ => by simp at h
  | _ :: _, [], h, _ => by simp at h
  | x :: l, y :: r, h, hq => by
    obtain ⟨x', h1, h2⟩ := hq 0 y rfl
    simp at h1; subst h1
    have ih := mapM_of_get l r (by simpa using h) fun j z hj => by simpa using hq (j + 1) z (by simpa using hj)
    simp [List.mapM_cons, h2, ih]

theorem build_sound (hT : TOk P T) (hI : Inv E N S A F a w) {dst : Option Tmp} {t ty : Nat} {ps : Array (Nat × Operand)} {pos : String} {after : Array Edge} {guard : Option (Nat × Bool)} (hd : ∀ t, dst = some t → t < N)
    {ti : TI} (hti : T t = some ti) {cs : List AV} (hf : fillV T ti (ps.toList.map fun p => (p.1, S.ev p.2)) (zeroA ti) = some cs) (hag : buildOk T ti = true) {v' : AV} (hv' : VLe (mkAg cs) v') (hk : K (S.put dst v')) :
    Oper.wp P ⟨dst, .build t ps, ty, pos, after, guard⟩ a w (Nx E N K) Q := by
  obtain ⟨i, d, hi, hdd, hs, hb, hz, hc, h1, h2, hkd⟩ := hT t ti hti
  have hp1 : (ps.map fun (i, x) => (i, a.eval x)).toList.map (·.1) = (ps.toList.map fun p => (p.1, S.ev p.2)).map (·.1) := by simp
  have hp2 : RepTu A F S w ((ps.toList.map fun p => (p.1, S.ev p.2)).map (·.2)) ((ps.map fun (i, x) => (i, a.eval x)).toList.map (·.2)) := by
    have := hI.evs (ps.toList.map (·.2))
    simpa [Function.comp_def] using this
  have key : ∃ us', P.built t (ps.map fun (i, x) => (i, a.eval x)).toList = some us' ∧ RepAs A F S w cs us'.toList := by
    unfold Program.built
    cases hq : ti.kd with
    | st fs =>
      rw [hq] at hkd
      obtain ⟨fields, rfl, hsz, hall⟩ := hkd
      have hm : fields.toList.mapM (fun f => (P.info? f.type).map fun i => (f.offset, i.size)) = some fs := mapM_of_get _ _ (by simpa using hsz) fun j y hj => by
        obtain ⟨o, s⟩ := y
        obtain ⟨f, q1, q2, q3, q4⟩ := hall j o s hj
        simp only [Option.map_eq_some_iff] at q3
        obtain ⟨fi, q3, q5⟩ := q3
        exact ⟨f, by simpa using q1, by simp [q3, q2, q5]⟩
      simp only [hi, hdd, hz, hm]
      exact fill_sound hf (fun i off size hpl => by simp [placeOf, hq] at hpl; simpa using hpl) (zeroA_rep hT hti) hp1 hp2
    | arr n e =>
      rw [hq] at hkd
      simp only [TKok] at hkd
      subst hkd
      cases hte : T e with
      | none => simp [buildOk, hq, hte] at hag
      | some te =>
        obtain ⟨ie, hie, hies, _⟩ := hT.info hte
        simp only [hi, hdd, hz, hie]
        exact fill_sound hf (fun i off size hpl => by simp [placeOf, hq, hte] at hpl; obtain ⟨rfl, rfl⟩ := hpl; simp [hies]) (zeroA_rep hT hti) hp1 hp2
    | _ => simp [buildOk, hq] at hag
  obtain ⟨us', hbt, hr⟩ := key
  refine wp_val (u := .agg us') (w' := w) ?_ ⟨_, _, _, hI.put (hv'.rep (RepA.ag_of hr)) hd, hk⟩
  simp only [execOp, Sem.run_bind, run_build w t _ us' hbt, Result.andThen_ok, Sem.run_pure]
end
end Go.Proofs.Ytablmbhnimnccaa.Pw
/- Pw, part 12: slices that are made, variables that are written. No condition. -/
namespace Go.Proofs.Ytablmbhnimnccaa.Pw
section
variable {P : Program} {T : Nat → Option TI} {E : Entry} {N : Nat} {A : Nat → Nat → Prop} {F : Nat → Nat → Value} {S S' : St} {a : Act} {w w' : World} {K : St → Prop} {Q : Exit → Act → World → Prop}

theorem RepTt.plain {xs : List PV} {us : List Value} {rs : List Nat} (h : RepTt A w (xs.map .p) us rs) : us.length = xs.length ∧ ∀ (i : Nat) (x : PV), xs[i]? = some x → ∃ u, us[i]? = some u ∧ RepP A w x u := by
  induction xs generalizing us rs with
  | nil => cases h; exact ⟨rfl, by simp⟩
  | cons x xs ih =>
    cases h with
    | cons _ u _ us r rs h hs =>
      obtain ⟨h1, h2⟩ := ih hs
      refine ⟨by simp [h1], fun i y hi => ?_⟩
      cases i with
      | zero => simp at hi; subst hi; cases h with | p _ _ h => exact ⟨u, by simp, h⟩
      | succ i => simpa using h2 i y (by simpa using hi)

/-- A plain value's cells. -/
theorem RepP.cells {x : PV} {u : Value} (h : RepP A w x u) (hu : u.oneCell' = true ∨ ∃ cs, x = .ag cs) : RepPs A w x.cells u.cells.toList := by
  have one : u.oneCell' = true → x.cells = [x] → RepPs A w x.cells u.cells.toList := fun h1 hx => by
    rw [hx]
    have : u.cells = #[u] := by cases u <;> simp_all [Value.cells, Value.oneCell']
    rw [this]
    exact .cons _ _ _ _ h h1 .nil
  cases h with
  | ag cs us h => exact h
  | lit =>
    rcases hu with hu | ⟨cs, hq⟩
    · exact one hu rfl
    · cases hq
  | snil => exact one rfl rfl
  | sl => exact one rfl rfl
  | fn => exact one rfl rfl
  | ro => exact one rfl rfl

theorem RepP.cells' {x : PV} {u : Value} (h : RepP A w x u) (hk : plainOk x = true) : RepPs A w x.cells u.cells.toList := by
  cases h with
  | ag cs us h => exact h
  | lit => exact RepP.cells (.lit _) (.inl hk)
  | snil sz c hc ad => exact RepP.cells (.snil _ _ hc ad) (.inl rfl)
  | sl sz xs ad c hl hc hs hsp h => exact RepP.cells (.sl _ _ _ _ hl hc hs hsp h) (.inl rfl)
  | fn f caps us h => exact RepP.cells (.fn _ _ _ h) (.inl rfl)
  | ro y off b o h => exact RepP.cells (.ro _ _ _ _ h) (.inl rfl)

theorem flatVals {xs : List PV} {us : List Value} {rs : List Nat} (h : RepTt A w (xs.map .p) us rs) (hk : ∀ x ∈ xs, plainOk x = true) : RepPs A w (flat xs) (us.flatMap fun v => v.cells.toList) ∧ ∀ sz, (∀ x ∈ xs, x.size = sz) → ∀ v ∈ us, v.cells.size = sz := by
  induction xs generalizing us rs with
  | nil => cases h; exact ⟨.nil, by simp⟩
  | cons x xs ih =>
    cases h with
    | cons _ u _ us r rs h hs =>
      obtain ⟨h1, h2⟩ := ih hs fun y hy => hk y (by simp [hy])
      cases h with
      | p _ _ h =>
        have hc := h.cells' (hk x (by simp))
        refine ⟨by simpa [flat] using hc.append h1, fun sz hsz v hv => ?_⟩
        rcases List.mem_cons.1 hv with rfl | hv
        · have := hc.length
          have hx := hsz x (by simp)
          simp only [PV.size] at hx
          simp at this; omega
        · exact h2 sz (fun y hy => hsz y (by simp [hy])) v hv

theorem wstep_draw (w : World) : Wstep (fun _ => False) w w.drew := ⟨rfl, rfl, rfl, Nat.le_refl _, fun _ _ _ => rfl⟩

theorem Wstep.trans {w2 : World} {Wr : Nat → Prop} (h : Wstep Wr w w') (k : Wstep Wr w' w2) : Wstep Wr w w2 :=
  ⟨k.os.trans h.os, k.tape.trans h.tape, k.output.trans h.output, Nat.le_trans h.size k.size, fun b hb hn => (k.blk b (Nat.lt_of_lt_of_le hb h.size) hn).trans (h.blk b hb hn)⟩

theorem ownsRow_new (w : World) (cells : Array Value) (e sz n : Nat) (hs : cells.size = n * sz) (hn : n ≤ maxLen) : (w.alloc (.cells cells e)).ownsRow 0 e sz (.slice (some ⟨w.heap.size, 0, none⟩) n n) n cells.toList := by
  refine ⟨by simpa using hs, .inr ⟨w.heap.size, n, cells, rfl, Nat.zero_le _, heap_alloc_new w _, Nat.le_refl _, hn, hs, ?_⟩⟩
  rw [← hs, ← Array.length_toList, List.take_length]

theorem buildSlice_sound (hT : TOk P T) (hI : Inv E N S A F a w) {dst : Option Tmp} {t len ty : Nat} {ps : Array (Nat × Operand)} {pos : String} {after : Array Edge} {guard : Option (Nat × Bool)} (hd : ∀ t, dst = some t → t < N)
    {ti te : TI} {e : Nat} (hti : T t = some ti) (hkd : ti.kd = .sl e) (hte : T e = some te) (hps : ps.toList.map (·.1) = List.range len) (hlen : len ≤ 4096) (h0 : 0 < te.size) (h64 : te.size ≤ 64)
    {xs : List PV} (hp : PassL S (ps.toList.map fun p => S.ev p.2) (xs.map .p) S' []) (hx : ∀ x ∈ xs, x.size = te.size) (hpl : ∀ x ∈ xs, plainOk x = true)
    (hk : newBl S' dst (.arr e te.size xs 0) (fun d g => .os d g len) K) : Oper.wp P ⟨dst, .buildSlice t len ps, ty, pos, after, guard⟩ a w (Nx E N K) Q := by
  have hvs : RepTu A F S w (ps.toList.map fun p => S.ev p.2) (ps.toList.map fun p => a.eval p.2) := by
    have := hI.evs (ps.toList.map (·.2))
    simpa [Function.comp_def] using this
  obtain ⟨A', rs, pk, hr, _, _⟩ := hp.sound hI hvs
  obtain ⟨hf1, hf2⟩ := flatVals hr hpl
  have hf2 := hf2 _ hx
  have hl : xs.length = len := by
    have h1 := (RepTt.plain hr).1
    have h2 := congrArg List.length hps
    simp at h1 h2; omega
  obtain ⟨d, hdd, hk2⟩ := hT.kind hti
  rw [hkd] at hk2
  simp only [TKok] at hk2
  subst hk2
  obtain ⟨ie, hie, hs, hb, hz, hc⟩ := hT.info hte
  let vs := ps.toList.map fun p => a.eval p.2
  have hvl : vs.length = len := by
    have h2 := congrArg List.length hps
    simp at h2; simp [vs, h2]
  let us := vs.flatMap fun v => v.cells.toList
  have hus : us.length = len * te.size := by
    have h1 := hf1.length
    rw [flat_length hx, hl] at h1
    exact h1
  have hparts : (ps.map fun (i, x) => (i, a.eval x)).toList = (vs.zipIdx 0).map fun x => (x.2, x.1) := by
    apply List.ext_getElem?
    intro k
    simp only [vs, Array.toList_map, List.getElem?_map, List.getElem?_zipIdx]
    cases hq : ps.toList[k]? with
    | none => simp
    | some p =>
      have h3 := congrArg (fun l => l[k]?) hps
      simp only [List.getElem?_map, hq, Option.map_some] at h3
      have hlt : k < len := by
        have := (List.getElem?_eq_some_iff.1 hq).1
        have h2 := congrArg List.length hps
        simp at h2 this; omega
      rw [List.getElem?_range hlt] at h3
      simp at h3
      simp [h3]
  have hrun : (Instr.buildSlice t len (ps.map fun (i, x) => (i, a.eval x))).run P w = .ok (.slice (some ⟨w.heap.size, 0, none⟩) len len) (w.alloc (.cells us.toArray e)) := by
    by_cases h00 : len = 0
    · subst h00
      have hp0 : ps = #[] := by simpa using hps
      subst hp0
      simp [Instr.buildSlice, run_underlying hdd, sizeOf, run_info hie, newRow, Instr.fill, us, vs, Array.range_zero']
    · refine run_buildSlice w t e len _ us.toArray ie te.zero hdd hie hz ?_ ?_ ?_
      · rw [hs]
        have : len * te.size ≤ 4096 * 64 := Nat.mul_le_mul hlen h64
        omega
      · rw [hs]
        have : 0 < len * te.size := Nat.mul_pos (by omega) h0
        omega
      · rw [hparts, hs]
        exact Go.Great.fill_whole h0 vs _ hf2 (by rw [hvl]; simp)
  have ho := ownsRow_new w us.toArray e te.size len (by simpa using hus) (by simp [maxLen]; omega)
  rw [← hl] at ho
  refine wp_val (u := .slice (some ⟨w.heap.size, 0, none⟩) len len) (w' := w.alloc (.cells us.toArray e)) (by simp only [execOp, Sem.run_bind, hrun, Result.andThen_ok, Sem.run_pure]) (newBl_arr (xs := xs) (us := us) pk.inv (wstep_alloc w _) (by rw [hl] at ho ⊢; simpa using ho) (fun r hr => by simp [bOf] at hr; omega) hf1 hx hd hl.symm hk)

theorem madeCells_flat (te : TI) (hz : te.zero.cells.size = te.size) (h0 : 0 < te.size) (n : Nat) : (madeCells te.zero.cells (n * te.size)).toList = (List.replicate n te.zero.cells.toList).flatten := by
  apply List.ext_getElem?
  intro k
  induction n generalizing k with
  | zero => simp [madeCells]
  | succ n ih =>
    rw [List.replicate_succ, List.flatten_cons]
    simp only [madeCells] at ih ⊢
    by_cases hk : k < te.size
    · have hlt : k < (n + 1) * te.size := by rw [Nat.succ_mul]; omega
      rw [List.getElem?_append_left (by simpa [hz] using hk)]
      simp [hlt, hz, Nat.mod_eq_of_lt hk]
      simp [hz, hk]
    · rw [List.getElem?_append_right (by simp [hz]; omega), ← ih]
      by_cases hlt : k < (n + 1) * te.size
      · have h2 : k - te.size < n * te.size := by rw [Nat.succ_mul] at hlt; omega
        have h3 : (k - te.size) % te.size = k % te.size := by
          conv => rhs; rw [show k = (k - te.size) + te.size by omega]
          rw [Nat.add_mod_right]
        simp [hlt, hz, h2, h3]
      · have h2 : ¬ k - te.size < n * te.size := by rw [Nat.succ_mul] at hlt; omega
        simp [hlt, hz, h2]

theorem zeroP_cells (hT : TOk P T) {t : Nat} {ti : TI} (h : T t = some ti) : RepPs A w (zeroP ti).cells ti.zero.cells.toList ∧ (zeroP ti).size = ti.size := by
  obtain ⟨h1, h2, h3⟩ := hT.zeroOne h
  unfold zeroP
  by_cases hag : ti.isAgg = true
  · rw [if_pos hag]
    exact ⟨lits_rep fun z hz => h1 z (by simpa using hz), by simp [PV.size, PV.cells, h2]⟩
  · rw [if_neg hag]
    obtain ⟨hs, hz1⟩ := h3 (by simpa using hag)
    have hone : ti.zero.cells = #[ti.zero] := by
      cases hz : ti.zero <;> simp_all [Value.cells, Value.oneCell']
    rw [hone]
    exact ⟨.cons _ _ _ _ (.lit _) hz1 .nil, by simp [PV.size, PV.cells, hs]⟩

theorem repl_flat {x : PV} {us : List Value} (h : RepPs A w x.cells us) (n : Nat) : RepPs A w (flat (List.replicate n x)) (List.replicate n us).flatten := by
  induction n with
  | zero => exact .nil
  | succ n ih => simp only [List.replicate_succ, flat, List.flatten_cons]; exact h.append ih

theorem natOf_val {x : AV} {n : Nat} {u : Value} (h : natOf x = some n) (hx : RepA A F S w x u) : u = .int .i64 n := by
  unfold natOf at h
  split at h
  · split at h
    · rename_i m hm
      simp at h
      have := repA_lit hx
      rw [this]; congr 1; omega
    · simp at h
  · simp at h

theorem makeSlice_sound (hT : TOk P T) (hI : Inv E N S A F a w) {dst : Option Tmp} {t ty : Nat} {l c : Operand} {pos : String} {after : Array Edge} {guard : Option (Nat × Bool)} (hd : ∀ t, dst = some t → t < N)
    {ti te : TI} {e n : Nat} (hti : T t = some ti) (hkd : ti.kd = .sl e) (hte : T e = some te) (hl : natOf (S.ev l) = some n) (hc : natOf (S.ev c) = some n) (h0 : 0 < te.size)
    (hb : n * te.bytes ≤ 140737488355328) (hn : n ≤ 140737488355328) (hk : newBl S dst (.arr e te.size (List.replicate n (zeroP te)) 0) (fun d g => .os d g n) K) :
    Oper.wp P ⟨dst, .makeSlice t l c, ty, pos, after, guard⟩ a w (Nx E N K) Q := by
  obtain ⟨d, hdd, hk2⟩ := hT.kind hti
  rw [hkd] at hk2
  simp only [TKok] at hk2
  subst hk2
  obtain ⟨ie, hie, hs, hby, hz, hcz⟩ := hT.info hte
  obtain ⟨hzr, hzs⟩ := zeroP_cells (A := A) (w := w) hT hte
  have v1 := natOf_val hl (hI.ev l)
  have v2 := natOf_val hc (hI.ev c)
  have hrun := run_make (P := P) w t e ie te.zero hdd hie hz .i64 .i64 (n : Int) (n : Int) (by omega) (by omega) (by rw [hby, Int.mul_comm]; omega) (by omega)
  simp only [Int.toNat_natCast] at hrun
  have hsz : (madeCells te.zero.cells (n * ie.size)).size = n * te.size := by simp [madeCells, hs]
  have ho := ownsRow_new w (madeCells te.zero.cells (n * ie.size)) e te.size n hsz (by simp [maxLen]; omega)
  rw [hs, madeCells_flat te hcz h0 n] at ho
  refine wp_val (u := .slice (some ⟨w.heap.size, 0, none⟩) n n) (w' := w.alloc (.cells (madeCells te.zero.cells (n * ie.size)) e)) ?_ ?_
  · simp only [execOp, v1, v2, Sem.run_bind, hrun, Result.andThen_ok, Sem.run_pure]
  · rw [hs]
    refine newBl_arr (xs := List.replicate n (zeroP te)) hI (wstep_alloc w _) (by rw [List.length_replicate]; exact ho) (fun r hr => by simp [bOf] at hr; omega) (repl_flat hzr n) (fun x hx => ?_) hd (by simp) hk
    rw [List.eq_of_mem_replicate hx]; exact hzs

theorem wstep_setRow {r : Nat} {F' : Nat → Option Nat} (w : World) (cs : Array Value) : Wstep (fun b => b = r) w (w.setRow r cs) := ⟨rfl, rfl, rfl, by simp, fun b _ hn => setRow_other w r b cs hn⟩

theorem run_storeAt (hT : TOk P T) {t : Nat} {ti : TI} (h : T t = some ti) {r o : Nat} {us : Array Value} {T0 : TypeId} {v : Value} (hw : w.heap[r]? = some (.cells us T0 (0, 0))) (hs : v.cells.size = ti.size)
    (hle : o + ti.size ≤ us.size) (h1 : ∀ u ∈ v.cells.toList, u.oneCell' = true) :
    (Instr.storeAt t (.pointer (some ⟨r, o, none⟩)) v).run P w = .ok () (w.setRow r (splice us.toList o v.cells.toList).toArray) := by
  have hst := run_storeCells_at P r o T0 v.cells.toList 0 us w hw (by simp; omega) h1
  simp only [Instr.storeAt, Instr.sureAddr, storeVar, Sem.run_bind, Sem.run_pure, Result.andThen_ok, hT.size h, hs, ne_eq, not_true_eq_false, if_false, hst]
  simp [splice]

theorem store_var_sound (hT : TOk P T) (hI : Inv E N S A F a w) {t ty : Nat} {x y : Operand} {pos : String} {after : Array Edge} {guard : Option (Nat × Bool)}
    {ti : TI} (hti : T t = some ti) (hc : cellsOk (S.ev y) = true) (hl : (toCells (S.ev y)).length = ti.size) {t' g off : Nat} (hx : S.ev x = .pt t' g off) {cs : List AV} (hb : S.bl t' g = some (.var cs false))
    (hle : off + ti.size ≤ cs.length) (hk : K (S.setBl t' g (.var (splice cs off (toCells (S.ev y))) false))) :
    Oper.wp P ⟨none, .store t x y, ty, pos, after, guard⟩ a w (Nx E N K) Q := by
  have hxr := hI.ev x
  rw [hx] at hxr
  have hyr := toCells_sound hc (hI.ev y)
  obtain ⟨r, us, T0, hF, hw, hr, hs1, hs2⟩ := hI.bl _ _ _ hb
  cases hxr with
  | pt _ _ _ u hg hq h1 =>
    obtain ⟨r', hF', hu⟩ := hq _ hb rfl
    rw [hF] at hF'; simp at hF'; subst hF'
    have hlen := hyr.length
    have hlen2 := hr.length
    have hrun := run_storeAt (P := P) hT hti (r := r) (o := off) (v := a.eval y) hw (by simp at hlen; omega) (by simp at hlen2; omega) hyr.one
    have ws : Wstep (fun b => bOf (F t' g) = some b) w (w.setRow r (splice us.toList off (a.eval y).cells.toList).toArray) :=
      ⟨rfl, rfl, rfl, by simp, fun b _ hn => setRow_other w r b _ (fun hq => hn (by rw [hF, hq]; rfl))⟩
    have k : Keeps A A w (w.setRow r (splice us.toList off (a.eval y).cells.toList).toArray) := Keeps.of_step hI ws fun b o ha hbo => by
      rw [hF] at hbo; simp [bOf] at hbo; subst hbo; exact absurd ha (hs1 rfl o)
    have e : Evo A A F F S (S.setBl t' g (.var (splice cs off (toCells (S.ev y))) false)) w (w.setRow r (splice us.toList off (a.eval y).cells.toList).toArray) := Evo.of_set_var hb k
    have hup := hI.updBlk hb (Fv := F t' g) ws (b1 := .var (splice cs off (toCells (S.ev y))) false) (by rw [upd2_self]; exact e) (by
      rw [upd2_self]
      exact ⟨r, _, T0, hF, setRow_heap w r us _ T0 (0, 0) hw, by simpa using RepAs.evo e (hr.splice hyr off), fun _ => hs1 rfl, fun hq => by simp at hq⟩) (fun r hr => .inl hr)
    rw [upd2_self] at hup
    refine wp_skp (w' := w.setRow r (splice us.toList off (a.eval y).cells.toList).toArray) ?_ ⟨_, _, _, hup, hk⟩
    simp only [execOp, hu, Sem.run_bind, hrun, Result.andThen_ok, Sem.run_pure]
end
end Go.Proofs.Ytablmbhnimnccaa.Pw
/- Pw, part 13: elements that are written, cuts, appends, comparisons. No condition. -/
namespace Go.Proofs.Ytablmbhnimnccaa.Pw
section
variable {P : Program} {T : Nat → Option TI} {E : Entry} {N : Nat} {A : Nat → Nat → Prop} {F : Nat → Nat → Value} {S S' : St} {a : Act} {w w' : World} {K : St → Prop} {Q : Exit → Act → World → Prop}

theorem splice_take {α : Type} (cs : List α) (o : Nat) (vs : List α) (k : Nat) (h : o + vs.length ≤ k) (hk : k ≤ cs.length) : (splice cs o vs).take k = splice (cs.take k) o vs := by
  unfold splice
  have h1 : (cs.take o).length = o := by simp; omega
  rw [List.take_append, List.take_append, List.length_append, h1, List.take_of_length_le (l := cs.take o) (by omega), List.take_of_length_le (l := vs) (by omega), List.take_take, List.drop_take]
  rw [Nat.min_eq_left (by omega : o ≤ k)]

theorem splice_len {α : Type} (cs : List α) (o : Nat) (vs : List α) (h : o + vs.length ≤ cs.length) : (splice cs o vs).length = cs.length := by
  unfold splice; simp; omega

theorem splice_get_lt {α : Type} (cs : List α) (o : Nat) (vs : List α) (h : o ≤ cs.length) (k : Nat) (hk : k < o) : (splice cs o vs)[k]? = cs[k]? := by
  unfold splice
  rw [List.append_assoc, List.getElem?_append_left (by simp; omega), List.getElem?_take]
  simp [hk]

theorem splice_mid {α : Type} (l z r : List α) (off : Nat) (vs : List α) (h : off + vs.length ≤ z.length) : splice (l ++ z ++ r) (l.length + off) vs = l ++ splice z off vs ++ r := by
  unfold splice
  have h1 : (l ++ z ++ r).take (l.length + off) = l ++ z.take off := by
    rw [List.append_assoc, List.take_append, List.take_of_length_le (by omega), List.take_append]
    have : l.length + off - l.length = off := by omega
    rw [this]
    have : off - z.length = 0 := by omega
    simp [this]
  have h2 : (l ++ z ++ r).drop (l.length + off + vs.length) = z.drop (off + vs.length) ++ r := by
    rw [List.append_assoc, List.drop_append, List.drop_of_length_le (by omega), List.drop_append]
    have e : l.length + off + vs.length - l.length = off + vs.length := by omega
    rw [e]
    have : off + vs.length - z.length = 0 := by omega
    simp [this]
  rw [h1, h2]; simp

theorem flat_set {sz : Nat} {xs : List PV} (h : ∀ x ∈ xs, x.size = sz) {i : Nat} {z z' : PV} (hz : xs[i]? = some z) :
    ∃ l r, flat xs = l ++ z.cells ++ r ∧ l.length = i * sz ∧ flat (xs.set i z') = l ++ z'.cells ++ r := by
  induction xs generalizing i with
  | nil => simp at hz
  | cons y xs ih =>
    cases i with
    | zero => simp at hz; subst hz; exact ⟨[], flat xs, by simp [flat], by simp, by simp [flat]⟩
    | succ i =>
      obtain ⟨l, r, e, hl, e2⟩ := ih (fun z hz => h z (by simp [hz])) (i := i) (by simpa using hz)
      have h1 : y.cells.length = sz := h y (by simp)
      refine ⟨y.cells ++ l, r, by simp [flat, e], ?_, by simp [flat, e2]⟩
      simp only [List.length_append, h1, hl, Nat.succ_mul]
      omega

theorem setCells_cells {y y' : PV} {off : Nat} {ps : List PV} (h : setCells y off ps = some y') : y'.cells = splice y.cells off ps ∧ off + ps.length ≤ y.cells.length := by
  unfold setCells at h
  split at h
  · split at h
    · simp at h; subst h; exact ⟨rfl, by simpa [PV.cells]⟩
    · simp at h
  · rename_i hn
    have hy : y.cells = [y] := by cases y <;> simp_all [PV.cells]
    split at h
    · simp at h
    · rename_i p hp
      simp at h; subst h
      have : p.cells = [p] := by cases p <;> simp_all [PV.cells]
      rw [hy, this]; simp [splice]
    · simp at h

theorem RepPs.splice {cs vs : List PV} {us ws : List Value} (h : RepPs A w cs us) (k : RepPs A w vs ws) (off : Nat) : RepPs A w (splice cs off vs) (splice us off ws) := by
  unfold Go.Proofs.Ytablmbhnimnccaa.Pw.splice
  rw [k.length]
  exact ((h.take off).append k).append (h.drop _)

theorem store_arr_sound (hT : TOk P T) (hI : Inv E N S A F a w) {t ty : Nat} {x y : Operand} {pos : String} {after : Array Edge} {guard : Option (Nat × Bool)}
    {ti : TI} (hti : T t = some ti) (hc : cellsOk (S.ev y) = true) (hl : (toCells (S.ev y)).length = ti.size) {t' g len i off : Nat} (hx : S.ev x = .pe t' g len i off) {E0 sz : Nat} {xs : List PV} {m : Nat}
    (hb : S.bl t' g = some (.arr E0 sz xs m)) {z z' : PV} {ps : List PV} (hz : xs[i]? = some z) (hp : allP (toCells (S.ev y)) = some ps) (hset : setCells z off ps = some z') (hlen : xs.length = len) (hm : m ≤ i)
    (hzs : z'.size = z.size) (hk : K (S.setBl t' g (.arr E0 sz (xs.set i z') m))) : Oper.wp P ⟨none, .store t x y, ty, pos, after, guard⟩ a w (Nx E N K) Q := by
  have hxr := hI.ev x
  rw [hx] at hxr
  have hyr := toCells_sound hc (hI.ev y)
  rw [allP_some hp] at hyr hl
  have hyp := hyr.to_p
  obtain ⟨us, ho, hr, hs, hml, hA⟩ := hI.bl _ _ _ hb
  obtain ⟨hzc, hzl⟩ := setCells_cells hset
  cases hxr with
  | pe _ _ _ _ _ u hg hq h1 =>
    obtain ⟨r, hbo, hu⟩ := (hq _ _ _ _ hb).2 hlen
    rcases ho.2 with ⟨hF, _⟩ | ⟨g0, cap, cur, hF, q1, q2, q3, q4, q5, q6⟩
    · rw [hF] at hbo; simp [bOf] at hbo
    · have hrg : g0 = r := by rw [hF] at hbo; simpa [bOf] using hbo
      subst hrg
      obtain ⟨l, rr, e1, e2, e3⟩ := flat_set hs (z' := z') hz
      have hlt : i < xs.length := (List.getElem?_eq_some_iff.1 hz).1
      have hfl : (flat xs).length = xs.length * sz := flat_length hs
      have hzz : z.cells.length = sz := hs z (List.mem_of_getElem? hz)
      have hvl := hyp.length
      have hpl : ps.length = ti.size := by simpa using hl
      have hfit : i * sz + off + ti.size ≤ xs.length * sz := by
        rw [e1] at hfl; simp only [List.length_append, e2, hzz] at hfl; omega
      have hcap : xs.length * sz ≤ cap * sz := Nat.mul_le_mul_right _ q3
      have hrun := run_storeAt (P := P) hT hti (r := g0) (o := i * sz + off) (v := a.eval y) q2 (by simp at hvl; omega) (by omega) hyr.one
      have hvs : (a.eval y).cells.toList.length = ti.size := by omega
      have hcl : cur.toList.length = cap * sz := by simpa using q5
      let cs' := (Go.Proofs.Ytablmbhnimnccaa.Pw.splice cur.toList (i * sz + off) (a.eval y).cells.toList)
      have ws : Wstep (fun b => bOf (F t' g) = some b) w (w.setRow g0 cs'.toArray) :=
        ⟨rfl, rfl, rfl, by simp, fun b _ hn => setRow_other w g0 b _ (fun hq => hn (by rw [hF, hq]; rfl))⟩
      have k : Keeps A A w (w.setRow g0 cs'.toArray) := Keeps.of_step hI ws fun b o ha hbo => by
        rw [hF] at hbo; simp [bOf] at hbo; subst hbo
        have h5 := hA _ (by rw [hF]; rfl) o ha
        have h6 : m * sz ≤ i * sz := Nat.mul_le_mul_right _ hm
        rw [cell_setRow_same w g0 o cur _ E0 (0, 0) q2, cell_of_heap q2]
        have := splice_get_lt cur.toList (i * sz + off) (a.eval y).cells.toList (by omega) o (by omega)
        simpa [cs'] using this
      have e : Evo A A F F S (S.setBl t' g (.arr E0 sz (xs.set i z') m)) w (w.setRow g0 cs'.toArray) :=
        Evo.of_set_arr hb (by simp) (fun _ _ _ => rfl) (fun _ => rfl) k
      have hflat : flat (xs.set i z') = Go.Proofs.Ytablmbhnimnccaa.Pw.splice (flat xs) (i * sz + off) ps := by
        rw [e3, e1, hzc, ← e2, splice_mid _ _ _ _ _ hzl]
      have hup := hI.updBlk hb (Fv := F t' g) ws (b1 := .arr E0 sz (xs.set i z') m) (by rw [upd2_self]; exact e) (by
        rw [upd2_self]
        refine ⟨Go.Proofs.Ytablmbhnimnccaa.Pw.splice us (i * sz + off) (a.eval y).cells.toList, ⟨?_, .inr ⟨g0, cap, cs'.toArray, by rw [List.length_set]; exact hF, Nat.zero_le _, setRow_heap w g0 cur _ E0 (0, 0) q2, by simpa using q3, q4, ?_, ?_⟩⟩, ?_, fun x hx => ?_, by simpa using hml, fun r hr o ha => hA r hr o ha⟩
        · rw [splice_len _ _ _ (by rw [hvs, ho.1]; exact hfit), ho.1]; simp
        · simp only [List.size_toArray, cs']
          rw [splice_len _ _ _ (by omega)]; exact hcl
        · simp only [List.length_set, cs']
          rw [splice_take _ _ _ _ (by omega) (by omega), q6]
        · rw [hflat]
          exact (hr.mono k).splice (hyp.mono k) _
        · rcases List.mem_or_eq_of_mem_set hx with hx | rfl
          · exact hs x hx
          · rw [hzs]; exact hzz) (fun r hr => .inl hr)
      rw [upd2_self] at hup
      refine wp_skp (w' := w.setRow g0 cs'.toArray) ?_ ⟨_, _, _, hup, hk⟩
      simp only [execOp, hu, Sem.run_bind, hrun, Result.andThen_ok, Sem.run_pure, cs']

theorem list_rep (hI : Inv E N S A F a w) {x : AV} {xs : List PV} {u : Value} (h : S.list x = some xs) (hx : RepA A F S w x u) :
    (∃ a c us, u = .slice (some a) xs.length c ∧ RepPs A w (flat xs) us ∧ (∀ j v, us[j]? = some v → w.cell? (a.add j) = some v)) ∨ (u = .slice none 0 0 ∧ xs = []) ∨ (∃ ad c, u = .slice ad 0 c ∧ xs = []) := by
  unfold St.list at h
  split at h
  · simp at h; subst h
    cases hx with
    | p _ _ hx =>
      cases hx with
      | snil sz c hc ad => exact .inr (.inr ⟨ad, c, rfl, rfl⟩)
      | sl sz xs ad c hl hc hs hsp hcells =>
        obtain ⟨us, h1, h2, h3⟩ := hcells.vals
        refine .inl ⟨ad, c, us, rfl, h1, fun j v hj => ?_⟩
        have := h2 j v hj
        obtain ⟨b, o, sp⟩ := ad
        simp only at hsp; subst hsp
        rw [Addr.add_lit]; exact this
  · simp at h; subst h
    have := repA_lit hx
    exact .inr (.inr ⟨_, _, this, rfl⟩)
  · rename_i t g len
    split at h
    · rename_i E0 sz ys m hb
      split at h
      · rename_i hlen
        simp at h; subst h
        obtain ⟨us, ho, hr, hs, _⟩ := hI.bl _ _ _ hb
        cases hx with
        | os _ _ _ u hg hq h1 =>
          have hu := (hq _ _ _ _ hb).2 hlen
          rcases ho.2 with ⟨hF, h0⟩ | ⟨g0, cap, cur, hF, _⟩
          · exact .inr (.inl ⟨by rw [hu, hF], List.eq_nil_of_length_eq_zero h0⟩)
          · refine .inl ⟨⟨g0, 0, none⟩, cap, us, by rw [hu, hF], hr, fun j v hj => ?_⟩
            exact ho.cells (by rw [hF]; rfl) j v hj
      · simp at h
    · simp at h
  · simp at h

theorem isNilSl_val {x : AV} {u : Value} (h : isNilSl x = true) (hx : RepA A F S w x u) : u = .slice none 0 0 := by
  unfold isNilSl at h
  split at h
  · exact repA_lit hx
  · simp at h

theorem run_append_empty (hT : TOk P T) {t e ty : Nat} {te : TI} (hte : T e = some te) (hu : P.underlying t = some (.slice e)) {v : Value} {ad : Option Addr} {b : Option Addr} {n cap c : Nat} (hv : v = .slice b n cap) (hn : n ≤ cap) :
    (Builtin.append_ #[t, t] ty #[v, .slice ad 0 c]).run P w = .ok v w := by
  subst hv
  obtain ⟨ie, hie, hs, _⟩ := hT.info hte
  cases ad with
  | none => cases b <;> simp [Builtin.append_, run_underlying hu, sizeOf, run_info hie, Builtin.lenOf, hn, Builtin.firstCells, storeCells]
  | some ad =>
    cases b <;> simp [Builtin.append_, run_underlying hu, sizeOf, run_info hie, Builtin.lenOf, hn, Builtin.firstCells, loadCells, loadCellsFrom, storeCells]

theorem grown_wstep {v : Value} (h : w.grownBy w' v.ownBlock) (hb : bOf v = v.ownBlock) : Wstep (fun b => bOf v = some b) w w' :=
  ⟨h.os, h.tape, h.output, h.size, fun b hlt hn => h.block b hlt fun hq => hn (by rw [hb, hq])⟩

theorem ownsRow_base {E0 sz n : Nat} {v : Value} {us : List Value} (h : w.ownsRow 0 E0 sz v n us) {base : Nat} (hb : ∀ r, bOf v = some r → base ≤ r) : w.ownsRow base E0 sz v n us := by
  refine ⟨h.1, ?_⟩
  rcases h.2 with hn | ⟨g, cap, cur, rfl, h1, h2⟩
  · exact .inl hn
  · exact .inr ⟨g, cap, cur, rfl, hb g rfl, h2⟩

theorem ownsRow_base0 {E0 sz n base : Nat} {v : Value} {us : List Value} (h : w.ownsRow base E0 sz v n us) : w.ownsRow 0 E0 sz v n us := by
  refine ⟨h.1, ?_⟩
  rcases h.2 with hn | ⟨g, cap, cur, rfl, h1, h2⟩
  · exact .inl hn
  · exact .inr ⟨g, cap, cur, rfl, Nat.zero_le _, h2⟩

theorem ownsRow_one {E0 sz n base : Nat} {v : Value} {us : List Value} (h : w.ownsRow base E0 sz v n us) : v.oneCell' = true := by
  rcases h.2 with ⟨rfl, _⟩ | ⟨g, cap, cur, rfl, _⟩ <;> rfl

/-- The law of append on a row of one's own, or on nil: where the new row lies, and what stays. -/
theorem run_append_mine (t ty e : TypeId) (i : TypeInfo) (z : Value) (size bytes : Nat) (ht : P.underlying t = some (.slice e)) (hi : P.info? e = some i) (hz : i.zero = some z)
    (hsize : i.size = size) (hby : i.bytes = bytes) (hzs : z.cells.size = size) (hsz : 0 < size) (v : Value) (n : Nat) (xs : List Value) (hown : w.ownsRow 0 e size v n xs)
    (ad : Addr) (m c : Nat) (news : List Value) (hl : news.length = m * size) (hnews : ∀ j u, news[j]? = some u → w.cell? (ad.add j) = some u) (h1 : ∀ u ∈ news, u.oneCell' = true) (hm0 : 0 < m)
    (h63 : n + m ≤ maxLen) (hbytes : (n + m) * bytes ≤ 140737488355328) :
    ∃ v' w', (Builtin.append_ #[t, t] ty #[v, .slice (some ad) m c]).run P w = .ok v' w' ∧ w'.ownsRow 0 e size v' (n + m) (xs ++ news) ∧ Wstep (fun b => bOf v = some b) w w' ∧
      (∀ r, bOf v' = some r → bOf v = some r ∨ w.heap.size ≤ r) ∧ (∀ r o, bOf v = some r → o < n * size → w'.cell? ⟨r, o, none⟩ = w.cell? ⟨r, o, none⟩) := by
  by_cases hin : ∃ g cap, v = .slice (some ⟨g, 0, none⟩) n cap ∧ n + m ≤ cap
  · obtain ⟨g, cap, rfl, hroom⟩ := hin
    obtain ⟨v', w', r1, r2, r3, _⟩ := run_append_own (P := P) w 0 t ty e i z size bytes ht hi hz hsize hby hzs hsz _ n xs hown ad m c news hl hnews h1 h63 hbytes (Nat.zero_le _)
    have hd := hown.2
    simp only [reduceCtorEq, false_and, Value.slice.injEq, Option.some.injEq, Addr.mk.injEq, and_true, true_and, false_or] at hd
    obtain ⟨g', cap', cur, ⟨rfl, rfl⟩, q1, q2, q3, q4, q5, q6⟩ := hd
    subst hsize
    have hr := run_append_room (P := P) w t ty e i ht hi g n cap cur q2 ad m c news hl hnews h1 hroom (by rw [hl, q5, ← Nat.add_mul]; exact Nat.mul_le_mul_right _ hroom)
    rw [hr] at r1
    simp only [Result.ok.injEq] at r1
    obtain ⟨rfl, rfl⟩ := r1
    refine ⟨_, _, hr, r2, grown_wstep r3 rfl, fun r hb => .inl (by simpa [bOf] using hb), fun r o hb ho => ?_⟩
    simp [bOf] at hb; subst hb
    have hnc : n * i.size ≤ cap * i.size := Nat.mul_le_mul_right _ q3
    have hlc : cur.toList.length = cap * i.size := by simpa using q5
    rw [cell_setRow_same w g o cur _ e (0, 0) q2, cell_of_heap q2]
    simp only [List.getElem?_toArray]
    rw [List.append_assoc, List.getElem?_append_left (by rw [List.length_take]; omega), List.getElem?_take, if_pos ho]
    simp
  · have hbase : w.ownsRow w.heap.size e size v n xs ∨ ∃ g cap, v = .slice (some ⟨g, 0, none⟩) n cap ∧ cap < n + m := by
      rcases hown.2 with hn | ⟨g, cap, cur, rfl, q⟩
      · exact .inl ⟨hown.1, .inl hn⟩
      · exact .inr ⟨g, cap, rfl, by
          rcases Nat.lt_or_ge cap (n + m) with h | h
          · exact h
          · exact absurd ⟨g, cap, rfl, h⟩ hin⟩
    rcases hbase with hb | ⟨g, cap, rfl, hlt⟩
    · obtain ⟨v', w', r1, r2, r3, _⟩ := run_append_own (P := P) w w.heap.size t ty e i z size bytes ht hi hz hsize hby hzs hsz _ n xs hb ad m c news hl hnews h1 h63 hbytes (Nat.le_refl _)
      refine ⟨v', w', r1, ownsRow_base0 r2, grown_wstep r3 (ownsRow_bOf hown), fun r hq => .inr ?_, fun r o hq ho => ?_⟩
      · have := r2.lt r (by rw [← ownsRow_bOf (ownsRow_base0 r2)]; exact hq)
        exact this.1
      · have := hb.lt r (by rw [← ownsRow_bOf hown]; exact hq)
        omega
    · obtain ⟨v', w', r1, r2, r3, _⟩ := run_append_own (P := P) w 0 t ty e i z size bytes ht hi hz hsize hby hzs hsz _ n xs hown ad m c news hl hnews h1 h63 hbytes (Nat.zero_le _)
      have holds : ∀ j u, xs[j]? = some u → w.cell? ((⟨g, 0, none⟩ : Addr).add j) = some u := hown.cells (g := g) rfl
      subst hsize; subst hby
      have hr := run_append_grow (P := P) w t ty e i z ht hi hz ⟨g, 0, none⟩ n cap xs hown.1 holds ad m c news hl hnews hlt (by simp [maxLen] at h63; omega) (growslice_fits hlt hbytes)
      rw [hr] at r1
      simp only [Result.ok.injEq] at r1
      obtain ⟨rfl, rfl⟩ := r1
      refine ⟨_, _, hr, r2, grown_wstep r3 rfl, fun r hb => .inr (by simp [bOf] at hb; omega), fun r o hb ho => ?_⟩
      simp [bOf] at hb; subst hb
      have hlt2 : g < w.heap.size := ownsRow_lt hown (r := g) rfl
      have : ((w.drew.alloc (.cells (xs.toArray ++ news.toArray ++ Builtin.zeroCells z.cells (grownCap w (n + m) cap e - (n + m))) e)).heap[g]?) = w.heap[g]? := heap_alloc_old w.drew _ g hlt2
      simp only [World.cell?]; rw [this]

/-- The law of append on a row of one's own, or on nil, from whatever source. -/
theorem run_append_any (hT : TOk P T) (hI : Inv E N S A F a w) {t e ty : Nat} {te : TI} (hte : T e = some te) (hu : P.underlying t = some (.slice e)) (h0 : 0 < te.size) {v y : Value} {n : Nat} {us : List Value}
    (ho : w.ownsRow 0 e te.size v n us) {Y : AV} {ys : List PV} (hY : S.list Y = some ys) (hy : RepA A F S w Y y) (hys : ∀ y ∈ ys, y.size = te.size)
    (h1 : (n + ys.length) * te.bytes ≤ 140737488355328) (h2 : n + ys.length ≤ 140737488355328) :
    ∃ v' w' ws, (Builtin.append_ #[t, t] ty #[v, y]).run P w = .ok v' w' ∧ w'.ownsRow 0 e te.size v' (n + ys.length) (us ++ ws) ∧ Wstep (fun b => bOf v = some b) w w' ∧
      (∀ r, bOf v' = some r → bOf v = some r ∨ w.heap.size ≤ r) ∧ (∀ r o, bOf v = some r → o < n * te.size → w'.cell? ⟨r, o, none⟩ = w.cell? ⟨r, o, none⟩) ∧ RepPs A w (flat ys) ws ∧ (ys.length = 0 → v' = v) := by
  obtain ⟨ie, hie, hs, hby, hz, hcz⟩ := hT.info hte
  have empty : ∀ ad c, y = .slice ad 0 c → ys = [] → ∃ v' w' ws, (Builtin.append_ #[t, t] ty #[v, y]).run P w = .ok v' w' ∧ w'.ownsRow 0 e te.size v' (n + ys.length) (us ++ ws) ∧ Wstep (fun b => bOf v = some b) w w' ∧
      (∀ r, bOf v' = some r → bOf v = some r ∨ w.heap.size ≤ r) ∧ (∀ r o, bOf v = some r → o < n * te.size → w'.cell? ⟨r, o, none⟩ = w.cell? ⟨r, o, none⟩) ∧ RepPs A w (flat ys) ws ∧ (ys.length = 0 → v' = v) := fun ad c hq hys => by
    subst hys
    refine ⟨v, w, [], ?_, by simpa using ho, .refl _ _, fun r hb => .inl hb, fun _ _ _ _ => rfl, .nil, fun _ => rfl⟩
    rw [hq]
    rcases ho.2 with ⟨hF, hn⟩ | ⟨g0, cap, cur, hF, q1, q2, q3, q4, q5, q6⟩
    · exact run_append_empty hT hte hu hF (Nat.le_refl _)
    · exact run_append_empty hT hte hu hF q3
  rcases list_rep hI hY hy with ⟨ad, c, ws, hq, hr, hc⟩ | ⟨hq, hys0⟩ | ⟨ad, c, hq, hys0⟩
  · by_cases hl : ys.length = 0
    · have := List.eq_nil_of_length_eq_zero hl
      exact empty (some ad) c (by rw [hq, hl]) this
    · obtain ⟨v', w', r1, r2, r3, r4, r5⟩ := run_append_mine (P := P) (w := w) t ty e ie te.zero te.size te.bytes hu hie hz hs hby hcz h0 v n us ho ad ys.length c ws
        (by rw [hr.length, flat_length hys]) hc hr.one (by omega) (by simp [maxLen]; omega) h1
      exact ⟨v', w', ws, by rw [hq]; exact r1, r2, r3, r4, r5, hr, fun hq => absurd hq hl⟩
  · exact empty none 0 hq hys0
  · exact empty ad c hq hys0

theorem flat_app (xs ys : List PV) : flat (xs ++ ys) = flat xs ++ flat ys := flat_append xs ys

/-- An append to a row of the frame's own. -/
theorem append_os (hT : TOk P T) (hI : Inv E N S A F a w) {t e ty : Nat} {te : TI} (hte : T e = some te) (hu : P.underlying t = some (.slice e)) (h0 : 0 < te.size) {t' g len : Nat} {xs ys : List PV} {m : Nat}
    (hb : S.bl t' g = some (.arr e te.size xs m)) (hlen : xs.length = len) {v y : Value} (hv : RepA A F S w (.os t' g len) v) {Y : AV} (hY : S.list Y = some ys) (hy : RepA A F S w Y y) (hys : ∀ y ∈ ys, y.size = te.size)
    (h1 : (len + ys.length) * te.bytes ≤ 140737488355328) (h2 : len + ys.length ≤ 140737488355328) {dst : Option Tmp} (hd : ∀ t, dst = some t → t < N)
    (hk : K ((S.setBl t' g (.arr e te.size (xs ++ ys) m)).put dst (.os t' g (len + ys.length)))) :
    ∃ v' w', (Builtin.append_ #[t, t] ty #[v, y]).run P w = .ok v' w' ∧ Nx E N K (a.put dst v') w' := by
  obtain ⟨us, ho, hr, hs, hml, hA⟩ := hI.bl _ _ _ hb
  have hvF : v = F t' g := by
    cases hv with
    | os _ _ _ u hg hq _ => exact (hq _ _ _ _ hb).2 hlen
  have hg : g < S.gen t' := hI.lt _ _ _ hb
  subst hvF
  subst hlen
  obtain ⟨v', w', ws, r1, r2, r3, r4, r5, r6, r7⟩ := run_append_any (P := P) hT hI (ty := ty) hte hu h0 ho hY hy hys h1 h2
  have k : Keeps A A w w' := Keeps.of_step hI r3 fun b o ha hq => r5 b o hq (Nat.lt_of_lt_of_le (hA b hq o ha) (Nat.mul_le_mul_right _ hml))
  have e1 : Evo A A F (upd2 F t' g v') S (S.setBl t' g (.arr e te.size (xs ++ ys) m)) w w' :=
    Evo.of_set_arr hb (by simp) (fun t1 g1 hn => upd2_ne _ _ _ _ _ _ hn) (fun hq => by rw [upd2_same]; exact r7 (by rw [List.length_append] at hq; omega)) k
  have hup := hI.updBlk hb (Fv := v') r3 (b1 := .arr e te.size (xs ++ ys) m) e1 (by
    refine ⟨us ++ ws, by rw [upd2_same, List.length_append]; exact r2, ?_, fun x hx => ?_, by simp; omega, fun r hr o ha => ?_⟩
    · rw [flat_append]; exact (hr.mono k).append (r6.mono k)
    · rcases List.mem_append.1 hx with hx | hx
      · exact hs x hx
      · exact hys x hx
    · rw [upd2_same] at hr
      rcases r4 r hr with hq | hq
      · exact hA r hq o ha
      · have := hI.Alt _ _ ha; omega) r4
  have h1c := ownsRow_one r2
  have hra : RepA A (upd2 F t' g v') (S.setBl t' g (.arr e te.size (xs ++ ys) m)) w' (.os t' g (xs.length + ys.length)) v' := by
    have := RepA.newOs (A := A) (F := upd2 F t' g v') (S := S.setBl t' g (.arr e te.size (xs ++ ys) m)) (w := w') (d := t') (g := g) (len := xs.length + ys.length) (E0 := e) (sz := te.size) (xs := xs ++ ys) (m := m)
      hg (by simp [St.setBl, upd2_same]) (by simp) (by rw [upd2_same]; exact h1c)
    rwa [upd2_same] at this
  exact ⟨v', w', r1, _, _, _, hup.put hra hd, hk⟩

/-- An append to nil. -/
theorem append_nil (hT : TOk P T) (hI : Inv E N S A F a w) {t e ty : Nat} {te : TI} (hte : T e = some te) (hu : P.underlying t = some (.slice e)) (h0 : 0 < te.size) {ys : List PV} {X : AV}
    (hX : isNilSl X = true) {v y : Value} (hv : RepA A F S w X v) {Y : AV} (hY : S.list Y = some ys) (hy : RepA A F S w Y y) (hys : ∀ y ∈ ys, y.size = te.size)
    (h1 : ys.length * te.bytes ≤ 140737488355328) (h2 : ys.length ≤ 140737488355328) {dst : Option Tmp} (hd : ∀ t, dst = some t → t < N)
    (hk : newBl S dst (.arr e te.size ys 0) (fun d g => .os d g ys.length) K) :
    ∃ v' w', (Builtin.append_ #[t, t] ty #[v, y]).run P w = .ok v' w' ∧ Nx E N K (a.put dst v') w' := by
  have := isNilSl_val hX hv
  subst this
  have ho := World.ownsRow_nil w 0 e te.size
  obtain ⟨v', w', ws, r1, r2, r3, r4, r5, r6, r7⟩ := run_append_any (P := P) hT hI (ty := ty) hte hu h0 ho hY hy hys (by simpa using h1) (by simpa using h2)
  have r3' : Wstep (fun _ => False) w w' := ⟨r3.os, r3.tape, r3.output, r3.size, fun b hb _ => r3.blk b hb (by simp [bOf])⟩
  simp only [Nat.zero_add, List.nil_append] at r2
  refine ⟨v', w', r1, newBl_arr hI r3' r2 (fun r hr => ?_) r6 hys hd rfl hk⟩
  rcases r4 r hr with hq | hq
  · simp [bOf] at hq
  · exact hq
end
end Go.Proofs.Ytablmbhnimnccaa.Pw
/- Pw, part 14: cuts, comparisons, calls. No condition. -/
namespace Go.Proofs.Ytablmbhnimnccaa.Pw
section
variable {P : Program} {T : Nat → Option TI} {E : Entry} {N : Nat} {A : Nat → Nat → Prop} {F : Nat → Nat → Value} {S S' : St} {a : Act} {w w' : World} {K : St → Prop} {Q : Exit → Act → World → Prop}

theorem run_bound {n y : Nat} (h : n ≤ y) (code : BoundsCode) : (Instr.sliceBound (.int .i64 n) y code).run P w = .ok n w := by
  have : (0 : Int) ≤ (n : Int) ∧ (n : Int) ≤ (y : Int) := ⟨by omega, by omega⟩
  simp [Instr.sliceBound, asIntOf, this]

/-- The three bounds of a cut. -/
theorem run_bounds {isS : Bool} {len cap l h m : Nat} {lo hi mx : Option Value} (hlo : (lo = none ∧ l = 0) ∨ lo = some (.int .i64 l)) (hhi : (hi = none ∧ mx = none ∧ h = len) ∨ hi = some (.int .i64 h))
    (hmx : (mx = none ∧ m = cap) ∨ (mx = some (.int .i64 m) ∧ m ≤ cap)) (h1 : l ≤ h) (h2 : h ≤ m) : (Instr.sliceBounds isS len cap lo hi mx).run P w = .ok (l, h, m) w := by
  unfold Instr.sliceBounds
  rcases hmx with ⟨rfl, rfl⟩ | ⟨rfl, hm⟩ <;> rcases hhi with ⟨rfl, hq, rfl⟩ | rfl <;> rcases hlo with ⟨rfl, rfl⟩ | rfl <;> (try cases hq) <;>
    (cases isS <;> simp [run_bound h1, run_bound h2, *]) <;> (try (simp [run_bound hm, run_bound h1, run_bound h2]))

theorem optNat {S : St} (hI : Inv E N S A F a w) {x : Option Operand} {d n : Nat} (h : S.optN d x = some n) : (x.map a.eval = none ∧ n = d) ∨ x.map a.eval = some (.int .i64 n) := by
  cases x with
  | none => simp [St.optN] at h; exact .inl ⟨rfl, h.symm⟩
  | some l => exact .inr (by simp [natOf_val h (hI.ev l)])

theorem slice_str_sound (hT : TOk P T) (hI : Inv E N S A F a w) {dst : Option Tmp} {t ty : Nat} {x : Operand} {lo hi : Option Operand} {pos : String} {after : Array Edge} {guard : Option (Nat × Bool)} (hd : ∀ t, dst = some t → t < N)
    {ti : TI} (hti : T t = some ti) (hkd : ti.kd = .str) {s : ByteArray} (hx : S.ev x = .p (.lit (.string s))) {l h : Nat} (hl : S.optN 0 lo = some l)
    (hh : S.optN s.size hi = some h) (h1 : l ≤ h) (h2 : h ≤ s.size) (hk : K (S.put dst (.p (.lit (.string (s.extract l h)))))) :
    Oper.wp P ⟨dst, .slice t x lo hi none, ty, pos, after, guard⟩ a w (Nx E N K) Q := by
  obtain ⟨d, hdd, hk2⟩ := hT.kind hti
  rw [hkd] at hk2
  simp only [TKok] at hk2
  subst hk2
  have hxr := hI.ev x
  rw [hx] at hxr
  have hv := repA_lit hxr
  have hb := run_bounds (P := P) (w := w) (isS := false) (len := s.size) (cap := s.size) (l := l) (h := h) (m := s.size) (lo := lo.map a.eval) (hi := hi.map a.eval) (mx := none)
    (optNat hI hl) ((optNat hI hh).imp (fun q => ⟨q.1, rfl, q.2⟩) id) (.inl ⟨rfl, rfl⟩) h1 h2
  refine wp_val (u := .string (s.extract l h)) (w' := w) ?_ ⟨_, _, _, hI.put (.p _ _ (.lit _)) hd, hk⟩
  simp only [execOp, Instr.sliceAt, Sem.run_bind, run_underlying hdd, Result.andThen_ok, hv, Instr.slice, Option.map_none, Option.isSome_none, Bool.false_eq_true, if_false, Sem.run_pure, hb]

theorem RepP.cut {sz : Nat} {xs : List PV} {ad : Option Addr} {n c : Nat} (h : RepP A w (.sl sz xs) (.slice ad n c)) {l k m : Nat} (h1 : l ≤ k) (h2 : k ≤ xs.length) (hm : k ≤ m) (hmc : m ≤ c) :
    RepP A w (.sl sz ((xs.take k).drop l)) (.slice (if m = l then ad else ad.map (·.add (l * sz))) (k - l) (m - l)) := by
  have hlen : ((xs.take k).drop l).length = k - l := by simp; omega
  by_cases h0 : k - l = 0
  · have : (xs.take k).drop l = [] := List.eq_nil_of_length_eq_zero (by omega)
    rw [this, h0]
    have hcm : c ≤ maxLen := by cases h <;> assumption
    exact .snil _ _ (by omega) _
  · have hml : ¬ m = l := by omega
    rw [if_neg hml, ← hlen]
    cases h with
    | snil => simp at h2; omega
    | sl _ _ ad c hl hc hs hsp hcells =>
      have hd := hcells.take k
      have hs' : ∀ x ∈ xs.take k, x.size = sz := fun x hx => hs x (List.mem_of_mem_take hx)
      have hd2 := hd.drop hs' l (by simp; omega)
      obtain ⟨b, o, sp⟩ := ad
      simp only at hsp; subst hsp
      simp only [Option.map_some, Addr.add_lit]
      exact .sl _ _ ⟨b, o + l * sz, none⟩ _ (by omega) (by omega) (fun x hx => hs' x (List.mem_of_mem_drop hx)) rfl hd2

theorem slice_sl_sound (hT : TOk P T) (hI : Inv E N S A F a w) {dst : Option Tmp} {t ty : Nat} {x : Operand} {lo hi mx : Option Operand} {pos : String} {after : Array Edge} {guard : Option (Nat × Bool)} (hd : ∀ t, dst = some t → t < N)
    {ti te : TI} {e : Nat} (hti : T t = some ti) (hkd : ti.kd = .sl e) (hte : T e = some te) {xs : List PV} {l h : Nat} (hl : S.optN 0 lo = some l)
    (hh : S.optN xs.length hi = some h) (hmx : ∀ m, mx = some m → natOf (S.ev m) = some h ∧ hi ≠ none) (h1 : l ≤ h) (h2 : h ≤ xs.length)
    (hp : PassV S (S.ev x) (.p (.sl te.size xs)) S' []) (hk : K (S'.put dst (.p (.sl te.size ((xs.take h).drop l))))) :
    Oper.wp P ⟨dst, .slice t x lo hi mx, ty, pos, after, guard⟩ a w (Nx E N K) Q := by
  obtain ⟨d, hdd, hk2⟩ := hT.kind hti
  rw [hkd] at hk2
  simp only [TKok] at hk2
  subst hk2
  obtain ⟨A', rs, pk, hr, _, _⟩ := hp.sound hI (hI.ev x)
  cases hr with
  | p _ _ hr =>
    obtain ⟨ad, c, hu, hlc⟩ : ∃ ad c, a.eval x = .slice ad xs.length c ∧ xs.length ≤ c := by
      generalize a.eval x = u at hr
      cases hr with
      | snil sz c hc ad => exact ⟨ad, c, rfl, Nat.zero_le _⟩
      | sl sz xs ad c hl => exact ⟨_, c, rfl, hl⟩
    rw [hu] at hr
    have hb : ∃ m, h ≤ m ∧ m ≤ c ∧ (Instr.sliceBounds true xs.length c (lo.map a.eval) (hi.map a.eval) (mx.map a.eval)).run P w = .ok (l, h, m) w := by
      cases mx with
      | none =>
        exact ⟨c, by omega, Nat.le_refl _, run_bounds (optNat hI hl) ((optNat hI hh).imp (fun q => ⟨q.1, rfl, q.2⟩) id) (.inl ⟨rfl, rfl⟩) h1 (by omega)⟩
      | some m =>
        obtain ⟨q1, q2⟩ := hmx m rfl
        have := natOf_val q1 (hI.ev m)
        cases hi with
        | none => exact absurd rfl q2
        | some hi =>
          have hh' := natOf_val hh (hI.ev hi)
          refine ⟨h, Nat.le_refl _, by omega, run_bounds (optNat hI hl) (.inr (by simp [hh'])) (.inr ⟨by simp [this], by omega⟩) h1 (Nat.le_refl _)⟩
    obtain ⟨m, hm1, hm2, hb⟩ := hb
    have hc := hr.cut h1 h2 hm1 hm2
    refine wp_val (u := .slice (if m = l then ad else ad.map (·.add (l * te.size))) (h - l) (m - l)) (w' := w) ?_ ⟨_, _, _, pk.inv.put (.p _ _ hc) hd, hk⟩
    simp only [execOp, Instr.sliceAt, Sem.run_bind, run_underlying hdd, Result.andThen_ok, hu, Instr.slice, hb, hT.size hte, Sem.run_pure]

theorem litInts_some {xs : List PV} {ns : List Int} (h : litInts xs = some ns) : xs = ns.map fun n => .lit (.int .i64 n) := by
  induction xs generalizing ns with
  | nil => simp [litInts] at h; subst h; rfl
  | cons x xs ih =>
    cases x with
    | lit v =>
      cases v with
      | int k n =>
        cases k <;> simp only [litInts, reduceCtorEq, Option.map_eq_some_iff] at h
        obtain ⟨ms, h1, rfl⟩ := h
        simp [← ih h1]
      | _ => simp [litInts] at h
    | _ => simp [litInts] at h

theorem RepPs.lits {ns : List Int} {us : List Value} (h : RepPs A w (ns.map fun n => .lit (.int .i64 n)) us) : us = ns.map (Value.int .i64) := by
  induction ns generalizing us with
  | nil => cases h; rfl
  | cons n ns ih =>
    cases h with
    | cons _ u _ us h h1 hs => cases h; simp [ih hs]

theorem repA_ints {xs : List PV} {ns : List Int} {u : Value} (h : litInts xs = some ns) (hx : RepA A F S w (.p (.ag xs)) u) : u = .agg (ns.map (Value.int .i64)).toArray := by
  have := litInts_some h
  subst this
  cases hx with
  | p _ _ hx =>
    cases hx with
    | ag _ us hx =>
      have := hx.lits
      rw [← this]

theorem eqAg_sound (hI : Inv E N S A F a w) {dst : Option Tmp} {t t2 ty : Nat} {op : BinOp} {x y : Operand} {pos : String} {after : Array Edge} {guard : Option (Nat × Bool)} (hd : ∀ t, dst = some t → t < N)
    {n : Nat} {b : Bool} (h : eqAg op (S.ev x) (S.ev y) = some (n, b)) (he : EqOk P t n) (hk : K (S.put dst (.p (.lit (.bool b))))) :
    Oper.wp P ⟨dst, .binOp op t x y t2, ty, pos, after, guard⟩ a w (Nx E N K) Q := by
  have hx := hI.ev x
  have hy := hI.ev y
  unfold eqAg at h
  split at h
  · rename_i xs ys hc1 hc2
    rw [hc1] at hx; rw [hc2] at hy
    split at h
    · rename_i p q hp hq
      have h1 := repA_ints hp hx
      have h2 := repA_ints hq hy
      split at h
      · rename_i hlen
        cases op <;> simp only [reduceCtorEq, Option.some.injEq, Prod.mk.injEq] at h
        · obtain ⟨rfl, rfl⟩ := h
          obtain ⟨e1, e2, e3, e4⟩ := he w .i64 p q rfl hlen
          refine wp_val (u := .bool _) (w' := w) ?_ ⟨_, _, _, hI.put (.p _ _ (.lit _)) hd, hk⟩
          simp only [execOp, h1, h2, Sem.run_bind, e1, e3, Result.andThen_ok, Sem.run_pure]
        · obtain ⟨rfl, rfl⟩ := h
          obtain ⟨e1, e2, e3, e4⟩ := he w .i64 p q rfl hlen
          refine wp_val (u := .bool _) (w' := w) ?_ ⟨_, _, _, hI.put (.p _ _ (.lit _)) hd, hk⟩
          simp only [execOp, h1, h2, Sem.run_bind, e2, e4, Result.andThen_ok, Sem.run_pure]
      · simp at h
    · simp at h
  · simp at h
end
end Go.Proofs.Ytablmbhnimnccaa.Pw
