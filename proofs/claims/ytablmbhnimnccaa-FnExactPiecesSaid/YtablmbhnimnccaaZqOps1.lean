/- Pw, part 11: alloc, box, build, buildSlice, makeSlice. No condition. -/
import Derived.Test.YtablmbhnimnccaaZqMem
import Derived.Great.FillDense
import Derived.Great.BuildSlice
import Derived.Laws.MakeOwn
namespace Go.Proofs.Ytablmbhnimnccaa.Pw

def Nx (E : Entry) (N : Nat) (K : St → Prop) (a : Act) (w : World) : Prop := ∃ S A F, Inv E N S A F a w ∧ K S

section
variable {P : Program} {T : Nat → Option TI} {E : Entry} {N : Nat} {A : Nat → Nat → Prop} {F : Nat → Nat → Value} {S S' : St} {a : Act} {w w' : World} {K : St → Prop} {Q : Exit → Act → World → Prop}

theorem wp_val {o : Oper} {next : Act → World → Prop} {u : Value} (h : (execOp a.eval o).run P w = .ok (.value u) w') (hn : next (a.put o.dst u) w') : o.wp P a w next Q := by
  unfold Oper.wp; rw [h]; exact hn
theorem wp_skp {o : Oper} {next : Act → World → Prop} (h : (execOp a.eval o).run P w = .ok .skip w') (hn : next (a.put o.dst undef) w') : o.wp P a w next Q := by
  unfold Oper.wp; rw [h]; exact hn

theorem TOk.zero (hT : TOk P T) {t : Nat} {ti : TI} (h : T t = some ti) : (zeroValue t).run P w = .ok ti.zero w := by
  obtain ⟨i, hi, h1, h2, h3, h4⟩ := hT.info h
  simp [zeroValue, run_info hi, h3]

theorem TOk.zeroOne (hT : TOk P T) {t : Nat} {ti : TI} (h : T t = some ti) : (∀ z ∈ ti.zero.cells, z.oneCell' = true) ∧ ti.zero.cells.size = ti.size ∧ (ti.isAgg = false → ti.size = 1 ∧ ti.zero.oneCell' = true) := by
  obtain ⟨i, d, hi, hd, hs, hb, hz, hc, h1, h2, hk⟩ := hT t ti h
  exact ⟨h1, hc, h2⟩

theorem lits_rep {zs : List Value} (h : ∀ z ∈ zs, z.oneCell' = true) : RepPs A w (zs.map .lit) zs := by
  induction zs with
  | nil => exact .nil
  | cons z zs ih => exact .cons _ _ _ _ (.lit z) (h z (by simp)) (ih fun y hy => h y (by simp [hy]))

theorem zeroA_rep (hT : TOk P T) {t : Nat} {ti : TI} (h : T t = some ti) : RepAs A F S w (zeroA ti) ti.zero.cells.toList := by
  have := RepAs.of_p (F := F) (S := S) (lits_rep (A := A) (w := w) (zs := ti.zero.cells.toList) fun z hz => (hT.zeroOne h).1 z (by simpa using hz))
  simpa [zeroA, Function.comp_def] using this

theorem newBl_var (hI : Inv E N S A F a w) {cs : List AV} {us : Array Value} (hr : RepAs A F S w cs us.toList) (t : TypeId) {dst : Option Tmp} (hd : ∀ t, dst = some t → t < N)
    (hk : newBl S dst (.var cs false) (fun d g => .pt d g 0) K) : Nx E N K (a.put dst (.pointer (some ⟨w.heap.size, 0, none⟩))) (w.alloc (.cells us t)) := by
  cases dst with
  | none => exact hk.elim
  | some d =>
    have h1 := hI.newVar hr t d
    refine ⟨_, _, _, h1.put (RepA.newPt (b := .var cs false) (Fv := undef) (upd2_same _ _ _ _) (by simp [St.mk', upd_same])) hd, hk⟩

theorem newBl_arr (hI : Inv E N S A F a w) {E0 sz : Nat} {xs : List PV} {us : List Value} {v : Value} (ws : Wstep (fun _ => False) w w') (ho : w'.ownsRow 0 E0 sz v xs.length us)
    (hnew : ∀ r, bOf v = some r → w.heap.size ≤ r) (hr : RepPs A w (flat xs) us) (hs : ∀ x ∈ xs, x.size = sz) {dst : Option Tmp} (hd : ∀ t, dst = some t → t < N)
    {len : Nat} (hl : len = xs.length) (hk : newBl S dst (.arr E0 sz xs 0) (fun d g => .os d g len) K) : Nx E N K (a.put dst v) w' := by
  cases dst with
  | none => exact hk.elim
  | some d =>
    have k : Keeps A A w w' := Keeps.of_step hI ws fun _ _ _ h => h.elim
    have h1 : Inv E N (S.mk' d (.arr E0 sz xs 0)) A (upd2 F d (S.gen d) v) a w' := by
      refine hI.newBlk ws ⟨us, ?_, hr.mono k, hs, Nat.zero_le _, fun r hb o ha => ?_⟩ hnew
      · rw [upd2_same]; exact ho
      · rw [upd2_same] at hb
        have := hI.Alt _ _ ha; have := hnew r hb; omega
    have h1c : v.oneCell' = true := by rcases ho.2 with ⟨rfl, _⟩ | ⟨g, cap, cur, rfl, _⟩ <;> rfl
    have hra : RepA A (upd2 F d (S.gen d) v) (S.mk' d (.arr E0 sz xs 0)) w' (.os d (S.gen d) len) v := by
      have := RepA.newOs (A := A) (F := upd2 F d (S.gen d) v) (S := S.mk' d (.arr E0 sz xs 0)) (w := w') (d := d) (g := S.gen d) (len := len) (E0 := E0) (sz := sz) (xs := xs) (m := 0)
        (by simp [St.mk', upd_same]) (by simp [St.mk', upd2_same]) hl.symm (by rw [upd2_same]; exact h1c)
      rwa [upd2_same] at this
    exact ⟨_, _, _, h1.put hra hd, hk⟩

theorem alloc_sound (hT : TOk P T) (hI : Inv E N S A F a w) {dst : Option Tmp} {t ty : Nat} {pos : String} {after : Array Edge} {guard : Option (Nat × Bool)} (hd : ∀ t, dst = some t → t < N)
    {ti : TI} (hti : T t = some ti) (hk : newBl S dst (.var (zeroA ti) false) (fun d g => .pt d g 0) K) : Oper.wp P ⟨dst, .alloc t, ty, pos, after, guard⟩ a w (Nx E N K) Q := by
  refine wp_val (u := .pointer (some ⟨w.heap.size, 0, none⟩)) (w' := w.alloc (.cells ti.zero.cells t)) ?_ (newBl_var hI (zeroA_rep hT hti) t hd hk)
  simp [execOp, Instr.alloc, hT.zero hti, run_newVar]

theorem box_sound (hI : Inv E N S A F a w) {dst : Option Tmp} {t ty : Nat} {x : Operand} {pos : String} {after : Array Edge} {guard : Option (Nat × Bool)} (hd : ∀ t, dst = some t → t < N)
    (hc : cellsOk (S.ev x) = true) (hk : newBl S dst (.var (toCells (S.ev x)) false) (fun d g => .pt d g 0) K) : Oper.wp P ⟨dst, .box t x, ty, pos, after, guard⟩ a w (Nx E N K) Q := by
  refine wp_val (u := .pointer (some ⟨w.heap.size, 0, none⟩)) (w' := w.alloc (.cells (a.eval x).cells t)) ?_ (newBl_var hI (toCells_sound hc (hI.ev x)) t hd hk)
  simp [execOp, Instr.box, run_newVar]

theorem splice_foldl (off : Nat) (l : List Value) (cs : Array Value) (h : off + l.length ≤ cs.size) :
    ((l.zipIdx 0).foldl (fun cs (x : Value × Nat) => cs.setIfInBounds (off + x.2) x.1) cs) = (splice cs.toList off l).toArray := by
  obtain ⟨h1, h2⟩ := Go.Great.foldl_set off l 0 cs
  apply Array.ext_getElem?
  intro k
  rw [h2 k]
  simp only [splice, Nat.add_zero]
  have hc : (cs.toList.take off ++ l ++ cs.toList.drop (off + l.length)).toArray[k]? = (cs.toList.take off ++ l ++ cs.toList.drop (off + l.length))[k]? := by simp
  rw [hc, List.append_assoc]
  have hlt : (cs.toList.take off).length = off := by simp; omega
  by_cases hk : k < off
  · rw [if_neg (by omega), List.getElem?_append_left (by omega), List.getElem?_take]
    simp [hk]
  · rw [List.getElem?_append_right (by omega), hlt]
    by_cases hk2 : k < off + l.length
    · rw [if_pos (by omega), List.getElem?_append_left (by omega)]
    · rw [if_neg (by omega), List.getElem?_append_right (by omega), List.getElem?_drop]
      have : off + l.length + (k - off - l.length) = k := by omega
      simp [this]

theorem RepAs.splice {cs vs : List AV} {us ws : List Value} (h : RepAs A F S w cs us) (k : RepAs A F S w vs ws) (off : Nat) : RepAs A F S w (splice cs off vs) (splice us off ws) := by
  unfold Go.Proofs.Ytablmbhnimnccaa.Pw.splice
  rw [k.length]
  exact ((h.take off).append k).append (h.drop _)

theorem fill_sound {place : Nat → Option (Nat × Nat)} {ti : TI} {ps : List (Nat × AV)} : ∀ {cs cs' : List AV} {us : Array Value} {vs : List (Nat × Value)}, fillV T ti ps cs = some cs' →
    (∀ i off size, placeOf T ti i = some (off, size) → place i = some (off, size)) → RepAs A F S w cs us.toList → vs.map (·.1) = ps.map (·.1) → RepTu A F S w (ps.map (·.2)) (vs.map (·.2)) →
    ∃ us', Instr.fill place us vs = some us' ∧ RepAs A F S w cs' us'.toList := by
  induction ps with
  | nil =>
    intro cs cs' us vs h hp hr h1 h2
    simp [fillV] at h; subst h
    have : vs = [] := by simpa using h1
    subst this
    exact ⟨us, rfl, hr⟩
  | cons p ps ih =>
    intro cs cs' us vs h hp hr h1 h2
    obtain ⟨i, x⟩ := p
    cases vs with
    | nil => simp at h1
    | cons q vs =>
      obtain ⟨j, v⟩ := q
      simp only [List.map_cons, List.cons.injEq] at h1 h2
      obtain ⟨rfl, h1⟩ := h1
      simp only [fillV] at h
      cases hpl : placeOf T ti j with
      | none => simp [hpl] at h
      | some os =>
        obtain ⟨off, size⟩ := os
        simp only [hpl] at h
        split at h
        · rename_i hc
          cases h2 with
          | cons _ _ _ _ hx hxs =>
            have hcs := toCells_sound hc.1 hx
            have hlen := hcs.length
            have hl2 := hr.length
            have hsz : v.cells.size = size := by rw [← hc.2.1, ← hlen]; simp
            have hr' := hr.splice hcs off
            obtain ⟨us', hf, hq⟩ := ih (us := (Go.Proofs.Ytablmbhnimnccaa.Pw.splice us.toList off v.cells.toList).toArray) h hp (by simpa using hr') h1 hxs
            refine ⟨us', ?_, hq⟩
            unfold Instr.fill
            simp only [hp j off size hpl]
            rw [if_neg (by simp only [Bool.or_eq_true, decide_eq_true_eq, not_or, ne_eq, Decidable.not_not]; simp at hl2; exact ⟨hsz, by omega⟩)]
            rw [← hf]
            congr 1
            rw [← splice_foldl off v.cells.toList us (by simp at hl2 ⊢; omega)]
            simp only [← Array.foldl_toList, Array.toList_zipIdx]
        · simp at h

theorem RepA.ag_of {cs : List AV} {us : Array Value} (h : RepAs A F S w cs us.toList) : RepA A F S w (Go.Proofs.Ytablmbhnimnccaa.Pw.mkAg cs) (.agg us) := by
  have := RepA.mkAg h
  simpa using this

theorem mapM_of_get {α β : Type} {f : α → Option β} : ∀ (l : List α) (r : List β), l.length = r.length → (∀ (j : Nat) (y : β), r[j]? = some y → ∃ x, l[j]? = some x ∧ f x = some y) → l.mapM f = some r
  | [], [], _, _ => rfl
  | [], _ :: _, h, _ => by simp at h
  | _ :: _, [], h, _ => by simp at h
  | x :: l, y :: r, h, hq => by
    obtain ⟨x', h1, h2⟩ := hq 0 y rfl
    simp at h1; subst h1
    have ih := mapM_of_get l r (by simpa using h) fun j z hj => by simpa using hq (j + 1) z (by simpa using hj)
    simp [List.mapM_cons, h2, ih]

theorem build_sound (hT : TOk P T) (hI : Inv E N S A F a w) {dst : Option Tmp} {t ty : Nat} {ps : Array (Nat × Operand)} {pos : String} {after : Array Edge} {guard : Option (Nat × Bool)} (hd : ∀ t, dst = some t → t < N)
    {ti : TI} (hti : T t = some ti) {cs : List AV} (hf : fillV T ti (ps.toList.map fun p => (p.1, S.ev p.2)) (zeroA ti) = some cs) (hag : buildOk T ti = true) {v' : AV} (hv' : VLe (mkAg cs) v') (hk : K (S.put dst v')) :
    Oper.wp P ⟨dst, .build t ps, ty, pos, after, guard⟩ a w (Nx E N K) Q := by
  obtain ⟨i, d, hi, hdd, hs, hb, hz, hc, h1, h2, hkd⟩ := hT t ti hti
  have hp1 : (ps.map fun (i, x) => (i, a.eval x)).toList.map (·.1) = (ps.toList.map fun p => (p.1, S.ev p.2)).map (·.1) := by simp
  have hp2 : RepTu A F S w ((ps.toList.map fun p => (p.1, S.ev p.2)).map (·.2)) ((ps.map fun (i, x) => (i, a.eval x)).toList.map (·.2)) := by
    have := hI.evs (ps.toList.map (·.2))
    simpa [Function.comp_def] using this
  have key : ∃ us', P.built t (ps.map fun (i, x) => (i, a.eval x)).toList = some us' ∧ RepAs A F S w cs us'.toList := by
    unfold Program.built
    cases hq : ti.kd with
    | st fs =>
      rw [hq] at hkd
      obtain ⟨fields, rfl, hsz, hall⟩ := hkd
      have hm : fields.toList.mapM (fun f => (P.info? f.type).map fun i => (f.offset, i.size)) = some fs := mapM_of_get _ _ (by simpa using hsz) fun j y hj => by
        obtain ⟨o, s⟩ := y
        obtain ⟨f, q1, q2, q3, q4⟩ := hall j o s hj
        simp only [Option.map_eq_some_iff] at q3
        obtain ⟨fi, q3, q5⟩ := q3
        exact ⟨f, by simpa using q1, by simp [q3, q2, q5]⟩
      simp only [hi, hdd, hz, hm]
      exact fill_sound hf (fun i off size hpl => by simp [placeOf, hq] at hpl; simpa using hpl) (zeroA_rep hT hti) hp1 hp2
    | arr n e =>
      rw [hq] at hkd
      simp only [TKok] at hkd
      subst hkd
      cases hte : T e with
      | none => simp [buildOk, hq, hte] at hag
      | some te =>
        obtain ⟨ie, hie, hies, _⟩ := hT.info hte
        simp only [hi, hdd, hz, hie]
        exact fill_sound hf (fun i off size hpl => by simp [placeOf, hq, hte] at hpl; obtain ⟨rfl, rfl⟩ := hpl; simp [hies]) (zeroA_rep hT hti) hp1 hp2
    | _ => simp [buildOk, hq] at hag
  obtain ⟨us', hbt, hr⟩ := key
  refine wp_val (u := .agg us') (w' := w) ?_ ⟨_, _, _, hI.put (hv'.rep (RepA.ag_of hr)) hd, hk⟩
  simp only [execOp, Sem.run_bind, run_build w t _ us' hbt, Result.andThen_ok, Sem.run_pure]
end
end Go.Proofs.Ytablmbhnimnccaa.Pw
