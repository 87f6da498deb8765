/- Pw, part 20: a region is sound, in whatever order. No condition. -/
import Derived.Test.YtablmbhnimnccaaZqReg
namespace Go.Proofs.Ytablmbhnimnccaa.Pw
section
variable {P : Program} {T : Nat → Option TI} {ops : Array Oper} {E : Entry} {N : Nat} {A : Nat → Nat → Prop} {F : Nat → Nat → Value} {S S' τ τ' : St} {a : Act} {w : World} {K : St → Prop} {Q : Exit → Act → World → Prop}

theorem yielded_of (hI : Inv E N τ A F a w) {j t : Nat} {v : Value} {want : Bool} (ht : (ops[j]?).bind (·.dst) = some t) (hb : τ.tm t = .p (.lit v)) : (yielded ops a.tmps j == some want) = vwant v want := by
  have h := hI.tm t
  rw [hb] at h
  have hv := repA_lit h
  unfold yielded
  rw [ht]
  simp only [Option.bind_some]
  cases hq : a.tmps[t]? with
  | none =>
    simp [hq] at hv
    subst hv
    simp [vwant, undef]
  | some u =>
    simp [hq] at hv
    subst hv
    cases u <;> simp [vwant]

theorem gstep_sound (hT : TOk P T) (hI : Inv E N τ A F a w) {i : Nat} {o : Oper} (hi : ops[i]? = some o) (hg : gstep P T ops o τ τ') (hd : ∀ t, o.dst = some t → t < N) {next : Act → World → Prop}
    (hn : ∀ a' w', Nx E N (fun X => X = τ') a' w' → next a' w') : wpOp P ops Q i next a w := by
  unfold wpOp
  simp only [hi]
  unfold gstep at hg
  have run : opW P T o τ (fun X => X = τ') → o.wp P a w next Q := fun hk => Oper.wp_mono (fun a w h => hn a w h) (opW_sound hT hI hd hk)
  cases hgd : o.guard with
  | none =>
    rw [hgd] at hg
    have : Region.wanted o (yielded ops a.tmps) = true := by simp [Region.wanted, hgd]
    rw [if_pos this]
    exact .inl (run hg)
  | some gw =>
    obtain ⟨j, want⟩ := gw
    rw [hgd] at hg
    obtain ⟨t, v, h1, h2, h3⟩ := hg
    have hw : Region.wanted o (yielded ops a.tmps) = vwant v want := by
      simp only [Region.wanted, hgd, yielded_of hI h1 h2]
    by_cases hb : vwant v want = true
    · rw [if_pos hb] at h3
      rw [if_pos (by rw [hw]; exact hb)]
      exact .inl (run h3)
    · rw [if_neg hb] at h3
      rw [if_neg (by rw [hw]; exact hb)]
      subst h3
      exact hn _ _ ⟨_, _, _, hI.put (.p _ _ (.lit _)) hd, rfl⟩

theorem wpOps_wpOp (i : Nat) (rest : List Nat) : wpOps P ops Q (i :: rest) a w = wpOp P ops Q i (wpOps P ops Q rest) a w := wpOps_cons i rest a w

def dstOk (N : Nat) (ops : Array Oper) : Bool := ops.toList.all fun o => match o.dst with | some t => decide (t < N) | none => true

theorem dstOk_spec (h : dstOk N ops = true) {i : Nat} {o : Oper} (hi : ops[i]? = some o) : ∀ t, o.dst = some t → t < N := fun t ht => by
  have := List.all_eq_true.1 h o (by rw [Array.mem_toList_iff]; exact Array.mem_of_getElem? hi)
  rw [ht] at this
  simpa using this

theorem region_text (hT : TOk P T) (hI : Inv E N S A F a w) (hd : dstOk N ops = true) {id : Nat} (hk : regW P T ops false S K) (hQ : ∀ a w, Nx E N K a w → Q .normal a w) : (Code.region id ops false).wp P Q a w := by
  refine wp_region ?_
  obtain ⟨sg, fps, q1, q2, q3, q4⟩ := opsW_run (show opsW P T ops ops.toList S [] (fun _ S' => K S') from hk)
  have key : ∀ (m i : Nat), i + m = ops.size → ∀ (A : Nat → Nat → Prop) (F : Nat → Nat → Value) (a : Act) (w : World), Inv E N (sg i) A F a w → wpOps P ops Q (List.range' i m) a w := by
    intro m
    induction m with
    | zero =>
      intro i hi A F a w h
      simp only [List.range'_zero, wpOps]
      have : i = ops.toList.length := by simp; omega
      subst this
      exact hQ _ _ ⟨_, _, _, h, q3⟩
    | succ m ih =>
      intro i hi A F a w h
      rw [List.range'_succ, wpOps_wpOp]
      have hlt : i < ops.size := by omega
      have ho : ops[i]? = some ops[i] := by simp [hlt]
      refine gstep_sound hT h ho (q4 i _ (by simp [hlt])).1 (dstOk_spec hd ho) fun a' w' ⟨X, A', F', h', hX⟩ => ?_
      subst hX
      exact ih (i + 1) (by omega) A' F' a' w' h'
  have := key ops.size 0 (by omega) A F a w (by rw [q1]; exact hI)
  rwa [← List.range_eq_range'] at this

/-- The abstract state when D is done: each place shows what its last writer left. -/
structure Agree (ops : Array Oper) (sg : Nat → St) (fps : List (List Nat × List Nat)) (D : Nat → Prop) (τ : St) : Prop where
  tm : ∀ t k, k ≤ ops.size → (∀ i o, ops[i]? = some o → o.dst = some t → (D i ↔ i < k)) → τ.tm t = (sg k).tm t
  bl : ∀ t k, k ≤ ops.size → (∀ i f, fps[i]? = some f → t ∈ f.2 → (D i ↔ i < k)) → (∀ g, τ.bl t g = (sg k).bl t g) ∧ τ.gen t = (sg k).gen t

structure Runs (P : Program) (T : Nat → Option TI) (ops : Array Oper) (sg : Nat → St) (fps : List (List Nat × List Nat)) : Prop where
  len : fps.length = ops.size
  step : ∀ i o, ops[i]? = some o → gstep P T ops o (sg i) (sg (i + 1)) ∧ fps[i]? = some (opNames (sg i) o.op, fw (sg i) o)
  dirs : ∀ i o, ops[i]? = some o → ∀ d ∈ dirs o, d < i
  sep : ∀ i o f j o' f', i < j → ops[i]? = some o → fps[i]? = some f → ops[j]? = some o' → fps[j]? = some f' → Apart ops o o' f f' ∨ Before ops i j

theorem looks_mem {o : Oper} {x : Operand} {t : Nat} (hx : x ∈ o.op.operands) (ht : x = .tmp t) : t ∈ o.looksAt ops := by
  subst ht
  exact List.mem_append_left _ (List.mem_filterMap.2 ⟨.tmp t, by simpa using hx, rfl⟩)

/-- One step, from any state that shows what it looks at. -/
theorem gstep_loc {o : Oper} (hg : gstep P T ops o S S') (he : ∀ t ∈ o.looksAt ops, τ.tm t = S.tm t) (ha : Agr (opNames S o.op ++ fw S o) τ S) :
    gstep P T ops o τ (ovT τ S' o.dst (fw S o)) ∧ Out (fw S o) S S' ∧ ∀ t, o.dst ≠ some t → S'.tm t = S.tm t := by
  have hev : ∀ x ∈ o.op.operands, τ.ev x = S.ev x := fun x hx => by
    cases x with
    | tmp t => exact he t (looks_mem hx rfl)
    | _ => rfl
  unfold gstep at hg ⊢
  cases hgd : o.guard with
  | none => rw [hgd] at hg; exact opW_loc hg hev ha
  | some gw =>
    obtain ⟨j, want⟩ := gw
    rw [hgd] at hg
    obtain ⟨t, v, h1, h2, h3⟩ := hg
    have ht : τ.tm t = S.tm t := he t (by
      unfold Oper.looksAt
      rw [hgd]
      exact List.mem_append_right _ (by simp [h1]))
    by_cases hb : vwant v want = true
    · rw [if_pos hb] at h3
      obtain ⟨q1, q2, q3⟩ := opW_loc h3 hev ha
      exact ⟨⟨t, v, h1, ht.trans h2, by rw [if_pos hb]; exact q1⟩, q2, q3⟩
    · rw [if_neg hb] at h3
      subst h3
      have hW : Agr (fw S o) τ S := ha.sub fun t ht => List.mem_append_right _ ht
      obtain ⟨q1, q2, q3⟩ := put_loc (o := o) (v := udf) hW
      exact ⟨⟨t, v, h1, ht.trans h2, by rw [if_neg hb]; exact q1.symm⟩, q2, q3⟩

theorem Before.closed {D : Nat → Prop} (hc : ∀ j o, ops[j]? = some o → D j → ∀ d ∈ dirs o, D d) {i j : Nat} (h : Before ops i j) : D j → D i := by
  induction h with
  | dir i j o ho hi => exact fun hj => hc j o ho hj i hi
  | tr i k j _ _ ih1 ih2 => exact fun hj => ih1 (ih2 hj)

theorem const_tm {sg : Nat → St} {fps : List (List Nat × List Nat)} (hr : Runs P T ops sg fps) {t : Nat} : ∀ {m k : Nat}, k + m ≤ ops.size → (∀ i o, k ≤ i → i < k + m → ops[i]? = some o → o.dst ≠ some t) → (sg (k + m)).tm t = (sg k).tm t := by
  intro m
  induction m with
  | zero => intro k _ _; rfl
  | succ m ih =>
    intro k hk hn
    have h1 := ih (k := k) (by omega) fun i o h1 h2 => hn i o h1 (by omega)
    have hlt : k + m < ops.size := by omega
    have ho : ops[k + m]? = some ops[k + m] := by simp [hlt]
    obtain ⟨hg, _⟩ := hr.step _ _ ho
    obtain ⟨_, _, h3⟩ := gstep_loc (τ := sg (k + m)) hg (fun _ _ => rfl) (fun _ _ => ⟨fun _ => rfl, rfl⟩)
    rw [← Nat.add_assoc, h3 t (hn _ _ (by omega) (by omega) ho), h1]

theorem const_bl {sg : Nat → St} {fps : List (List Nat × List Nat)} (hr : Runs P T ops sg fps) {t : Nat} : ∀ {m k : Nat}, k + m ≤ ops.size → (∀ i f, k ≤ i → i < k + m → fps[i]? = some f → t ∉ f.2) →
    (∀ g, (sg (k + m)).bl t g = (sg k).bl t g) ∧ (sg (k + m)).gen t = (sg k).gen t := by
  intro m
  induction m with
  | zero => intro k _ _; exact ⟨fun _ => rfl, rfl⟩
  | succ m ih =>
    intro k hk hn
    have h1 := ih (k := k) (by omega) fun i o h1 h2 => hn i o h1 (by omega)
    have hlt : k + m < ops.size := by omega
    have ho : ops[k + m]? = some ops[k + m] := by simp [hlt]
    obtain ⟨hg, hf⟩ := hr.step _ _ ho
    obtain ⟨_, h2, _⟩ := gstep_loc (τ := sg (k + m)) hg (fun _ _ => rfl) (fun _ _ => ⟨fun _ => rfl, rfl⟩)
    have h4 := h2 t (hn _ _ (by omega) (by omega) hf)
    rw [← Nat.add_assoc]
    exact ⟨fun g => (h4.1 g).trans (h1.1 g), h4.2.trans h1.2⟩

/-- The step of what is ready. -/
theorem Agree.step {sg : Nat → St} {fps : List (List Nat × List Nat)} (hr : Runs P T ops sg fps) {D : Nat → Prop} (hc : ∀ j o, ops[j]? = some o → D j → ∀ d ∈ dirs o, D d) (h : Agree ops sg fps D τ)
    {i : Nat} {o : Oper} (ho : ops[i]? = some o) (hi : ¬ D i) (hrd : ∀ d ∈ dirs o, D d) : ∃ τ', gstep P T ops o τ τ' ∧ Agree ops sg fps (fun j => j = i ∨ D j) τ' := by
  have hlt : i < ops.size := (Array.getElem?_eq_some_iff.1 ho).1
  obtain ⟨hg, hf⟩ := hr.step _ _ ho
  -- what must have gone ahead of i has gone
  have ahead : ∀ j, Before ops j i → D j := fun j hb => by
    have gen : ∀ {x y : Nat}, Before ops x y → y = i → D x := fun {x y} hb => by
      induction hb with
      | dir x y o' ho' hx => intro e; subst e; rw [ho] at ho'; simp at ho'; subst ho'; exact hrd x hx
      | tr x k y h1 _ ih1 ih2 => intro e; exact h1.closed hc (ih2 e)
    exact gen hb rfl
  have behind : ∀ j, Before ops i j → ¬ D j := fun j hb hj => hi (hb.closed hc hj)
  have fget : ∀ j o', ops[j]? = some o' → ∃ f, fps[j]? = some f := fun j o' h => ⟨_, (hr.step j o' h).2⟩
  have oget : ∀ j f, fps[j]? = some f → ∃ o', ops[j]? = some o' := fun j f h => by
    have : j < ops.size := by have := (List.getElem?_eq_some_iff.1 h).1; rw [hr.len] at this; exact this
    exact ⟨ops[j]'this, Array.getElem?_eq_getElem this⟩
  -- the places that i looks at
  have he : ∀ t ∈ o.looksAt ops, τ.tm t = (sg i).tm t := fun t ht => h.tm t i (Nat.le_of_lt hlt) fun j o' hj hjd => by
    rcases Nat.lt_trichotomy j i with hl | hl | hl
    · obtain ⟨f, hfj⟩ := fget j o' hj
      rcases hr.sep j o' f i o _ hl hj hfj ho hf with ap | bf
      · exact absurd ht (ap.d1 t hjd)
      · exact ⟨fun _ => hl, fun _ => ahead j bf⟩
    · subst hl; exact ⟨fun hq => absurd hq hi, fun hq => by omega⟩
    · obtain ⟨f, hfj⟩ := fget j o' hj
      rcases hr.sep i o _ j o' f hl ho hf hj hfj with ap | bf
      · exact absurd ht (ap.d2 t hjd)
      · exact ⟨fun hq => absurd hq (behind j bf), fun hq => by omega⟩
  have ha : Agr (opNames (sg i) o.op ++ fw (sg i) o) τ (sg i) := fun t ht => h.bl t i (Nat.le_of_lt hlt) fun j f hfj htf => by
    obtain ⟨o', hj⟩ := oget j f hfj
    rcases Nat.lt_trichotomy j i with hl | hl | hl
    · rcases hr.sep j o' f i o _ hl hj hfj ho hf with ap | bf
      · rcases List.mem_append.1 ht with ht | ht
        · exact absurd ht (ap.w1 t htf)
        · exact absurd ht (ap.w2 t htf)
      · exact ⟨fun _ => hl, fun _ => ahead j bf⟩
    · subst hl; exact ⟨fun hq => absurd hq hi, fun hq => by omega⟩
    · rcases hr.sep i o _ j o' f hl ho hf hj hfj with ap | bf
      · rcases List.mem_append.1 ht with ht | ht
        · exact absurd ht (ap.w3 t htf)
        · exact absurd htf (ap.w2 t ht)
      · exact ⟨fun hq => absurd hq (behind j bf), fun hq => by omega⟩
  obtain ⟨q1, q2, q3⟩ := gstep_loc hg he ha
  refine ⟨_, q1, ?_, ?_⟩
  · intro t k hk hD
    by_cases hdt : o.dst = some t
    · have hik : i < k := (hD i o ho hdt).1 (.inl rfl)
      simp only [ovT, hdt, if_true]
      have := const_tm hr (t := t) (k := i + 1) (m := k - (i + 1)) (by omega) fun j o' h1 h2 hj hjd => by
        obtain ⟨f, hfj⟩ := fget j o' hj
        rcases hr.sep i o _ j o' f (by omega) ho hf hj hfj with ap | bf
        · exact ap.d3 t hdt hjd
        · rcases (hD j o' hj hjd).2 (by omega) with hq | hq
          · omega
          · exact behind j bf hq
      rw [show i + 1 + (k - (i + 1)) = k by omega] at this
      exact this.symm
    · simp only [ovT, hdt, if_false]
      refine h.tm t k hk fun j o' hj hjd => ?_
      have hji : j ≠ i := fun e => by subst e; rw [ho] at hj; simp at hj; subst hj; exact hdt hjd
      rw [← hD j o' hj hjd]
      exact ⟨fun hq => .inr hq, fun hq => hq.resolve_left hji⟩
  · intro t k hk hD
    by_cases hwt : t ∈ fw (sg i) o
    · have hik : i < k := (hD i _ hf hwt).1 (.inl rfl)
      simp only [ovT, over, hwt, if_true]
      have := const_bl hr (t := t) (k := i + 1) (m := k - (i + 1)) (by omega) fun j f h1 h2 hfj htf => by
        obtain ⟨o', hj⟩ := oget j f hfj
        rcases hr.sep i o _ j o' f (by omega) ho hf hj hfj with ap | bf
        · exact ap.w2 t hwt htf
        · rcases (hD j f hfj htf).2 (by omega) with hq | hq
          · omega
          · exact behind j bf hq
      rw [show i + 1 + (k - (i + 1)) = k by omega] at this
      exact ⟨fun g => (this.1 g).symm, this.2.symm⟩
    · simp only [ovT, over, hwt, if_false]
      refine h.bl t k hk fun j f hfj htf => ?_
      have hji : j ≠ i := fun e => by subst e; rw [hf] at hfj; simp at hfj; subst hfj; exact hwt htf
      rw [← hD j f hfj htf]
      exact ⟨fun hq => .inr hq, fun hq => hq.resolve_left hji⟩

theorem getD_set (L : Array Bool) (i j : Nat) (hi : i < L.size) : (L.setIfInBounds i true).getD j true = (decide (j = i) || L.getD j true) := by
  by_cases h : j = i
  · subst h; simp [hi]
  · rw [getD_set_ne true (Ne.symm h)]; simp [h]

theorem any_sound (hT : TOk P T) {sg : Nat → St} {fps : List (List Nat × List Nat)} (hr : Runs P T ops sg fps) (hd : dstOk N ops = true) (hQ : ∀ a w, Nx E N (fun X => X = sg ops.size) a w → Q .normal a w) :
    ∀ (fuel : Nat) (L : Array Bool) (τ : St) (A : Nat → Nat → Prop) (F : Nat → Nat → Value) (a : Act) (w : World), L.size = ops.size → ((List.range ops.size).filter fun i => !L.getD i true).length ≤ fuel →
      (∀ j o, ops[j]? = some o → L.getD j true = true → ∀ d ∈ dirs o, L.getD d true = true) → Agree ops sg fps (fun j => L.getD j true = true) τ → Inv E N τ A F a w →
      wpAny P .any ops Q fuel L a w := by
  intro fuel
  -- when nothing is ready, all is done
  have alldone : ∀ (L : Array Bool), L.size = ops.size → Region.ready .any ops L = [] → ∀ j, j < ops.size → L.getD j true = true := fun L hL hrd j => by
    induction j using Nat.strongRecOn with
    | _ j ih =>
      intro hj
      cases hq : L.getD j true with
      | true => rfl
      | false =>
        have ho : ops[j]? = some ops[j] := by simp [hj]
        have : j ∈ Region.ready .any ops L := mem_ready.2 ⟨hq, _, ho, fun e he hb => by
          have hd : e.on ∈ dirs ops[j] := List.mem_map.2 ⟨e, List.mem_filter.2 ⟨by simpa using he, hb⟩, rfl⟩
          have hlt := hr.dirs j _ ho _ hd
          have := ih e.on hlt (by omega)
          have hsz : e.on < L.size := by omega
          simpa [hsz] using this⟩
        rw [hrd] at this; simp at this
  have fin : ∀ (L : Array Bool) (τ : St) (A : Nat → Nat → Prop) (F : Nat → Nat → Value) (a : Act) (w : World), L.size = ops.size → Agree ops sg fps (fun j => L.getD j true = true) τ → Inv E N τ A F a w → Region.ready .any ops L = [] → Q .normal a w := fun L τ A F a w hL hag hI hrd => by
    have hall := alldone L hL hrd
    have : τ = sg ops.size := by
      apply St.ext'
      · intro t; exact hag.tm t _ (Nat.le_refl _) fun i o ho _ => ⟨fun _ => (Array.getElem?_eq_some_iff.1 ho).1, fun hq => hall i hq⟩
      · intro t g; exact (hag.bl t _ (Nat.le_refl _) fun i f hf _ => ⟨fun _ => by have := (List.getElem?_eq_some_iff.1 hf).1; rw [hr.len] at this; exact this, fun hq => hall i hq⟩).1 g
      · intro t; exact (hag.bl t _ (Nat.le_refl _) fun i f hf _ => ⟨fun _ => by have := (List.getElem?_eq_some_iff.1 hf).1; rw [hr.len] at this; exact this, fun hq => hall i hq⟩).2
    subst this
    exact hQ _ _ ⟨_, _, _, hI, rfl⟩
  induction fuel with
  | zero =>
    intro L τ A F a w hL hcnt hc hag hI
    have hrd : Region.ready .any ops L = [] := by
      cases hq : Region.ready .any ops L with
      | nil => rfl
      | cons x xs =>
        have hx : x ∈ Region.ready .any ops L := by rw [hq]; simp
        obtain ⟨h0, o, ho, _⟩ := mem_ready.1 hx
        have : x ∈ (List.range ops.size).filter fun i => !L.getD i true := by
          rw [List.mem_filter, List.mem_range]; exact ⟨(Array.getElem?_eq_some_iff.1 ho).1, by rw [h0]; rfl⟩
        have := List.length_pos_of_mem this
        omega
    exact ⟨hrd, fin L τ A F a w hL hag hI hrd⟩
  | succ fuel ih =>
    intro L τ A F a w hL hcnt hc hag hI
    refine ⟨fun hrd => fin L τ A F a w hL hag hI hrd, fun i hi => ?_⟩
    obtain ⟨h0, o, ho, hall⟩ := mem_ready.1 hi
    have hlt : i < ops.size := (Array.getElem?_eq_some_iff.1 ho).1
    have hds : ∀ d ∈ dirs o, L.getD d true = true := fun d hd => by
      obtain ⟨e, he, rfl⟩ := List.mem_map.1 hd
      obtain ⟨he1, he2⟩ := List.mem_filter.1 he
      have := hall e (by simpa using he1) he2
      have hsz : e.on < L.size := by have := hr.dirs i o ho _ hd; omega
      simpa [hsz] using this
    obtain ⟨τ', hg, hag'⟩ := hag.step hr hc ho (by rw [h0]; simp) hds
    refine gstep_sound hT hI ho hg (dstOk_spec hd ho) fun a' w' ⟨X, A', F', h', hX⟩ => ?_
    subst hX
    have hset := fun j => getD_set L i j (by omega)
    refine ih _ _ A' F' a' w' (by simpa using hL) ?_ (fun j o' hj hD d hdd => ?_) ?_ h'
    · have hsub : ((List.range ops.size).filter fun j => !(L.setIfInBounds i true).getD j true) = (((List.range ops.size).filter fun j => !L.getD j true).filter fun j => !decide (j = i)) := by
        rw [List.filter_filter]
        congr 1
        funext j
        rw [hset]
        cases decide (j = i) <;> simp
      rw [hsub]
      have hmem : i ∈ (List.range ops.size).filter fun j => !L.getD j true := by
        rw [List.mem_filter, List.mem_range]; exact ⟨hlt, by rw [h0]; rfl⟩
      have hne : ∀ l : List Nat, i ∈ l → (l.filter fun j => !decide (j = i)).length < l.length := fun l hl => by
        have h1 := List.length_filter_lt_length_iff_exists (p := fun j => !decide (j = i)) (l := l)
        exact h1.2 ⟨i, hl, by simp⟩
      have := hne _ hmem
      omega
    · rw [hset] at hD ⊢
      simp only [Bool.or_eq_true, decide_eq_true_eq] at hD ⊢
      rcases hD with rfl | hD
      · rw [ho] at hj; simp at hj; subst hj; exact .inr (hds d hdd)
      · exact .inr (hc j o' hj hD d hdd)
    · refine ⟨fun t k hk hD => hag'.tm t k hk fun j o' hj hjd => ?_, fun t k hk hD => hag'.bl t k hk fun j f hj hjd => ?_⟩
      · rw [← hD j o' hj hjd, hset]; simp
      · rw [← hD j f hj hjd, hset]; simp

theorem region_draw (hT : TOk P T) (hm : P.follows .mixedOrders = true) (hI : Inv E N S A F a w) (hd : dstOk N ops = true) {id : Nat} (hk : regW P T ops true S K) (hQ : ∀ a w, Nx E N K a w → Q .normal a w) : (Code.region id ops true).wp P Q a w := by
  obtain ⟨sg, fps, q1, q2, ⟨q3, q5⟩, q4⟩ := opsW_run (show opsW P T ops ops.toList S [] (fun acc S' => chk ops acc = true ∧ K S') from hk)
  have q4' : ∀ i o, ops[i]? = some o → gstep P T ops o (sg i) (sg (i + 1)) ∧ fps[i]? = some (opNames (sg i) o.op, fw (sg i) o) := fun i o h => q4 i o (by simpa using h)
  simp only [List.nil_append] at q3
  obtain ⟨r1, r2, r3⟩ := chkFrom_spec (ops := ops) q3 (fun i o h => by simpa using h) (by simp) rfl
  have hr : Runs P T ops sg fps := ⟨by simpa using q2, q4', fun i o h d hd => by have := r1 i o (by simpa using h) d hd; omega,
    fun i o f j o' f' hij h1 h2 h3 h4 => by have := r3 i o f j o' f' hij (by simpa using h1) h2 (by simpa using h3) h4; simpa using this⟩
  refine wp_region_any hm (any_sound hT hr hd (fun a w ⟨X, A, F, h, hX⟩ => hQ a w ⟨X, A, F, h, by rw [hX]; simpa using q5⟩) ops.size (Array.replicate ops.size false) S A F a _ (by simp) ?_ (fun j o ho hj => ?_) ⟨fun t k hk hD => ?_, fun t k hk hD => ?_⟩ (hI.sameHeap rfl rfl rfl rfl))
  · exact Nat.le_trans (List.length_filter_le _ _) (by simp)
  · have : j < ops.size := (Array.getElem?_eq_some_iff.1 ho).1
    simp [this] at hj
  · rw [← q1]
    have h0 := const_tm hr (t := t) (k := 0) (m := k) (by omega) fun i o h1 h2 ho hd => by
      have hlt : i < ops.size := (Array.getElem?_eq_some_iff.1 ho).1
      have := (hD i o ho hd).2 (by omega)
      simp [hlt] at this
    rw [Nat.zero_add] at h0
    exact h0.symm
  · rw [← q1]
    have h0 := const_bl hr (t := t) (k := 0) (m := k) (by omega) fun i f h1 h2 hf htf => by
      have hlt : i < ops.size := by have := (List.getElem?_eq_some_iff.1 hf).1; rw [hr.len] at this; exact this
      have := (hD i f hf htf).2 (by omega)
      simp [hlt] at this
    rw [Nat.zero_add] at h0
    exact ⟨fun g => (h0.1 g).symm, h0.2.symm⟩
end
end Go.Proofs.Ytablmbhnimnccaa.Pw
