/- Pw, part 12: slices that are made, variables that are written. No condition. -/
import Derived.Test.YtablmbhnimnccaaZqOps1
namespace Go.Proofs.Ytablmbhnimnccaa.Pw
section
variable {P : Program} {T : Nat → Option TI} {E : Entry} {N : Nat} {A : Nat → Nat → Prop} {F : Nat → Nat → Value} {S S' : St} {a : Act} {w w' : World} {K : St → Prop} {Q : Exit → Act → World → Prop}

theorem RepTt.plain {xs : List PV} {us : List Value} {rs : List Nat} (h : RepTt A w (xs.map .p) us rs) : us.length = xs.length ∧ ∀ (i : Nat) (x : PV), xs[i]? = some x → ∃ u, us[i]? = some u ∧ RepP A w x u := by
  induction xs generalizing us rs with
  | nil => cases h; exact ⟨rfl, by simp⟩
  | cons x xs ih =>
    cases h with
    | cons _ u _ us r rs h hs =>
      obtain ⟨h1, h2⟩ := ih hs
      refine ⟨by simp [h1], fun i y hi => ?_⟩
      cases i with
      | zero => simp at hi; subst hi; cases h with | p _ _ h => exact ⟨u, by simp, h⟩
      | succ i => simpa using h2 i y (by simpa using hi)

/-- A plain value's cells. -/
theorem RepP.cells {x : PV} {u : Value} (h : RepP A w x u) (hu : u.oneCell' = true ∨ ∃ cs, x = .ag cs) : RepPs A w x.cells u.cells.toList := by
  have one : u.oneCell' = true → x.cells = [x] → RepPs A w x.cells u.cells.toList := fun h1 hx => by
    rw [hx]
    have : u.cells = #[u] := by cases u <;> simp_all [Value.cells, Value.oneCell']
    rw [this]
    exact .cons _ _ _ _ h h1 .nil
  cases h with
  | ag cs us h => exact h
  | lit =>
    rcases hu with hu | ⟨cs, hq⟩
    · exact one hu rfl
    · cases hq
  | snil => exact one rfl rfl
  | sl => exact one rfl rfl
  | fn => exact one rfl rfl
  | ro => exact one rfl rfl

theorem RepP.cells' {x : PV} {u : Value} (h : RepP A w x u) (hk : plainOk x = true) : RepPs A w x.cells u.cells.toList := by
  cases h with
  | ag cs us h => exact h
  | lit => exact RepP.cells (.lit _) (.inl hk)
  | snil sz c hc ad => exact RepP.cells (.snil _ _ hc ad) (.inl rfl)
  | sl sz xs ad c hl hc hs hsp h => exact RepP.cells (.sl _ _ _ _ hl hc hs hsp h) (.inl rfl)
  | fn f caps us h => exact RepP.cells (.fn _ _ _ h) (.inl rfl)
  | ro y off b o h => exact RepP.cells (.ro _ _ _ _ h) (.inl rfl)

theorem flatVals {xs : List PV} {us : List Value} {rs : List Nat} (h : RepTt A w (xs.map .p) us rs) (hk : ∀ x ∈ xs, plainOk x = true) : RepPs A w (flat xs) (us.flatMap fun v => v.cells.toList) ∧ ∀ sz, (∀ x ∈ xs, x.size = sz) → ∀ v ∈ us, v.cells.size = sz := by
  induction xs generalizing us rs with
  | nil => cases h; exact ⟨.nil, by simp⟩
  | cons x xs ih =>
    cases h with
    | cons _ u _ us r rs h hs =>
      obtain ⟨h1, h2⟩ := ih hs fun y hy => hk y (by simp [hy])
      cases h with
      | p _ _ h =>
        have hc := h.cells' (hk x (by simp))
        refine ⟨by simpa [flat] using hc.append h1, fun sz hsz v hv => ?_⟩
        rcases List.mem_cons.1 hv with rfl | hv
        · have := hc.length
          have hx := hsz x (by simp)
          simp only [PV.size] at hx
          simp at this; omega
        · exact h2 sz (fun y hy => hsz y (by simp [hy])) v hv

theorem wstep_draw (w : World) : Wstep (fun _ => False) w w.drew := ⟨rfl, rfl, rfl, Nat.le_refl _, fun _ _ _ => rfl⟩

theorem Wstep.trans {w2 : World} {Wr : Nat → Prop} (h : Wstep Wr w w') (k : Wstep Wr w' w2) : Wstep Wr w w2 :=
  ⟨k.os.trans h.os, k.tape.trans h.tape, k.output.trans h.output, Nat.le_trans h.size k.size, fun b hb hn => (k.blk b (Nat.lt_of_lt_of_le hb h.size) hn).trans (h.blk b hb hn)⟩

theorem ownsRow_new (w : World) (cells : Array Value) (e sz n : Nat) (hs : cells.size = n * sz) (hn : n ≤ maxLen) : (w.alloc (.cells cells e)).ownsRow 0 e sz (.slice (some ⟨w.heap.size, 0, none⟩) n n) n cells.toList := by
  refine ⟨by simpa using hs, .inr ⟨w.heap.size, n, cells, rfl, Nat.zero_le _, heap_alloc_new w _, Nat.le_refl _, hn, hs, ?_⟩⟩
  rw [← hs, ← Array.length_toList, List.take_length]

theorem buildSlice_sound (hT : TOk P T) (hI : Inv E N S A F a w) {dst : Option Tmp} {t len ty : Nat} {ps : Array (Nat × Operand)} {pos : String} {after : Array Edge} {guard : Option (Nat × Bool)} (hd : ∀ t, dst = some t → t < N)
    {ti te : TI} {e : Nat} (hti : T t = some ti) (hkd : ti.kd = .sl e) (hte : T e = some te) (hps : ps.toList.map (·.1) = List.range len) (hlen : len ≤ 4096) (h0 : 0 < te.size) (h64 : te.size ≤ 64)
    {xs : List PV} (hp : PassL S (ps.toList.map fun p => S.ev p.2) (xs.map .p) S' []) (hx : ∀ x ∈ xs, x.size = te.size) (hpl : ∀ x ∈ xs, plainOk x = true)
    (hk : newBl S' dst (.arr e te.size xs 0) (fun d g => .os d g len) K) : Oper.wp P ⟨dst, .buildSlice t len ps, ty, pos, after, guard⟩ a w (Nx E N K) Q := by
  have hvs : RepTu A F S w (ps.toList.map fun p => S.ev p.2) (ps.toList.map fun p => a.eval p.2) := by
    have := hI.evs (ps.toList.map (·.2))
    simpa [Function.comp_def] using this
  obtain ⟨A', rs, pk, hr, _, _⟩ := hp.sound hI hvs
  obtain ⟨hf1, hf2⟩ := flatVals hr hpl
  have hf2 := hf2 _ hx
  have hl : xs.length = len := by
    have h1 := (RepTt.plain hr).1
    have h2 := congrArg List.length hps
    simp at h1 h2; omega
  obtain ⟨d, hdd, hk2⟩ := hT.kind hti
  rw [hkd] at hk2
  simp only [TKok] at hk2
  subst hk2
  obtain ⟨ie, hie, hs, hb, hz, hc⟩ := hT.info hte
  let vs := ps.toList.map fun p => a.eval p.2
  have hvl : vs.length = len := by
    have h2 := congrArg List.length hps
    simp at h2; simp [vs, h2]
  let us := vs.flatMap fun v => v.cells.toList
  have hus : us.length = len * te.size := by
    have h1 := hf1.length
    rw [flat_length hx, hl] at h1
    exact h1
  have hparts : (ps.map fun (i, x) => (i, a.eval x)).toList = (vs.zipIdx 0).map fun x => (x.2, x.1) := by
    apply List.ext_getElem?
    intro k
    simp only [vs, Array.toList_map, List.getElem?_map, List.getElem?_zipIdx]
    cases hq : ps.toList[k]? with
    | none => simp
    | some p =>
      have h3 := congrArg (fun l => l[k]?) hps
      simp only [List.getElem?_map, hq, Option.map_some] at h3
      have hlt : k < len := by
        have := (List.getElem?_eq_some_iff.1 hq).1
        have h2 := congrArg List.length hps
        simp at h2 this; omega
      rw [List.getElem?_range hlt] at h3
      simp at h3
      simp [h3]
  have hrun : (Instr.buildSlice t len (ps.map fun (i, x) => (i, a.eval x))).run P w = .ok (.slice (some ⟨w.heap.size, 0, none⟩) len len) (w.alloc (.cells us.toArray e)) := by
    by_cases h00 : len = 0
    · subst h00
      have hp0 : ps = #[] := by simpa using hps
      subst hp0
      simp [Instr.buildSlice, run_underlying hdd, sizeOf, run_info hie, newRow, Instr.fill, us, vs, Array.range_zero']
    · refine run_buildSlice w t e len _ us.toArray ie te.zero hdd hie hz ?_ ?_ ?_
      · rw [hs]
        have : len * te.size ≤ 4096 * 64 := Nat.mul_le_mul hlen h64
        omega
      · rw [hs]
        have : 0 < len * te.size := Nat.mul_pos (by omega) h0
        omega
      · rw [hparts, hs]
        exact Go.Great.fill_whole h0 vs _ hf2 (by rw [hvl]; simp)
  have ho := ownsRow_new w us.toArray e te.size len (by simpa using hus) (by simp [maxLen]; omega)
  rw [← hl] at ho
  refine wp_val (u := .slice (some ⟨w.heap.size, 0, none⟩) len len) (w' := w.alloc (.cells us.toArray e)) (by simp only [execOp, Sem.run_bind, hrun, Result.andThen_ok, Sem.run_pure]) (newBl_arr (xs := xs) (us := us) pk.inv (wstep_alloc w _) (by rw [hl] at ho ⊢; simpa using ho) (fun r hr => by simp [bOf] at hr; omega) hf1 hx hd hl.symm hk)

theorem madeCells_flat (te : TI) (hz : te.zero.cells.size = te.size) (h0 : 0 < te.size) (n : Nat) : (madeCells te.zero.cells (n * te.size)).toList = (List.replicate n te.zero.cells.toList).flatten := by
  apply List.ext_getElem?
  intro k
  induction n generalizing k with
  | zero => simp [madeCells]
  | succ n ih =>
    rw [List.replicate_succ, List.flatten_cons]
    simp only [madeCells] at ih ⊢
    by_cases hk : k < te.size
    · have hlt : k < (n + 1) * te.size := by rw [Nat.succ_mul]; omega
      rw [List.getElem?_append_left (by simpa [hz] using hk)]
      simp [hlt, hz, Nat.mod_eq_of_lt hk]
      simp [hz, hk]
    · rw [List.getElem?_append_right (by simp [hz]; omega), ← ih]
      by_cases hlt : k < (n + 1) * te.size
      · have h2 : k - te.size < n * te.size := by rw [Nat.succ_mul] at hlt; omega
        have h3 : (k - te.size) % te.size = k % te.size := by
          conv => rhs; rw [show k = (k - te.size) + te.size by omega]
          rw [Nat.add_mod_right]
        simp [hlt, hz, h2, h3]
      · have h2 : ¬ k - te.size < n * te.size := by rw [Nat.succ_mul] at hlt; omega
        simp [hlt, hz, h2]

theorem zeroP_cells (hT : TOk P T) {t : Nat} {ti : TI} (h : T t = some ti) : RepPs A w (zeroP ti).cells ti.zero.cells.toList ∧ (zeroP ti).size = ti.size := by
  obtain ⟨h1, h2, h3⟩ := hT.zeroOne h
  unfold zeroP
  by_cases hag : ti.isAgg = true
  · rw [if_pos hag]
    exact ⟨lits_rep fun z hz => h1 z (by simpa using hz), by simp [PV.size, PV.cells, h2]⟩
  · rw [if_neg hag]
    obtain ⟨hs, hz1⟩ := h3 (by simpa using hag)
    have hone : ti.zero.cells = #[ti.zero] := by
      cases hz : ti.zero <;> simp_all [Value.cells, Value.oneCell']
    rw [hone]
    exact ⟨.cons _ _ _ _ (.lit _) hz1 .nil, by simp [PV.size, PV.cells, hs]⟩

theorem repl_flat {x : PV} {us : List Value} (h : RepPs A w x.cells us) (n : Nat) : RepPs A w (flat (List.replicate n x)) (List.replicate n us).flatten := by
  induction n with
  | zero => exact .nil
  | succ n ih => simp only [List.replicate_succ, flat, List.flatten_cons]; exact h.append ih

theorem natOf_val {x : AV} {n : Nat} {u : Value} (h : natOf x = some n) (hx : RepA A F S w x u) : u = .int .i64 n := by
  unfold natOf at h
  split at h
  · split at h
    · rename_i m hm
      simp at h
      have := repA_lit hx
      rw [this]; congr 1; omega
    · simp at h
  · simp at h

theorem makeSlice_sound (hT : TOk P T) (hI : Inv E N S A F a w) {dst : Option Tmp} {t ty : Nat} {l c : Operand} {pos : String} {after : Array Edge} {guard : Option (Nat × Bool)} (hd : ∀ t, dst = some t → t < N)
    {ti te : TI} {e n : Nat} (hti : T t = some ti) (hkd : ti.kd = .sl e) (hte : T e = some te) (hl : natOf (S.ev l) = some n) (hc : natOf (S.ev c) = some n) (h0 : 0 < te.size)
    (hb : n * te.bytes ≤ 140737488355328) (hn : n ≤ 140737488355328) (hk : newBl S dst (.arr e te.size (List.replicate n (zeroP te)) 0) (fun d g => .os d g n) K) :
    Oper.wp P ⟨dst, .makeSlice t l c, ty, pos, after, guard⟩ a w (Nx E N K) Q := by
  obtain ⟨d, hdd, hk2⟩ := hT.kind hti
  rw [hkd] at hk2
  simp only [TKok] at hk2
  subst hk2
  obtain ⟨ie, hie, hs, hby, hz, hcz⟩ := hT.info hte
  obtain ⟨hzr, hzs⟩ := zeroP_cells (A := A) (w := w) hT hte
  have v1 := natOf_val hl (hI.ev l)
  have v2 := natOf_val hc (hI.ev c)
  have hrun := run_make (P := P) w t e ie te.zero hdd hie hz .i64 .i64 (n : Int) (n : Int) (by omega) (by omega) (by rw [hby, Int.mul_comm]; omega) (by omega)
  simp only [Int.toNat_natCast] at hrun
  have hsz : (madeCells te.zero.cells (n * ie.size)).size = n * te.size := by simp [madeCells, hs]
  have ho := ownsRow_new w (madeCells te.zero.cells (n * ie.size)) e te.size n hsz (by simp [maxLen]; omega)
  rw [hs, madeCells_flat te hcz h0 n] at ho
  refine wp_val (u := .slice (some ⟨w.heap.size, 0, none⟩) n n) (w' := w.alloc (.cells (madeCells te.zero.cells (n * ie.size)) e)) ?_ ?_
  · simp only [execOp, v1, v2, Sem.run_bind, hrun, Result.andThen_ok, Sem.run_pure]
  · rw [hs]
    refine newBl_arr (xs := List.replicate n (zeroP te)) hI (wstep_alloc w _) (by rw [List.length_replicate]; exact ho) (fun r hr => by simp [bOf] at hr; omega) (repl_flat hzr n) (fun x hx => ?_) hd (by simp) hk
    rw [List.eq_of_mem_replicate hx]; exact hzs

theorem wstep_setRow {r : Nat} {F' : Nat → Option Nat} (w : World) (cs : Array Value) : Wstep (fun b => b = r) w (w.setRow r cs) := ⟨rfl, rfl, rfl, by simp, fun b _ hn => setRow_other w r b cs hn⟩

theorem run_storeAt (hT : TOk P T) {t : Nat} {ti : TI} (h : T t = some ti) {r o : Nat} {us : Array Value} {T0 : TypeId} {v : Value} (hw : w.heap[r]? = some (.cells us T0 (0, 0))) (hs : v.cells.size = ti.size)
    (hle : o + ti.size ≤ us.size) (h1 : ∀ u ∈ v.cells.toList, u.oneCell' = true) :
    (Instr.storeAt t (.pointer (some ⟨r, o, none⟩)) v).run P w = .ok () (w.setRow r (splice us.toList o v.cells.toList).toArray) := by
  have hst := run_storeCells_at P r o T0 v.cells.toList 0 us w hw (by simp; omega) h1
  simp only [Instr.storeAt, Instr.sureAddr, storeVar, Sem.run_bind, Sem.run_pure, Result.andThen_ok, hT.size h, hs, ne_eq, not_true_eq_false, if_false, hst]
  simp [splice]

theorem store_var_sound (hT : TOk P T) (hI : Inv E N S A F a w) {t ty : Nat} {x y : Operand} {pos : String} {after : Array Edge} {guard : Option (Nat × Bool)}
    {ti : TI} (hti : T t = some ti) (hc : cellsOk (S.ev y) = true) (hl : (toCells (S.ev y)).length = ti.size) {t' g off : Nat} (hx : S.ev x = .pt t' g off) {cs : List AV} (hb : S.bl t' g = some (.var cs false))
    (hle : off + ti.size ≤ cs.length) (hk : K (S.setBl t' g (.var (splice cs off (toCells (S.ev y))) false))) :
    Oper.wp P ⟨none, .store t x y, ty, pos, after, guard⟩ a w (Nx E N K) Q := by
  have hxr := hI.ev x
  rw [hx] at hxr
  have hyr := toCells_sound hc (hI.ev y)
  obtain ⟨r, us, T0, hF, hw, hr, hs1, hs2⟩ := hI.bl _ _ _ hb
  cases hxr with
  | pt _ _ _ u hg hq h1 =>
    obtain ⟨r', hF', hu⟩ := hq _ _ hb
    rw [hF] at hF'; simp at hF'; subst hF'
    have hlen := hyr.length
    have hlen2 := hr.length
    have hrun := run_storeAt (P := P) hT hti (r := r) (o := off) (v := a.eval y) hw (by simp at hlen; omega) (by simp at hlen2; omega) hyr.one
    have ws : Wstep (fun b => bOf (F t' g) = some b) w (w.setRow r (splice us.toList off (a.eval y).cells.toList).toArray) :=
      ⟨rfl, rfl, rfl, by simp, fun b _ hn => setRow_other w r b _ (fun hq => hn (by rw [hF, hq]; rfl))⟩
    have k : Keeps A A w (w.setRow r (splice us.toList off (a.eval y).cells.toList).toArray) := Keeps.of_step hI ws fun b o ha hbo => by
      rw [hF] at hbo; simp [bOf] at hbo; subst hbo; exact absurd ha (hs1 rfl o)
    have e : Evo A A F F S (S.setBl t' g (.var (splice cs off (toCells (S.ev y))) false)) w (w.setRow r (splice us.toList off (a.eval y).cells.toList).toArray) := Evo.of_set_var hb k
    have hup := hI.updBlk hb (Fv := F t' g) ws (b1 := .var (splice cs off (toCells (S.ev y))) false) (by rw [upd2_self]; exact e) (by
      rw [upd2_self]
      exact ⟨r, _, T0, hF, setRow_heap w r us _ T0 (0, 0) hw, by simpa using RepAs.evo e (hr.splice hyr off), fun _ => hs1 rfl, fun hq => by simp at hq⟩) (fun r hr => .inl hr)
    rw [upd2_self] at hup
    refine wp_skp (w' := w.setRow r (splice us.toList off (a.eval y).cells.toList).toArray) ?_ ⟨_, _, _, hup, hk⟩
    simp only [execOp, hu, Sem.run_bind, hrun, Result.andThen_ok, Sem.run_pure]
end
end Go.Proofs.Ytablmbhnimnccaa.Pw
