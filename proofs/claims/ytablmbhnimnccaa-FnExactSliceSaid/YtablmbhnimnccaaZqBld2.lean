/- strings.Builder in a frame: made, written, told. No condition. -/
import Derived.Test.YtablmbhnimnccaaZqBld
import Derived.Test.YtablmbhnimnccaaZqGen2
set_option maxRecDepth 20000
namespace Go.Proofs.Ytablmbhnimnccaa.Pw
open Go.Proofs
section
variable {T : Nat → Option TI} {E : Entry} {N : Nat} {A : Nat → Nat → Prop} {F : Nat → Nat → Value} {S : St} {a : Act} {w w' : World} {K : St → Prop} {Q : Exit → Act → World → Prop}

theorem Evo.of_set_bld {A' : Nat → Nat → Prop} {F' : Nat → Nat → Value} {t g T0 T1 g1 g2 n m : Nat} (hb : S.bl t g = some (.bld T0 g1 n)) (hF : F' = F) (k : Keeps A A' w w') : Evo A A' F F' S (S.setBl t g (.bld T1 g2 m)) w w' :=
  ⟨k, fun _ => Nat.le_refl _, fun t' g' b _ h hp => by
      subst hF
      rcases setBl_bl h with ⟨rfl, rfl, hq⟩ | ⟨_, h⟩
      · exact ⟨_, hb, rfl, rfl⟩
      · exact ⟨b, h, hp, rfl⟩,
    fun t' g' E sz xs m _ h => by
      subst hF
      rcases setBl_bl h with ⟨rfl, rfl, hq⟩ | ⟨_, h⟩
      · cases hq
      · exact ⟨xs, m, h, Nat.le_refl _, fun _ => rfl⟩⟩

theorem bwrite_inv (hI : Inv E N S A F a w) {t g g1 n : Nat} {l : List Int} {c : Int} (hb : S.bl t g = some (.bld 89 g1 n)) (ha : S.bl t g1 = some (.arr 5 1 (l.map u8P) 0)) (hn : l.length = n)
    {r : Nat} {us : List Value} (hF : F t g = .pointer (some ⟨r, 0, none⟩)) (hA : ∀ o, ¬ A r o) (hr : RepPs A w (flat (l.map u8P)) us) (hAr : ∀ q, bOf (F t g1) = some q → ∀ o, A q o → o < 0 * 1) (h : BWrite r (F t g1) n us c w w') :
    ∃ F', Inv E N ((S.setBl t g1 (.arr 5 1 ((l ++ [c]).map u8P) 0)).setBl t g (.bld 89 g1 (n + 1))) A F' a w' := by
  obtain ⟨w1, w2, v', s1, q1, z1, s2, ho, hfr, rfl⟩ := h.ex
  have hgg : ¬ (t = t ∧ g1 = g) := fun h => by rw [h.2, hb] at ha; simp at ha
  have hne : bOf (F t g1) ≠ some r := fun he => hgg ⟨rfl, (hI.inj _ _ _ _ _ _ r ha hb he (by rw [hF]; rfl)).2⟩
  have hrlt : r < w.heap.size := (hI.bl _ _ _ hb).bOf_lt (by rw [hF]; rfl)
  -- the first cell
  have k1 : Keeps A A w w1 := Keeps.of_step hI s1 fun b o ho hb' => absurd (hb' ▸ ho) (hA o)
  have ws1 : Wstep (fun b => bOf (F t g) = some b) w w1 := ⟨s1.os, s1.tape, s1.output, s1.size, fun b hb' hn' => s1.blk b hb' (fun e => hn' (by rw [hF, e]; rfl))⟩
  have e1 : Evo A A F (upd2 F t g (F t g)) S (S.setBl t g (.bld 89 g1 n)) w w1 := Evo.of_set_bld hb (upd2_self t g) k1
  have os0 : RepA A F S w (.os t g1 n) (F t g1) := RepA.newOs (hI.lt _ _ _ ha) ha (by simpa using hn) (by
    obtain ⟨us', ho', _⟩ := hI.bl _ _ _ ha
    exact ownsRow_one ho')
  have I1 := hI.updBlk hb ws1 e1 (b1 := .bld 89 g1 n) ⟨r, _, _, by rw [upd2_self]; exact hF, q1, .inr rfl, RepA.evo e1 os0, hA⟩ (fun r' hr' => .inl hr')
  rw [upd2_self] at I1
  have hS1 : S.setBl t g (.bld 89 g1 n) = S := by
    apply St.ext'
    · intro _; rfl
    · intro t' g'
      simp only [St.setBl]
      by_cases hc : t' = t ∧ g' = g
      · rw [hc.1, hc.2, upd2_same, hb]
      · rw [upd2_ne _ _ _ _ _ _ hc]
    · intro _; rfl
  rw [hS1] at I1
  -- the row
  have k2 : Keeps A A w1 w2 := Keeps.of_step I1 s2 fun b o ho hb' => absurd (hAr b hb' o ho) (by omega)
  have e2 : Evo A A F (upd2 F t g1 v') S (S.setBl t g1 (.arr 5 1 ((l ++ [c]).map u8P) 0)) w1 w2 :=
    Evo.of_set_arr ha (by simp) (fun t' g' hn' => upd2_ne _ _ _ _ _ _ hn') (fun hq => by simp at hq) k2
  have hsz : ∀ x ∈ (l ++ [c]).map u8P, x.size = 1 := sz_map fun _ => rfl
  have I2 := I1.updBlk ha s2 e2 ⟨us ++ [.int .u8 c], by rw [upd2_same]; simpa [hn] using ho, by
      rw [List.map_append, flat_append]
      exact ((hr.mono k1).mono k2).append (.cons _ _ _ _ (.lit _) rfl .nil), hsz, Nat.zero_le _, fun q hq o ho' => by
      rw [upd2_same] at hq
      rcases hfr q hq with h | h
      · exact hAr q h o ho'
      · have := I1.Alt q o ho'; omega⟩ hfr
  -- the second cell
  have hb2 : (S.setBl t g1 (.arr 5 1 ((l ++ [c]).map u8P) 0)).bl t g = some (.bld 89 g1 n) := by
    simp only [St.setBl]; rw [upd2_ne _ _ _ _ _ _ (fun h => hgg ⟨rfl, h.2.symm⟩)]; exact hb
  have ha2 : (S.setBl t g1 (.arr 5 1 ((l ++ [c]).map u8P) 0)).bl t g1 = some (.arr 5 1 ((l ++ [c]).map u8P) 0) := by simp only [St.setBl]; rw [upd2_same]
  have hF2 : upd2 F t g1 v' t g = .pointer (some ⟨r, 0, none⟩) := by rw [upd2_ne _ _ _ _ _ _ (fun h => hgg ⟨rfl, h.2.symm⟩)]; exact hF
  have q2 : w2.heap[r]? = some (.cells #[.pointer (some ⟨r, 0, none⟩), F t g1] 89 (0, 0)) := (s2.blk r (by omega) (fun h => hne h)).trans q1
  have s3 := wst_setCell w2 r 1 v'
  have k3 : Keeps A A w2 (w2.setCell ⟨r, 1, none⟩ v') := Keeps.of_step I2 s3 fun b o ho hb' => absurd (hb' ▸ ho) (hA o)
  have ws3 : Wstep (fun b => bOf (upd2 F t g1 v' t g) = some b) w2 (w2.setCell ⟨r, 1, none⟩ v') := ⟨s3.os, s3.tape, s3.output, s3.size, fun b hb' hn' => s3.blk b hb' (fun e => hn' (by rw [hF2, e]; rfl))⟩
  have e3 : Evo A A (upd2 F t g1 v') (upd2 (upd2 F t g1 v') t g (upd2 F t g1 v' t g)) (S.setBl t g1 (.arr 5 1 ((l ++ [c]).map u8P) 0)) ((S.setBl t g1 (.arr 5 1 ((l ++ [c]).map u8P) 0)).setBl t g (.bld 89 g1 (n + 1))) w2 (w2.setCell ⟨r, 1, none⟩ v') :=
    Evo.of_set_bld hb2 (upd2_self t g) k3
  have os2 : RepA A (upd2 F t g1 v') (S.setBl t g1 (.arr 5 1 ((l ++ [c]).map u8P) 0)) w2 (.os t g1 (n + 1)) v' := by
    have := RepA.newOs (A := A) (w := w2) (F := upd2 F t g1 v') (d := t) (len := n + 1) (I2.lt _ _ _ ha2) ha2 (by simp [hn]) (by rw [upd2_same]; exact ownsRow_one ho)
    rwa [upd2_same] at this
  have I3 := I2.updBlk hb2 ws3 e3 (b1 := .bld 89 g1 (n + 1)) ⟨r, .pointer (some ⟨r, 0, none⟩), v', by rw [upd2_self]; exact hF2, by rw [setCell_at q2]; rfl, .inr rfl, RepA.evo e3 os2, hA⟩ (fun r' hr' => .inl hr')
  exact ⟨_, I3⟩

/-- One operation of a row of operations, by a law of its own. -/
theorem wpOp_own {P : Program} {ops : Array Oper} {i : Nat} {o : Oper} {next : Act → World → Prop} (hi : ops[i]? = some o) (hg : o.guard = none) (h : o.wp P a w next Q) : wpOp P ops Q i next a w := by
  unfold wpOp
  simp only [hi]
  rw [if_pos (by simp [Region.wanted, hg])]
  exact .inl h
theorem cw_own1 {P : Program} {id : Nat} {o : Oper} {K : Exit → St → Prop} (hg : o.guard = none) (h : ∀ E A F a w, Inv E N S A F a w → ∀ Q, o.wp P a w (Nx E N (K .normal)) Q) : CW P N (.region id #[o] false) K S := fun E A F a w hI => by
  refine wp_region ?_
  show wpOps P #[o] _ [0] a w
  rw [wpOps_wpOp]
  refine wpOp_own rfl hg (Oper.wp_mono (fun a w h => ?_) (h E A F a w hI _))
  exact h
theorem cw_own2 {P : Program} {T : Nat → Option TI} {id : Nat} {o o2 : Oper} {K : Exit → St → Prop} {S1 : St} (hT : TOk P T) (hg : o.guard = none) (hg2 : o2.guard = none) (hd : ∀ t, o2.dst = some t → t < N) (h : ∀ E A F a w, Inv E N S A F a w → ∀ Q, o.wp P a w (Nx E N (fun X => X = S1)) Q)
    (h2 : opW P T o2 S1 (K .normal)) : CW P N (.region id #[o, o2] false) K S := fun E A F a w hI => by
  refine wp_region ?_
  show wpOps P #[o, o2] _ [0, 1] a w
  rw [wpOps_wpOp]
  refine wpOp_own rfl hg (Oper.wp_mono (fun a w ⟨X, A', F', h', hX⟩ => ?_) (h E A F a w hI _))
  subst hX
  rw [wpOps_wpOp]
  refine wpOp_own rfl hg2 (Oper.wp_mono (fun a w h => ?_) (opW_sound hT h' hd h2))
  exact h

/-- A builder made at d: its row is (d, g), its block (d, g + 1). -/
theorem bnew_sound (hI : Inv E N S A F a w) {d g ty : Nat} {pos : String} {after : Array Edge} {guard : Option (Nat × Bool)} (hd : d < N) (hg : S.gen d = g) (hk0 : K ((S.nb d g (.arr 5 1 [] 0) .un).nb d (g + 1) (.bld 89 g 0) (.pt d (g + 1) 0))) :
    Oper.wp Try.prog ⟨some d, .alloc 89, ty, pos, after, guard⟩ a w (Nx E N K) Q := by
  subst hg
  have hk : K (((S.mk' d (.arr 5 1 [] 0)).mk' d (.bld 89 (S.gen d) 0)).put (some d) (.pt d (S.gen d + 1) 0)) := by
    have : (S.nb d (S.gen d) (.arr 5 1 [] 0) .un).nb d (S.gen d + 1) (.bld 89 (S.gen d) 0) (.pt d (S.gen d + 1) 0) = ((S.mk' d (.arr 5 1 [] 0)).mk' d (.bld 89 (S.gen d) 0)).put (some d) (.pt d (S.gen d + 1) 0) := by
      apply St.ext'
      · intro t; simp [St.nb, St.pt', St.put, St.mk', upd]; try (split <;> rfl)
      · intro t g; simp [St.nb, St.pt', St.put, St.mk', upd]
      · intro t; simp [St.nb, St.pt', St.put, St.mk', upd]
    rw [← this]; exact hk0
  refine wp_val (u := .pointer (some ⟨w.heap.size, 0, none⟩)) (w' := w.alloc (.cells #[.pointer none, .slice none 0 0] 89)) ?_ ?_
  · have h := Try.zeroValue89 w
    simp [execOp, Instr.alloc, h, run_newVar]; rfl
  have I1 : Inv E N (S.mk' d (.arr 5 1 [] 0)) A (upd2 F d (S.gen d) (.slice none 0 0)) a w := by
    refine hI.newBlk (.refl _ _) ⟨[], by rw [upd2_same]; exact World.ownsRow_nil w 0 5 1, .nil, by simp, Nat.le_refl _, fun r hb => by rw [upd2_same] at hb; simp [bOf] at hb⟩ (fun r hb => by simp [bOf] at hb)
  have hg1 : (S.mk' d (.arr 5 1 [] 0)).gen d = S.gen d + 1 := by simp [St.mk', upd_same]
  have ws := wstep_alloc w (.cells #[.pointer none, .slice none 0 0] 89)
  have e : Evo A A (upd2 F d (S.gen d) (.slice none 0 0)) (upd2 (upd2 F d (S.gen d) (.slice none 0 0)) d ((S.mk' d (.arr 5 1 [] 0)).gen d) (.pointer (some ⟨w.heap.size, 0, none⟩))) (S.mk' d (.arr 5 1 [] 0)) ((S.mk' d (.arr 5 1 [] 0)).mk' d (.bld 89 (S.gen d) 0)) w (w.alloc (.cells #[.pointer none, .slice none 0 0] 89)) :=
    Evo.of_mk (Keeps.of_step I1 ws fun _ _ _ h => h.elim)
  have hb1 : (S.mk' d (.arr 5 1 [] 0)).bl d (S.gen d) = some (.arr 5 1 [] 0) := by simp only [St.mk']; rw [upd2_same]
  have os : RepA A (upd2 F d (S.gen d) (.slice none 0 0)) (S.mk' d (.arr 5 1 [] 0)) w (.os d (S.gen d) 0) (.slice none 0 0) := by
    have := RepA.newOs (A := A) (w := w) (F := upd2 F d (S.gen d) (.slice none 0 0)) (len := 0) (I1.lt _ _ _ hb1) hb1 rfl (by rw [upd2_same]; rfl)
    rwa [upd2_same] at this
  have I2 := I1.newBlk ws (d := d) (b := .bld 89 (S.gen d) 0) (Fv := .pointer (some ⟨w.heap.size, 0, none⟩))
    ⟨w.heap.size, _, _, upd2_same _ _ _ _, by simpa using heap_alloc_new w _, .inl rfl, RepA.evo e os, fun o ho => by have := I1.Alt _ _ ho; omega⟩ (fun r hr => by simp [bOf] at hr; omega)
  refine ⟨_, _, _, I2.put (v := .pt d (S.gen d + 1) 0) (RepA.newPt (b := .bld 89 (S.gen d) 0) (Fv := undef) (by rw [← hg1]; exact upd2_same _ _ _ _) (by simp [St.mk', upd_same])) (fun t ht => by cases ht; exact hd), hk⟩

theorem callee_run {P : Program} {f : FuncId} {fn : Func} {o : Oper} {args : Array Operand} {tys : Array TypeId} (ho : o.op = .call ⟨.value (.func f), args, tys⟩) (hf : P.funcs[f]? = some fn) (hb : fn.body.isSome = true) (hn : (fn.name == "runtime.NumGoroutine") = false) :
    (execOp a.eval o).run P w = .ok (.enter f (args.map a.eval)) w := by
  have hb' : fn.body.isNone = false := by cases hq : fn.body <;> simp_all
  have he : a.eval (.func f) = .func (.func f) #[] #[] := rfl
  simp only [execOp, ho, resolve, he, Deferred.ofValue, Sem.run_bind, Sem.run_pure, Result.andThen_ok, invoke, callFunc, run_program, hf, hn, hb', Bool.false_eq_true, if_false, Array.empty_append, Array.append_empty]
theorem bwrite_sound (hI : Inv E N S A F a w) {d t g g1 n ty : Nat} {l : List Int} {c : Int} {x : Operand} {tys : Array TypeId} {pos : String} {after : Array Edge} {guard : Option (Nat × Bool)} (hd : d < N)
    (hx : S.ev x = .pt t g 0) (hb : S.bl t g = some (.bld 89 g1 n)) (ha : S.bl t g1 = some (.arr 5 1 (l.map u8P) 0)) (hn : l.length = n) (hl : n + 1 ≤ 140737488355328)
    (hk : K (((S.setBl t g1 (.arr 5 1 ((l ++ [c]).map u8P) 0)).setBl t g (.bld 89 g1 (n + 1))).put (some d) (.p (.lit .nilIface)))) :
    Oper.wp Try.prog ⟨some d, .call ⟨.value (.func 61), #[x, .const (.int .u8 c)], tys⟩, ty, pos, after, guard⟩ a w (Nx E N K) Q := by
  have hxr := hI.ev x
  rw [hx] at hxr
  obtain ⟨r, p, u, hF, hw, hp, hu, hA⟩ := hI.bl _ _ _ hb
  obtain ⟨us, ho, hr, _, _, hAr⟩ := hI.bl _ _ _ ha
  cases hxr with
  | pt _ _ _ v _ hq _ =>
    obtain ⟨r', hF', hv⟩ := hq _ hb rfl
    rw [hF] at hF'; simp at hF'; subst hF'
    cases hu with
    | os _ _ _ _ _ hq2 _ =>
      have hu2 := (hq2 _ _ _ _ ha).2 (by simpa using hn)
      have hgg : ¬ (g1 = g) := fun h => by rw [h, hb] at ha; simp at ha
      have hne : bOf u ≠ some r := fun he => hgg (hI.inj _ _ _ _ _ _ r ha hb (by rw [← hu2]; exact he) (by rw [hF]; rfl)).2
      have hC := bwrite r p u n us c w hw hp (by rw [hu2]; simpa [hn] using ho) hne hl
      unfold Oper.wp
      rw [callee_run rfl Try.func61 rfl rfl, Oper.upon_enter]
      have hargs : (#[x, Operand.const (.int .u8 c)] : Array Operand).map a.eval = #[.pointer (some ⟨r, 0, none⟩), .int .u8 c] := by simp [hv]; rfl
      rw [hargs]
      refine hC.mono fun e w' ⟨he, hW⟩ => ?_
      subst he
      rw [hu2] at hW
      obtain ⟨F', I⟩ := bwrite_inv hI hb ha hn hF hA hr hAr hW
      exact ⟨_, _, _, I.put (.p _ _ (.lit _)) (fun t ht => by cases ht; exact hd), hk⟩

theorem bytes_u8 {l : List Int} (h : ∀ x ∈ l, 0 ≤ x ∧ x ≤ 255) : Lib.byteCells (l.map fun n => UInt8.ofNat n.toNat) = l.map (Value.int .u8) := by
  unfold Lib.byteCells
  rw [List.map_map]
  refine List.map_congr_left fun x hx => ?_
  have := h x hx
  simp only [Function.comp, UInt8.toNat_ofNat']
  congr 1
  omega
theorem RepPs.u8s {l : List Int} {us : List Value} (h : RepPs A w (flat (l.map u8P)) us) : us = l.map (Value.int .u8) := by
  induction l generalizing us with
  | nil => cases h; rfl
  | cons x l ih =>
    simp only [List.map_cons, flat, PV.cells, List.singleton_append] at h
    cases h with
    | cons _ u _ us h h1 hs => cases h; simp [ih hs]
theorem bstring_sound (hI : Inv E N S A F a w) {d t g g1 n ty : Nat} {l : List Int} {x : Operand} {tys : Array TypeId} {pos : String} {after : Array Edge} {guard : Option (Nat × Bool)} (hd : d < N)
    (hx : S.ev x = .pt t g 0) (hb : S.bl t g = some (.bld 89 g1 n)) (ha : S.bl t g1 = some (.arr 5 1 (l.map u8P) 0)) (hn : l.length = n) (hl0 : l ≠ []) (h8 : ∀ x ∈ l, 0 ≤ x ∧ x ≤ 255)
    (hk : K (((S.drop t g1).drop t g).put (some d) (.p (.lit (.string (strOfNums l)))))) :
    Oper.wp Try.prog ⟨some d, .call ⟨.value (.func 62), #[x], tys⟩, ty, pos, after, guard⟩ a w (Nx E N K) Q := by
  have hxr := hI.ev x
  rw [hx] at hxr
  obtain ⟨r, p, u, hF, hw, hp, hu, hA⟩ := hI.bl _ _ _ hb
  obtain ⟨us, ho, hr, _, _, hAr⟩ := hI.bl _ _ _ ha
  cases hxr with
  | pt _ _ _ v _ hq _ =>
    obtain ⟨r', hF', hv⟩ := hq _ hb rfl
    rw [hF] at hF'; simp at hF'; subst hF'
    cases hu with
    | os _ _ _ _ _ hq2 _ =>
      have hu2 := (hq2 _ _ _ _ ha).2 (by simpa using hn)
      have hus := hr.u8s
      have hC := bstring r p u (l.map fun n => UInt8.ofNat n.toNat) w hw (by rw [bytes_u8 h8, hu2, ← hus]; simpa using ho) (by simpa using hl0)
      unfold Oper.wp
      rw [callee_run rfl Try.func62 rfl rfl, Oper.upon_enter]
      have hargs : (#[x] : Array Operand).map a.eval = #[.pointer (some ⟨r, 0, none⟩)] := by simp [hv]
      rw [hargs]
      refine hC.mono fun e w' ⟨he, hW⟩ => ?_
      subst he
      have I1 := (hI.dropBl t g1).dropBl t g
      rw [hu2] at hW
      have k : Keeps A A w w' := Keeps.of_step hI hW fun b o hbo hb' => absurd (hAr b hb' o hbo) (by omega)
      have e : Evo A A F F ((S.drop t g1).drop t g) ((S.drop t g1).drop t g) w w' := ⟨k, fun _ => Nat.le_refl _, fun _ _ b _ h hp => ⟨b, h, hp, rfl⟩, fun _ _ _ _ xs m _ h => ⟨xs, m, h, Nat.le_refl _, fun _ => rfl⟩⟩
      have I2 : Inv E N ((S.drop t g1).drop t g) A F a w' := by
        refine I1.change e rfl I1.lt (fun t' g' b hb' => BlkOk.evo e (I1.bl _ _ _ hb') rfl fun q hq => ⟨hW.blk q ((I1.bl _ _ _ hb').bOf_lt hq) fun hq' => ?_, fun _ h => h⟩) I1.inj (fun b o ho => Nat.lt_of_lt_of_le (I1.Alt b o ho) hW.size) hW (fun b hb' => hI.own _ _ _ b ha hb') (fun b o ho _ => .inl ho) I1.own
        obtain ⟨n1, h1⟩ := drop_bl hb'
        obtain ⟨n2, h2⟩ := drop_bl h1
        exact n2 (hI.inj _ _ _ _ _ _ q h2 ha hq hq')
      exact ⟨_, _, _, I2.put (.p _ _ (.lit _)) (fun t ht => by cases ht; exact hd), hk⟩
end
end Go.Proofs.Ytablmbhnimnccaa.Pw
