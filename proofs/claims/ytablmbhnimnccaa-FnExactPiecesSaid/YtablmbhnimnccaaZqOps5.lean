/- Pw, part 15b: an owned row cut short; noughts behind nothing. No condition. -/
import Derived.Test.YtablmbhnimnccaaZqCall
import Derived.Lib.AppendZeros
namespace Go.Proofs.Ytablmbhnimnccaa.Pw
section
variable {P : Program} {T : Nat → Option TI} {E : Entry} {N : Nat} {A A' : Nat → Nat → Prop} {F : Nat → Nat → Value} {S S1 S' : St} {a : Act} {w w' : World} {K : St → Prop} {Q : Exit → Act → World → Prop}

theorem flat_takeN {sz : Nat} : ∀ {xs : List PV} (k : Nat), (∀ x ∈ xs, x.size = sz) → flat (xs.take k) = (flat xs).take (k * sz)
  | [], k, _ => by simp [flat]
  | x :: xs, 0, _ => by simp [flat]
  | x :: xs, k + 1, h => by
    have hx : x.cells.length = sz := h x (by simp)
    have h2 : (k + 1) * sz = x.cells.length + k * sz := by rw [hx, Nat.add_mul]; omega
    simp only [List.take_succ_cons, flat]
    rw [flat_takeN k fun y hy => h y (List.mem_cons_of_mem _ hy), h2, List.take_length_add_append]

theorem ownsRow_take {E0 sz n k : Nat} {g cap : Nat} {us : List Value} (h : w.ownsRow 0 E0 sz (.slice (some ⟨g, 0, none⟩) n cap) n us) (hk : k ≤ n) : w.ownsRow 0 E0 sz (.slice (some ⟨g, 0, none⟩) k cap) k (us.take (k * sz)) := by
  have hks : k * sz ≤ n * sz := Nat.mul_le_mul_right _ hk
  refine ⟨by rw [List.length_take, h.1]; omega, .inr ?_⟩
  rcases h.2 with ⟨h1, _⟩ | ⟨g', cap', cur, h1, q1, q2, q3, q4, q5, q6⟩
  · simp at h1
  · simp at h1
    obtain ⟨rfl, rfl⟩ := h1
    exact ⟨g, cap, cur, rfl, q1, q2, by omega, q4, q5, by rw [← q6, List.take_take]; congr 1; omega⟩

theorem trunc_sound (hT : TOk P T) (hI : Inv E N S A F a w) {dst : Option Tmp} {t ty : Nat} {x h : Operand} {pos : String} {after : Array Edge} {guard : Option (Nat × Bool)} (hd : ∀ t, dst = some t → t < N)
    {ti te : TI} {e : Nat} (hti : T t = some ti) (hkd : ti.kd = .sl e) (hte : T e = some te) {t' g len E0 sz m k : Nat} {xs : List PV} (hsz : te.size = sz) (hx : S.ev x = .os t' g len) (hb : S.bl t' g = some (.arr E0 sz xs m))
    (hl : xs.length = len) (hh : natOf (S.ev h) = some k) (hmk : m ≤ k) (hkl : k ≤ len) (hk : newBl (S.drop t' g) dst (.arr E0 sz (xs.take k) m) (fun d g => .os d g k) K) :
    Oper.wp P ⟨dst, .slice t x none (some h) none, ty, pos, after, guard⟩ a w (Nx E N K) Q := by
  cases dst with
  | none => exact hk.elim
  | some d =>
  obtain ⟨dd, hdd, hk2⟩ := hT.kind hti
  rw [hkd] at hk2
  simp only [TKok] at hk2
  subst hk2
  have hxr := hI.ev x
  rw [hx] at hxr
  have hv := natOf_val hh (hI.ev h)
  obtain ⟨us, ho, hr, hs, hml, hA⟩ := hI.bl _ _ _ hb
  cases hxr with
  | os _ _ _ u hg hq h1 =>
    have hu := (hq _ _ _ _ hb).2 hl
    subst hl
    have i1 := hI.dropBl t' g
    have dead : ∀ r, bOf (F t' g) = some r → ¬ Live (S.drop t' g) F r := fun r hr ⟨t2, g2, b2, h2, h3⟩ => (drop_bl h2).1 (hI.inj _ _ _ _ _ _ r (drop_bl h2).2 hb h3 hr)
    -- the value, cut
    have hcut : ∃ v, (execOp a.eval ⟨some d, .slice t x none (some h) none, ty, pos, after, guard⟩).run P w = .ok (.value v) w ∧ w.ownsRow 0 E0 sz v k (us.take (k * sz)) ∧ bOf v = bOf (F t' g) := by
      rcases ho.2 with ⟨hF, hn⟩ | ⟨g0, cap, cur, hF, q1, q2, q3, q4, q5, q6⟩
      · have hk0 : k = 0 := by omega
        subst hk0
        have hb2 := run_bounds (P := P) (w := w) (isS := true) (len := 0) (cap := 0) (l := 0) (h := 0) (m := 0) (lo := none) (hi := some (.int .i64 (0 : Nat))) (mx := none) (.inl ⟨rfl, rfl⟩) (.inr rfl) (.inl ⟨rfl, rfl⟩) (Nat.le_refl _) (Nat.le_refl _)
        refine ⟨.slice none 0 0, ?_, ⟨by simp, .inl ⟨rfl, rfl⟩⟩, by rw [hF]⟩
        have hux : a.eval x = .slice none 0 0 := hu.trans hF
        simp only [execOp, Instr.sliceAt, Sem.run_bind, run_underlying hdd, Result.andThen_ok, hux, Instr.slice, Option.map_none, Option.map_some, hv, hb2, hT.size hte, Sem.run_pure, if_true, Nat.sub_self]
      · have hb2 := run_bounds (P := P) (w := w) (isS := true) (len := xs.length) (cap := cap) (l := 0) (h := k) (m := cap) (lo := none) (hi := some (.int .i64 k)) (mx := none) (.inl ⟨rfl, rfl⟩) (.inr rfl) (.inl ⟨rfl, rfl⟩) (Nat.zero_le _) (by omega)
        have hux : a.eval x = .slice (some ⟨g0, 0, none⟩) xs.length cap := hu.trans hF
        have ho2 : w.ownsRow 0 E0 sz (.slice (some ⟨g0, 0, none⟩) k cap) k (us.take (k * sz)) := ownsRow_take (by rw [← hF]; exact ho) hkl
        refine ⟨.slice (some ⟨g0, 0, none⟩) k cap, ?_, ho2, by rw [hF]; rfl⟩
        simp only [execOp, Instr.sliceAt, Sem.run_bind, run_underlying hdd, Result.andThen_ok, hux, Instr.slice, Option.map_none, Option.map_some, hv, hb2, hT.size hte, Sem.run_pure, Nat.sub_zero, Nat.zero_mul, Addr.add_lit]
        by_cases hc : cap = 0
        · simp [hc]
        · simp [hc]
    obtain ⟨v, hrun, ho2, hbv⟩ := hcut
    have hlk : (xs.take k).length = k := by rw [List.length_take]; omega
    have h2 : Inv E N ((S.drop t' g).mk' d (.arr E0 sz (xs.take k) m)) A (upd2 F d ((S.drop t' g).gen d) v) a w := by
      refine i1.newBlk' (.refl _ w) ⟨us.take (k * sz), ?_, ?_, fun x hx => hs x (List.mem_of_mem_take hx), by omega, fun r hbr o ha => ?_⟩ (fun r hbr => dead r (by rw [← hbv]; exact hbr)) (fun r hbr => hI.own _ _ _ r hb (by rw [← hbv]; exact hbr))
      · rw [upd2_same, hlk]; exact ho2
      · rw [flat_takeN k hs]; exact hr.take _
      · rw [upd2_same, hbv] at hbr
        exact hA r hbr o ha
    have h1c : v.oneCell' = true := by rcases ho2.2 with ⟨rfl, _⟩ | ⟨g, cap, cur, rfl, _⟩ <;> rfl
    have hra : RepA A (upd2 F d ((S.drop t' g).gen d) v) ((S.drop t' g).mk' d (.arr E0 sz (xs.take k) m)) w (.os d ((S.drop t' g).gen d) k) v := by
      have := RepA.newOs (A := A) (F := upd2 F d ((S.drop t' g).gen d) v) (S := (S.drop t' g).mk' d (.arr E0 sz (xs.take k) m)) (w := w) (d := d) (g := (S.drop t' g).gen d) (len := k) (E0 := E0) (sz := sz) (xs := xs.take k) (m := m)
        (by simp [St.mk', upd_same]) (by simp [St.mk', upd2_same]) hlk (by rw [upd2_same]; exact h1c)
      rwa [upd2_same] at this
    exact wp_val hrun ⟨_, _, _, h2.put hra hd, hk⟩

theorem zeros_sound (hT : TOk P T) (hI : Inv E N S A F a w) {dst : Option Tmp} {ty : Nat} {args : Array Operand} {tys : Array TypeId} {pos : String} {after : Array Edge} {guard : Option (Nat × Bool)} (hd : ∀ t, dst = some t → t < N)
    {x y : Operand} {t tn e n : Nat} {ki : IntKind} {ti te tin : TI} (ha : args.toList = [x, y]) (hts : tys.toList = [t, tn]) (hti : T t = some ti) (hkd : ti.kd = .sl e) (hte : T e = some te) (htn : T tn = some tin) (hkn : tin.kd = .int ki)
    (hx : S.ev x = .p (.lit nilSl)) (hy : natOf (S.ev y) = some n) (hn0 : 0 < n) (h0 : 0 < te.size) (hb : n * te.bytes ≤ 140737488355328) (hn : n ≤ 140737488355328)
    (hk : newBl S dst (.arr e te.size (List.replicate n (zeroP te)) 0) (fun d g => .os d g n) K) :
    Oper.wp P ⟨dst, .call ⟨.builtin .append, args, tys⟩, ty, pos, after, guard⟩ a w (Nx E N K) Q := by
  obtain ⟨d, hdd, hk2⟩ := hT.kind hti
  rw [hkd] at hk2
  simp only [TKok] at hk2
  subst hk2
  obtain ⟨dn, hdn, hk3⟩ := hT.kind htn
  rw [hkn] at hk3
  simp only [TKok] at hk3
  subst hk3
  obtain ⟨ie, hie, hs, hby, hz, hcz⟩ := hT.info hte
  obtain ⟨hzr, hzs⟩ := zeroP_cells (A := A) (w := w) hT hte
  have v1 : a.eval x = nilSl := repA_lit (by rw [← hx]; exact hI.ev x)
  have v2 := natOf_val hy (hI.ev y)
  have e1 : args = #[x, y] := by apply Array.ext'; simpa using ha
  have e2 : tys = #[t, tn] := by apply Array.ext'; simpa using hts
  subst e1; subst e2
  have hrun := Go.Lib.run_append_nil_zeros (P := P) w t tn ty e ie te.zero .i64 ki hdd hdn hie hz n hn0 (by rw [hs]; exact h0) (by omega) (by rw [hby]; omega)
  have hge := grownCap_ge w n 0 e
  have hmx := grownCap_le_maxLen w n 0 e (by simp [maxLen]; omega)
  generalize grownCap w n 0 e = cap at hrun hge hmx
  have hzc : ∀ j, Builtin.zeroCells te.zero.cells j = madeCells te.zero.cells (j * te.size) := fun j => by simp [Builtin.zeroCells, madeCells, hcz]
  rw [hzc, hzc] at hrun
  have hszA : ∀ j, (madeCells te.zero.cells j).size = j := fun j => by simp [madeCells]
  refine wp_val (u := .slice (some ⟨w.heap.size, 0, none⟩) n cap) (w' := w.drew.alloc (.cells (madeCells te.zero.cells (n * te.size) ++ madeCells te.zero.cells ((cap - n) * te.size)) e)) ?_ ?_
  · simp only [execOp, resolve, invoke, builtin, Sem.run_bind, Sem.run_pure, Result.andThen_ok, List.map_toArray, List.map_cons, List.map_nil, v1, v2, nilSl, hrun]
  · refine newBl_arr (xs := List.replicate n (zeroP te)) (us := (List.replicate n te.zero.cells.toList).flatten) hI (w' := w.drew.alloc _) ?_ ?_ (fun r hr => by simp [bOf] at hr; omega) (repl_flat hzr n) (fun x hx => by rw [List.eq_of_mem_replicate hx]; exact hzs) hd (by simp) hk
    · exact (wstep_draw w).trans (wstep_alloc w.drew _)
    · rw [List.length_replicate]
      refine ⟨?_, .inr ⟨w.heap.size, cap, _, rfl, Nat.zero_le _, heap_alloc_new w.drew _, hge, hmx, ?_, ?_⟩⟩
      · rw [← madeCells_flat te hcz h0 n]; simp [hszA]
      · rw [Array.size_append, hszA, hszA, ← Nat.add_mul]; congr 1; omega
      · rw [← madeCells_flat te hcz h0 n, Array.toList_append, List.take_append_of_le_length (by simp [hszA]), List.take_of_length_le (by simp [hszA])]

theorem opT_sound (hT : TOk P T) (hI : Inv E N S A F a w) {o : Oper} (hd : ∀ t, o.dst = some t → t < N) (hk : opT T o S K) : o.wp P a w (Nx E N K) Q := by
  obtain ⟨dst, op, ty, pos, after, guard⟩ := o
  unfold opT at hk
  simp only at hk hd
  split at hk
  · obtain ⟨ti, te, e, t', g, len, E0, sz, xs, m, k, q1, q2, q3, q4, q5, q6, q7, q8, q9, q10, q11⟩ := hk
    exact trunc_sound hT hI hd q1 q2 q3 q4 q5 q6 q7 q8 q9 q10 q11
  · obtain ⟨x, y, t, tn, ti, te, e, ki, tin, n, q1, q2, q3, q4, q5, q6, q7, q8, q9, q10, q11, q12, q13, q14⟩ := hk
    exact zeros_sound hT hI hd q1 q2 q3 q4 q5 q6 q7 q8 q9 q10 q11 q12 q13 q14
  · exact hk.elim
end
end Go.Proofs.Ytablmbhnimnccaa.Pw
