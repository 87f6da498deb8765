/- Pw, part 16: every operation is sound. No condition. -/
import Derived.Test.YtablmbhnimnccaaZqOps5
namespace Go.Proofs.Ytablmbhnimnccaa.Pw
section
variable {P : Program} {T : Nat → Option TI} {E : Entry} {N : Nat} {A A' : Nat → Nat → Prop} {F : Nat → Nat → Value} {S S1 S' : St} {a : Act} {w w' : World} {K : St → Prop} {Q : Exit → Act → World → Prop}

theorem opW0_sound (hT : TOk P T) (hI : Inv E N S A F a w) {o : Oper} (hd : ∀ t, o.dst = some t → t < N) (hk : opW0 P T o S K) : o.wp P a w (Nx E N K) Q := by
  unfold opW0 at hk
  split at hk
  · rename_i v hv
    obtain ⟨v', h3, hk⟩ := hk
    obtain ⟨u, h1, h2⟩ := opv_sound hT hI hv
    exact wp_val h1 ⟨_, _, _, hI.put (h3.rep h2) hd, hk⟩
  · obtain ⟨dst, op, ty, pos, after, guard⟩ := o
    simp only at hk hd ⊢
    split at hk
    · rename_i t
      split at hk
      · rename_i ti hti; exact alloc_sound hT hI hd hti hk
      · exact hk.elim
    · exact box_sound hI hd hk.1 hk.2
    · rename_i t ps
      split at hk
      · rename_i ti hti
        split at hk
        · rename_i cs hf; obtain ⟨h0, v', hv', hk⟩ := hk; exact build_sound hT hI hd hti hf h0 hv' hk
        · exact hk.elim
      · exact hk.elim
    · rename_i t len ps
      split at hk
      · rename_i ti hti
        split at hk
        · rename_i e hkd
          split at hk
          · rename_i te hte
            obtain ⟨h1, h2, h3, h4, xs, S', h5, h6, h7⟩ := hk
            exact buildSlice_sound hT hI hd hti hkd hte h1 h2 h3 h4 h5 (fun x hx => (h6 x hx).1) (fun x hx => (h6 x hx).2) h7
          · exact hk.elim
        · exact hk.elim
      · exact hk.elim
    · split at hk
      · rename_i hq; exact eqAg_sound hI hd hq hk.1 hk.2
      · exact hk.elim
    · rename_i t x y
      split at hk
      · rename_i ti hti
        obtain ⟨h1, h2, h3, hk⟩ := hk
        subst h3
        split at hk
        · rename_i t' g off hx
          split at hk
          · rename_i cs hb; exact store_var_sound hT hI hti h1 h2 hx hb hk.1 hk.2
          · exact hk.elim
        · rename_i t' g len i off hx
          split at hk
          · rename_i E0 sz xs m hb
            split at hk
            · rename_i z ps hz hp
              split at hk
              · rename_i z' hset
                obtain ⟨q1, q2, q3, q4⟩ := hk
                exact store_arr_sound hT hI hti h1 h2 hx hb hz hp hset q1 q2 q3 q4
              · exact hk.elim
            · exact hk.elim
          · exact hk.elim
        · exact hk.elim
      · exact hk.elim
    · rename_i t l c
      split at hk
      · rename_i ti hti
        split at hk
        · rename_i e hkd
          split at hk
          · rename_i te hte
            split at hk
            · rename_i n n' hn hn'
              obtain ⟨rfl, q1, q2, q3, q4⟩ := hk
              exact makeSlice_sound hT hI hd hti hkd hte hn hn' q1 q2 q3 q4
            · exact hk.elim
          · exact hk.elim
        · exact hk.elim
      · exact hk.elim
    · rename_i t x lo hi mx
      split at hk
      · rename_i ti hti
        split at hk
        · rename_i hkd
          split at hk
          · rename_i s l hx hl
            split at hk
            · rename_i h hh
              obtain ⟨q1, q2, q3⟩ := hk
              exact slice_str_sound hT hI hd hti hkd hx hl hh q1 q2 q3
            · exact hk.elim
          · exact hk.elim
        · rename_i e hkd
          split at hk
          · rename_i te xs l hte hxs hl
            split at hk
            · rename_i h hh
              obtain ⟨q1, q2, q3, S', q4, q5⟩ := hk
              exact slice_sl_sound hT hI hd hti hkd hte hl hh q1 q2 q3 q4 q5
            · exact hk.elim
          · exact hk.elim
        · exact hk.elim
      · exact hk.elim
    · rename_i args tys _
      split at hk
      · rename_i x y t t' hargs htys
        split at hk
        · rename_i ti hti
          split at hk
          · rename_i e hkd
            split at hk
            · rename_i te ys hte hys
              obtain ⟨rfl, h0, hsz, hk⟩ := hk
              obtain ⟨d, hdd, hk2⟩ := hT.kind hti
              rw [hkd] at hk2
              simp only [TKok] at hk2
              subst hk2
              have ha : args = #[x, y] := by apply Array.ext'; simpa using hargs
              have ht : tys = #[t, t] := by apply Array.ext'; simpa using htys
              subst ha; subst ht
              have fin : ∀ v' w', (Builtin.append_ #[t, t] ty #[a.eval x, a.eval y]).run P w = .ok v' w' → Nx E N K (a.put dst v') w' →
                  Oper.wp P ⟨dst, .call ⟨.builtin .append, #[x, y], #[t, t]⟩, ty, pos, after, guard⟩ a w (Nx E N K) Q := fun v' w' h1 h2 => by
                refine wp_val (u := v') (w' := w') ?_ h2
                simp only [execOp, resolve, invoke, builtin, Sem.run_bind, Sem.run_pure, Result.andThen_ok, List.map_toArray, List.map_cons, List.map_nil, h1]
              have hxr := hI.ev x
              have hyr := hI.ev y
              split at hk
              · rename_i t' g len hx
                rw [hx] at hxr
                split at hk
                · rename_i E0 sz xs m hb
                  obtain ⟨q1, rfl, rfl, q2, q3, q4⟩ := hk
                  obtain ⟨v', w', h1, h2⟩ := append_os (P := P) (ty := ty) hT hI hte hdd h0 hb q1 hxr hys hyr hsz q2 q3 hd q4
                  exact fin v' w' h1 h2
                · exact hk.elim
              · obtain ⟨q1, q2, q3, q4⟩ := hk
                obtain ⟨v', w', h1, h2⟩ := append_nil (P := P) (ty := ty) hT hI hte hdd h0 q1 hxr hys hyr hsz q2 q3 hd q4
                exact fin v' w' h1 h2
            · exact hk.elim
          · exact hk.elim
        · exact hk.elim
      · exact hk.elim
    · rename_i f args tys _
      split at hk
      · rename_i g caps hc
        obtain ⟨targs, S1, l, res, outs, v, S2, q1, q2, q3, q4, q5, q6⟩ := hk
        exact call_sound hI hd hc q1 q2 q3 q4 q6
      · exact hk.elim
    · exact hk.elim

theorem RepQ.of (hI : Inv E N S A F a w) : ∀ {l : List Operand} {xs : List PV}, l.map S.ev = xs.map .p → RepQ A w xs (l.map a.eval)
  | [], [], _ => .nil
  | x :: l, y :: xs, h => by
    simp only [List.map_cons, List.cons.injEq] at h
    have := hI.ev x
    rw [h.1] at this
    cases this with | p _ _ hx => exact .cons _ _ _ _ hx (RepQ.of hI h.2)
  | [], _ :: _, h => by simp at h
  | _ :: _, [], h => by simp at h

theorem opW_sound (hT : TOk P T) (hI : Inv E N S A F a w) {o : Oper} (hd : ∀ t, o.dst = some t → t < N) (hk : opW P T o S K) : o.wp P a w (Nx E N K) Q := by
  rcases hk with ⟨v, ⟨xs, h1, h2⟩, hk⟩ | hk | hk
  · obtain ⟨u, h3, h4⟩ := h2 A w a.eval (RepQ.of hI h1)
    exact wp_val h3 ⟨_, _, _, hI.put (.p _ _ h4) hd, hk⟩
  · exact opT_sound hT hI hd hk
  · exact opW0_sound hT hI hd hk
end
end Go.Proofs.Ytablmbhnimnccaa.Pw
