/- Pw, part 18: an operation hangs on what it looks at alone. No condition. -/
import Derived.Test.YtablmbhnimnccaaZqLoc
namespace Go.Proofs.Ytablmbhnimnccaa.Pw
section
variable {P : Program} {T : Nat → Option TI} {τ S S1 S' : St} {W : List Nat}

theorem okA_congr {v : AV} (h : ∀ t ∈ nm v, ∀ g, τ.bl t g = S.bl t g) : τ.okA v = S.okA v := by
  cases v <;> simp only [St.okA] <;> rw [h _ (by simp [nm])]
theorem ptAdd_congr {v : AV} {k : Nat} (h : ∀ t ∈ nm v, ∀ g, τ.bl t g = S.bl t g) : ptAdd τ k v = ptAdd S k v := by
  unfold ptAdd
  split
  · rw [okA_congr h]
  · rw [okA_congr h]
  · rfl
  · rfl
theorem list_congr {v : AV} (h : ∀ t ∈ nm v, ∀ g, τ.bl t g = S.bl t g) : τ.list v = S.list v := by
  unfold St.list
  split
  · rfl
  · rfl
  · rw [h _ (by simp [nm])]
  · rfl
theorem lenOf_congr {v : AV} (h : ∀ t ∈ nm v, ∀ g, τ.bl t g = S.bl t g) : lenOf τ v = lenOf S v := by
  unfold lenOf
  split
  · rfl
  · rfl
  · rw [okA_congr h]
  · rfl
theorem loadV_congr {v : AV} {t : Nat} (h : ∀ t ∈ nm v, ∀ g, τ.bl t g = S.bl t g) : loadV T τ t v = loadV T S t v := by
  unfold loadV
  cases T t with
  | none => rfl
  | some ti =>
    dsimp only
    split
    · rw [h _ (by simp [nm])]
    · rw [h _ (by simp [nm])]
    · rfl
    · rfl
theorem idxV_congr {v i : AV} {t : Nat} (h : ∀ t ∈ nm v, ∀ g, τ.bl t g = S.bl t g) : idxV T τ t v i = idxV T S t v i := by
  unfold idxV
  simp only [ptAdd_congr h]
  split
  · cases T t with
    | none => rfl
    | some ti =>
      dsimp only
      cases ti.kd with
      | sl e =>
        dsimp only
        cases T e with
        | none => rfl
        | some te =>
          dsimp only
          split
          · rfl
          · rw [h _ (by simp [nm])]
          · rfl
      | _ => rfl
  · rfl

theorem mem_nms {x : AV} {xs : List AV} (h : x ∈ xs) : ∀ t ∈ nm x, t ∈ nms xs := by
  induction xs with
  | nil => simp at h
  | cons y xs ih =>
    intro t ht
    rcases List.mem_cons.1 h with rfl | h
    · simp [nms, ht]
    · simp [nms, ih h t ht]

theorem opNames_mem {o : Op} {x : Operand} (hx : x ∈ o.operands) : ∀ t ∈ nm (S.ev x), t ∈ opNames S o := fun t ht =>
  mem_nms (List.mem_map.2 ⟨x, by simpa using hx, rfl⟩) t ht

theorem opv_congr {o : Op} (he : ∀ x ∈ o.operands, τ.ev x = S.ev x) (hb : ∀ t ∈ opNames S o, ∀ g, τ.bl t g = S.bl t g) : opv T τ o = opv T S o := by
  have hb' : ∀ x ∈ o.operands, ∀ t ∈ nm (S.ev x), ∀ g, τ.bl t g = S.bl t g := fun x hx t ht => hb t (opNames_mem hx t ht)
  clear hb
  cases o
  case move x => simp only [Op.operands] at he hb'; simp only [opv]; rw [he x (by simp)]
  case assign x => simp only [Op.operands] at he hb'; simp only [opv]; rw [he x (by simp)]
  case pick c x y => simp only [Op.operands] at he hb'; simp only [opv]; rw [he c (by simp), he x (by simp), he y (by simp)]
  case load t x => simp only [Op.operands] at he hb'; simp only [opv]; rw [he x (by simp), loadV_congr (hb' x (by simp))]
  case nilCheck x =>
    simp only [Op.operands] at he hb'; simp only [opv]
    rw [he x (by simp)]
    have := hb' x (by simp)
    split <;> simp only [*] at this ⊢
    · exact ptAdd_congr this
    · exact ptAdd_congr this
  case binOp op t x y yt => simp only [Op.operands] at he hb'; simp only [opv]; rw [he x (by simp), he y (by simp)]
  case unOp op t x => simp only [Op.operands] at he hb'; cases op <;> simp only [opv] <;> rw [he x (by simp)]
  case convert s t x => simp only [Op.operands] at he hb'; simp only [opv]; rw [he x (by simp)]
  case fieldAddr s x f =>
    simp only [Op.operands] at he hb'; simp only [opv]; rw [he x (by simp)]
    split
    · exact ptAdd_congr (hb' x (by simp))
    · rfl
  case indexAddr t x i => simp only [Op.operands] at he hb'; simp only [opv]; rw [he x (by simp), he i (by simp), idxV_congr (hb' x (by simp))]
  case extract x i => simp only [Op.operands] at he hb'; simp only [opv]; rw [he x (by simp)]
  case makeFunc fn first caps =>
    simp only [Op.operands] at he hb'
    have : caps.toList.map τ.ev = caps.toList.map S.ev := List.map_congr_left fun x hx => he x (by simp; exact .inr (by simpa using hx))
    cases fn <;> simp only [opv, this]
  case call c =>
    obtain ⟨callee, args, tys⟩ := c
    simp only [Op.operands, Call.operands] at he hb'
    cases callee with
    | value f => rfl
    | invoke r m => rfl
    | builtin b =>
      have hm : ∀ (xs : List Operand), (∀ x ∈ xs, x ∈ args) → xs.map τ.ev = xs.map S.ev := fun xs hx => List.map_congr_left fun x hq => he x (by simpa using hx x hq)
      have hmem : ∀ (x : Operand) (xs : List Operand), args.toList = x :: xs → x ∈ args ∧ ∀ y ∈ xs, y ∈ args := fun x xs hx =>
        ⟨by rw [← Array.mem_toList_iff, hx]; simp, fun y hy => by rw [← Array.mem_toList_iff, hx]; simp [hy]⟩
      cases b
      case len =>
        simp only [opv]
        split
        · rename_i x t hx ht
          have hmem : x ∈ args := Array.mem_of_getElem? hx
          rw [he x (by simpa using hmem), lenOf_congr (hb' x (by simpa using hmem))]
        · rfl
      case max =>
        simp only [opv]
        split
        · rename_i x xs hx
          obtain ⟨h1, h2⟩ := hmem x xs hx
          rw [he x (by simpa using h1), hm xs h2]
        · rfl
      case min =>
        simp only [opv]
        split
        · rename_i x xs hx
          obtain ⟨h1, h2⟩ := hmem x xs hx
          rw [he x (by simpa using h1), hm xs h2]
        · rfl
      all_goals rfl
  all_goals rfl

theorem ovT_put {X : St} {d : Option Tmp} {v : AV} : ovT τ (X.put d v) d W = (over τ X W).put d v := by
  cases d with
  | none => rfl
  | some d =>
    apply St.ext'
    · intro t
      simp only [ovT, over, St.put, upd, Option.some.injEq]
      by_cases h : t = d
      · subst h; simp
      · simp [h, Ne.symm h]
    · intro t g; rfl
    · intro t; rfl

theorem put_tm_ne {X : St} {d : Option Tmp} {v : AV} {t : Nat} (h : d ≠ some t) : (X.put d v).tm t = X.tm t := by
  cases d with
  | none => rfl
  | some d => simp only [St.put]; exact upd_ne _ _ _ _ (fun hq => h (by rw [hq]))

/-- What locality says of a rule. -/
def Loc (o : Oper) (W : List Nat) (τ S S' : St) (f : St → (St → Prop) → Prop) : Prop :=
  f τ (fun X => X = ovT τ S' o.dst W) ∧ Out W S S' ∧ ∀ t, o.dst ≠ some t → S'.tm t = S.tm t

theorem put_loc {o : Oper} {v : AV} (hW : Agr W τ S) : τ.put o.dst v = ovT τ (S.put o.dst v) o.dst W ∧ Out W S (S.put o.dst v) ∧ ∀ t, o.dst ≠ some t → (S.put o.dst v).tm t = S.tm t :=
  ⟨by rw [ovT_put, over_self hW], out_put, fun t h => put_tm_ne h⟩

theorem put_loc' {o : Oper} {v : AV} {X : St} (hW : over τ X W = S1) (ho : Out W S X) (ht : X.tm = S.tm) : S1.put o.dst v = ovT τ (X.put o.dst v) o.dst W ∧ Out W S (X.put o.dst v) ∧ ∀ t, o.dst ≠ some t → (X.put o.dst v).tm t = S.tm t :=
  ⟨by rw [ovT_put, hW], ho.trans out_put, fun t h => by rw [put_tm_ne h, ht]⟩

theorem newBl_loc {o : Oper} {b : Blk} {v : Nat → Nat → AV} (hW : Agr W τ S) (hd : o.dst.getD 0 ∈ W) (hk : newBl S o.dst b v (fun X => X = S')) :
    newBl τ o.dst b v (fun X => X = ovT τ S' o.dst W) ∧ Out W S S' ∧ ∀ t, o.dst ≠ some t → S'.tm t = S.tm t := by
  obtain ⟨dst, op, ty, pos, after, guard⟩ := o
  cases dst with
  | none => exact hk.elim
  | some d =>
    simp only [newBl] at hk ⊢
    simp only [Option.getD_some] at hd
    subst hk
    have hg := (hW d hd).2
    refine ⟨?_, (out_mk hd).trans out_put, fun t h => by rw [put_tm_ne h]; rfl⟩
    rw [ovT_put, over_mk hW hd, hg]

theorem fillV_congr {ps : List (Nat × Operand)} (h : ∀ p ∈ ps, τ.ev p.2 = S.ev p.2) : ps.map (fun p => (p.1, τ.ev p.2)) = ps.map (fun p => (p.1, S.ev p.2)) :=
  List.map_congr_left fun p hp => by rw [h p hp]

theorem opW0_loc {o : Oper} (hk : opW0 P T o S (fun X => X = S')) (he : ∀ x ∈ o.op.operands, τ.ev x = S.ev x) (ha : Agr (opNames S o.op ++ fw S o) τ S) : Loc o (fw S o) τ S S' (opW0 P T o) := by
  have hW : Agr (fw S o) τ S := ha.sub fun t ht => List.mem_append_right _ ht
  have hN : ∀ t ∈ opNames S o.op, ∀ g, τ.bl t g = S.bl t g := fun t ht => (ha t (List.mem_append_left _ ht)).1
  have hb' : ∀ x ∈ o.op.operands, ∀ t ∈ nm (S.ev x), ∀ g, τ.bl t g = S.bl t g := fun x hx t ht => hN t (opNames_mem hx t ht)
  have hopv := opv_congr (T := T) he hN
  unfold Loc
  generalize hWW : fw S o = W at *
  unfold opW0 at hk ⊢
  rw [hopv]
  split at hk
  · rename_i v hv
    obtain ⟨v', h0, hk⟩ := hk
    subst hk
    obtain ⟨h1, h2, h3⟩ := put_loc (o := o) (v := v') hW
    exact ⟨⟨v', h0, h1⟩, h2, h3⟩
  · rename_i hv
    obtain ⟨dst, op, ty, pos, after, guard⟩ := o
    simp only at hk he hb' ⊢
    cases op <;> simp only [Op.operands] at hk he hb' ⊢
    case alloc t =>
      split at hk
      · exact newBl_loc (o := ⟨dst, .alloc t, ty, pos, after, guard⟩) hW (by rw [← hWW]; simp [fw, dstL]) hk
      · exact hk.elim
    case box t x =>
      have hx := he x (by simp)
      rw [hx]
      obtain ⟨h1, h2, h3⟩ := newBl_loc (o := ⟨dst, .box t x, ty, pos, after, guard⟩) hW (by rw [← hWW]; simp [fw, dstL]) hk.2
      exact ⟨⟨hk.1, h1⟩, h2, h3⟩
    case build t ps =>
      have hps : ps.toList.map (fun p => (p.1, τ.ev p.2)) = ps.toList.map (fun p => (p.1, S.ev p.2)) := fillV_congr fun p hp => he p.2 (by simp; exact ⟨p.1, by simpa using hp⟩)
      rw [hps]
      split at hk
      · split at hk
        · obtain ⟨h0, v', hv', rfl⟩ := hk
          obtain ⟨h1, h2, h3⟩ := put_loc (o := ⟨dst, .build t ps, ty, pos, after, guard⟩) (v := v') hW
          exact ⟨⟨h0, v', hv', h1⟩, h2, h3⟩
        · exact hk.elim
      · exact hk.elim
    case buildSlice t len ps =>
      have hps : ps.toList.map (fun p => τ.ev p.2) = ps.toList.map (fun p => S.ev p.2) := List.map_congr_left fun p hp => he p.2 (by simp; exact ⟨p.1, by simpa using hp⟩)
      rw [hps]
      split at hk
      · split at hk
        · split at hk
          · obtain ⟨q1, q2, q3, q4, xs, S1, q5, q6, q7⟩ := hk
            obtain ⟨p1, p2, p3, _⟩ := q5.loc hW (fun t ht => by
              rw [← hWW]; simp only [fw, opNames, Op.operands, List.mem_append]
              exact .inl (by simpa [Function.comp_def] using ht))
            obtain ⟨r1, r2, r3⟩ := newBl_loc (o := ⟨dst, .buildSlice t len ps, ty, pos, after, guard⟩) (τ := over τ S1 W) Agr.over (by rw [← hWW]; simp [fw, dstL]) q7
            refine ⟨⟨q1, q2, q3, q4, xs, _, p1, q6, ?_⟩, p2.trans r2, fun t h => (r3 t h).trans (by rw [p3])⟩
            have : ovT (over τ S1 W) S' dst W = ovT τ S' dst W := by
              simp only [ovT, over]
              congr 1
              · funext t g; split <;> rfl
              · funext t; split <;> rfl
            rwa [this] at r1
          · exact hk.elim
        · exact hk.elim
      · exact hk.elim
    case binOp op t x y t2 =>
      rw [he x (by simp), he y (by simp)]
      split at hk
      · obtain ⟨h0, rfl⟩ := hk
        obtain ⟨h1, h2, h3⟩ := put_loc (o := ⟨dst, .binOp op t x y t2, ty, pos, after, guard⟩) hW
        exact ⟨⟨h0, h1⟩, h2, h3⟩
      · exact hk.elim
    case store t x y =>
      have hx := he x (by simp)
      have hy := he y (by simp)
      have hWx : ∀ t ∈ nm (S.ev x), t ∈ W := fun t ht => by rw [← hWW]; exact ht
      rw [hx, hy]
      split at hk
      · obtain ⟨q1, q2, q3, hk⟩ := hk
        subst q3
        split at hk
        · rename_i t' g off hxe
          have ht : t' ∈ W := hWx t' (by rw [hxe]; simp [nm])
          rw [(hW t' ht).1 g]
          split at hk
          · obtain ⟨q4, rfl⟩ := hk
            refine ⟨⟨q1, q2, rfl, q4, ?_⟩, out_set ht, fun t _ => rfl⟩
            rw [← over_set hW ht]
            apply St.ext' <;> intros <;> simp [ovT, over]
          · exact hk.elim
        · rename_i t' g len i off hxe
          have ht : t' ∈ W := hWx t' (by rw [hxe]; simp [nm])
          rw [(hW t' ht).1 g]
          split at hk
          · split at hk
            · split at hk
              · obtain ⟨q4, q5, q6, rfl⟩ := hk
                refine ⟨⟨q1, q2, rfl, q4, q5, q6, ?_⟩, out_set ht, fun t _ => rfl⟩
                rw [← over_set hW ht]
                apply St.ext' <;> intros <;> simp [ovT, over]
              · exact hk.elim
            · exact hk.elim
          · exact hk.elim
        · exact hk.elim
      · exact hk.elim
    case makeSlice t l c =>
      rw [he l (by simp), he c (by simp)]
      split at hk
      · split at hk
        · split at hk
          · split at hk
            · obtain ⟨q1, q2, q3, q4, q5⟩ := hk
              obtain ⟨h1, h2, h3⟩ := newBl_loc (o := ⟨dst, .makeSlice t l c, ty, pos, after, guard⟩) hW (by rw [← hWW]; simp [fw, dstL]) q5
              exact ⟨⟨q1, q2, q3, q4, h1⟩, h2, h3⟩
            · exact hk.elim
          · exact hk.elim
        · exact hk.elim
      · exact hk.elim
    case slice t x lo hi mx =>
      have hx := he x (by simp)
      have hlo : τ.optN 0 lo = S.optN 0 lo := by
        cases lo with
        | none => rfl
        | some l => simp only [St.optN]; rw [he l (by simp)]
      have hhi : ∀ d, τ.optN d hi = S.optN d hi := fun d => by
        cases hi with
        | none => rfl
        | some l => simp only [St.optN]; rw [he l (by simp)]
      have hmx : ∀ m, mx = some m → τ.ev m = S.ev m := fun m hm => he m (by simp [hm])
      rw [hx, list_congr (hb' x (by simp))]
      simp only [hlo, hhi]
      split at hk
      · split at hk
        · split at hk
          · split at hk
            · obtain ⟨q1, q2, rfl⟩ := hk
              obtain ⟨h1, h2, h3⟩ := put_loc (o := ⟨dst, .slice t x lo hi none, ty, pos, after, guard⟩) hW
              exact ⟨⟨q1, q2, h1⟩, h2, h3⟩
            · exact hk.elim
          · exact hk.elim
        · split at hk
          · split at hk
            · obtain ⟨q1, q2, q3, S1, q4, rfl⟩ := hk
              obtain ⟨p1, p2, p3, _⟩ := q4.loc hW (fun t ht => by rw [← hWW]; exact List.mem_append_left _ ht)
              obtain ⟨h1, h2, h3⟩ := put_loc' (o := ⟨dst, .slice t x lo hi mx, ty, pos, after, guard⟩) (τ := τ) (W := W) (S := S) (X := S1) rfl p2 p3
              exact ⟨⟨fun m hm => by rw [hmx m hm]; exact q1 m hm, q2, q3, _, p1, h1⟩, h2, h3⟩
            · exact hk.elim
          · exact hk.elim
        · exact hk.elim
      · exact hk.elim
    case call c =>
      obtain ⟨callee, args, tys⟩ := c
      simp only [Call.operands] at he hb'
      cases callee with
      | invoke r m => exact hk.elim
      | builtin b =>
        cases b <;> simp only at hk ⊢
        case append =>
          split at hk
          · rename_i x y t t' hargs htys
            have hx1 : x ∈ args := by rw [← Array.mem_toList_iff, hargs]; simp
            have hy1 : y ∈ args := by rw [← Array.mem_toList_iff, hargs]; simp
            have hx := he x (by simpa using hx1)
            have hy := he y (by simpa using hy1)
            rw [hx, hy, list_congr (hb' y (by simpa using hy1))]
            have hWx : ∀ t ∈ nm (S.ev x), t ∈ W := fun t ht => by
              rw [← hWW]; simp only [fw, hargs, List.take_succ_cons, List.take_zero, List.map_cons, List.map_nil, nms, List.append_nil, List.mem_append]
              exact .inl ht
            have hWd : dst.getD 0 ∈ W := by rw [← hWW]; simp [fw, dstL]
            split at hk
            · split at hk
              · split at hk
                · obtain ⟨q1, q2, q3, hk⟩ := hk
                  split at hk
                  · rename_i t0 g len hxe
                    have ht : t0 ∈ W := hWx t0 (by rw [hxe]; simp [nm])
                    rw [(hW t0 ht).1 g]
                    split at hk
                    · obtain ⟨q4, q5, q6, q7, q8, rfl⟩ := hk
                      obtain ⟨h1, h2, h3⟩ := put_loc' (o := ⟨dst, .call ⟨.builtin .append, args, tys⟩, ty, pos, after, guard⟩) (τ := τ) (W := W) (S := S) (over_set hW ht) (out_set ht) rfl
                      exact ⟨⟨q1, q2, q3, q4, q5, q6, q7, q8, h1⟩, h2, h3⟩
                    · exact hk.elim
                  · obtain ⟨q4, q5, q6, q7⟩ := hk
                    obtain ⟨h1, h2, h3⟩ := newBl_loc (o := ⟨dst, .call ⟨.builtin .append, args, tys⟩, ty, pos, after, guard⟩) hW hWd q7
                    exact ⟨⟨q1, q2, q3, q4, q5, q6, h1⟩, h2, h3⟩
                · exact hk.elim
              · exact hk.elim
            · exact hk.elim
          · exact hk.elim
      | value f =>
        simp only at hk ⊢
        have hf := he f (by simp)
        have hargs : args.toList.map τ.ev = args.toList.map S.ev := List.map_congr_left fun x hx => he x (by simp; exact .inr (by simpa using hx))
        have hcal : callee τ f = callee S f := by unfold Go.Proofs.Ytablmbhnimnccaa.Pw.callee; rw [hf]
        rw [hcal, hargs]
        split at hk
        · rename_i g caps hc
          obtain ⟨targs, S1, l, res, outs, v, S2, q1, q2, q3, q4, q5, rfl⟩ := hk
          have hcn : ∀ t ∈ nms caps, t ∈ nm (S.ev f) := fun t ht => by
            unfold Go.Proofs.Ytablmbhnimnccaa.Pw.callee at hc
            split at hc
            · rename_i hq
              simp at hc; obtain ⟨rfl, rfl⟩ := hc
              exfalso
              have : ∀ cs : List PV, nms (cs.map .p) = [] := fun cs => by induction cs <;> simp_all [nms, nm]
              rw [this] at ht; simp at ht
            · rename_i hq
              simp at hc; obtain ⟨rfl, rfl⟩ := hc
              rw [hq]; simpa [nm] using ht
            · simp at hc
          have hall : ∀ t ∈ nms (args.toList.map S.ev ++ caps), t ∈ W := fun t ht => by
            have happ : ∀ xs ys : List AV, nms (xs ++ ys) = nms xs ++ nms ys := fun xs ys => by induction xs <;> simp_all [nms]
            rw [happ, List.mem_append] at ht
            rw [← hWW]
            simp only [fw, opNames, Op.operands, Call.operands, List.mem_append]
            refine .inl ?_
            simp only [Array.toList_append, List.map_append, happ, List.mem_append]
            rcases ht with ht | ht
            · exact .inr ht
            · exact .inl (by simpa [nms] using hcn t ht)
          obtain ⟨p1, p2, p3, p4⟩ := q1.loc hW hall
          obtain ⟨r1, r2, r3⟩ := putBack_loc (outs := outs) (S := S1) (τ := over τ S1 W) Agr.over p4
          obtain ⟨s1, s2, s3⟩ := q4.loc (τ := over (over τ S1 W) (putBack S1 l outs) W) Agr.over (by rw [← hWW]; simp [fw, dstL])
          rw [over_trans, over_trans] at s1
          obtain ⟨h1, h2, h3⟩ := put_loc' (v := v) (o := ⟨dst, .call ⟨.value f, args, tys⟩, ty, pos, after, guard⟩) (τ := τ) (W := W) (S := S) (X := S2) rfl ((p2.trans r2).trans s2) (s3.trans (r3.trans p3))
          refine ⟨⟨targs, _, l, res, outs, v, _, p1, q2, q3, ?_, q5, h1⟩, h2, h3⟩
          rw [r1, over_trans]
          exact s1
        · exact hk.elim

theorem opT_loc {o : Oper} (hk : opT T o S (fun X => X = S')) (he : ∀ x ∈ o.op.operands, τ.ev x = S.ev x) (ha : Agr (opNames S o.op ++ fw S o) τ S) : Loc o (fw S o) τ S S' (opT T o) := by
  have hW : Agr (fw S o) τ S := ha.sub fun t ht => List.mem_append_right _ ht
  unfold Loc
  generalize hWW : fw S o = W at *
  obtain ⟨dst, op, ty, pos, after, guard⟩ := o
  unfold opT at hk ⊢
  simp only at hk he ⊢
  split at hk
  · rename_i t x h
    obtain ⟨ti, te, e, t', g, len, E0, sz, xs, m, k, q1, q2, q3, q4, q5, q6, q7, q8, q9, q10, q11⟩ := hk
    have ht : t' ∈ W := by rw [← hWW]; simp [fw, q5, nm]
    obtain ⟨r1, r2, r3⟩ := newBl_loc (o := ⟨dst, .slice t x none (some h) none, ty, pos, after, guard⟩) (τ := over τ (S.drop t' g) W) Agr.over (by rw [← hWW]; simp [fw, dstL]) q11
    have this : ovT (over τ (S.drop t' g) W) S' dst W = ovT τ S' dst W := by
      simp only [ovT, over]
      congr 1
      · funext t g; split <;> rfl
      · funext t; split <;> rfl
    rw [this, over_drop hW ht] at r1
    exact ⟨⟨ti, te, e, t', g, len, E0, sz, xs, m, k, q1, q2, q3, q4, by rw [he x (by simp [Op.operands])]; exact q5, by rw [(hW t' ht).1 g]; exact q6, q7, by rw [he h (by simp [Op.operands])]; exact q8, q9, q10, r1⟩, (out_drop ht).trans r2, fun t h => r3 t h⟩
  · rename_i args tys
    obtain ⟨x, y, t, tn, ti, te, e, ki, tin, n, q1, q2, q3, q4, q5, q6, q7, q8, q9, q10, q11, q12, q13, q14⟩ := hk
    have hm : ∀ z ∈ args.toList, τ.ev z = S.ev z := fun z hz => he z (by simp only [Op.operands, Call.operands]; simpa using hz)
    obtain ⟨r1, r2, r3⟩ := newBl_loc (o := ⟨dst, .call ⟨.builtin .append, args, tys⟩, ty, pos, after, guard⟩) hW (by rw [← hWW]; simp [fw, dstL]) q14
    exact ⟨⟨x, y, t, tn, ti, te, e, ki, tin, n, q1, q2, q3, q4, q5, q6, q7, by rw [hm x (by rw [q1]; simp)]; exact q8, by rw [hm y (by rw [q1]; simp)]; exact q9, q10, q11, q12, q13, r1⟩, r2, r3⟩
  · exact hk.elim

theorem opW_loc {o : Oper} (hk : opW P T o S (fun X => X = S')) (he : ∀ x ∈ o.op.operands, τ.ev x = S.ev x) (ha : Agr (opNames S o.op ++ fw S o) τ S) : Loc o (fw S o) τ S S' (opW P T o) := by
  rcases hk with ⟨v, ⟨xs, h1, h2⟩, hk⟩ | hk | hk
  · have hW : Agr (fw S o) τ S := ha.sub fun t ht => List.mem_append_right _ ht
    subst hk
    obtain ⟨q1, q2, q3⟩ := put_loc (o := o) (v := .p v) hW
    refine ⟨.inl ⟨v, ⟨xs, ?_, h2⟩, q1⟩, q2, q3⟩
    rw [← h1]
    exact List.map_congr_left fun x hx => he x (by simpa using hx)
  · obtain ⟨q1, q2, q3⟩ := opT_loc hk he ha
    exact ⟨.inr (.inl q1), q2, q3⟩
  · obtain ⟨q1, q2, q3⟩ := opW0_loc hk he ha
    exact ⟨.inr (.inr q1), q2, q3⟩
end
end Go.Proofs.Ytablmbhnimnccaa.Pw
