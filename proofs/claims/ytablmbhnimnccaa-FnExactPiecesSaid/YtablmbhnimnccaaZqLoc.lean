/- Pw, part 17: what an operation looks at, and what it leaves alone. No condition. -/
import Derived.Test.YtablmbhnimnccaaZqOpW
namespace Go.Proofs.Ytablmbhnimnccaa.Pw

mutual
def nm : AV → List Nat
  | .p _ => []
  | .ag cs => nms cs
  | .tu vs => nms vs
  | .fn _ caps => nms caps
  | .pt t _ _ => [t]
  | .os t _ _ => [t]
  | .pe t _ _ _ _ => [t]
  | .un => []
def nms : List AV → List Nat
  | [] => []
  | x :: xs => nm x ++ nms xs
end

def opNames (S : St) (o : Op) : List Nat := nms (o.operands.toList.map S.ev)
def dstL (o : Oper) : List Nat := [o.dst.getD 0]

/-- The blocks that an operation writes, makes or shows. -/
def fw (S : St) (o : Oper) : List Nat :=
  match o.op with
  | .alloc _ => dstL o
  | .box _ _ => dstL o
  | .makeSlice _ _ _ => dstL o
  | .buildSlice _ _ _ => opNames S o.op ++ dstL o
  | .store _ x _ => nm (S.ev x)
  | .slice _ x _ _ _ => nm (S.ev x) ++ dstL o
  | .call ⟨.builtin .append, args, _⟩ => nms ((args.toList.take 1).map S.ev) ++ dstL o
  | .call ⟨.value _, _, _⟩ => opNames S o.op ++ dstL o
  | _ => []

def Agr (W : List Nat) (τ S : St) : Prop := ∀ t ∈ W, (∀ g, τ.bl t g = S.bl t g) ∧ τ.gen t = S.gen t
def over (τ S : St) (W : List Nat) : St := { tm := τ.tm, bl := fun t g => if t ∈ W then S.bl t g else τ.bl t g, gen := fun t => if t ∈ W then S.gen t else τ.gen t }
def ovT (τ S : St) (d : Option Tmp) (W : List Nat) : St := { over τ S W with tm := fun t => if d = some t then S.tm t else τ.tm t }

theorem St.ext' {S S' : St} (h1 : ∀ t, S.tm t = S'.tm t) (h2 : ∀ t g, S.bl t g = S'.bl t g) (h3 : ∀ t, S.gen t = S'.gen t) : S = S' := by
  cases S; cases S'
  simp only [St.mk.injEq]
  exact ⟨funext h1, funext fun t => funext (h2 t), funext h3⟩

section
variable {P : Program} {T : Nat → Option TI} {τ S S1 S' : St} {W : List Nat}

theorem Agr.over : Agr W (over τ S W) S := fun t ht => ⟨fun g => by simp [Go.Proofs.Ytablmbhnimnccaa.Pw.over, ht], by simp [Go.Proofs.Ytablmbhnimnccaa.Pw.over, ht]⟩

theorem Agr.sub {W' : List Nat} (h : Agr W τ S) (hs : ∀ t ∈ W', t ∈ W) : Agr W' τ S := fun t ht => h t (hs t ht)

/-- States that are alike outside of W. -/
def Out (W : List Nat) (S S' : St) : Prop := ∀ t, t ∉ W → (∀ g, S'.bl t g = S.bl t g) ∧ S'.gen t = S.gen t

theorem Out.refl : Out W S S := fun _ _ => ⟨fun _ => rfl, rfl⟩
theorem Out.trans {S2 : St} (h : Out W S S1) (k : Out W S1 S2) : Out W S S2 := fun t ht => ⟨fun g => ((k t ht).1 g).trans ((h t ht).1 g), (k t ht).2.trans (h t ht).2⟩

theorem over_trans {S2 : St} : over (over τ S W) S2 W = over τ S2 W := by
  apply St.ext' <;> intros <;> simp only [over] <;> (try split) <;> rfl

theorem over_self (h : Agr W τ S) : over τ S W = τ := by
  apply St.ext'
  · intro t; rfl
  · intro t g; simp only [over]; split
    · rename_i ht; exact ((h t ht).1 g).symm
    · rfl
  · intro t; simp only [over]; split
    · rename_i ht; exact (h t ht).2.symm
    · rfl

theorem over_set {t g : Nat} {b : Blk} (h : Agr W τ S) (ht : t ∈ W) : over τ (S.setBl t g b) W = τ.setBl t g b := by
  apply St.ext'
  · intro t; rfl
  · intro t' g'
    simp only [over, St.setBl, upd2]
    by_cases h1 : t' = t
    · subst h1; simp only [if_true, ht]; split <;> first | rfl | exact ((h _ ht).1 g').symm
    · simp only [h1, if_false]
      split
      · rename_i hq; exact ((h _ hq).1 g').symm
      · rfl
  · intro t'
    simp only [over, St.setBl]
    split
    · rename_i hq; exact (h _ hq).2.symm
    · rfl

theorem over_drop {t g : Nat} (h : Agr W τ S) (ht : t ∈ W) : over τ (S.drop t g) W = τ.drop t g := by
  apply St.ext'
  · intro t; rfl
  · intro t' g'
    simp only [over, St.drop, upd2]
    by_cases h1 : t' = t
    · subst h1; simp only [if_true, ht]; split <;> first | rfl | exact ((h _ ht).1 g').symm
    · simp only [h1, if_false]
      split
      · rename_i hq; exact ((h _ hq).1 g').symm
      · rfl
  · intro t'
    simp only [over, St.drop]
    split
    · rename_i hq; exact (h _ hq).2.symm
    · rfl

theorem over_mk {t : Nat} {b : Blk} (h : Agr W τ S) (ht : t ∈ W) : over τ (S.mk' t b) W = τ.mk' t b := by
  have hg := (h t ht).2
  apply St.ext'
  · intro t; rfl
  · intro t' g'
    simp only [over, St.mk', upd2, hg]
    by_cases h1 : t' = t
    · subst h1; simp only [if_true, ht]; split <;> first | rfl | exact ((h _ ht).1 g').symm
    · simp only [h1, if_false]
      split
      · rename_i hq; exact ((h _ hq).1 g').symm
      · rfl
  · intro t'
    simp only [over, St.mk', upd, hg]
    by_cases h1 : t' = t
    · subst h1; simp [ht]
    · simp only [h1, if_false]
      split
      · rename_i hq; exact (h _ hq).2.symm
      · rfl

theorem out_set {t g : Nat} {b : Blk} (ht : t ∈ W) : Out W S (S.setBl t g b) := fun t' hn => ⟨fun g' => by simp only [St.setBl]; exact upd2_ne _ _ _ _ _ _ (fun hq => hn (hq.1 ▸ ht)), rfl⟩
theorem out_drop {t g : Nat} (ht : t ∈ W) : Out W S (S.drop t g) := fun t' hn => ⟨fun g' => by simp only [St.drop]; exact upd2_ne _ _ _ _ _ _ (fun hq => hn (hq.1 ▸ ht)), rfl⟩
theorem out_mk {t : Nat} {b : Blk} (ht : t ∈ W) : Out W S (S.mk' t b) := fun t' hn =>
  ⟨fun g' => by simp only [St.mk']; exact upd2_ne _ _ _ _ _ _ (fun hq => hn (hq.1 ▸ ht)), by simp only [St.mk']; exact upd_ne _ _ _ _ (fun hq => hn (hq ▸ ht))⟩
theorem out_put {d : Option Tmp} {v : AV} : Out W S (S.put d v) := fun t hn => ⟨fun g => by rw [St.put_bl], by rw [St.put_gen]⟩

theorem seal_loc {t g : Nat} (h : Agr W τ S) (ht : t ∈ W) : τ.seal t g = over τ (S.seal t g) W ∧ Out W S (S.seal t g) ∧ (S.seal t g).tm = S.tm := by
  unfold St.seal
  rw [(h t ht).1 g]
  cases hb : S.bl t g with
  | none => exact ⟨(over_self h).symm, .refl, rfl⟩
  | some b =>
    cases b with
    | var cs sd => exact ⟨(over_set h ht).symm, out_set ht, rfl⟩
    | arr E sz xs m => exact ⟨(over_set h ht).symm, out_set ht, rfl⟩

theorem Pass.loc {v : AV} {tv : TV} {l : List (Nat × Nat)} (hp : Pass S v tv S' l) (h : Agr W τ S) (hn : ∀ t ∈ nm v, t ∈ W) :
    Pass τ v tv (over τ S' W) l ∧ Out W S S' ∧ S'.tm = S.tm ∧ ∀ n ∈ l, n.1 ∈ W := by
  cases hp with
  | p x => rw [over_self h]; exact ⟨.p _ _, .refl, rfl, by simp⟩
  | nil sz => rw [over_self h]; exact ⟨.nil _ _, .refl, rfl, by simp⟩
  | nilo E sz => rw [over_self h]; exact ⟨.nilo _ _ _, .refl, rfl, by simp⟩
  | os t g E sz xs m hb =>
    have ht : t ∈ W := hn t (by simp [nm])
    obtain ⟨h1, h2, h3⟩ := seal_loc (g := g) h ht
    rw [← h1]
    exact ⟨.os _ _ _ _ _ _ _ (by rw [(h t ht).1 g]; exact hb), h2, h3, by simp⟩
  | ow t g E sz xs m m' hb h1 h2 =>
    have ht : t ∈ W := hn t (by simp [nm])
    rw [over_drop h ht]
    exact ⟨.ow _ _ _ _ _ _ _ _ (by rw [(h t ht).1 g]; exact hb) h1 h2, out_drop ht, rfl, by simp⟩
  | rf t g cs hb =>
    have ht : t ∈ W := hn t (by simp [nm])
    rw [over_drop h ht]
    exact ⟨.rf _ _ _ _ (by rw [(h t ht).1 g]; exact hb), out_drop ht, rfl, by simp [ht]⟩
  | ro t g off cs sd hb =>
    have ht : t ∈ W := hn t (by simp [nm])
    obtain ⟨h1, h2, h3⟩ := seal_loc (g := g) h ht
    rw [← h1]
    exact ⟨.ro _ _ _ _ _ _ (by rw [(h t ht).1 g]; exact hb), h2, h3, by simp⟩
  | pe t g i off E sz xs m y hb hy =>
    have ht : t ∈ W := hn t (by simp [nm])
    obtain ⟨h1, h2, h3⟩ := seal_loc (g := g) h ht
    rw [← h1]
    exact ⟨.pe _ _ _ _ _ _ _ _ _ _ (by rw [(h t ht).1 g]; exact hb) hy, h2, h3, by simp⟩

theorem PassPs.loc {vs : List AV} : ∀ {S τ S' : St} {xs : List PV}, PassPs S vs xs S' → Agr W τ S → (∀ t ∈ nms vs, t ∈ W) → PassPs τ vs xs (over τ S' W) ∧ Out W S S' ∧ S'.tm = S.tm := by
  induction vs with
  | nil => intro S τ S' xs hp h hn; cases hp; rw [over_self h]; exact ⟨.nil _, .refl, rfl⟩
  | cons v vs ih =>
    intro S τ S' xs hp h hn
    cases hp with
    | cons _ S1 _ _ x _ xs hp1 hps =>
      obtain ⟨h1, h2, h3, _⟩ := hp1.loc h fun t ht => hn t (by simp [nms, ht])
      obtain ⟨h4, h5, h6⟩ := ih hps (τ := over τ S1 W) Agr.over fun t ht => hn t (by simp [nms, ht])
      rw [over_trans] at h4
      exact ⟨.cons _ _ _ _ _ _ _ h1 h4, h2.trans h5, h6.trans h3⟩

theorem PassV.loc {v : AV} {tv : TV} {l : List (Nat × Nat)} (hp : PassV S v tv S' l) (h : Agr W τ S) (hn : ∀ t ∈ nm v, t ∈ W) :
    PassV τ v tv (over τ S' W) l ∧ Out W S S' ∧ S'.tm = S.tm ∧ ∀ n ∈ l, n.1 ∈ W := by
  cases hp with
  | one _ _ _ _ hp => obtain ⟨h1, h2, h3, h4⟩ := hp.loc h hn; exact ⟨.one _ _ _ _ _ h1, h2, h3, h4⟩
  | ag _ vs xs hp => obtain ⟨h1, h2, h3⟩ := hp.loc h (fun t ht => hn t (by simpa [nm] using ht)); exact ⟨.ag _ _ _ _ h1, h2, h3, by simp⟩
  | fn _ f vs xs hp => obtain ⟨h1, h2, h3⟩ := hp.loc h (fun t ht => hn t (by simpa [nm] using ht)); exact ⟨.fn _ _ _ _ _ h1, h2, h3, by simp⟩

theorem PassL.loc {vs : List AV} : ∀ {S τ S' : St} {xs : List TV} {l : List (Nat × Nat)}, PassL S vs xs S' l → Agr W τ S → (∀ t ∈ nms vs, t ∈ W) →
    PassL τ vs xs (over τ S' W) l ∧ Out W S S' ∧ S'.tm = S.tm ∧ ∀ n ∈ l, n.1 ∈ W := by
  induction vs with
  | nil => intro S τ S' xs l hp h hn; cases hp; rw [over_self h]; exact ⟨.nil _, .refl, rfl, by simp⟩
  | cons v vs ih =>
    intro S τ S' xs l hp h hn
    cases hp with
    | cons _ S1 _ _ x _ xs l1 l2 hp1 hps =>
      obtain ⟨h1, h2, h3, h7⟩ := hp1.loc h fun t ht => hn t (by simp [nms, ht])
      obtain ⟨h4, h5, h6, h8⟩ := ih hps (τ := over τ S1 W) Agr.over fun t ht => hn t (by simp [nms, ht])
      rw [over_trans] at h4
      refine ⟨.cons _ _ _ _ _ _ _ _ _ h1 h4, h2.trans h5, h6.trans h3, fun n hq => ?_⟩
      rcases List.mem_append.1 hq with hq | hq
      · exact h7 n hq
      · exact h8 n hq

theorem putBack_loc {l : List (Nat × Nat)} : ∀ {S τ : St} {outs : List (List PV)}, Agr W τ S → (∀ n ∈ l, n.1 ∈ W) → putBack τ l outs = over τ (putBack S l outs) W ∧ Out W S (putBack S l outs) ∧ (putBack S l outs).tm = S.tm := by
  induction l with
  | nil => intro S τ outs h hn; simp only [putBack]; exact ⟨(over_self h).symm, .refl, trivial⟩
  | cons n l ih =>
    intro S τ outs h hn
    cases outs with
    | nil => simp only [putBack]; exact ⟨(over_self h).symm, .refl, trivial⟩
    | cons o os =>
      simp only [putBack]
      have hw := hn n (by simp)
      have e := over_set (g := n.2) (b := .var (o.map .p) false) h hw
      obtain ⟨h1, h2, h3⟩ := ih (S := S.setBl n.1 n.2 (.var (o.map .p) false)) (τ := τ.setBl n.1 n.2 (.var (o.map .p) false)) (outs := os) (by rw [← e]; exact Agr.over) fun m hm => hn m (by simp [hm])
      refine ⟨?_, (out_set hw).trans h2, h3⟩
      rw [h1, ← e, over_trans]

theorem Recv.loc {d : Nat} {x : TV} {v : AV} (hr : Recv d S x v S') (h : Agr W τ S) (hd : d ∈ W) : Recv d τ x v (over τ S' W) ∧ Out W S S' ∧ S'.tm = S.tm := by
  have hg := (h d hd).2
  cases hr with
  | p x => rw [over_self h]; exact ⟨.p _ _, .refl, rfl⟩
  | rf cs => rw [over_mk h hd, ← hg]; exact ⟨.rf _ _, out_mk hd, rfl⟩
  | ow E sz xs m => rw [over_mk h hd, ← hg]; exact ⟨.ow _ _ _ _ _, out_mk hd, rfl⟩

theorem RecvL.loc {d : Nat} {xs : List TV} (hd : d ∈ W) : ∀ {S τ S' : St} {vs : List AV}, RecvL d S xs vs S' → Agr W τ S → RecvL d τ xs vs (over τ S' W) ∧ Out W S S' ∧ S'.tm = S.tm := by
  induction xs with
  | nil => intro S τ S' vs hr h; cases hr; rw [over_self h]; exact ⟨.nil _, .refl, rfl⟩
  | cons x xs ih =>
    intro S τ S' vs hr h
    cases hr with
    | cons _ S1 _ _ v _ vs h1 hs =>
      obtain ⟨q1, q2, q3⟩ := h1.loc h hd
      obtain ⟨q4, q5, q6⟩ := ih hs (τ := over τ S1 W) Agr.over
      rw [over_trans] at q4
      exact ⟨.cons _ _ _ _ _ _ _ q1 q4, q2.trans q5, q6.trans q3⟩

theorem RecvV.loc {d : Nat} {x : TV} {v : AV} (hr : RecvV d S x v S') (h : Agr W τ S) (hd : d ∈ W) : RecvV d τ x v (over τ S' W) ∧ Out W S S' ∧ S'.tm = S.tm := by
  cases hr with
  | one _ _ _ hr => obtain ⟨h1, h2, h3⟩ := hr.loc h hd; exact ⟨.one _ _ _ _ h1, h2, h3⟩
  | ag _ xs vs hr => obtain ⟨h1, h2, h3⟩ := hr.loc hd h; exact ⟨.ag _ _ _ _ h1, h2, h3⟩
  | tu _ xs vs hr => obtain ⟨h1, h2, h3⟩ := hr.loc hd h; exact ⟨.tu _ _ _ _ h1, h2, h3⟩
end
end Go.Proofs.Ytablmbhnimnccaa.Pw
