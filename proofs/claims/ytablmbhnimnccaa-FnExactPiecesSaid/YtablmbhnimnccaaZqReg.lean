/- Pw, part 19: regions, in whatever order. No condition. -/
import Derived.Test.YtablmbhnimnccaaZqLoc2
import Derived.Orders
namespace Go.Proofs.Ytablmbhnimnccaa.Pw

/-- What an operation that is passed over leaves. -/
def udf : AV := .p (.lit undef)
def vwant (v : Value) (want : Bool) : Bool := match v with
  | .bool b => b == want
  | _ => false

def gopW (P : Program) (T : Nat → Option TI) (ops : Array Oper) (o : Oper) (S : St) (K : St → Prop) : Prop :=
  match o.guard with
  | none => opW P T o S K
  | some (j, want) => match (ops[j]?).bind (·.dst) with
    | some t => match S.tm t with
      | .p (.lit v) => (vwant v want = true → opW P T o S K) ∧ (vwant v want = false → K (S.put o.dst udf))
      | _ => False
    | none => False

def opsW (P : Program) (T : Nat → Option TI) (ops : Array Oper) : List Oper → St → List (List Nat × List Nat) → (List (List Nat × List Nat) → St → Prop) → Prop
  | [], S, acc, K => K acc S
  | o :: l, S, acc, K => gopW P T ops o S fun S' => opsW P T ops l S' (acc ++ [(opNames S o.op, fw S o)]) K

def maskL (l : List Nat) : Nat := l.foldr (fun t m => 2 ^ t ||| m) 0

structure Mk where
  dst : Nat
  looks : Nat
  r : Nat
  w : Nat

def mkOf (ops : Array Oper) (o : Oper) (f : List Nat × List Nat) : Mk :=
  { dst := maskL o.dst.toList, looks := maskL (o.looksAt ops), r := maskL f.1, w := maskL f.2 }

def Mk.apart (x y : Mk) : Bool :=
  (x.dst &&& y.looks == 0) && (y.dst &&& x.looks == 0) && (x.dst &&& y.dst == 0) && (x.w &&& y.r == 0) && (x.w &&& y.w == 0) && (y.w &&& x.r == 0)

def dirs (o : Oper) : List Nat := (o.after.toList.filter (Region.binds .any)).map (·.on)

/-- The ones behind: each with what must have gone ahead of it. -/
def chkFrom (ops : Array Oper) : List Oper → List (List Nat × List Nat) → Nat → List (Mk × Nat) → Bool
  | o :: l, f :: fs, j, done =>
    let m := mkOf ops o f
    let ds := dirs o
    let anc := ds.foldr (fun d acc => (2 ^ d ||| ((done[d]?).map (·.2)).getD 0) ||| acc) 0
    ds.all (· < j) && (done.zipIdx.all fun x => x.1.1.apart m || anc.testBit x.2) && chkFrom ops l fs (j + 1) (done ++ [(m, anc)])
  | [], [], _, _ => true
  | _, _, _, _ => false

def chk (ops : Array Oper) (acc : List (List Nat × List Nat)) : Bool := chkFrom ops ops.toList acc 0 []

def regW (P : Program) (T : Nat → Option TI) (ops : Array Oper) (draw : Bool) (S : St) (K : St → Prop) : Prop :=
  match draw with
  | false => opsW P T ops ops.toList S [] fun _ S' => K S'
  | true => opsW P T ops ops.toList S [] fun acc S' => chk ops acc = true ∧ K S'

def gstep (P : Program) (T : Nat → Option TI) (ops : Array Oper) (o : Oper) (S S' : St) : Prop :=
  match o.guard with
  | none => opW P T o S (fun X => X = S')
  | some (j, want) => ∃ t v, (ops[j]?).bind (·.dst) = some t ∧ S.tm t = .p (.lit v) ∧ if vwant v want = true then opW P T o S (fun X => X = S') else S' = S.put o.dst udf

section
variable {P : Program} {T : Nat → Option TI} {ops : Array Oper} {S S' : St}

theorem newBl_ex {d : Option Tmp} {b : Blk} {v : Nat → Nat → AV} {K : St → Prop} (h : newBl S d b v K) : ∃ S', newBl S d b v (fun X => X = S') ∧ K S' := by
  cases d with
  | none => exact h.elim
  | some d => exact ⟨_, rfl, h⟩

theorem opW0_ex {o : Oper} {K : St → Prop} : opW0 P T o S K → ∃ S', opW0 P T o S (fun X => X = S') ∧ K S' := by
  unfold opW0
  split
  · exact fun ⟨v', h1, h⟩ => ⟨_, ⟨v', h1, rfl⟩, h⟩
  · split
    · split
      · exact fun h => newBl_ex h
      · exact fun h => h.elim
    · exact fun h => let ⟨S', h1, h2⟩ := newBl_ex h.2; ⟨S', ⟨h.1, h1⟩, h2⟩
    · split
      · split
        · exact fun ⟨h0, v', h1, h⟩ => ⟨_, ⟨h0, v', h1, rfl⟩, h⟩
        · exact fun h => h.elim
      · exact fun h => h.elim
    · split
      · split
        · split
          · exact fun ⟨q1, q2, q3, q4, xs, S1, q5, q6, q7⟩ => let ⟨S', h1, h2⟩ := newBl_ex q7; ⟨S', ⟨q1, q2, q3, q4, xs, S1, q5, q6, h1⟩, h2⟩
          · exact fun h => h.elim
        · exact fun h => h.elim
      · exact fun h => h.elim
    · split
      · exact fun h => ⟨_, ⟨h.1, rfl⟩, h.2⟩
      · exact fun h => h.elim
    · split
      · rintro ⟨q1, q2, q3, h⟩
        revert h
        split
        · split
          · exact fun h => ⟨_, ⟨q1, q2, q3, h.1, rfl⟩, h.2⟩
          · exact fun h => h.elim
        · split
          · split
            · split
              · exact fun ⟨p1, p2, p3, p4⟩ => ⟨_, ⟨q1, q2, q3, p1, p2, p3, rfl⟩, p4⟩
              · exact fun h => h.elim
            · exact fun h => h.elim
          · exact fun h => h.elim
        · exact fun h => h.elim
      · exact fun h => h.elim
    · split
      · split
        · split
          · split
            · exact fun ⟨q1, q2, q3, q4, q5⟩ => let ⟨S', h1, h2⟩ := newBl_ex q5; ⟨S', ⟨q1, q2, q3, q4, h1⟩, h2⟩
            · exact fun h => h.elim
          · exact fun h => h.elim
        · exact fun h => h.elim
      · exact fun h => h.elim
    · split
      · split
        · split
          · split
            · exact fun ⟨q1, q2, q3⟩ => ⟨_, ⟨q1, q2, rfl⟩, q3⟩
            · exact fun h => h.elim
          · exact fun h => h.elim
        · split
          · split
            · exact fun ⟨q1, q2, q3, S1, q4, q5⟩ => ⟨_, ⟨q1, q2, q3, S1, q4, rfl⟩, q5⟩
            · exact fun h => h.elim
          · exact fun h => h.elim
        · exact fun h => h.elim
      · exact fun h => h.elim
    · split
      · split
        · split
          · split
            · rintro ⟨q1, q2, q3, h⟩
              revert h
              split
              · split
                · exact fun ⟨p1, p2, p3, p4, p5, p6⟩ => ⟨_, ⟨q1, q2, q3, p1, p2, p3, p4, p5, rfl⟩, p6⟩
                · exact fun h => h.elim
              · exact fun ⟨p1, p2, p3, p4⟩ => let ⟨S', h1, h2⟩ := newBl_ex p4; ⟨S', ⟨q1, q2, q3, p1, p2, p3, h1⟩, h2⟩
            · exact fun h => h.elim
          · exact fun h => h.elim
        · exact fun h => h.elim
      · exact fun h => h.elim
    · split
      · exact fun ⟨targs, S1, l, res, outs, v, S2, q1, q2, q3, q4, q5, q6⟩ => ⟨_, ⟨targs, S1, l, res, outs, v, S2, q1, q2, q3, q4, q5, rfl⟩, q6⟩
      · exact fun h => h.elim
    · exact fun h => h.elim

theorem opW_ex {o : Oper} {K : St → Prop} : opW P T o S K → ∃ S', opW P T o S (fun X => X = S') ∧ K S' := by
  rintro (⟨v, h, hk⟩ | hk | hk)
  · exact ⟨_, .inl ⟨v, h, rfl⟩, hk⟩
  · suffices h : ∃ S', opT T o S (fun X => X = S') ∧ K S' by
      obtain ⟨S', h1, h2⟩ := h
      exact ⟨S', .inr (.inl h1), h2⟩
    unfold opT at hk ⊢
    split at hk
    · obtain ⟨ti, te, e, t', g, len, E0, sz, xs, m, k, q1, q2, q3, q4, q5, q6, q7, q8, q9, q10, q11⟩ := hk
      obtain ⟨S', h1, h2⟩ := newBl_ex q11
      exact ⟨S', ⟨ti, te, e, t', g, len, E0, sz, xs, m, k, q1, q2, q3, q4, q5, q6, q7, q8, q9, q10, h1⟩, h2⟩
    · obtain ⟨x, y, t, tn, ti, te, e, ki, tin, n, q1, q2, q3, q4, q5, q6, q7, q8, q9, q10, q11, q12, q13, q14⟩ := hk
      obtain ⟨S', h1, h2⟩ := newBl_ex q14
      exact ⟨S', ⟨x, y, t, tn, ti, te, e, ki, tin, n, q1, q2, q3, q4, q5, q6, q7, q8, q9, q10, q11, q12, q13, h1⟩, h2⟩
    · exact hk.elim
  · obtain ⟨S', h1, h2⟩ := opW0_ex hk
    exact ⟨S', .inr (.inr h1), h2⟩

theorem put_same {t : Nat} {v : AV} (h : S.tm t = v) : S.put (some t) v = S := by
  apply St.ext'
  · intro t'
    simp only [St.put, upd]
    split
    · rename_i hq; subst hq; exact h.symm
    · rfl
  · intros; rfl
  · intros; rfl

theorem gopW_ex {o : Oper} {K : St → Prop} (h : gopW P T ops o S K) : ∃ S', gstep P T ops o S S' ∧ K S' := by
  unfold gopW at h
  unfold gstep
  split at h
  · exact opW_ex h
  · rename_i j want _
    split at h
    · rename_i t ht
      split at h
      · rename_i v hv
        by_cases hw : vwant v want = true
        · obtain ⟨S', h2, h3⟩ := opW_ex (h.1 hw)
          exact ⟨S', ⟨t, v, ht, hv, by rw [if_pos hw]; exact h2⟩, h3⟩
        · exact ⟨_, ⟨t, v, ht, hv, by rw [if_neg hw]⟩, h.2 (by simpa using hw)⟩
      · exact h.elim
    · exact h.elim

/-- A run of operations, state by state. -/
theorem opsW_run {l : List Oper} : ∀ {S : St} {acc : List (List Nat × List Nat)} {K : List (List Nat × List Nat) → St → Prop}, opsW P T ops l S acc K →
    ∃ (sg : Nat → St) (fps : List (List Nat × List Nat)), sg 0 = S ∧ fps.length = l.length ∧ K (acc ++ fps) (sg l.length) ∧
      ∀ i o, l[i]? = some o → gstep P T ops o (sg i) (sg (i + 1)) ∧ fps[i]? = some (opNames (sg i) o.op, fw (sg i) o) := by
  induction l with
  | nil => intro S acc K h; exact ⟨fun _ => S, [], rfl, rfl, by simpa [opsW] using h, by simp⟩
  | cons o l ih =>
    intro S acc K h
    obtain ⟨S1, h1, h2⟩ := gopW_ex h
    obtain ⟨sg, fps, q1, q2, q3, q4⟩ := ih h2
    refine ⟨fun i => match i with | 0 => S | i + 1 => sg i, (opNames S o.op, fw S o) :: fps, rfl, by simp [q2], by simpa using q3, fun i o' hi => ?_⟩
    cases i with
    | zero => simp at hi; subst hi; exact ⟨by show gstep P T ops o S (sg 0); rw [q1]; exact h1, by simp⟩
    | succ i => simpa using q4 i o' (by simpa using hi)

theorem testBit_maskL (l : List Nat) (t : Nat) : (maskL l).testBit t = decide (t ∈ l) := by
  induction l with
  | nil => simp [maskL]
  | cons x l ih =>
    have : maskL (x :: l) = 2 ^ x ||| maskL l := rfl
    rw [this, Nat.testBit_or, ih, Nat.testBit_two_pow]
    by_cases h : x = t
    · subst h; simp
    · simp [h, Ne.symm h]

theorem mask_apart {a b : List Nat} (h : (maskL a &&& maskL b == 0) = true) : ∀ t, t ∈ a → t ∉ b := fun t h1 h2 => by
  have hz : maskL a &&& maskL b = 0 := by simpa using h
  have : (maskL a &&& maskL b).testBit t = false := by rw [hz]; simp
  rw [Nat.testBit_and, testBit_maskL, testBit_maskL] at this
  simp [h1, h2] at this

inductive Before (ops : Array Oper) : Nat → Nat → Prop
  | dir (i j : Nat) (o : Oper) (h : ops[j]? = some o) (hi : i ∈ dirs o) : Before ops i j
  | tr (i k j : Nat) (h : Before ops i k) (h' : Before ops k j) : Before ops i j

structure Apart (ops : Array Oper) (x y : Oper) (f g : List Nat × List Nat) : Prop where
  d1 : ∀ t, x.dst = some t → t ∉ y.looksAt ops
  d2 : ∀ t, y.dst = some t → t ∉ x.looksAt ops
  d3 : ∀ t, x.dst = some t → y.dst ≠ some t
  w1 : ∀ t ∈ f.2, t ∉ g.1
  w2 : ∀ t ∈ f.2, t ∉ g.2
  w3 : ∀ t ∈ g.2, t ∉ f.1

theorem apart_of {x y : Oper} {f g : List Nat × List Nat} (h : (mkOf ops x f).apart (mkOf ops y g) = true) : Apart ops x y f g := by
  simp only [Mk.apart, mkOf, Bool.and_eq_true] at h
  obtain ⟨⟨⟨⟨⟨h1, h2⟩, h3⟩, h4⟩, h5⟩, h6⟩ := h
  exact ⟨fun t ht => mask_apart h1 t (by simp [ht]), fun t ht => mask_apart h2 t (by simp [ht]), fun t ht hq => mask_apart h3 t (by simp [ht]) (by simp [hq]),
    mask_apart h4, mask_apart h5, mask_apart h6⟩

theorem chkFrom_spec {l : List Oper} : ∀ {fs : List (List Nat × List Nat)} {j : Nat} {done : List (Mk × Nat)}, chkFrom ops l fs j done = true → (∀ i o, l[i]? = some o → ops[j + i]? = some o) →
    (∀ i x, done[i]? = some x → ∀ k, x.2.testBit k = true → Before ops k i) → done.length = j →
    (∀ i o, l[i]? = some o → ∀ d ∈ dirs o, d < j + i) ∧
    (∀ i o f, l[i]? = some o → fs[i]? = some f → ∀ k x, done[k]? = some x → x.1.apart (mkOf ops o f) = true ∨ Before ops k (j + i)) ∧
    (∀ i o f i' o' f', i < i' → l[i]? = some o → fs[i]? = some f → l[i']? = some o' → fs[i']? = some f' → Apart ops o o' f f' ∨ Before ops (j + i) (j + i')) := by
  induction l with
  | nil => intro fs j done h _ _ _; exact ⟨by simp, by simp, by simp⟩
  | cons o l ih =>
    intro fs j done h hops hdone hlen
    cases fs with
    | nil => simp [chkFrom] at h
    | cons f fs =>
      simp only [chkFrom, Bool.and_eq_true, List.all_eq_true, decide_eq_true_eq] at h
      obtain ⟨⟨h1, h2⟩, h3⟩ := h
      have ho : ops[j]? = some o := by simpa using hops 0 o rfl
      let anc := (dirs o).foldr (fun d acc => (2 ^ d ||| ((done[d]?).map (·.2)).getD 0) ||| acc) 0
      have hanc : ∀ k, anc.testBit k = true → Before ops k j := fun k hk => by
        have key : ∀ ds : List Nat, (∀ d ∈ ds, d ∈ dirs o) → (ds.foldr (fun d acc => (2 ^ d ||| ((done[d]?).map (fun x : Mk × Nat => x.2)).getD 0) ||| acc) 0).testBit k = true → Before ops k j := fun ds => by
          induction ds with
          | nil => intro _ hq; simp at hq
          | cons d ds ihd =>
            intro hd hq
            rw [List.foldr_cons, Nat.testBit_or, Nat.testBit_or, Nat.testBit_two_pow] at hq
            simp only [Bool.or_eq_true, decide_eq_true_eq] at hq
            rcases hq with (rfl | hq) | hq
            · exact .dir _ _ o ho (hd _ (by simp))
            · cases hx : done[d]? with
              | none => simp [hx] at hq
              | some x =>
                simp [hx] at hq
                exact .tr _ _ _ (hdone d x hx k hq) (.dir _ _ o ho (hd d (by simp)))
            · exact ihd (fun e he => hd e (by simp [he])) hq
        exact key _ (fun d hd => hd) hk
      have hfirst : ∀ k x, done[k]? = some x → x.1.apart (mkOf ops o f) = true ∨ Before ops k j := fun k x hx => by
        have := h2 (x, k) (by rw [List.mem_zipIdx_iff_getElem?]; simpa using hx)
        simp only [Bool.or_eq_true] at this
        exact this.imp id (hanc k)
      obtain ⟨r1, r2, r3⟩ := ih (done := done ++ [(mkOf ops o f, anc)]) h3 (fun i o' hi => by have := hops (i + 1) o' (by simpa using hi); rwa [Nat.add_assoc, Nat.add_comm 1 i]) (fun i x hx k hk => by
        rw [List.getElem?_append] at hx
        split at hx
        · exact hdone i x hx k hk
        · have : i - done.length = 0 := by
            rcases Nat.eq_zero_or_pos (i - done.length) with h | h
            · exact h
            · rw [List.getElem?_eq_none (by simp; omega)] at hx; simp at hx
          rw [this] at hx
          simp at hx; subst hx
          have : i = j := by omega
          subst this
          exact hanc k hk) (by simp [hlen])
      refine ⟨fun i o' hi => ?_, fun i o' f' hi hf k x hx => ?_, fun i o1 f1 i' o2 f2 hlt hi hf hi' hf' => ?_⟩
      · cases i with
        | zero => simp at hi; subst hi; intro d hd; simpa using h1 d hd
        | succ i => intro d hd; have := r1 i o' (by simpa using hi) d hd; omega
      · cases i with
        | zero => simp at hi hf; subst hi; subst hf; simpa using hfirst k x hx
        | succ i =>
          have := r2 i o' f' (by simpa using hi) (by simpa using hf) k x (by rw [List.getElem?_append_left (List.getElem?_eq_some_iff.1 hx).1]; exact hx)
          rwa [Nat.add_assoc, Nat.add_comm 1 i] at this
      · cases i' with
        | zero => omega
        | succ i' =>
          cases i with
          | zero =>
            simp at hi hf; subst hi; subst hf
            have := r2 i' o2 f2 (by simpa using hi') (by simpa using hf') j (mkOf ops o f, anc) (by rw [← hlen]; simp)
            rw [Nat.add_assoc, Nat.add_comm 1 i'] at this
            exact this.imp apart_of id
          | succ i =>
            have := r3 i o1 f1 i' o2 f2 (by omega) (by simpa using hi) (by simpa using hf) (by simpa using hi') (by simpa using hf')
            rwa [Nat.add_assoc, Nat.add_comm 1 i, Nat.add_assoc, Nat.add_comm 1 i'] at this
end
end Go.Proofs.Ytablmbhnimnccaa.Pw
