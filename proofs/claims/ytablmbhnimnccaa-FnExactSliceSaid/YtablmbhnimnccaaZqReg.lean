/- Pw, part 19: regions, in whatever order. No condition. -/
import Derived.Test.YtablmbhnimnccaaZqCall
import Derived.Orders
namespace Go.Proofs.Ytablmbhnimnccaa.Pw

/-- What an operation that is passed over leaves. -/
def udf : AV := .p (.lit undef)
def vwant (v : Value) (want : Bool) : Bool := match v with
  | .bool b => b == want
  | _ => false

def gopW (P : Program) (T : Nat → Option TI) (ops : Array Oper) (o : Oper) (S : St) (K : St → Prop) : Prop :=
  match o.guard with
  | none => opW P T o S K
  | some (j, want) => match (ops[j]?).bind (·.dst) with
    | some t => match S.tm t with
      | .p (.lit v) => (vwant v want = true → opW P T o S K) ∧ (vwant v want = false → K (S.put o.dst udf))
      | _ => False
    | none => False

def opsW (P : Program) (T : Nat → Option TI) (ops : Array Oper) : List Oper → St → List (List Nat × List Nat) → (List (List Nat × List Nat) → St → Prop) → Prop
  | [], S, acc, K => K acc S
  | o :: l, S, acc, K => gopW P T ops o S fun S' => opsW P T ops l S' (acc ++ [(opNames S o.op, fw S o)]) K

def maskL (l : List Nat) : Nat := l.foldr (fun t m => 2 ^ t ||| m) 0

structure Mk where
  dst : Nat
  looks : Nat
  r : Nat
  w : Nat

def mkOf (ops : Array Oper) (o : Oper) (f : List Nat × List Nat) : Mk :=
  { dst := maskL o.dst.toList, looks := maskL (o.looksAt ops), r := maskL f.1, w := maskL f.2 }

def Mk.apart (x y : Mk) : Bool :=
  (x.dst &&& y.looks == 0) && (y.dst &&& x.looks == 0) && (x.dst &&& y.dst == 0) && (x.w &&& y.r == 0) && (x.w &&& y.w == 0) && (y.w &&& x.r == 0)

def dirs (o : Oper) : List Nat := (o.after.toList.filter (Region.binds .any)).map (·.on)

/-- The ones behind: each with what must have gone ahead of it. -/
def chkFrom (ops : Array Oper) : List Oper → List (List Nat × List Nat) → Nat → List (Mk × Nat) → Bool
  | o :: l, f :: fs, j, done =>
    let m := mkOf ops o f
    let ds := dirs o
    let anc := ds.foldr (fun d acc => (2 ^ d ||| ((done[d]?).map (·.2)).getD 0) ||| acc) 0
    ds.all (· < j) && (done.zipIdx.all fun x => x.1.1.apart m || anc.testBit x.2) && chkFrom ops l fs (j + 1) (done ++ [(m, anc)])
  | [], [], _, _ => true
  | _, _, _, _ => false

def chk (ops : Array Oper) (acc : List (List Nat × List Nat)) : Bool := chkFrom ops ops.toList acc 0 []

def regW (P : Program) (T : Nat → Option TI) (ops : Array Oper) (draw : Bool) (S : St) (K : St → Prop) : Prop :=
  match draw with
  | false => opsW P T ops ops.toList S [] fun _ S' => K S'
  | true => opsW P T ops ops.toList S [] fun acc S' => chk ops acc = true ∧ K S'

def gstep (P : Program) (T : Nat → Option TI) (ops : Array Oper) (o : Oper) (S S' : St) : Prop :=
  match o.guard with
  | none => opW P T o S (fun X => X = S')
  | some (j, want) => ∃ t v, (ops[j]?).bind (·.dst) = some t ∧ S.tm t = .p (.lit v) ∧ if vwant v want = true then opW P T o S (fun X => X = S') else S' = S.put o.dst udf

section
variable {P : Program} {T : Nat → Option TI} {ops : Array Oper} {S S' : St}

theorem newBl_ex {d : Option Tmp} {b : Blk} {v : Nat → Nat → AV} {K : St → Prop} (h : newBl S d b v K) : ∃ S', newBl S d b v (fun X => X = S') ∧ K S' := by
  cases d with
  | none => exact h.elim
  | some d => exact ⟨_, rfl, h⟩

theorem opW0_ex {o : Oper} {K : St → Prop} : opW0 P T o S K → ∃ S', opW0 P T o S (fun X => X = S') ∧ K S' := by
  unfold opW0
  split
  · exact fun ⟨v', h1, h⟩ => ⟨_, ⟨v', h1, rfl⟩, h⟩
  · split
    · split
      · exact fun h => newBl_ex h
      · exact fun h => h.elim
    · exact fun h => let ⟨S', h1, h2⟩ := newBl_ex h.2; ⟨S', ⟨h.1, h1⟩, h2⟩
    · split
      · split
        · exact fun ⟨h0, v', h1, h⟩ => ⟨_, ⟨h0, v', h1, rfl⟩, h⟩
        · exact fun h => h.elim
      · exact fun h => h.elim
    · split
      · split
        · split
          · exact fun ⟨q1, q2, q3, q4, xs, S1, q5, q6, q7⟩ => let ⟨S', h1, h2⟩ := newBl_ex q7; ⟨S', ⟨q1, q2, q3, q4, xs, S1, q5, q6, h1⟩, h2⟩
          · exact fun h => h.elim
        · exact fun h => h.elim
      · exact fun h => h.elim
    · split
      · exact fun h => ⟨_, ⟨h.1, rfl⟩, h.2⟩
      · exact fun h => h.elim
    · split
      · rintro ⟨q1, q2, q3, h⟩
        revert h
        split
        · split
          · exact fun h => ⟨_, ⟨q1, q2, q3, h.1, rfl⟩, h.2⟩
          · exact fun h => h.elim
        · split
          · split
            · split
              · exact fun ⟨p1, p2, p3, p4⟩ => ⟨_, ⟨q1, q2, q3, p1, p2, p3, rfl⟩, p4⟩
              · exact fun h => h.elim
            · exact fun h => h.elim
          · exact fun h => h.elim
        · exact fun h => h.elim
      · exact fun h => h.elim
    · split
      · split
        · split
          · split
            · exact fun ⟨q1, q2, q3, q4, q5⟩ => let ⟨S', h1, h2⟩ := newBl_ex q5; ⟨S', ⟨q1, q2, q3, q4, h1⟩, h2⟩
            · exact fun h => h.elim
          · exact fun h => h.elim
        · exact fun h => h.elim
      · exact fun h => h.elim
    · split
      · split
        · split
          · split
            · exact fun ⟨q1, q2, q3⟩ => ⟨_, ⟨q1, q2, rfl⟩, q3⟩
            · exact fun h => h.elim
          · exact fun h => h.elim
        · split
          · split
            · exact fun ⟨q1, q2, q3, S1, q4, q5⟩ => ⟨_, ⟨q1, q2, q3, S1, q4, rfl⟩, q5⟩
            · exact fun h => h.elim
          · exact fun h => h.elim
        · exact fun h => h.elim
      · exact fun h => h.elim
    · split
      · split
        · split
          · split
            · rintro ⟨q1, q2, q3, h⟩
              revert h
              split
              · split
                · exact fun ⟨p1, p2, p3, p4, p5, p6⟩ => ⟨_, ⟨q1, q2, q3, p1, p2, p3, p4, p5, rfl⟩, p6⟩
                · exact fun h => h.elim
              · exact fun ⟨p1, p2, p3, p4⟩ => let ⟨S', h1, h2⟩ := newBl_ex p4; ⟨S', ⟨q1, q2, q3, p1, p2, p3, h1⟩, h2⟩
            · exact fun h => h.elim
          · exact fun h => h.elim
        · exact fun h => h.elim
      · exact fun h => h.elim
    · split
      · exact fun ⟨targs, S1, l, res, outs, v, S2, q1, q2, q3, q4, q5, q6⟩ => ⟨_, ⟨targs, S1, l, res, outs, v, S2, q1, q2, q3, q4, q5, rfl⟩, q6⟩
      · exact fun h => h.elim
    · exact fun h => h.elim

theorem opW_ex {o : Oper} {K : St → Prop} : opW P T o S K → ∃ S', opW P T o S (fun X => X = S') ∧ K S' := by
  rintro (⟨v, h, hk⟩ | hk | hk)
  · exact ⟨_, .inl ⟨v, h, rfl⟩, hk⟩
  · suffices h : ∃ S', opT T o S (fun X => X = S') ∧ K S' by
      obtain ⟨S', h1, h2⟩ := h
      exact ⟨S', .inr (.inl h1), h2⟩
    unfold opT at hk ⊢
    split at hk
    · obtain ⟨ti, te, e, t', g, len, E0, sz, xs, m, k, q1, q2, q3, q4, q5, q6, q7, q8, q9, q10, q11⟩ := hk
      obtain ⟨S', h1, h2⟩ := newBl_ex q11
      exact ⟨S', ⟨ti, te, e, t', g, len, E0, sz, xs, m, k, q1, q2, q3, q4, q5, q6, q7, q8, q9, q10, h1⟩, h2⟩
    · obtain ⟨x, y, t, tn, ti, te, e, ki, tin, n, q1, q2, q3, q4, q5, q6, q7, q8, q9, q10, q11, q12, q13, q14⟩ := hk
      obtain ⟨S', h1, h2⟩ := newBl_ex q14
      exact ⟨S', ⟨x, y, t, tn, ti, te, e, ki, tin, n, q1, q2, q3, q4, q5, q6, q7, q8, q9, q10, q11, q12, q13, h1⟩, h2⟩
    · exact hk.elim
  · obtain ⟨S', h1, h2⟩ := opW0_ex hk
    exact ⟨S', .inr (.inr h1), h2⟩

theorem put_same {t : Nat} {v : AV} (h : S.tm t = v) : S.put (some t) v = S := by
  apply St.ext'
  · intro t'
    simp only [St.put, upd]
    split
    · rename_i hq; subst hq; exact h.symm
    · rfl
  · intros; rfl
  · intros; rfl

theorem gopW_ex {o : Oper} {K : St → Prop} (h : gopW P T ops o S K) : ∃ S', gstep P T ops o S S' ∧ K S' := by
  unfold gopW at h
  unfold gstep
  split at h
  · exact opW_ex h
  · rename_i j want _
    split at h
    · rename_i t ht
      split at h
      · rename_i v hv
        by_cases hw : vwant v want = true
        · obtain ⟨S', h2, h3⟩ := opW_ex (h.1 hw)
          exact ⟨S', ⟨t, v, ht, hv, by rw [if_pos hw]; exact h2⟩, h3⟩
        · exact ⟨_, ⟨t, v, ht, hv, by rw [if_neg hw]⟩, h.2 (by simpa using hw)⟩
      · exact h.elim
    · exact h.elim

/-- A run of operations, state by state. -/
theorem opsW_run {l : List Oper} : ∀ {S : St} {acc : List (List Nat × List Nat)} {K : List (List Nat × List Nat) → St → Prop}, opsW P T ops l S acc K →
    ∃ (sg : Nat → St) (fps : List (List Nat × List Nat)), sg 0 = S ∧ fps.length = l.length ∧ K (acc ++ fps) (sg l.length) ∧
      ∀ i o, l[i]? = some o → gstep P T ops o (sg i) (sg (i + 1)) ∧ fps[i]? = some (opNames (sg i) o.op, fw (sg i) o) := by
  induction l with
  | nil => intro S acc K h; exact ⟨fun _ => S, [], rfl, rfl, by simpa [opsW] using h, by simp⟩
  | cons o l ih =>
    intro S acc K h
    obtain ⟨S1, h1, h2⟩ := gopW_ex h
    obtain ⟨sg, fps, q1, q2, q3, q4⟩ := ih h2
    refine ⟨fun i => match i with | 0 => S | i + 1 => sg i, (opNames S o.op, fw S o) :: fps, rfl, by simp [q2], by simpa using q3, fun i o' hi => ?_⟩
    cases i with
    | zero => simp at hi; subst hi; exact ⟨by show gstep P T ops o S (sg 0); rw [q1]; exact h1, by simp⟩
    | succ i => simpa using q4 i o' (by simpa using hi)

theorem testBit_maskL (l : List Nat) (t : Nat) : (maskL l).testBit t = decide (t ∈ l) := by
  induction l with
  | nil => simp [maskL]
  | cons x l ih =>
    have : maskL (x :: l) = 2 ^ x ||| maskL l := rfl
    rw [this, Nat.testBit_or, ih, Nat.testBit_two_pow]
    by_cases h : x = t
    · subst h; simp
    · simp [h, Ne.symm h]

theorem mask_apart {a b : List Nat} (h : (maskL a &&& maskL b == 0) = true) : ∀ t, t ∈ a → t ∉ b := fun t h1 h2 => by
  have hz : maskL a &&& maskL b = 0 := by simpa using h
  have : (maskL a &&& maskL b).testBit t = false := by rw [hz]; simp
  rw [Nat.testBit_and, testBit_maskL, testBit_maskL] at this
  simp [h1, h2] at this

inductive Before (ops : Array Oper) : Nat → Nat → Prop
  | dir (i j : Nat) (o : Oper) (h : ops[j]? = some o) (hi : i ∈ dirs o) : Before ops i j
  | tr (i k j : Nat) (h : Before ops i k) (h' : Before ops k j) : Before ops i j

structure Apart (ops : Array Oper) (x y : Oper) (f g : List Nat × List Nat) : Prop where
  d1 : ∀ t, x.dst = some t → t ∉ y.looksAt ops
  d2 : ∀ t, y.dst = some t → t ∉ x.looksAt ops
  d3 : ∀ t, x.dst = some t → y.dst ≠ some t
  w1 : ∀ t ∈ f.2, t ∉ g.1
  w2 : ∀ t ∈ f.2, t ∉ g.2
  w3 : ∀ t ∈ g.2, t ∉ f.1

theorem apart_of {x y : Oper} {f g : List Nat × List Nat} (h : (mkOf ops x f).apart (mkOf ops y g) = true) : Apart ops x y f g := by
  simp only [Mk.apart, mkOf, Bool.and_eq_true] at h
  obtain ⟨⟨⟨⟨⟨h1, h2⟩, h3⟩, h4⟩, h5⟩, h6⟩ := h
  exact ⟨fun t ht => mask_apart h1 t (by simp [ht]), fun t ht => mask_apart h2 t (by simp [ht]), fun t ht hq => mask_apart h3 t (by simp [ht]) (by simp [hq]),
    mask_apart h4, mask_apart h5, mask_apart h6⟩

theorem chkFrom_spec {l : List Oper} : ∀ {fs : List (List Nat × List Nat)} {j : Nat} {done : List (Mk × Nat)}, chkFrom ops l fs j done = true → (∀ i o, l[i]? = some o → ops[j + i]? = some o) →
    (∀ i x, done[i]? = some x → ∀ k, x.2.testBit k = true → Before ops k i) → done.length = j →
    (∀ i o, l[i]? = some o → ∀ d ∈ dirs o, d < j + i) ∧
    (∀ i o f, l[i]? = some o → fs[i]? = some f → ∀ k x, done[k]? = some x → x.1.apart (mkOf ops o f) = true ∨ Before ops k (j + i)) ∧
    (∀ i o f i' o' f', i < i' → l[i]? = some o → fs[i]? = some f → l[i']? = some o' → fs[i']? = some f' → Apart ops o o' f f' ∨ Before ops (j + i) (j + i')) := by
  induction l with
  | nil => intro fs j done h _ _ _; exact ⟨by simp, by simp, by simp⟩
  | cons o l ih =>
    intro fs j done h hops hdone hlen
    cases fs with
    | nil => simp [chkFrom] at h
    | cons f fs =>
      simp only [chkFrom, Bool.and_eq_true, List.all_eq_true, decide_eq_true_eq] at h
      obtain ⟨⟨h1, h2⟩, h3⟩ := h
      have ho : ops[j]? = some o := by simpa using hops 0 o rfl
      let anc := (dirs o).foldr (fun d acc => (2 ^ d ||| ((done[d]?).map (·.2)).getD 0) ||| acc) 0
      have hanc : ∀ k, anc.testBit k = true → Before ops k j := fun k hk => by
        have key : ∀ ds : List Nat, (∀ d ∈ ds, d ∈ dirs o) → (ds.foldr (fun d acc => (2 ^ d ||| ((done[d]?).map (fun x : Mk × Nat => x.2)).getD 0) ||| acc) 0).testBit k = true → Before ops k j := fun ds => by
          induction ds with
          | nil => intro _ hq; simp at hq
          | cons d ds ihd =>
            intro hd hq
            rw [List.foldr_cons, Nat.testBit_or, Nat.testBit_or, Nat.testBit_two_pow] at hq
            simp only [Bool.or_eq_true, decide_eq_true_eq] at hq
            rcases hq with (rfl | hq) | hq
            · exact .dir _ _ o ho (hd _ (by simp))
            · cases hx : done[d]? with
              | none => simp [hx] at hq
              | some x =>
                simp [hx] at hq
                exact .tr _ _ _ (hdone d x hx k hq) (.dir _ _ o ho (hd d (by simp)))
            · exact ihd (fun e he => hd e (by simp [he])) hq
        exact key _ (fun d hd => hd) hk
      have hfirst : ∀ k x, done[k]? = some x → x.1.apart (mkOf ops o f) = true ∨ Before ops k j := fun k x hx => by
        have := h2 (x, k) (by rw [List.mem_zipIdx_iff_getElem?]; simpa using hx)
        simp only [Bool.or_eq_true] at this
        exact this.imp id (hanc k)
      obtain ⟨r1, r2, r3⟩ := ih (done := done ++ [(mkOf ops o f, anc)]) h3 (fun i o' hi => by have := hops (i + 1) o' (by simpa using hi); rwa [Nat.add_assoc, Nat.add_comm 1 i]) (fun i x hx k hk => by
        rw [List.getElem?_append] at hx
        split at hx
        · exact hdone i x hx k hk
        · have : i - done.length = 0 := by
            rcases Nat.eq_zero_or_pos (i - done.length) with h | h
            · exact h
            · rw [List.getElem?_eq_none (by simp; omega)] at hx; simp at hx
          rw [this] at hx
          simp at hx; subst hx
          have : i = j := by omega
          subst this
          exact hanc k hk) (by simp [hlen])
      refine ⟨fun i o' hi => ?_, fun i o' f' hi hf k x hx => ?_, fun i o1 f1 i' o2 f2 hlt hi hf hi' hf' => ?_⟩
      · cases i with
        | zero => simp at hi; subst hi; intro d hd; simpa using h1 d hd
        | succ i => intro d hd; have := r1 i o' (by simpa using hi) d hd; omega
      · cases i with
        | zero => simp at hi hf; subst hi; subst hf; simpa using hfirst k x hx
        | succ i =>
          have := r2 i o' f' (by simpa using hi) (by simpa using hf) k x (by rw [List.getElem?_append_left (List.getElem?_eq_some_iff.1 hx).1]; exact hx)
          rwa [Nat.add_assoc, Nat.add_comm 1 i] at this
      · cases i' with
        | zero => omega
        | succ i' =>
          cases i with
          | zero =>
            simp at hi hf; subst hi; subst hf
            have := r2 i' o2 f2 (by simpa using hi') (by simpa using hf') j (mkOf ops o f, anc) (by rw [← hlen]; simp)
            rw [Nat.add_assoc, Nat.add_comm 1 i'] at this
            exact this.imp apart_of id
          | succ i =>
            have := r3 i o1 f1 i' o2 f2 (by omega) (by simpa using hi) (by simpa using hf) (by simpa using hi') (by simpa using hf')
            rwa [Nat.add_assoc, Nat.add_comm 1 i, Nat.add_assoc, Nat.add_comm 1 i'] at this
end
end Go.Proofs.Ytablmbhnimnccaa.Pw
/- Pw, part 20: a region is sound, in whatever order. No condition. -/
namespace Go.Proofs.Ytablmbhnimnccaa.Pw
section
variable {P : Program} {T : Nat → Option TI} {ops : Array Oper} {E : Entry} {N : Nat} {A : Nat → Nat → Prop} {F : Nat → Nat → Value} {S S' τ τ' : St} {a : Act} {w : World} {K : St → Prop} {Q : Exit → Act → World → Prop}

theorem yielded_of (hI : Inv E N τ A F a w) {j t : Nat} {v : Value} {want : Bool} (ht : (ops[j]?).bind (·.dst) = some t) (hb : τ.tm t = .p (.lit v)) : (yielded ops a.tmps j == some want) = vwant v want := by
  have h := hI.tm t
  rw [hb] at h
  have hv := repA_lit h
  unfold yielded
  rw [ht]
  simp only [Option.bind_some]
  cases hq : a.tmps[t]? with
  | none =>
    simp [hq] at hv
    subst hv
    simp [vwant, undef]
  | some u =>
    simp [hq] at hv
    subst hv
    cases u <;> simp [vwant]

theorem gstep_sound (hT : TOk P T) (hI : Inv E N τ A F a w) {i : Nat} {o : Oper} (hi : ops[i]? = some o) (hg : gstep P T ops o τ τ') (hd : ∀ t, o.dst = some t → t < N) {next : Act → World → Prop}
    (hn : ∀ a' w', Nx E N (fun X => X = τ') a' w' → next a' w') : wpOp P ops Q i next a w := by
  unfold wpOp
  simp only [hi]
  unfold gstep at hg
  have run : opW P T o τ (fun X => X = τ') → o.wp P a w next Q := fun hk => Oper.wp_mono (fun a w h => hn a w h) (opW_sound hT hI hd hk)
  cases hgd : o.guard with
  | none =>
    rw [hgd] at hg
    have : Region.wanted o (yielded ops a.tmps) = true := by simp [Region.wanted, hgd]
    rw [if_pos this]
    exact .inl (run hg)
  | some gw =>
    obtain ⟨j, want⟩ := gw
    rw [hgd] at hg
    obtain ⟨t, v, h1, h2, h3⟩ := hg
    have hw : Region.wanted o (yielded ops a.tmps) = vwant v want := by
      simp only [Region.wanted, hgd, yielded_of hI h1 h2]
    by_cases hb : vwant v want = true
    · rw [if_pos hb] at h3
      rw [if_pos (by rw [hw]; exact hb)]
      exact .inl (run h3)
    · rw [if_neg hb] at h3
      rw [if_neg (by rw [hw]; exact hb)]
      subst h3
      exact hn _ _ ⟨_, _, _, hI.put (.p _ _ (.lit _)) hd, rfl⟩

theorem wpOps_wpOp (i : Nat) (rest : List Nat) : wpOps P ops Q (i :: rest) a w = wpOp P ops Q i (wpOps P ops Q rest) a w := wpOps_cons i rest a w

def dstOk (N : Nat) (ops : Array Oper) : Bool := ops.toList.all fun o => match o.dst with | some t => decide (t < N) | none => true

theorem dstOk_spec (h : dstOk N ops = true) {i : Nat} {o : Oper} (hi : ops[i]? = some o) : ∀ t, o.dst = some t → t < N := fun t ht => by
  have := List.all_eq_true.1 h o (by rw [Array.mem_toList_iff]; exact Array.mem_of_getElem? hi)
  rw [ht] at this
  simpa using this

theorem region_text (hT : TOk P T) (hI : Inv E N S A F a w) (hd : dstOk N ops = true) {id : Nat} (hk : regW P T ops false S K) (hQ : ∀ a w, Nx E N K a w → Q .normal a w) : (Code.region id ops false).wp P Q a w := by
  refine wp_region ?_
  obtain ⟨sg, fps, q1, q2, q3, q4⟩ := opsW_run (show opsW P T ops ops.toList S [] (fun _ S' => K S') from hk)
  have key : ∀ (m i : Nat), i + m = ops.size → ∀ (A : Nat → Nat → Prop) (F : Nat → Nat → Value) (a : Act) (w : World), Inv E N (sg i) A F a w → wpOps P ops Q (List.range' i m) a w := by
    intro m
    induction m with
    | zero =>
      intro i hi A F a w h
      simp only [List.range'_zero, wpOps]
      have : i = ops.toList.length := by simp; omega
      subst this
      exact hQ _ _ ⟨_, _, _, h, q3⟩
    | succ m ih =>
      intro i hi A F a w h
      rw [List.range'_succ, wpOps_wpOp]
      have hlt : i < ops.size := by omega
      have ho : ops[i]? = some ops[i] := by simp [hlt]
      refine gstep_sound hT h ho (q4 i _ (by simp [hlt])).1 (dstOk_spec hd ho) fun a' w' ⟨X, A', F', h', hX⟩ => ?_
      subst hX
      exact ih (i + 1) (by omega) A' F' a' w' h'
  have := key ops.size 0 (by omega) A F a w (by rw [q1]; exact hI)
  rwa [← List.range_eq_range'] at this

/-- The abstract state when D is done: each place shows what its last writer left. -/
structure Agree (ops : Array Oper) (sg : Nat → St) (fps : List (List Nat × List Nat)) (D : Nat → Prop) (τ : St) : Prop where
  tm : ∀ t k, k ≤ ops.size → (∀ i o, ops[i]? = some o → o.dst = some t → (D i ↔ i < k)) → τ.tm t = (sg k).tm t
  bl : ∀ t k, k ≤ ops.size → (∀ i f, fps[i]? = some f → t ∈ f.2 → (D i ↔ i < k)) → (∀ g, τ.bl t g = (sg k).bl t g) ∧ τ.gen t = (sg k).gen t

structure Runs (P : Program) (T : Nat → Option TI) (ops : Array Oper) (sg : Nat → St) (fps : List (List Nat × List Nat)) : Prop where
  len : fps.length = ops.size
  step : ∀ i o, ops[i]? = some o → gstep P T ops o (sg i) (sg (i + 1)) ∧ fps[i]? = some (opNames (sg i) o.op, fw (sg i) o)
  dirs : ∀ i o, ops[i]? = some o → ∀ d ∈ dirs o, d < i
  sep : ∀ i o f j o' f', i < j → ops[i]? = some o → fps[i]? = some f → ops[j]? = some o' → fps[j]? = some f' → Apart ops o o' f f' ∨ Before ops i j

theorem looks_mem {o : Oper} {x : Operand} {t : Nat} (hx : x ∈ o.op.operands) (ht : x = .tmp t) : t ∈ o.looksAt ops := by
  subst ht
  exact List.mem_append_left _ (List.mem_filterMap.2 ⟨.tmp t, by simpa using hx, rfl⟩)

/-- One step, from any state that shows what it looks at. -/
theorem gstep_loc {o : Oper} (hg : gstep P T ops o S S') (he : ∀ t ∈ o.looksAt ops, τ.tm t = S.tm t) (ha : Agr (opNames S o.op ++ fw S o) τ S) :
    gstep P T ops o τ (ovT τ S' o.dst (fw S o)) ∧ Out (fw S o) S S' ∧ ∀ t, o.dst ≠ some t → S'.tm t = S.tm t := by
  have hev : ∀ x ∈ o.op.operands, τ.ev x = S.ev x := fun x hx => by
    cases x with
    | tmp t => exact he t (looks_mem hx rfl)
    | _ => rfl
  unfold gstep at hg ⊢
  cases hgd : o.guard with
  | none => rw [hgd] at hg; exact opW_loc hg hev ha
  | some gw =>
    obtain ⟨j, want⟩ := gw
    rw [hgd] at hg
    obtain ⟨t, v, h1, h2, h3⟩ := hg
    have ht : τ.tm t = S.tm t := he t (by
      unfold Oper.looksAt
      rw [hgd]
      exact List.mem_append_right _ (by simp [h1]))
    by_cases hb : vwant v want = true
    · rw [if_pos hb] at h3
      obtain ⟨q1, q2, q3⟩ := opW_loc h3 hev ha
      exact ⟨⟨t, v, h1, ht.trans h2, by rw [if_pos hb]; exact q1⟩, q2, q3⟩
    · rw [if_neg hb] at h3
      subst h3
      have hW : Agr (fw S o) τ S := ha.sub fun t ht => List.mem_append_right _ ht
      obtain ⟨q1, q2, q3⟩ := put_loc (o := o) (v := udf) hW
      exact ⟨⟨t, v, h1, ht.trans h2, by rw [if_neg hb]; exact q1.symm⟩, q2, q3⟩

theorem Before.closed {D : Nat → Prop} (hc : ∀ j o, ops[j]? = some o → D j → ∀ d ∈ dirs o, D d) {i j : Nat} (h : Before ops i j) : D j → D i := by
  induction h with
  | dir i j o ho hi => exact fun hj => hc j o ho hj i hi
  | tr i k j _ _ ih1 ih2 => exact fun hj => ih1 (ih2 hj)

theorem const_tm {sg : Nat → St} {fps : List (List Nat × List Nat)} (hr : Runs P T ops sg fps) {t : Nat} : ∀ {m k : Nat}, k + m ≤ ops.size → (∀ i o, k ≤ i → i < k + m → ops[i]? = some o → o.dst ≠ some t) → (sg (k + m)).tm t = (sg k).tm t := by
  intro m
  induction m with
  | zero => intro k _ _; rfl
  | succ m ih =>
    intro k hk hn
    have h1 := ih (k := k) (by omega) fun i o h1 h2 => hn i o h1 (by omega)
    have hlt : k + m < ops.size := by omega
    have ho : ops[k + m]? = some ops[k + m] := by simp [hlt]
    obtain ⟨hg, _⟩ := hr.step _ _ ho
    obtain ⟨_, _, h3⟩ := gstep_loc (τ := sg (k + m)) hg (fun _ _ => rfl) (fun _ _ => ⟨fun _ => rfl, rfl⟩)
    rw [← Nat.add_assoc, h3 t (hn _ _ (by omega) (by omega) ho), h1]

theorem const_bl {sg : Nat → St} {fps : List (List Nat × List Nat)} (hr : Runs P T ops sg fps) {t : Nat} : ∀ {m k : Nat}, k + m ≤ ops.size → (∀ i f, k ≤ i → i < k + m → fps[i]? = some f → t ∉ f.2) →
    (∀ g, (sg (k + m)).bl t g = (sg k).bl t g) ∧ (sg (k + m)).gen t = (sg k).gen t := by
  intro m
  induction m with
  | zero => intro k _ _; exact ⟨fun _ => rfl, rfl⟩
  | succ m ih =>
    intro k hk hn
    have h1 := ih (k := k) (by omega) fun i o h1 h2 => hn i o h1 (by omega)
    have hlt : k + m < ops.size := by omega
    have ho : ops[k + m]? = some ops[k + m] := by simp [hlt]
    obtain ⟨hg, hf⟩ := hr.step _ _ ho
    obtain ⟨_, h2, _⟩ := gstep_loc (τ := sg (k + m)) hg (fun _ _ => rfl) (fun _ _ => ⟨fun _ => rfl, rfl⟩)
    have h4 := h2 t (hn _ _ (by omega) (by omega) hf)
    rw [← Nat.add_assoc]
    exact ⟨fun g => (h4.1 g).trans (h1.1 g), h4.2.trans h1.2⟩

/-- The step of what is ready. -/
theorem Agree.step {sg : Nat → St} {fps : List (List Nat × List Nat)} (hr : Runs P T ops sg fps) {D : Nat → Prop} (hc : ∀ j o, ops[j]? = some o → D j → ∀ d ∈ dirs o, D d) (h : Agree ops sg fps D τ)
    {i : Nat} {o : Oper} (ho : ops[i]? = some o) (hi : ¬ D i) (hrd : ∀ d ∈ dirs o, D d) : ∃ τ', gstep P T ops o τ τ' ∧ Agree ops sg fps (fun j => j = i ∨ D j) τ' := by
  have hlt : i < ops.size := (Array.getElem?_eq_some_iff.1 ho).1
  obtain ⟨hg, hf⟩ := hr.step _ _ ho
  -- what must have gone ahead of i has gone
  have ahead : ∀ j, Before ops j i → D j := fun j hb => by
    have gen : ∀ {x y : Nat}, Before ops x y → y = i → D x := fun {x y} hb => by
      induction hb with
      | dir x y o' ho' hx => intro e; subst e; rw [ho] at ho'; simp at ho'; subst ho'; exact hrd x hx
      | tr x k y h1 _ ih1 ih2 => intro e; exact h1.closed hc (ih2 e)
    exact gen hb rfl
  have behind : ∀ j, Before ops i j → ¬ D j := fun j hb hj => hi (hb.closed hc hj)
  have fget : ∀ j o', ops[j]? = some o' → ∃ f, fps[j]? = some f := fun j o' h => ⟨_, (hr.step j o' h).2⟩
  have oget : ∀ j f, fps[j]? = some f → ∃ o', ops[j]? = some o' := fun j f h => by
    have : j < ops.size := by have := (List.getElem?_eq_some_iff.1 h).1; rw [hr.len] at this; exact this
    exact ⟨ops[j]'this, Array.getElem?_eq_getElem this⟩
  -- the places that i looks at
  have he : ∀ t ∈ o.looksAt ops, τ.tm t = (sg i).tm t := fun t ht => h.tm t i (Nat.le_of_lt hlt) fun j o' hj hjd => by
    rcases Nat.lt_trichotomy j i with hl | hl | hl
    · obtain ⟨f, hfj⟩ := fget j o' hj
      rcases hr.sep j o' f i o _ hl hj hfj ho hf with ap | bf
      · exact absurd ht (ap.d1 t hjd)
      · exact ⟨fun _ => hl, fun _ => ahead j bf⟩
    · subst hl; exact ⟨fun hq => absurd hq hi, fun hq => by omega⟩
    · obtain ⟨f, hfj⟩ := fget j o' hj
      rcases hr.sep i o _ j o' f hl ho hf hj hfj with ap | bf
      · exact absurd ht (ap.d2 t hjd)
      · exact ⟨fun hq => absurd hq (behind j bf), fun hq => by omega⟩
  have ha : Agr (opNames (sg i) o.op ++ fw (sg i) o) τ (sg i) := fun t ht => h.bl t i (Nat.le_of_lt hlt) fun j f hfj htf => by
    obtain ⟨o', hj⟩ := oget j f hfj
    rcases Nat.lt_trichotomy j i with hl | hl | hl
    · rcases hr.sep j o' f i o _ hl hj hfj ho hf with ap | bf
      · rcases List.mem_append.1 ht with ht | ht
        · exact absurd ht (ap.w1 t htf)
        · exact absurd ht (ap.w2 t htf)
      · exact ⟨fun _ => hl, fun _ => ahead j bf⟩
    · subst hl; exact ⟨fun hq => absurd hq hi, fun hq => by omega⟩
    · rcases hr.sep i o _ j o' f hl ho hf hj hfj with ap | bf
      · rcases List.mem_append.1 ht with ht | ht
        · exact absurd ht (ap.w3 t htf)
        · exact absurd htf (ap.w2 t ht)
      · exact ⟨fun hq => absurd hq (behind j bf), fun hq => by omega⟩
  obtain ⟨q1, q2, q3⟩ := gstep_loc hg he ha
  refine ⟨_, q1, ?_, ?_⟩
  · intro t k hk hD
    by_cases hdt : o.dst = some t
    · have hik : i < k := (hD i o ho hdt).1 (.inl rfl)
      simp only [ovT, hdt, if_true]
      have := const_tm hr (t := t) (k := i + 1) (m := k - (i + 1)) (by omega) fun j o' h1 h2 hj hjd => by
        obtain ⟨f, hfj⟩ := fget j o' hj
        rcases hr.sep i o _ j o' f (by omega) ho hf hj hfj with ap | bf
        · exact ap.d3 t hdt hjd
        · rcases (hD j o' hj hjd).2 (by omega) with hq | hq
          · omega
          · exact behind j bf hq
      rw [show i + 1 + (k - (i + 1)) = k by omega] at this
      exact this.symm
    · simp only [ovT, hdt, if_false]
      refine h.tm t k hk fun j o' hj hjd => ?_
      have hji : j ≠ i := fun e => by subst e; rw [ho] at hj; simp at hj; subst hj; exact hdt hjd
      rw [← hD j o' hj hjd]
      exact ⟨fun hq => .inr hq, fun hq => hq.resolve_left hji⟩
  · intro t k hk hD
    by_cases hwt : t ∈ fw (sg i) o
    · have hik : i < k := (hD i _ hf hwt).1 (.inl rfl)
      simp only [ovT, over, hwt, if_true]
      have := const_bl hr (t := t) (k := i + 1) (m := k - (i + 1)) (by omega) fun j f h1 h2 hfj htf => by
        obtain ⟨o', hj⟩ := oget j f hfj
        rcases hr.sep i o _ j o' f (by omega) ho hf hj hfj with ap | bf
        · exact ap.w2 t hwt htf
        · rcases (hD j f hfj htf).2 (by omega) with hq | hq
          · omega
          · exact behind j bf hq
      rw [show i + 1 + (k - (i + 1)) = k by omega] at this
      exact ⟨fun g => (this.1 g).symm, this.2.symm⟩
    · simp only [ovT, over, hwt, if_false]
      refine h.bl t k hk fun j f hfj htf => ?_
      have hji : j ≠ i := fun e => by subst e; rw [hf] at hfj; simp at hfj; subst hfj; exact hwt htf
      rw [← hD j f hfj htf]
      exact ⟨fun hq => .inr hq, fun hq => hq.resolve_left hji⟩

theorem getD_set (L : Array Bool) (i j : Nat) (hi : i < L.size) : (L.setIfInBounds i true).getD j true = (decide (j = i) || L.getD j true) := by
  by_cases h : j = i
  · subst h; simp [hi]
  · rw [getD_set_ne true (Ne.symm h)]; simp [h]

theorem any_sound (hT : TOk P T) {sg : Nat → St} {fps : List (List Nat × List Nat)} (hr : Runs P T ops sg fps) (hd : dstOk N ops = true) (hQ : ∀ a w, Nx E N (fun X => X = sg ops.size) a w → Q .normal a w) :
    ∀ (fuel : Nat) (L : Array Bool) (τ : St) (A : Nat → Nat → Prop) (F : Nat → Nat → Value) (a : Act) (w : World), L.size = ops.size → ((List.range ops.size).filter fun i => !L.getD i true).length ≤ fuel →
      (∀ j o, ops[j]? = some o → L.getD j true = true → ∀ d ∈ dirs o, L.getD d true = true) → Agree ops sg fps (fun j => L.getD j true = true) τ → Inv E N τ A F a w →
      wpAny P .any ops Q fuel L a w := by
  intro fuel
  -- when nothing is ready, all is done
  have alldone : ∀ (L : Array Bool), L.size = ops.size → Region.ready .any ops L = [] → ∀ j, j < ops.size → L.getD j true = true := fun L hL hrd j => by
    induction j using Nat.strongRecOn with
    | _ j ih =>
      intro hj
      cases hq : L.getD j true with
      | true => rfl
      | false =>
        have ho : ops[j]? = some ops[j] := by simp [hj]
        have : j ∈ Region.ready .any ops L := mem_ready.2 ⟨hq, _, ho, fun e he hb => by
          have hd : e.on ∈ dirs ops[j] := List.mem_map.2 ⟨e, List.mem_filter.2 ⟨by simpa using he, hb⟩, rfl⟩
          have hlt := hr.dirs j _ ho _ hd
          have := ih e.on hlt (by omega)
          have hsz : e.on < L.size := by omega
          simpa [hsz] using this⟩
        rw [hrd] at this; simp at this
  have fin : ∀ (L : Array Bool) (τ : St) (A : Nat → Nat → Prop) (F : Nat → Nat → Value) (a : Act) (w : World), L.size = ops.size → Agree ops sg fps (fun j => L.getD j true = true) τ → Inv E N τ A F a w → Region.ready .any ops L = [] → Q .normal a w := fun L τ A F a w hL hag hI hrd => by
    have hall := alldone L hL hrd
    have : τ = sg ops.size := by
      apply St.ext'
      · intro t; exact hag.tm t _ (Nat.le_refl _) fun i o ho _ => ⟨fun _ => (Array.getElem?_eq_some_iff.1 ho).1, fun hq => hall i hq⟩
      · intro t g; exact (hag.bl t _ (Nat.le_refl _) fun i f hf _ => ⟨fun _ => by have := (List.getElem?_eq_some_iff.1 hf).1; rw [hr.len] at this; exact this, fun hq => hall i hq⟩).1 g
      · intro t; exact (hag.bl t _ (Nat.le_refl _) fun i f hf _ => ⟨fun _ => by have := (List.getElem?_eq_some_iff.1 hf).1; rw [hr.len] at this; exact this, fun hq => hall i hq⟩).2
    subst this
    exact hQ _ _ ⟨_, _, _, hI, rfl⟩
  induction fuel with
  | zero =>
    intro L τ A F a w hL hcnt hc hag hI
    have hrd : Region.ready .any ops L = [] := by
      cases hq : Region.ready .any ops L with
      | nil => rfl
      | cons x xs =>
        have hx : x ∈ Region.ready .any ops L := by rw [hq]; simp
        obtain ⟨h0, o, ho, _⟩ := mem_ready.1 hx
        have : x ∈ (List.range ops.size).filter fun i => !L.getD i true := by
          rw [List.mem_filter, List.mem_range]; exact ⟨(Array.getElem?_eq_some_iff.1 ho).1, by rw [h0]; rfl⟩
        have := List.length_pos_of_mem this
        omega
    exact ⟨hrd, fin L τ A F a w hL hag hI hrd⟩
  | succ fuel ih =>
    intro L τ A F a w hL hcnt hc hag hI
    refine ⟨fun hrd => fin L τ A F a w hL hag hI hrd, fun i hi => ?_⟩
    obtain ⟨h0, o, ho, hall⟩ := mem_ready.1 hi
    have hlt : i < ops.size := (Array.getElem?_eq_some_iff.1 ho).1
    have hds : ∀ d ∈ dirs o, L.getD d true = true := fun d hd => by
      obtain ⟨e, he, rfl⟩ := List.mem_map.1 hd
      obtain ⟨he1, he2⟩ := List.mem_filter.1 he
      have := hall e (by simpa using he1) he2
      have hsz : e.on < L.size := by have := hr.dirs i o ho _ hd; omega
      simpa [hsz] using this
    obtain ⟨τ', hg, hag'⟩ := hag.step hr hc ho (by rw [h0]; simp) hds
    refine gstep_sound hT hI ho hg (dstOk_spec hd ho) fun a' w' ⟨X, A', F', h', hX⟩ => ?_
    subst hX
    have hset := fun j => getD_set L i j (by omega)
    refine ih _ _ A' F' a' w' (by simpa using hL) ?_ (fun j o' hj hD d hdd => ?_) ?_ h'
    · have hsub : ((List.range ops.size).filter fun j => !(L.setIfInBounds i true).getD j true) = (((List.range ops.size).filter fun j => !L.getD j true).filter fun j => !decide (j = i)) := by
        rw [List.filter_filter]
        congr 1
        funext j
        rw [hset]
        cases decide (j = i) <;> simp
      rw [hsub]
      have hmem : i ∈ (List.range ops.size).filter fun j => !L.getD j true := by
        rw [List.mem_filter, List.mem_range]; exact ⟨hlt, by rw [h0]; rfl⟩
      have hne : ∀ l : List Nat, i ∈ l → (l.filter fun j => !decide (j = i)).length < l.length := fun l hl => by
        have h1 := List.length_filter_lt_length_iff_exists (p := fun j => !decide (j = i)) (l := l)
        exact h1.2 ⟨i, hl, by simp⟩
      have := hne _ hmem
      omega
    · rw [hset] at hD ⊢
      simp only [Bool.or_eq_true, decide_eq_true_eq] at hD ⊢
      rcases hD with rfl | hD
      · rw [ho] at hj; simp at hj; subst hj; exact .inr (hds d hdd)
      · exact .inr (hc j o' hj hD d hdd)
    · refine ⟨fun t k hk hD => hag'.tm t k hk fun j o' hj hjd => ?_, fun t k hk hD => hag'.bl t k hk fun j f hj hjd => ?_⟩
      · rw [← hD j o' hj hjd, hset]; simp
      · rw [← hD j f hj hjd, hset]; simp

theorem region_draw (hT : TOk P T) (hm : P.follows .mixedOrders = true) (hI : Inv E N S A F a w) (hd : dstOk N ops = true) {id : Nat} (hk : regW P T ops true S K) (hQ : ∀ a w, Nx E N K a w → Q .normal a w) : (Code.region id ops true).wp P Q a w := by
  obtain ⟨sg, fps, q1, q2, ⟨q3, q5⟩, q4⟩ := opsW_run (show opsW P T ops ops.toList S [] (fun acc S' => chk ops acc = true ∧ K S') from hk)
  have q4' : ∀ i o, ops[i]? = some o → gstep P T ops o (sg i) (sg (i + 1)) ∧ fps[i]? = some (opNames (sg i) o.op, fw (sg i) o) := fun i o h => q4 i o (by simpa using h)
  simp only [List.nil_append] at q3
  obtain ⟨r1, r2, r3⟩ := chkFrom_spec (ops := ops) q3 (fun i o h => by simpa using h) (by simp) rfl
  have hr : Runs P T ops sg fps := ⟨by simpa using q2, q4', fun i o h d hd => by have := r1 i o (by simpa using h) d hd; omega,
    fun i o f j o' f' hij h1 h2 h3 h4 => by have := r3 i o f j o' f' hij (by simpa using h1) h2 (by simpa using h3) h4; simpa using this⟩
  refine wp_region_any hm (any_sound hT hr hd (fun a w ⟨X, A, F, h, hX⟩ => hQ a w ⟨X, A, F, h, by rw [hX]; simpa using q5⟩) ops.size (Array.replicate ops.size false) S A F a _ (by simp) ?_ (fun j o ho hj => ?_) ⟨fun t k hk hD => ?_, fun t k hk hD => ?_⟩ (hI.sameHeap rfl rfl rfl rfl))
  · exact Nat.le_trans (List.length_filter_le _ _) (by simp)
  · have : j < ops.size := (Array.getElem?_eq_some_iff.1 ho).1
    simp [this] at hj
  · rw [← q1]
    have h0 := const_tm hr (t := t) (k := 0) (m := k) (by omega) fun i o h1 h2 ho hd => by
      have hlt : i < ops.size := (Array.getElem?_eq_some_iff.1 ho).1
      have := (hD i o ho hd).2 (by omega)
      simp [hlt] at this
    rw [Nat.zero_add] at h0
    exact h0.symm
  · rw [← q1]
    have h0 := const_bl hr (t := t) (k := 0) (m := k) (by omega) fun i f h1 h2 hf htf => by
      have hlt : i < ops.size := by have := (List.getElem?_eq_some_iff.1 hf).1; rw [hr.len] at this; exact this
      have := (hD i f hf htf).2 (by omega)
      simp [hlt] at this
    rw [Nat.zero_add] at h0
    exact ⟨fun g => (h0.1 g).symm, h0.2.symm⟩
end
end Go.Proofs.Ytablmbhnimnccaa.Pw
/- Pw, part 21: code, loops, functions. No condition. -/
namespace Go.Proofs.Ytablmbhnimnccaa.Pw

/-- From the state S the code c ends so that K holds. -/
def CW (P : Program) (N : Nat) (c : Code) (K : Exit → St → Prop) (S : St) : Prop :=
  ∀ E A F a w, Inv E N S A F a w → c.wp P (fun e => Nx E N (K e)) a w

def thenK (k : St → Prop) (K : Exit → St → Prop) : Exit → St → Prop
  | .normal => k
  | e => K e
def blkK (id : Nat) (K : Exit → St → Prop) : Exit → St → Prop
  | .exit id' => if id' = id then K .normal else K (.exit id')
  | e => K e

section
variable {P : Program} {T : Nat → Option TI} {N : Nat} {S : St} {K K' : Exit → St → Prop}

theorem CW.mono {c : Code} (h : CW P N c K S) (hk : ∀ e S, K e S → K' e S) : CW P N c K' S := fun E A F a w hI =>
  wp_mono (h E A F a w hI) fun e _ _ ⟨X, A', F', h1, h2⟩ => ⟨X, A', F', h1, hk e X h2⟩

theorem cw_skip (h : K .normal S) : CW P N .skip K S := fun _ A F _ _ hI => wp_skip ⟨S, A, F, hI, h⟩
theorem cw_ret (h : K .ret S) : CW P N .ret K S := fun _ A F _ _ hI => wp_ret ⟨S, A, F, hI, h⟩
theorem cw_exit {id : Nat} (h : K (.exit id) S) : CW P N (.exit id) K S := fun _ A F _ _ hI => wp_exit ⟨S, A, F, hI, h⟩
theorem cw_label {l : Nat} (h : K .normal S) : CW P N (.label l) K S := fun _ A F _ _ hI => wp_label ⟨S, A, F, hI, h⟩

theorem cw_seq {x y : Code} (h : CW P N x (thenK (CW P N y K) K) S) : CW P N (.seq x y) K S := fun E A F a w hI => by
  refine wp_seq (wp_mono (h E A F a w hI) fun e a w hx => ?_)
  cases e with
  | normal => obtain ⟨X, A', F', h1, h2⟩ := hx; exact h2 E A' F' a w h1
  | _ => exact hx

theorem cw_block {id : Nat} {c : Code} (h : CW P N c (blkK id K) S) : CW P N (.block id c) K S := fun E A F a w hI => by
  refine wp_block (wp_mono (h E A F a w hI) fun e a w hx => ?_)
  cases e with
  | exit id' =>
    simp only [Exit.inBlock]
    simp only [blkK] at hx
    split
    · rename_i hq; simpa [hq] using hx
    · rename_i hq; simpa [hq] using hx
  | _ => exact hx

theorem cw_cond {c : Operand} {x y : Code} {t : Bool} (hc : S.ev c = .p (.lit (.bool t))) (h1 : t = true → CW P N x K S) (h2 : t = false → CW P N y K S) : CW P N (.cond c x y) K S := fun E A F a w hI => by
  have he := hI.ev c
  rw [hc] at he
  cases he with
  | p _ _ he =>
    generalize hu : a.eval c = u at he
    cases he
    exact wp_cond_split hu (fun ht => h1 ht E A F a w hI) (fun ht => h2 ht E A F a w hI)

theorem cw_loop {c : Code} (I : St → Prop) (μ : St → Nat) (h0 : I S) (round : ∀ S, I S → CW P N c (thenK (fun S' => I S' ∧ μ S' < μ S) K) S) : CW P N (.loop c) K S := fun E A F a w hI => by
  intro b k cs
  have key : ∀ n S A F a w, Inv E N S A F a w → I S → μ S = n → ∃ e a' w', Nx E N (K e) a' w' ∧ Arrives P (lone (b.at a (.code c :: .inLoop c :: k)) cs w) b k cs e a' w' := by
    intro n
    induction n using Nat.strongRecOn with
    | _ n ih =>
      intro S A F a w hI hS hn
      obtain ⟨e, a₁, w₁, hq, harr⟩ := round S hS E A F a w hI b (.inLoop c :: k) cs
      cases e with
      | normal =>
        obtain ⟨X, A', F', h1, hIX, hlt⟩ := hq
        obtain ⟨e₂, a₂, w₂, hq₂, harr₂⟩ := ih (μ X) (hn ▸ hlt) X A' F' a₁ w₁ h1 hIX rfl
        exact ⟨e₂, a₂, w₂, hq₂, .of_steps (Steps.trans harr (.one step_inLoop)) harr₂⟩
      | exit id => exact ⟨_, a₁, w₁, hq, .pass (x := .inLoop c) rfl (fun _ _ => .inl (by simp)) harr⟩
      | goto l => exact ⟨_, a₁, w₁, hq, .pass (x := .inLoop c) rfl (fun _ _ => .inl (by simp)) harr⟩
      | ret => exact ⟨_, a₁, w₁, hq, .pass (x := .inLoop c) rfl (fun _ _ => .inl (by simp)) harr⟩
      | panic ch => exact ⟨_, a₁, w₁, hq, .pass (x := .inLoop c) rfl (fun _ _ => .inl (by simp)) harr⟩
      | outgrown => exact ⟨_, a₁, w₁, hq, .pass (x := .inLoop c) rfl (fun _ _ => .inl (by simp)) harr⟩
  obtain ⟨e, a', w', hq, harr⟩ := key _ S A F a w hI h0 rfl
  exact ⟨e, a', w', hq, .of_steps (.one step_loop) harr⟩

theorem cw_region {id : Nat} {ops : Array Oper} {draw : Bool} {k : St → Prop} (hT : TOk P T) (hm : draw = true → P.follows .mixedOrders = true) (hd : dstOk N ops = true) (h : regW P T ops draw S k) (hk : ∀ S, k S → K .normal S) :
    CW P N (.region id ops draw) K S := fun E A F a w hI => by
  cases draw with
  | false => exact region_text hT hI hd h fun a w ⟨X, A', F', h1, h2⟩ => ⟨X, A', F', h1, hk X h2⟩
  | true => exact region_draw hT (hm rfl) hI hd h fun a w ⟨X, A', F', h1, h2⟩ => ⟨X, A', F', h1, hk X h2⟩
end

def argTm (p : Nat) : TV → AV
  | .p x => .p x
  | .rf _ => .pt p 0 0
  | .ow _ _ xs _ => .os p 0 xs.length
  | _ => .un
def argBl : TV → Option Blk
  | .rf cs => some (.var (cs.map .p) false)
  | .ow E sz xs m => some (.arr E sz xs m)
  | _ => none
def isRf : TV → Bool
  | .rf _ => true
  | _ => false

/-- The state at a function's start. -/
def St.init (args : List TV) : St where
  tm := fun t => match args[t]? with | some x => argTm t x | none => .un
  bl := fun t g => if g = 0 then (args[t]?).bind argBl else none
  gen := fun t => if ((args[t]?).bind argBl).isSome then 1 else 0

def initF (us : List Value) : Nat → Nat → Value := fun t _ => us.getD t undef
def initE (args : List TV) (us : List Value) (rs : List Nat) (A : Nat → Nat → Prop) (w : World) : Entry :=
  { w, A, R := rs, par := fun p => match args[p]? with | some x => if isRf x then us[p]? else none | none => none }

section
variable {P : Program} {T : Nat → Option TI} {N : Nat} {A A' : Nat → Nat → Prop} {F : Nat → Nat → Value} {w w' : World} {args : List TV} {us : List Value} {rs : List Nat}

theorem RepTt.len (h : RepTt A w args us rs) : us.length = args.length := by
  induction args generalizing us rs with
  | nil => cases h; rfl
  | cons x xs ih => cases h with | cons _ u _ us r rs h hs => simp [ih hs]

theorem RepTt.at (h : RepTt A w args us rs) {i : Nat} {x : TV} (hx : args[i]? = some x) : ∃ u r, us[i]? = some u ∧ RepT A w x u r ∧ ∀ q ∈ r, q ∈ rs := by
  induction args generalizing us rs i with
  | nil => simp at hx
  | cons y xs ih =>
    cases h with
    | cons _ u _ us r rs h hs =>
      cases i with
      | zero => simp at hx; subst hx; exact ⟨u, r, by simp, h, fun q hq => List.mem_append_left _ hq⟩
      | succ i =>
        obtain ⟨u', r', h1, h2, h3⟩ := ih hs (by simpa using hx)
        exact ⟨u', r', by simpa using h1, h2, fun q hq => List.mem_append_right _ (h3 q hq)⟩

theorem RepT.blk {x : TV} {u : Value} {r0 : List Nat} (h : RepT A w x u r0) {b : Blk} (hb : argBl x = some b) {r : Nat} (hr : bOf u = some r) : r ∈ r0 := by
  cases h <;> simp only [argBl, reduceCtorEq] at hb
  · simp [bOf] at hr; simp [hr]
  · simp [hr]

theorem RepTt.inj (h : RepTt A w args us rs) (hn : rs.Nodup) {i j : Nat} {x y : TV} {b c : Blk} {u v : Value} {r : Nat} (hx : args[i]? = some x) (hy : args[j]? = some y) (hb : argBl x = some b) (hc : argBl y = some c)
    (hu : us[i]? = some u) (hv : us[j]? = some v) (hr : bOf u = some r) (hq : bOf v = some r) : i = j := by
  induction args generalizing us rs i j with
  | nil => simp at hx
  | cons z xs ih =>
    cases h with
    | cons _ u0 _ us r0 rs h hs =>
      rw [List.nodup_append] at hn
      have key : ∀ (k : Nat) (x' : TV) (b' : Blk) (u' : Value), xs[k]? = some x' → argBl x' = some b' → us[k]? = some u' → bOf u' = some r → ∃ q, q ∈ rs ∧ q = r := fun k x' b' u' h1 h2 h3 h4 => by
        obtain ⟨u2, r2, g1, g2, g3⟩ := hs.at h1
        rw [h3] at g1; simp at g1; subst g1
        exact ⟨r, g3 _ (g2.blk h2 h4), rfl⟩
      cases i with
      | zero =>
        cases j with
        | zero => rfl
        | succ j =>
          simp at hx hu; subst hx; subst hu
          obtain ⟨q, q1, q2⟩ := key j y c v (by simpa using hy) hc (by simpa using hv) hq
          exact absurd rfl (q2 ▸ hn.2.2 r (h.blk hb hr) q q1)
      | succ i =>
        cases j with
        | zero =>
          simp at hy hv; subst hy; subst hv
          obtain ⟨q, q1, q2⟩ := key i x b u (by simpa using hx) hb (by simpa using hu) hr
          exact absurd rfl (q2 ▸ hn.2.2 r (h.blk hc hq) q q1)
        | succ j => exact congrArg _ (ih hs hn.2.1 (by simpa using hx) (by simpa using hy) (by simpa using hu) (by simpa using hv))

theorem init_bl {t g : Nat} {b : Blk} (h : (St.init args).bl t g = some b) : g = 0 ∧ ∃ x, args[t]? = some x ∧ argBl x = some b := by
  simp only [St.init] at h
  split at h
  · rename_i h0
    cases hx : args[t]? with
    | none => simp [hx] at h
    | some x => simp [hx] at h; exact ⟨h0, x, rfl, h⟩
  · simp at h

theorem init_inv (h : RepTt A w args us rs) (hn : rs.Nodup) (hA : ∀ b o, A b o → b < w.heap.size) (hN : args.length ≤ N) :
    Inv (initE args us rs A w) N (St.init args) A (initF us) { tmps := us.toArray ++ Array.replicate (N - us.toArray.size) undef, defers := [] } w := by
  have hl := h.len
  have hF : ∀ {t : Nat} {x : TV}, args[t]? = some x → ∃ u r, us[t]? = some u ∧ initF us t 0 = u ∧ RepT A w x u r ∧ ∀ q ∈ r, q ∈ rs := fun {t x} hx => by
    obtain ⟨u, r, h1, h2, h3⟩ := h.at hx
    exact ⟨u, r, h1, by simp [initF, h1], h2, h3⟩
  refine { tmps := by simp; omega, defers := rfl, tm := fun t => ?_, lt := fun t g b hb => ?_, bl := fun t g b hb => ?_, inj := fun t g b t' g' b' r hb hb' hr hr' => ?_, Alt := hA, os := rfl, tape := rfl, output := rfl, size := Nat.le_refl _, old := fun _ _ _ => rfl, keeps := .refl _ _, Anew := fun _ _ h _ => .inl h, own := fun t g b r hb hr => ?_, pgen := fun p v hp => ?_, par := fun p v b hp hb _ => ?_ }
  · cases hx : args[t]? with
    | none =>
      have : (St.init args).tm t = .un := by simp [St.init, hx]
      rw [this]; exact .un _
    | some x =>
      obtain ⟨u, r, h1, h2, h3, h4⟩ := hF hx
      have ht : t < us.length := (List.getElem?_eq_some_iff.1 h1).1
      have hu : (us.toArray ++ Array.replicate (N - us.toArray.size) undef).getD t undef = u := by
        simp [Array.getD_eq_getD_getElem?, Array.getElem?_append, ht]
        rw [List.getElem?_eq_getElem ht] at h1; simpa using h1
      have htm : (St.init args).tm t = argTm t x := by simp [St.init, hx]
      show RepA A (initF us) (St.init args) w ((St.init args).tm t) ((us.toArray ++ Array.replicate (N - us.toArray.size) undef).getD t undef)
      rw [hu, htm]
      cases h3 with
      | p x _ h3 => exact .p _ _ h3
      | rf cs r us' T' hw hr hA' =>
        exact .pt _ _ _ _ (by simp [St.init, hx, argBl]) (fun b' hb _ => ⟨r, h2, rfl⟩) rfl
      | ow E0 sz xs m _ us' ho hr hs hm hA' =>
        refine .os _ _ _ _ (by simp [St.init, hx, argBl]) (fun E' sz' xs' m' hb => ?_) (ownsRow_one ho)
        obtain ⟨_, x', hx', hb'⟩ := init_bl hb
        rw [hx] at hx'; simp at hx'; subst hx'
        simp [argBl] at hb'
        obtain ⟨_, _, rfl, _⟩ := hb'
        exact ⟨Nat.le_refl _, fun _ => h2.symm⟩
      | ag => exact .un _
      | tu => exact .un _
  · obtain ⟨rfl, x, hx, hb⟩ := init_bl hb
    simp [St.init, hx, hb]
  · obtain ⟨rfl, x, hx, hb⟩ := init_bl hb
    obtain ⟨u, r, h1, h2, h3, h4⟩ := hF hx
    cases h3 with
    | p => simp [argBl] at hb
    | ag => simp [argBl] at hb
    | tu => simp [argBl] at hb
    | rf cs r us' T' hw hr hA' =>
      simp only [argBl, Option.some.injEq] at hb; subst hb
      exact ⟨r, us', T', h2, hw, RepAs.of_p hr, fun _ => hA', fun hq => by simp at hq⟩
    | ow E0 sz xs m _ us' ho hr hs hm hA' =>
      simp only [argBl, Option.some.injEq] at hb; subst hb
      exact ⟨us', by rw [h2]; exact ho, hr, hs, hm, fun r hr o ha => by rw [h2] at hr; exact hA' r hr o ha⟩
  · obtain ⟨rfl, x, hx, hb⟩ := init_bl hb
    obtain ⟨rfl, x', hx', hb'⟩ := init_bl hb'
    obtain ⟨u, r1, h1, h2, h3, h4⟩ := hF hx
    obtain ⟨u', r1', h1', h2', h3', h4'⟩ := hF hx'
    rw [h2] at hr; rw [h2'] at hr'
    exact ⟨h.inj hn hx hx' hb hb' h1 h1' hr hr', rfl⟩
  · obtain ⟨rfl, x, hx, hb⟩ := init_bl hb
    obtain ⟨u, r1, h1, h2, h3, h4⟩ := hF hx
    rw [h2] at hr
    exact .inr (h4 _ (h3.blk hb hr))
  · simp only [initE] at hp
    split at hp
    · rename_i x hx
      cases x <;> simp [isRf] at hp
      simp [St.init, hx, argBl]
    · simp at hp
  · simp only [initE] at hp
    split at hp
    · rename_i x hx
      obtain ⟨u, r1, h1, h2, h3, h4⟩ := hF hx
      split at hp
      · rw [h1] at hp; simp at hp; rw [h2, hp]
      · simp at hp
    · simp at hp

/-- What a function hands back, read off its last state. -/
def rvA (T : Nat → Option TI) (S : St) : List ResultVar → Option (List AV)
  | [] => some []
  | .tmp t :: r => (rvA T S r).map (S.tm t :: ·)
  | .cell a t :: r => match loadV T S t (S.tm a), rvA T S r with
    | some v, some vs => some (v :: vs)
    | _, _ => none

inductive PassRes : St → List AV → TV → St → Prop
  | one (S : St) (v : AV) (tv : TV) (S' : St) (l : List (Nat × Nat)) (h : PassV S v tv S' l) : PassRes S [v] tv S'
  | tu (S : St) (vs : List AV) (tvs : List TV) (S' : St) (l : List (Nat × Nat)) (hl : vs.length ≠ 1) (h : PassL S vs tvs S' l) : PassRes S vs (.tu tvs) S'

def outsOk (S : St) : List TV → Nat → List (List PV) → Prop
  | [], _, outs => outs = []
  | .rf _ :: as, p, o :: os => S.bl p 0 = some (.var (o.map .p) false) ∧ outsOk S as (p + 1) os
  | .rf _ :: _, _, [] => False
  | _ :: as, p, outs => outsOk S as (p + 1) outs

def FinOk (T : Nat → Option TI) (rv : List ResultVar) (args : List TV) (res : TV) (outs : List (List PV)) (S : St) : Prop :=
  ∃ vs S1, rvA T S rv = some vs ∧ PassRes S vs res S1 ∧ outsOk S1 args 0 outs

def finK (T : Nat → Option TI) (rv : List ResultVar) (args : List TV) (res : TV) (outs : List (List PV)) : Exit → St → Prop
  | .normal, S | .ret, S => FinOk T rv args res outs S
  | _, _ => False

def rvSem (tmps : Array Value) : ResultVar → Sem Value
  | .tmp t => pure (tmps.getD t undef)
  | .cell b t => do loadVar t (← asAddr (tmps.getD b undef))

theorem rvA_sound (hT : TOk P T) {E : Entry} {S : St} {a : Act} (hI : Inv E N S A F a w) : ∀ {rv : List ResultVar} {vs : List AV}, rvA T S rv = some vs →
    ∃ us : List Value, RepTu A F S w vs us ∧ (rv.mapM (rvSem a.tmps)).run P w = .ok us w := by
  intro rv
  induction rv with
  | nil => intro vs h; simp [rvA] at h; subst h; exact ⟨[], .nil, by simp⟩
  | cons x rv ih =>
    intro vs h
    cases x with
    | tmp t =>
      simp only [rvA, Option.map_eq_some_iff] at h
      obtain ⟨vs', h1, rfl⟩ := h
      obtain ⟨us, h2, h3⟩ := ih h1
      exact ⟨a.tmps.getD t undef :: us, .cons _ _ _ _ (hI.tm t) h2, by
        rw [List.mapM_cons]; simp only [Sem.run_bind, Sem.run_pure, rvSem, h3, Result.andThen_ok]⟩
    | cell b t =>
      simp only [rvA] at h
      split at h
      · rename_i v vs' h0 h1
        simp at h; subst h
        obtain ⟨us, h2, h3⟩ := ih h1
        obtain ⟨u, h4, h5⟩ := loadV_sound hT hI h0 (hI.tm b)
        refine ⟨u :: us, .cons _ _ _ _ h5 h2, ?_⟩
        have h6 : (do loadVar t (← asAddr (a.tmps.getD b undef)) : Sem Value).run P w = .ok u w := by
          generalize a.tmps.getD b undef = p at h4
          revert h4
          unfold Instr.loadAt Instr.sureAddr
          split
          · simp [asAddr]
          · simp [stuck]
        rw [List.mapM_cons]
        have h7 : (rvSem a.tmps (.cell b t)).run P w = .ok u w := h6
        simp only [Sem.run_bind, Sem.run_pure, h7, h3, Result.andThen_ok]
      · simp at h

theorem RepTu.len {S : St} {vs : List AV} {us : List Value} (h : RepTu A F S w vs us) : us.length = vs.length := by
  induction vs generalizing us with
  | nil => cases h; rfl
  | cons v vs ih => cases h with | cons _ u _ us _ h1 => simp [ih h1]

theorem results_sound (hT : TOk P T) {E : Entry} {S S1 : St} {a : Act} (hI : Inv E N S A F a w) {fn : Func} {vs : List AV} (hv : rvA T S fn.results.toList = some vs) {res : TV} (hp : PassRes S vs res S1) :
    ∃ u A' r l, (results fn a.tmps).run P w = .ok u w ∧ PassOk E N S A F a w S1 l A' r ∧ RepT A' w res u r ∧ r.Nodup := by
  obtain ⟨us, h1, h2⟩ := rvA_sound hT hI hv
  have hm : (fn.results.mapM (rvSem a.tmps)).run P w = .ok us.toArray w := by
    rw [Array.mapM_eq_mapM_toList, map_eq_pure_bind, Sem.run_bind, h2, Result.andThen_ok, Sem.run_pure]
  have hr : (results fn a.tmps).run P w = .ok (if h : us.toArray.size = 1 then us.toArray[0] else .tuple us.toArray) w := by
    have : results fn a.tmps = (do
        let vs ← fn.results.mapM (rvSem a.tmps)
        pure (if h : vs.size = 1 then vs[0] else .tuple vs)) := by
      unfold results
      rfl
    rw [this, Sem.run_bind, hm, Result.andThen_ok, Sem.run_pure]
  cases hp with
  | one v _ _ l hp =>
    cases h1 with
    | cons _ u _ us h1 hs =>
      cases hs
      obtain ⟨A', r, q1, q2, q3, _⟩ := hp.sound hI h1
      exact ⟨u, A', r, l, by rw [hr]; simp, q1, q2, q3⟩
  | tu _ tvs _ l hl hp =>
    obtain ⟨A', r, q1, q2, q3, _⟩ := hp.sound hI h1
    have hlen : us.length = vs.length := RepTu.len h1
    refine ⟨.tuple us.toArray, A', r, l, by rw [hr, dif_neg]; simp [hlen, hl], q1, .tu _ _ _ q2, q3⟩

theorem outs_sound {E : Entry} {S : St} {a : Act} {us0 : List Value} (hI : Inv E N S A F a w) : ∀ {args : List TV} {us : List Value} {p : Nat} {outs : List (List PV)}, us.length = args.length →
    (∀ i x v, args[i]? = some x → isRf x = true → us[i]? = some v → E.par (p + i) = some v) → outsOk S args p outs →
    ∃ r2, RepTt A w (outs.map .rf) (rfVals args us) r2 ∧ (∀ r ∈ r2, ∃ i b, S.bl (p + i) 0 = some b ∧ bOf (F (p + i) 0) = some r) ∧ r2.Nodup := by
  intro args
  induction args with
  | nil =>
    intro us p outs hl hpar ho
    simp [outsOk] at ho; subst ho
    exact ⟨[], by cases us <;> exact .nil, by simp, by simp⟩
  | cons x xs ih =>
    intro us p outs hl hpar ho
    cases us with
    | nil => simp at hl
    | cons u us =>
      have hpar' : ∀ i x v, xs[i]? = some x → isRf x = true → us[i]? = some v → E.par (p + 1 + i) = some v := fun i x v h1 h2 h3 => by
        rw [Nat.add_assoc, Nat.add_comm 1 i]; exact hpar (i + 1) x v (by simpa using h1) h2 (by simpa using h3)
      have other : (∀ cs, x ≠ .rf cs) → outsOk S xs (p + 1) outs → ∃ r2, RepTt A w (outs.map .rf) (rfVals (x :: xs) (u :: us)) r2 ∧ (∀ r ∈ r2, ∃ i b, S.bl (p + i) 0 = some b ∧ bOf (F (p + i) 0) = some r) ∧ r2.Nodup := fun hx ho => by
        obtain ⟨r2, h1, h2, h3⟩ := ih (by simpa using hl) hpar' ho
        refine ⟨r2, ?_, fun r hr => ?_, h3⟩
        · have : rfVals (x :: xs) (u :: us) = rfVals xs us := by cases x <;> first | rfl | exact absurd rfl (hx _)
          rw [this]; exact h1
        · obtain ⟨i, b, q1, q2⟩ := h2 r hr
          exact ⟨1 + i, b, by rw [← Nat.add_assoc]; exact q1, by rw [← Nat.add_assoc]; exact q2⟩
      cases x with
      | rf cs =>
        cases outs with
        | nil => simp [outsOk] at ho
        | cons o os =>
          obtain ⟨hb, ho⟩ := ho
          obtain ⟨r2, h1, h2, h3⟩ := ih (by simpa using hl) hpar' ho
          obtain ⟨r, us', T', hF, hw, hr, hs1, _⟩ := hI.bl _ _ _ hb
          have hpu := hI.par p u _ (hpar 0 (.rf cs) u (by simp) rfl (by simp)) hb rfl
          rw [hpu] at hF
          refine ⟨r :: r2, ?_, fun q hq => ?_, ?_⟩
          · show RepTt A w (.rf o :: os.map .rf) (u :: rfVals xs us) ([r] ++ r2)
            refine .cons _ _ _ _ _ _ ?_ h1
            rw [hF]
            exact .rf _ _ us' T' hw hr.to_p (hs1 rfl)
          · rcases List.mem_cons.1 hq with rfl | hq
            · exact ⟨0, _, hb, by rw [Nat.add_zero, hpu, hF]; rfl⟩
            · obtain ⟨i, b, q1, q2⟩ := h2 q hq
              exact ⟨1 + i, b, by rw [← Nat.add_assoc]; exact q1, by rw [← Nat.add_assoc]; exact q2⟩
          · rw [List.nodup_cons]
            refine ⟨fun hq => ?_, h3⟩
            obtain ⟨i, b, q1, q2⟩ := h2 r hq
            have := (hI.inj _ _ _ _ _ _ r hb q1 (by rw [hpu, hF]; rfl) q2).1
            omega
      | p x => exact other (by simp) ho
      | ow E0 sz ys m => exact other (by simp) ho
      | ag c => exact other (by simp) ho
      | tu c => exact other (by simp) ho

/-- A function does what its body shows. -/
theorem fn_intro (hT : TOk P T) {f : FuncId} {fn : Func} {c : Code} {args : List TV} {res : TV} {outs : List (List PV)} (hf : P.funcs[f]? = some fn) (hb : fn.body = some c)
    (hn : (fn.name == "runtime.NumGoroutine") = false) (hN : args.length ≤ fn.ntmps) (h : CW P fn.ntmps c (finK T fn.results.toList args res outs) (St.init args)) : Fn P f args res outs := by
  refine ⟨⟨fn, hf, by rw [hb]; rfl, hn⟩, fun A w us rs ha hnd hA => ?_⟩
  refine calls_of_wp hf hb (wp_mono (h _ A _ _ w (init_inv ha hnd hA hN)) fun e a w' ⟨S, A1, F, hI, hK⟩ => ?_)
  have main : FinOk T fn.results.toList args res outs S → a.defers = [] ∧ ∃ v, (results fn a.tmps).run P w' = .ok v w' ∧
      ∃ u A' r1 r2, Ending.returned v = .returned u ∧ RepT A' w' res u r1 ∧ RepTt A' w' (outs.map .rf) (rfVals args us) r2 ∧ After A w rs A' w' (r1 ++ r2) := fun ⟨vs, S1, h1, h2, h3⟩ => by
    obtain ⟨u, A', r1, l, q1, p, q2, q3⟩ := results_sound hT hI h1 h2
    obtain ⟨r2, o1, o2, o3⟩ := outs_sound (us0 := us) p.inv (args := args) (us := us) (p := 0) ha.len (fun i x v g1 g2 g3 => by
      simp [initE, g1, g2, g3]) h3
    have live2 : ∀ r ∈ r2, Live S1 F r := fun r hr => by
      obtain ⟨i, b, g1, g2⟩ := o2 r hr
      exact ⟨_, _, b, g1, g2⟩
    refine ⟨hI.defers, u, q1, u, A', r1, r2, rfl, q2, o1, ?_⟩
    have i1 := p.inv
    refine ⟨?_, fun r hr => ?_, i1.Alt, i1.Anew, i1.keeps, i1.os, i1.tape, i1.output, i1.size, i1.old⟩
    · rw [List.nodup_append]
      exact ⟨q3, o3, fun r g1 r' g2 e => by subst e; exact p.gone r g1 (live2 r g2)⟩
    · have : Live S F r := by
        rcases List.mem_append.1 hr with g | g
        · exact p.was r g
        · exact p.live r (live2 r g)
      obtain ⟨t, g, b, g1, g2⟩ := this
      exact hI.own t g b r g1 g2
  cases e with
  | normal => exact main hK
  | ret => exact main hK
  | _ => exact hK.elim
end
end Go.Proofs.Ytablmbhnimnccaa.Pw
