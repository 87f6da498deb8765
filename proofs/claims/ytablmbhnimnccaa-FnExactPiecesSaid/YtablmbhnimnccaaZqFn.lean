/- Pw, part 21: code, loops, functions. No condition. -/
import Derived.Test.YtablmbhnimnccaaZqOrd
namespace Go.Proofs.Ytablmbhnimnccaa.Pw

/-- From the state S the code c ends so that K holds. -/
def CW (P : Program) (N : Nat) (c : Code) (K : Exit → St → Prop) (S : St) : Prop :=
  ∀ E A F a w, Inv E N S A F a w → c.wp P (fun e => Nx E N (K e)) a w

def thenK (k : St → Prop) (K : Exit → St → Prop) : Exit → St → Prop
  | .normal => k
  | e => K e
def blkK (id : Nat) (K : Exit → St → Prop) : Exit → St → Prop
  | .exit id' => if id' = id then K .normal else K (.exit id')
  | e => K e

section
variable {P : Program} {T : Nat → Option TI} {N : Nat} {S : St} {K K' : Exit → St → Prop}

theorem CW.mono {c : Code} (h : CW P N c K S) (hk : ∀ e S, K e S → K' e S) : CW P N c K' S := fun E A F a w hI =>
  wp_mono (h E A F a w hI) fun e _ _ ⟨X, A', F', h1, h2⟩ => ⟨X, A', F', h1, hk e X h2⟩

theorem cw_skip (h : K .normal S) : CW P N .skip K S := fun _ A F _ _ hI => wp_skip ⟨S, A, F, hI, h⟩
theorem cw_ret (h : K .ret S) : CW P N .ret K S := fun _ A F _ _ hI => wp_ret ⟨S, A, F, hI, h⟩
theorem cw_exit {id : Nat} (h : K (.exit id) S) : CW P N (.exit id) K S := fun _ A F _ _ hI => wp_exit ⟨S, A, F, hI, h⟩
theorem cw_label {l : Nat} (h : K .normal S) : CW P N (.label l) K S := fun _ A F _ _ hI => wp_label ⟨S, A, F, hI, h⟩

theorem cw_seq {x y : Code} (h : CW P N x (thenK (CW P N y K) K) S) : CW P N (.seq x y) K S := fun E A F a w hI => by
  refine wp_seq (wp_mono (h E A F a w hI) fun e a w hx => ?_)
  cases e with
  | normal => obtain ⟨X, A', F', h1, h2⟩ := hx; exact h2 E A' F' a w h1
  | _ => exact hx

theorem cw_block {id : Nat} {c : Code} (h : CW P N c (blkK id K) S) : CW P N (.block id c) K S := fun E A F a w hI => by
  refine wp_block (wp_mono (h E A F a w hI) fun e a w hx => ?_)
  cases e with
  | exit id' =>
    simp only [Exit.inBlock]
    simp only [blkK] at hx
    split
    · rename_i hq; simpa [hq] using hx
    · rename_i hq; simpa [hq] using hx
  | _ => exact hx

theorem cw_cond {c : Operand} {x y : Code} {t : Bool} (hc : S.ev c = .p (.lit (.bool t))) (h1 : t = true → CW P N x K S) (h2 : t = false → CW P N y K S) : CW P N (.cond c x y) K S := fun E A F a w hI => by
  have he := hI.ev c
  rw [hc] at he
  cases he with
  | p _ _ he =>
    generalize hu : a.eval c = u at he
    cases he
    exact wp_cond_split hu (fun ht => h1 ht E A F a w hI) (fun ht => h2 ht E A F a w hI)

theorem cw_loop {c : Code} (I : St → Prop) (μ : St → Nat) (h0 : I S) (round : ∀ S, I S → CW P N c (thenK (fun S' => I S' ∧ μ S' < μ S) K) S) : CW P N (.loop c) K S := fun E A F a w hI => by
  intro b k cs
  have key : ∀ n S A F a w, Inv E N S A F a w → I S → μ S = n → ∃ e a' w', Nx E N (K e) a' w' ∧ Arrives P (lone (b.at a (.code c :: .inLoop c :: k)) cs w) b k cs e a' w' := by
    intro n
    induction n using Nat.strongRecOn with
    | _ n ih =>
      intro S A F a w hI hS hn
      obtain ⟨e, a₁, w₁, hq, harr⟩ := round S hS E A F a w hI b (.inLoop c :: k) cs
      cases e with
      | normal =>
        obtain ⟨X, A', F', h1, hIX, hlt⟩ := hq
        obtain ⟨e₂, a₂, w₂, hq₂, harr₂⟩ := ih (μ X) (hn ▸ hlt) X A' F' a₁ w₁ h1 hIX rfl
        exact ⟨e₂, a₂, w₂, hq₂, .of_steps (Steps.trans harr (.one step_inLoop)) harr₂⟩
      | exit id => exact ⟨_, a₁, w₁, hq, .pass (x := .inLoop c) rfl (fun _ _ => .inl (by simp)) harr⟩
      | goto l => exact ⟨_, a₁, w₁, hq, .pass (x := .inLoop c) rfl (fun _ _ => .inl (by simp)) harr⟩
      | ret => exact ⟨_, a₁, w₁, hq, .pass (x := .inLoop c) rfl (fun _ _ => .inl (by simp)) harr⟩
      | panic ch => exact ⟨_, a₁, w₁, hq, .pass (x := .inLoop c) rfl (fun _ _ => .inl (by simp)) harr⟩
      | outgrown => exact ⟨_, a₁, w₁, hq, .pass (x := .inLoop c) rfl (fun _ _ => .inl (by simp)) harr⟩
  obtain ⟨e, a', w', hq, harr⟩ := key _ S A F a w hI h0 rfl
  exact ⟨e, a', w', hq, .of_steps (.one step_loop) harr⟩

theorem cw_region {id : Nat} {ops : Array Oper} {draw : Bool} {k : St → Prop} (hT : TOk P T) (hm : draw = true → P.follows .mixedOrders = true) (hd : dstOk N ops = true) (h : regW P T ops draw S k) (hk : ∀ S, k S → K .normal S) :
    CW P N (.region id ops draw) K S := fun E A F a w hI => by
  cases draw with
  | false => exact region_text hT hI hd h fun a w ⟨X, A', F', h1, h2⟩ => ⟨X, A', F', h1, hk X h2⟩
  | true => exact region_draw hT (hm rfl) hI hd h fun a w ⟨X, A', F', h1, h2⟩ => ⟨X, A', F', h1, hk X h2⟩
end

def argTm (p : Nat) : TV → AV
  | .p x => .p x
  | .rf _ => .pt p 0 0
  | .ow _ _ xs _ => .os p 0 xs.length
  | _ => .un
def argBl : TV → Option Blk
  | .rf cs => some (.var (cs.map .p) false)
  | .ow E sz xs m => some (.arr E sz xs m)
  | _ => none
def isRf : TV → Bool
  | .rf _ => true
  | _ => false

/-- The state at a function's start. -/
def St.init (args : List TV) : St where
  tm := fun t => match args[t]? with | some x => argTm t x | none => .un
  bl := fun t g => if g = 0 then (args[t]?).bind argBl else none
  gen := fun t => if ((args[t]?).bind argBl).isSome then 1 else 0

def initF (us : List Value) : Nat → Nat → Value := fun t _ => us.getD t undef
def initE (args : List TV) (us : List Value) (rs : List Nat) (A : Nat → Nat → Prop) (w : World) : Entry :=
  { w, A, R := rs, par := fun p => match args[p]? with | some x => if isRf x then us[p]? else none | none => none }

section
variable {P : Program} {T : Nat → Option TI} {N : Nat} {A A' : Nat → Nat → Prop} {F : Nat → Nat → Value} {w w' : World} {args : List TV} {us : List Value} {rs : List Nat}

theorem RepTt.len (h : RepTt A w args us rs) : us.length = args.length := by
  induction args generalizing us rs with
  | nil => cases h; rfl
  | cons x xs ih => cases h with | cons _ u _ us r rs h hs => simp [ih hs]

theorem RepTt.at (h : RepTt A w args us rs) {i : Nat} {x : TV} (hx : args[i]? = some x) : ∃ u r, us[i]? = some u ∧ RepT A w x u r ∧ ∀ q ∈ r, q ∈ rs := by
  induction args generalizing us rs i with
  | nil => simp at hx
  | cons y xs ih =>
    cases h with
    | cons _ u _ us r rs h hs =>
      cases i with
      | zero => simp at hx; subst hx; exact ⟨u, r, by simp, h, fun q hq => List.mem_append_left _ hq⟩
      | succ i =>
        obtain ⟨u', r', h1, h2, h3⟩ := ih hs (by simpa using hx)
        exact ⟨u', r', by simpa using h1, h2, fun q hq => List.mem_append_right _ (h3 q hq)⟩

theorem RepT.blk {x : TV} {u : Value} {r0 : List Nat} (h : RepT A w x u r0) {b : Blk} (hb : argBl x = some b) {r : Nat} (hr : bOf u = some r) : r ∈ r0 := by
  cases h <;> simp only [argBl, reduceCtorEq] at hb
  · simp [bOf] at hr; simp [hr]
  · simp [hr]

theorem RepTt.inj (h : RepTt A w args us rs) (hn : rs.Nodup) {i j : Nat} {x y : TV} {b c : Blk} {u v : Value} {r : Nat} (hx : args[i]? = some x) (hy : args[j]? = some y) (hb : argBl x = some b) (hc : argBl y = some c)
    (hu : us[i]? = some u) (hv : us[j]? = some v) (hr : bOf u = some r) (hq : bOf v = some r) : i = j := by
  induction args generalizing us rs i j with
  | nil => simp at hx
  | cons z xs ih =>
    cases h with
    | cons _ u0 _ us r0 rs h hs =>
      rw [List.nodup_append] at hn
      have key : ∀ (k : Nat) (x' : TV) (b' : Blk) (u' : Value), xs[k]? = some x' → argBl x' = some b' → us[k]? = some u' → bOf u' = some r → ∃ q, q ∈ rs ∧ q = r := fun k x' b' u' h1 h2 h3 h4 => by
        obtain ⟨u2, r2, g1, g2, g3⟩ := hs.at h1
        rw [h3] at g1; simp at g1; subst g1
        exact ⟨r, g3 _ (g2.blk h2 h4), rfl⟩
      cases i with
      | zero =>
        cases j with
        | zero => rfl
        | succ j =>
          simp at hx hu; subst hx; subst hu
          obtain ⟨q, q1, q2⟩ := key j y c v (by simpa using hy) hc (by simpa using hv) hq
          exact absurd rfl (q2 ▸ hn.2.2 r (h.blk hb hr) q q1)
      | succ i =>
        cases j with
        | zero =>
          simp at hy hv; subst hy; subst hv
          obtain ⟨q, q1, q2⟩ := key i x b u (by simpa using hx) hb (by simpa using hu) hr
          exact absurd rfl (q2 ▸ hn.2.2 r (h.blk hc hq) q q1)
        | succ j => exact congrArg _ (ih hs hn.2.1 (by simpa using hx) (by simpa using hy) (by simpa using hu) (by simpa using hv))

theorem init_bl {t g : Nat} {b : Blk} (h : (St.init args).bl t g = some b) : g = 0 ∧ ∃ x, args[t]? = some x ∧ argBl x = some b := by
  simp only [St.init] at h
  split at h
  · rename_i h0
    cases hx : args[t]? with
    | none => simp [hx] at h
    | some x => simp [hx] at h; exact ⟨h0, x, rfl, h⟩
  · simp at h

theorem init_inv (h : RepTt A w args us rs) (hn : rs.Nodup) (hA : ∀ b o, A b o → b < w.heap.size) (hN : args.length ≤ N) :
    Inv (initE args us rs A w) N (St.init args) A (initF us) { tmps := us.toArray ++ Array.replicate (N - us.toArray.size) undef, defers := [] } w := by
  have hl := h.len
  have hF : ∀ {t : Nat} {x : TV}, args[t]? = some x → ∃ u r, us[t]? = some u ∧ initF us t 0 = u ∧ RepT A w x u r ∧ ∀ q ∈ r, q ∈ rs := fun {t x} hx => by
    obtain ⟨u, r, h1, h2, h3⟩ := h.at hx
    exact ⟨u, r, h1, by simp [initF, h1], h2, h3⟩
  refine { tmps := by simp; omega, defers := rfl, tm := fun t => ?_, lt := fun t g b hb => ?_, bl := fun t g b hb => ?_, inj := fun t g b t' g' b' r hb hb' hr hr' => ?_, Alt := hA, os := rfl, tape := rfl, output := rfl, size := Nat.le_refl _, old := fun _ _ _ => rfl, keeps := .refl _ _, Anew := fun _ _ h _ => .inl h, own := fun t g b r hb hr => ?_, pgen := fun p v hp => ?_, par := fun p v cs sd hp hb => ?_ }
  · cases hx : args[t]? with
    | none =>
      have : (St.init args).tm t = .un := by simp [St.init, hx]
      rw [this]; exact .un _
    | some x =>
      obtain ⟨u, r, h1, h2, h3, h4⟩ := hF hx
      have ht : t < us.length := (List.getElem?_eq_some_iff.1 h1).1
      have hu : (us.toArray ++ Array.replicate (N - us.toArray.size) undef).getD t undef = u := by
        simp [Array.getD_eq_getD_getElem?, Array.getElem?_append, ht]
        rw [List.getElem?_eq_getElem ht] at h1; simpa using h1
      have htm : (St.init args).tm t = argTm t x := by simp [St.init, hx]
      show RepA A (initF us) (St.init args) w ((St.init args).tm t) ((us.toArray ++ Array.replicate (N - us.toArray.size) undef).getD t undef)
      rw [hu, htm]
      cases h3 with
      | p x _ h3 => exact .p _ _ h3
      | rf cs r us' T' hw hr hA' =>
        exact .pt _ _ _ _ (by simp [St.init, hx, argBl]) (fun cs' sd' hb => ⟨r, h2, rfl⟩) rfl
      | ow E0 sz xs m _ us' ho hr hs hm hA' =>
        refine .os _ _ _ _ (by simp [St.init, hx, argBl]) (fun E' sz' xs' m' hb => ?_) (ownsRow_one ho)
        obtain ⟨_, x', hx', hb'⟩ := init_bl hb
        rw [hx] at hx'; simp at hx'; subst hx'
        simp [argBl] at hb'
        obtain ⟨_, _, rfl, _⟩ := hb'
        exact ⟨Nat.le_refl _, fun _ => h2.symm⟩
      | ag => exact .un _
      | tu => exact .un _
  · obtain ⟨rfl, x, hx, hb⟩ := init_bl hb
    simp [St.init, hx, hb]
  · obtain ⟨rfl, x, hx, hb⟩ := init_bl hb
    obtain ⟨u, r, h1, h2, h3, h4⟩ := hF hx
    cases h3 with
    | p => simp [argBl] at hb
    | ag => simp [argBl] at hb
    | tu => simp [argBl] at hb
    | rf cs r us' T' hw hr hA' =>
      simp only [argBl, Option.some.injEq] at hb; subst hb
      exact ⟨r, us', T', h2, hw, RepAs.of_p hr, fun _ => hA', fun hq => by simp at hq⟩
    | ow E0 sz xs m _ us' ho hr hs hm hA' =>
      simp only [argBl, Option.some.injEq] at hb; subst hb
      exact ⟨us', by rw [h2]; exact ho, hr, hs, hm, fun r hr o ha => by rw [h2] at hr; exact hA' r hr o ha⟩
  · obtain ⟨rfl, x, hx, hb⟩ := init_bl hb
    obtain ⟨rfl, x', hx', hb'⟩ := init_bl hb'
    obtain ⟨u, r1, h1, h2, h3, h4⟩ := hF hx
    obtain ⟨u', r1', h1', h2', h3', h4'⟩ := hF hx'
    rw [h2] at hr; rw [h2'] at hr'
    exact ⟨h.inj hn hx hx' hb hb' h1 h1' hr hr', rfl⟩
  · obtain ⟨rfl, x, hx, hb⟩ := init_bl hb
    obtain ⟨u, r1, h1, h2, h3, h4⟩ := hF hx
    rw [h2] at hr
    exact .inr (h4 _ (h3.blk hb hr))
  · simp only [initE] at hp
    split at hp
    · rename_i x hx
      cases x <;> simp [isRf] at hp
      simp [St.init, hx, argBl]
    · simp at hp
  · simp only [initE] at hp
    split at hp
    · rename_i x hx
      obtain ⟨u, r1, h1, h2, h3, h4⟩ := hF hx
      split at hp
      · rw [h1] at hp; simp at hp; rw [h2, hp]
      · simp at hp
    · simp at hp

/-- What a function hands back, read off its last state. -/
def rvA (T : Nat → Option TI) (S : St) : List ResultVar → Option (List AV)
  | [] => some []
  | .tmp t :: r => (rvA T S r).map (S.tm t :: ·)
  | .cell a t :: r => match loadV T S t (S.tm a), rvA T S r with
    | some v, some vs => some (v :: vs)
    | _, _ => none

inductive PassRes : St → List AV → TV → St → Prop
  | one (S : St) (v : AV) (tv : TV) (S' : St) (l : List (Nat × Nat)) (h : PassV S v tv S' l) : PassRes S [v] tv S'
  | tu (S : St) (vs : List AV) (tvs : List TV) (S' : St) (l : List (Nat × Nat)) (hl : vs.length ≠ 1) (h : PassL S vs tvs S' l) : PassRes S vs (.tu tvs) S'

def outsOk (S : St) : List TV → Nat → List (List PV) → Prop
  | [], _, outs => outs = []
  | .rf _ :: as, p, o :: os => S.bl p 0 = some (.var (o.map .p) false) ∧ outsOk S as (p + 1) os
  | .rf _ :: _, _, [] => False
  | _ :: as, p, outs => outsOk S as (p + 1) outs

def FinOk (T : Nat → Option TI) (rv : List ResultVar) (args : List TV) (res : TV) (outs : List (List PV)) (S : St) : Prop :=
  ∃ vs S1, rvA T S rv = some vs ∧ PassRes S vs res S1 ∧ outsOk S1 args 0 outs

def finK (T : Nat → Option TI) (rv : List ResultVar) (args : List TV) (res : TV) (outs : List (List PV)) : Exit → St → Prop
  | .normal, S | .ret, S => FinOk T rv args res outs S
  | _, _ => False

def rvSem (tmps : Array Value) : ResultVar → Sem Value
  | .tmp t => pure (tmps.getD t undef)
  | .cell b t => do loadVar t (← asAddr (tmps.getD b undef))

theorem rvA_sound (hT : TOk P T) {E : Entry} {S : St} {a : Act} (hI : Inv E N S A F a w) : ∀ {rv : List ResultVar} {vs : List AV}, rvA T S rv = some vs →
    ∃ us : List Value, RepTu A F S w vs us ∧ (rv.mapM (rvSem a.tmps)).run P w = .ok us w := by
  intro rv
  induction rv with
  | nil => intro vs h; simp [rvA] at h; subst h; exact ⟨[], .nil, by simp⟩
  | cons x rv ih =>
    intro vs h
    cases x with
    | tmp t =>
      simp only [rvA, Option.map_eq_some_iff] at h
      obtain ⟨vs', h1, rfl⟩ := h
      obtain ⟨us, h2, h3⟩ := ih h1
      exact ⟨a.tmps.getD t undef :: us, .cons _ _ _ _ (hI.tm t) h2, by
        rw [List.mapM_cons]; simp only [Sem.run_bind, Sem.run_pure, rvSem, h3, Result.andThen_ok]⟩
    | cell b t =>
      simp only [rvA] at h
      split at h
      · rename_i v vs' h0 h1
        simp at h; subst h
        obtain ⟨us, h2, h3⟩ := ih h1
        obtain ⟨u, h4, h5⟩ := loadV_sound hT hI h0 (hI.tm b)
        refine ⟨u :: us, .cons _ _ _ _ h5 h2, ?_⟩
        have h6 : (do loadVar t (← asAddr (a.tmps.getD b undef)) : Sem Value).run P w = .ok u w := by
          generalize a.tmps.getD b undef = p at h4
          revert h4
          unfold Instr.loadAt Instr.sureAddr
          split
          · simp [asAddr]
          · simp [stuck]
        rw [List.mapM_cons]
        have h7 : (rvSem a.tmps (.cell b t)).run P w = .ok u w := h6
        simp only [Sem.run_bind, Sem.run_pure, h7, h3, Result.andThen_ok]
      · simp at h

theorem RepTu.len {S : St} {vs : List AV} {us : List Value} (h : RepTu A F S w vs us) : us.length = vs.length := by
  induction vs generalizing us with
  | nil => cases h; rfl
  | cons v vs ih => cases h with | cons _ u _ us _ h1 => simp [ih h1]

theorem results_sound (hT : TOk P T) {E : Entry} {S S1 : St} {a : Act} (hI : Inv E N S A F a w) {fn : Func} {vs : List AV} (hv : rvA T S fn.results.toList = some vs) {res : TV} (hp : PassRes S vs res S1) :
    ∃ u A' r l, (results fn a.tmps).run P w = .ok u w ∧ PassOk E N S A F a w S1 l A' r ∧ RepT A' w res u r ∧ r.Nodup := by
  obtain ⟨us, h1, h2⟩ := rvA_sound hT hI hv
  have hm : (fn.results.mapM (rvSem a.tmps)).run P w = .ok us.toArray w := by
    rw [Array.mapM_eq_mapM_toList, map_eq_pure_bind, Sem.run_bind, h2, Result.andThen_ok, Sem.run_pure]
  have hr : (results fn a.tmps).run P w = .ok (if h : us.toArray.size = 1 then us.toArray[0] else .tuple us.toArray) w := by
    have : results fn a.tmps = (do
        let vs ← fn.results.mapM (rvSem a.tmps)
        pure (if h : vs.size = 1 then vs[0] else .tuple vs)) := by
      unfold results
      rfl
    rw [this, Sem.run_bind, hm, Result.andThen_ok, Sem.run_pure]
  cases hp with
  | one v _ _ l hp =>
    cases h1 with
    | cons _ u _ us h1 hs =>
      cases hs
      obtain ⟨A', r, q1, q2, q3, _⟩ := hp.sound hI h1
      exact ⟨u, A', r, l, by rw [hr]; simp, q1, q2, q3⟩
  | tu _ tvs _ l hl hp =>
    obtain ⟨A', r, q1, q2, q3, _⟩ := hp.sound hI h1
    have hlen : us.length = vs.length := RepTu.len h1
    refine ⟨.tuple us.toArray, A', r, l, by rw [hr, dif_neg]; simp [hlen, hl], q1, .tu _ _ _ q2, q3⟩

theorem outs_sound {E : Entry} {S : St} {a : Act} {us0 : List Value} (hI : Inv E N S A F a w) : ∀ {args : List TV} {us : List Value} {p : Nat} {outs : List (List PV)}, us.length = args.length →
    (∀ i x v, args[i]? = some x → isRf x = true → us[i]? = some v → E.par (p + i) = some v) → outsOk S args p outs →
    ∃ r2, RepTt A w (outs.map .rf) (rfVals args us) r2 ∧ (∀ r ∈ r2, ∃ i b, S.bl (p + i) 0 = some b ∧ bOf (F (p + i) 0) = some r) ∧ r2.Nodup := by
  intro args
  induction args with
  | nil =>
    intro us p outs hl hpar ho
    simp [outsOk] at ho; subst ho
    exact ⟨[], by cases us <;> exact .nil, by simp, by simp⟩
  | cons x xs ih =>
    intro us p outs hl hpar ho
    cases us with
    | nil => simp at hl
    | cons u us =>
      have hpar' : ∀ i x v, xs[i]? = some x → isRf x = true → us[i]? = some v → E.par (p + 1 + i) = some v := fun i x v h1 h2 h3 => by
        rw [Nat.add_assoc, Nat.add_comm 1 i]; exact hpar (i + 1) x v (by simpa using h1) h2 (by simpa using h3)
      have other : (∀ cs, x ≠ .rf cs) → outsOk S xs (p + 1) outs → ∃ r2, RepTt A w (outs.map .rf) (rfVals (x :: xs) (u :: us)) r2 ∧ (∀ r ∈ r2, ∃ i b, S.bl (p + i) 0 = some b ∧ bOf (F (p + i) 0) = some r) ∧ r2.Nodup := fun hx ho => by
        obtain ⟨r2, h1, h2, h3⟩ := ih (by simpa using hl) hpar' ho
        refine ⟨r2, ?_, fun r hr => ?_, h3⟩
        · have : rfVals (x :: xs) (u :: us) = rfVals xs us := by cases x <;> first | rfl | exact absurd rfl (hx _)
          rw [this]; exact h1
        · obtain ⟨i, b, q1, q2⟩ := h2 r hr
          exact ⟨1 + i, b, by rw [← Nat.add_assoc]; exact q1, by rw [← Nat.add_assoc]; exact q2⟩
      cases x with
      | rf cs =>
        cases outs with
        | nil => simp [outsOk] at ho
        | cons o os =>
          obtain ⟨hb, ho⟩ := ho
          obtain ⟨r2, h1, h2, h3⟩ := ih (by simpa using hl) hpar' ho
          obtain ⟨r, us', T', hF, hw, hr, hs1, _⟩ := hI.bl _ _ _ hb
          have hpu := hI.par p u _ _ (hpar 0 (.rf cs) u (by simp) rfl (by simp)) hb
          rw [hpu] at hF
          refine ⟨r :: r2, ?_, fun q hq => ?_, ?_⟩
          · show RepTt A w (.rf o :: os.map .rf) (u :: rfVals xs us) ([r] ++ r2)
            refine .cons _ _ _ _ _ _ ?_ h1
            rw [hF]
            exact .rf _ _ us' T' hw hr.to_p (hs1 rfl)
          · rcases List.mem_cons.1 hq with rfl | hq
            · exact ⟨0, _, hb, by rw [Nat.add_zero, hpu, hF]; rfl⟩
            · obtain ⟨i, b, q1, q2⟩ := h2 q hq
              exact ⟨1 + i, b, by rw [← Nat.add_assoc]; exact q1, by rw [← Nat.add_assoc]; exact q2⟩
          · rw [List.nodup_cons]
            refine ⟨fun hq => ?_, h3⟩
            obtain ⟨i, b, q1, q2⟩ := h2 r hq
            have := (hI.inj _ _ _ _ _ _ r hb q1 (by rw [hpu, hF]; rfl) q2).1
            omega
      | p x => exact other (by simp) ho
      | ow E0 sz ys m => exact other (by simp) ho
      | ag c => exact other (by simp) ho
      | tu c => exact other (by simp) ho

/-- A function does what its body shows. -/
theorem fn_intro (hT : TOk P T) {f : FuncId} {fn : Func} {c : Code} {args : List TV} {res : TV} {outs : List (List PV)} (hf : P.funcs[f]? = some fn) (hb : fn.body = some c)
    (hn : (fn.name == "runtime.NumGoroutine") = false) (hN : args.length ≤ fn.ntmps) (h : CW P fn.ntmps c (finK T fn.results.toList args res outs) (St.init args)) : Fn P f args res outs := by
  refine ⟨⟨fn, hf, by rw [hb]; rfl, hn⟩, fun A w us rs ha hnd hA => ?_⟩
  refine calls_of_wp hf hb (wp_mono (h _ A _ _ w (init_inv ha hnd hA hN)) fun e a w' ⟨S, A1, F, hI, hK⟩ => ?_)
  have main : FinOk T fn.results.toList args res outs S → a.defers = [] ∧ ∃ v, (results fn a.tmps).run P w' = .ok v w' ∧
      ∃ u A' r1 r2, Ending.returned v = .returned u ∧ RepT A' w' res u r1 ∧ RepTt A' w' (outs.map .rf) (rfVals args us) r2 ∧ After A w rs A' w' (r1 ++ r2) := fun ⟨vs, S1, h1, h2, h3⟩ => by
    obtain ⟨u, A', r1, l, q1, p, q2, q3⟩ := results_sound hT hI h1 h2
    obtain ⟨r2, o1, o2, o3⟩ := outs_sound (us0 := us) p.inv (args := args) (us := us) (p := 0) ha.len (fun i x v g1 g2 g3 => by
      simp [initE, g1, g2, g3]) h3
    have live2 : ∀ r ∈ r2, Live S1 F r := fun r hr => by
      obtain ⟨i, b, g1, g2⟩ := o2 r hr
      exact ⟨_, _, b, g1, g2⟩
    refine ⟨hI.defers, u, q1, u, A', r1, r2, rfl, q2, o1, ?_⟩
    have i1 := p.inv
    refine ⟨?_, fun r hr => ?_, i1.Alt, i1.Anew, i1.keeps, i1.os, i1.tape, i1.output, i1.size, i1.old⟩
    · rw [List.nodup_append]
      exact ⟨q3, o3, fun r g1 r' g2 e => by subst e; exact p.gone r g1 (live2 r g2)⟩
    · have : Live S F r := by
        rcases List.mem_append.1 hr with g | g
        · exact p.was r g
        · exact p.live r (live2 r g)
      obtain ⟨t, g, b, g1, g2⟩ := this
      exact hI.own t g b r g1 g2
  cases e with
  | normal => exact main hK
  | ret => exact main hK
  | _ => exact hK.elim
end
end Go.Proofs.Ytablmbhnimnccaa.Pw
