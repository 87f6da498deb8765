/- Pw, part 14: cuts, comparisons, calls. No condition. -/
import Derived.Test.YtablmbhnimnccaaZqOps3
namespace Go.Proofs.Ytablmbhnimnccaa.Pw
section
variable {P : Program} {T : Nat → Option TI} {E : Entry} {N : Nat} {A : Nat → Nat → Prop} {F : Nat → Nat → Value} {S S' : St} {a : Act} {w w' : World} {K : St → Prop} {Q : Exit → Act → World → Prop}

theorem run_bound {n y : Nat} (h : n ≤ y) (code : BoundsCode) : (Instr.sliceBound (.int .i64 n) y code).run P w = .ok n w := by
  have : (0 : Int) ≤ (n : Int) ∧ (n : Int) ≤ (y : Int) := ⟨by omega, by omega⟩
  simp [Instr.sliceBound, asIntOf, this]

/-- The three bounds of a cut. -/
theorem run_bounds {isS : Bool} {len cap l h m : Nat} {lo hi mx : Option Value} (hlo : (lo = none ∧ l = 0) ∨ lo = some (.int .i64 l)) (hhi : (hi = none ∧ mx = none ∧ h = len) ∨ hi = some (.int .i64 h))
    (hmx : (mx = none ∧ m = cap) ∨ (mx = some (.int .i64 m) ∧ m ≤ cap)) (h1 : l ≤ h) (h2 : h ≤ m) : (Instr.sliceBounds isS len cap lo hi mx).run P w = .ok (l, h, m) w := by
  unfold Instr.sliceBounds
  rcases hmx with ⟨rfl, rfl⟩ | ⟨rfl, hm⟩ <;> rcases hhi with ⟨rfl, hq, rfl⟩ | rfl <;> rcases hlo with ⟨rfl, rfl⟩ | rfl <;> (try cases hq) <;>
    (cases isS <;> simp [run_bound h1, run_bound h2, *]) <;> (try (simp [run_bound hm, run_bound h1, run_bound h2]))

theorem optNat {S : St} (hI : Inv E N S A F a w) {x : Option Operand} {d n : Nat} (h : S.optN d x = some n) : (x.map a.eval = none ∧ n = d) ∨ x.map a.eval = some (.int .i64 n) := by
  cases x with
  | none => simp [St.optN] at h; exact .inl ⟨rfl, h.symm⟩
  | some l => exact .inr (by simp [natOf_val h (hI.ev l)])

theorem slice_str_sound (hT : TOk P T) (hI : Inv E N S A F a w) {dst : Option Tmp} {t ty : Nat} {x : Operand} {lo hi : Option Operand} {pos : String} {after : Array Edge} {guard : Option (Nat × Bool)} (hd : ∀ t, dst = some t → t < N)
    {ti : TI} (hti : T t = some ti) (hkd : ti.kd = .str) {s : ByteArray} (hx : S.ev x = .p (.lit (.string s))) {l h : Nat} (hl : S.optN 0 lo = some l)
    (hh : S.optN s.size hi = some h) (h1 : l ≤ h) (h2 : h ≤ s.size) (hk : K (S.put dst (.p (.lit (.string (s.extract l h)))))) :
    Oper.wp P ⟨dst, .slice t x lo hi none, ty, pos, after, guard⟩ a w (Nx E N K) Q := by
  obtain ⟨d, hdd, hk2⟩ := hT.kind hti
  rw [hkd] at hk2
  simp only [TKok] at hk2
  subst hk2
  have hxr := hI.ev x
  rw [hx] at hxr
  have hv := repA_lit hxr
  have hb := run_bounds (P := P) (w := w) (isS := false) (len := s.size) (cap := s.size) (l := l) (h := h) (m := s.size) (lo := lo.map a.eval) (hi := hi.map a.eval) (mx := none)
    (optNat hI hl) ((optNat hI hh).imp (fun q => ⟨q.1, rfl, q.2⟩) id) (.inl ⟨rfl, rfl⟩) h1 h2
  refine wp_val (u := .string (s.extract l h)) (w' := w) ?_ ⟨_, _, _, hI.put (.p _ _ (.lit _)) hd, hk⟩
  simp only [execOp, Instr.sliceAt, Sem.run_bind, run_underlying hdd, Result.andThen_ok, hv, Instr.slice, Option.map_none, Option.isSome_none, Bool.false_eq_true, if_false, Sem.run_pure, hb]

theorem RepP.cut {sz : Nat} {xs : List PV} {ad : Option Addr} {n c : Nat} (h : RepP A w (.sl sz xs) (.slice ad n c)) {l k m : Nat} (h1 : l ≤ k) (h2 : k ≤ xs.length) (hm : k ≤ m) (hmc : m ≤ c) :
    RepP A w (.sl sz ((xs.take k).drop l)) (.slice (if m = l then ad else ad.map (·.add (l * sz))) (k - l) (m - l)) := by
  have hlen : ((xs.take k).drop l).length = k - l := by simp; omega
  by_cases h0 : k - l = 0
  · have : (xs.take k).drop l = [] := List.eq_nil_of_length_eq_zero (by omega)
    rw [this, h0]
    have hcm : c ≤ maxLen := by cases h <;> assumption
    exact .snil _ _ (by omega) _
  · have hml : ¬ m = l := by omega
    rw [if_neg hml, ← hlen]
    cases h with
    | snil => simp at h2; omega
    | sl _ _ ad c hl hc hs hsp hcells =>
      have hd := hcells.take k
      have hs' : ∀ x ∈ xs.take k, x.size = sz := fun x hx => hs x (List.mem_of_mem_take hx)
      have hd2 := hd.drop hs' l (by simp; omega)
      obtain ⟨b, o, sp⟩ := ad
      simp only at hsp; subst hsp
      simp only [Option.map_some, Addr.add_lit]
      exact .sl _ _ ⟨b, o + l * sz, none⟩ _ (by omega) (by omega) (fun x hx => hs' x (List.mem_of_mem_drop hx)) rfl hd2

theorem slice_sl_sound (hT : TOk P T) (hI : Inv E N S A F a w) {dst : Option Tmp} {t ty : Nat} {x : Operand} {lo hi mx : Option Operand} {pos : String} {after : Array Edge} {guard : Option (Nat × Bool)} (hd : ∀ t, dst = some t → t < N)
    {ti te : TI} {e : Nat} (hti : T t = some ti) (hkd : ti.kd = .sl e) (hte : T e = some te) {xs : List PV} {l h : Nat} (hl : S.optN 0 lo = some l)
    (hh : S.optN xs.length hi = some h) (hmx : ∀ m, mx = some m → natOf (S.ev m) = some h ∧ hi ≠ none) (h1 : l ≤ h) (h2 : h ≤ xs.length)
    (hp : PassV S (S.ev x) (.p (.sl te.size xs)) S' []) (hk : K (S'.put dst (.p (.sl te.size ((xs.take h).drop l))))) :
    Oper.wp P ⟨dst, .slice t x lo hi mx, ty, pos, after, guard⟩ a w (Nx E N K) Q := by
  obtain ⟨d, hdd, hk2⟩ := hT.kind hti
  rw [hkd] at hk2
  simp only [TKok] at hk2
  subst hk2
  obtain ⟨A', rs, pk, hr, _, _⟩ := hp.sound hI (hI.ev x)
  cases hr with
  | p _ _ hr =>
    obtain ⟨ad, c, hu, hlc⟩ : ∃ ad c, a.eval x = .slice ad xs.length c ∧ xs.length ≤ c := by
      generalize a.eval x = u at hr
      cases hr with
      | snil sz c hc ad => exact ⟨ad, c, rfl, Nat.zero_le _⟩
      | sl sz xs ad c hl => exact ⟨_, c, rfl, hl⟩
    rw [hu] at hr
    have hb : ∃ m, h ≤ m ∧ m ≤ c ∧ (Instr.sliceBounds true xs.length c (lo.map a.eval) (hi.map a.eval) (mx.map a.eval)).run P w = .ok (l, h, m) w := by
      cases mx with
      | none =>
        exact ⟨c, by omega, Nat.le_refl _, run_bounds (optNat hI hl) ((optNat hI hh).imp (fun q => ⟨q.1, rfl, q.2⟩) id) (.inl ⟨rfl, rfl⟩) h1 (by omega)⟩
      | some m =>
        obtain ⟨q1, q2⟩ := hmx m rfl
        have := natOf_val q1 (hI.ev m)
        cases hi with
        | none => exact absurd rfl q2
        | some hi =>
          have hh' := natOf_val hh (hI.ev hi)
          refine ⟨h, Nat.le_refl _, by omega, run_bounds (optNat hI hl) (.inr (by simp [hh'])) (.inr ⟨by simp [this], by omega⟩) h1 (Nat.le_refl _)⟩
    obtain ⟨m, hm1, hm2, hb⟩ := hb
    have hc := hr.cut h1 h2 hm1 hm2
    refine wp_val (u := .slice (if m = l then ad else ad.map (·.add (l * te.size))) (h - l) (m - l)) (w' := w) ?_ ⟨_, _, _, pk.inv.put (.p _ _ hc) hd, hk⟩
    simp only [execOp, Instr.sliceAt, Sem.run_bind, run_underlying hdd, Result.andThen_ok, hu, Instr.slice, hb, hT.size hte, Sem.run_pure]

theorem litInts_some {xs : List PV} {ns : List Int} (h : litInts xs = some ns) : xs = ns.map fun n => .lit (.int .i64 n) := by
  induction xs generalizing ns with
  | nil => simp [litInts] at h; subst h; rfl
  | cons x xs ih =>
    cases x with
    | lit v =>
      cases v with
      | int k n =>
        cases k <;> simp only [litInts, reduceCtorEq, Option.map_eq_some_iff] at h
        obtain ⟨ms, h1, rfl⟩ := h
        simp [← ih h1]
      | _ => simp [litInts] at h
    | _ => simp [litInts] at h

theorem RepPs.lits {ns : List Int} {us : List Value} (h : RepPs A w (ns.map fun n => .lit (.int .i64 n)) us) : us = ns.map (Value.int .i64) := by
  induction ns generalizing us with
  | nil => cases h; rfl
  | cons n ns ih =>
    cases h with
    | cons _ u _ us h h1 hs => cases h; simp [ih hs]

theorem repA_ints {xs : List PV} {ns : List Int} {u : Value} (h : litInts xs = some ns) (hx : RepA A F S w (.p (.ag xs)) u) : u = .agg (ns.map (Value.int .i64)).toArray := by
  have := litInts_some h
  subst this
  cases hx with
  | p _ _ hx =>
    cases hx with
    | ag _ us hx =>
      have := hx.lits
      rw [← this]

theorem eqAg_sound (hI : Inv E N S A F a w) {dst : Option Tmp} {t t2 ty : Nat} {op : BinOp} {x y : Operand} {pos : String} {after : Array Edge} {guard : Option (Nat × Bool)} (hd : ∀ t, dst = some t → t < N)
    {n : Nat} {b : Bool} (h : eqAg op (S.ev x) (S.ev y) = some (n, b)) (he : EqOk P t n) (hk : K (S.put dst (.p (.lit (.bool b))))) :
    Oper.wp P ⟨dst, .binOp op t x y t2, ty, pos, after, guard⟩ a w (Nx E N K) Q := by
  have hx := hI.ev x
  have hy := hI.ev y
  unfold eqAg at h
  split at h
  · rename_i xs ys hc1 hc2
    rw [hc1] at hx; rw [hc2] at hy
    split at h
    · rename_i p q hp hq
      have h1 := repA_ints hp hx
      have h2 := repA_ints hq hy
      split at h
      · rename_i hlen
        cases op <;> simp only [reduceCtorEq, Option.some.injEq, Prod.mk.injEq] at h
        · obtain ⟨rfl, rfl⟩ := h
          obtain ⟨e1, e2, e3, e4⟩ := he w .i64 p q rfl hlen
          refine wp_val (u := .bool _) (w' := w) ?_ ⟨_, _, _, hI.put (.p _ _ (.lit _)) hd, hk⟩
          simp only [execOp, h1, h2, Sem.run_bind, e1, e3, Result.andThen_ok, Sem.run_pure]
        · obtain ⟨rfl, rfl⟩ := h
          obtain ⟨e1, e2, e3, e4⟩ := he w .i64 p q rfl hlen
          refine wp_val (u := .bool _) (w' := w) ?_ ⟨_, _, _, hI.put (.p _ _ (.lit _)) hd, hk⟩
          simp only [execOp, h1, h2, Sem.run_bind, e2, e4, Result.andThen_ok, Sem.run_pure]
      · simp at h
    · simp at h
  · simp at h
end
end Go.Proofs.Ytablmbhnimnccaa.Pw
