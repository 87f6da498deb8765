/- Pw, part 7: operations that only give a value. No condition. -/
import Derived.Test.YtablmbhnimnccaaZqRep
namespace Go.Proofs.Ytablmbhnimnccaa.Pw

/-- Of whole numbers, bools and strings. -/
def vBin (op : BinOp) (x y : Value) : Option Value :=
  match x, y with
  | .int k a, .int k' b =>
    match op with
    | .shl => if 0 ≤ b then some (.int k (k.wrap (a * 2 ^ (min b.toNat k.bits)))) else none
    | .shr => if 0 ≤ b then some (.int k (a.fdiv (2 ^ (min b.toNat k.bits)))) else none
    | _ => if k = k' then
      match op with
      | .add => some (.int k (k.wrap (a + b)))
      | .sub => some (.int k (k.wrap (a - b)))
      | .mul => some (.int k (k.wrap (a * b)))
      | .quo => if b = 0 then none else some (.int k (k.wrap (a.tdiv b)))
      | .rem => if b = 0 then none else some (.int k (a.tmod b))
      | .and => some (.int k (k.wrap (BitVec.ofInt k.bits a &&& BitVec.ofInt k.bits b).toNat))
      | .or => some (.int k (k.wrap (BitVec.ofInt k.bits a ||| BitVec.ofInt k.bits b).toNat))
      | .xor => some (.int k (k.wrap (BitVec.ofInt k.bits a ^^^ BitVec.ofInt k.bits b).toNat))
      | .eql => some (.bool (a == b))
      | .neq => some (.bool (a != b))
      | .lss => some (.bool (decide (a < b)))
      | .leq => some (.bool (decide (a ≤ b)))
      | .gtr => some (.bool (decide (a > b)))
      | .geq => some (.bool (decide (a ≥ b)))
      | _ => none
      else none
  | .string a, .string b => match op with
    | .add => if a.size + b.size ≤ 9223372036854775807 then some (.string (a ++ b)) else none
    | .eql => some (.bool (a.toList == b.toList))
    | .neq => some (.bool (!(a.toList == b.toList)))
    | _ => none
  | _, _ => none

def litInts : List PV → Option (List Int)
  | [] => some []
  | .lit (.int .i64 n) :: xs => (litInts xs).map (n :: ·)
  | _ => none

def ptAdd (S : St) (k : Nat) : AV → Option AV
  | .pt t g off => if S.okA (.pt t g off) then some (.pt t g (off + k)) else none
  | .pe t g len i off => if S.okA (.pe t g len i off) then some (.pe t g len i (off + k)) else none
  | .p (.ro x off) => some (.p (.ro x (off + k)))
  | _ => none

section
variable (T : Nat → Option TI) (S : St)

def loadV (t : Nat) (x : AV) : Option AV :=
  match T t with
  | none => none
  | some ti => match x with
    | .pt t g off => match S.bl t g with
      | some (.var cs _) => ldA ti cs off
      | _ => none
    | .pe t g len i off => match S.bl t g with
      | some (.arr _ _ xs _) => if xs.length = len then (match xs[i]? with | some y => (ldP ti y.cells off).map .p | none => none) else none
      | _ => none
    | .p (.ro y off) => (ldP ti y.cells off).map .p
    | _ => none

def fieldOff (s f : Nat) : Option Nat :=
  match T s with
  | some ti => match ti.kd with
    | .st fs => (fs[f]?).map (·.1)
    | _ => none
  | none => none

def idxV (t : Nat) (x i : AV) : Option AV :=
  match i with
  | .p (.lit (.int _ i)) => match T t with
    | none => none
    | some ti => match ti.kd with
      | .arr n e => match T e with
        | some te => if 0 ≤ i ∧ i < n then ptAdd S (i.toNat * te.size) x else none
        | none => none
      | .sl e => match T e with
        | none => none
        | some te => match x with
          | .p (.sl sz xs) => if sz = te.size ∧ 0 ≤ i then (xs[i.toNat]?).map fun y => .p (.ro y 0) else none
          | .os t g len => match S.bl t g with
            | some (.arr _ sz xs _) => if xs.length = len ∧ sz = te.size ∧ 0 ≤ i ∧ i < len then some (.pe t g len i.toNat 0) else none
            | _ => none
          | _ => none
      | _ => none
  | _ => none

def pickV (t : Bool) (x y : AV) : AV :=
  match x, y with
  | .p (.lit (.bool a)), .p (.lit (.bool b)) => .p (.lit (.bool (bif t then a else b)))
  | x, y => bif t then x else y

def isBool (t : Nat) : Bool := match T t with
  | some ti => match ti.kd with
    | .bool => true
    | _ => false
  | none => false

def binV (op : BinOp) (t : Nat) (x y : AV) : Option AV :=
  match x, y with
  | .p (.lit (.bool a)), .p (.lit (.bool b)) => if isBool T t then (match op with
    | .eql => some (.p (.lit (.bool (a == b))))
    | .neq => some (.p (.lit (.bool (!(a == b)))))
    | _ => none) else none
  | .p (.lit x), .p (.lit y) => (vBin op x y).map fun v => .p (.lit v)
  | _, _ => none

def allPt : List AV → Bool
  | [] => true
  | .pt _ _ _ :: xs => allPt xs
  | _ => false

def maxV (big : Bool) (x y : AV) : Option AV :=
  match x, y with
  | .p (.lit (.int k a)), .p (.lit (.int _ b)) => some (.p (.lit (.int k (if (if big then b > a else b < a) then b else a))))
  | _, _ => none
def maxL (big : Bool) : AV → List AV → Option AV
  | x, [] => some x
  | x, y :: ys => match maxV big x y with
    | some z => maxL big z ys
    | none => none

/-- What an operation gives that does nothing else. -/
def opv (op : Op) : Option AV :=
  match op with
  | .move x => some (S.ev x)
  | .assign x => some (S.ev x)
  | .pick c a b => match S.ev c with
    | .p (.lit (.bool t)) => some (pickV t (S.ev a) (S.ev b))
    | _ => none
  | .load t x => loadV T S t (S.ev x)
  | .nilCheck x => match S.ev x with
    | .pt t g off => ptAdd S 0 (.pt t g off)
    | .pe t g len i off => ptAdd S 0 (.pe t g len i off)
    | .p (.ro x off) => some (.p (.ro x off))
    | .p (.fn f caps) => some (.p (.fn f caps))
    | .fn f caps => some (.fn f caps)
    | _ => none
  | .binOp op t x y _ => binV T op t (S.ev x) (S.ev y)
  | .unOp .neg _ x => match S.ev x with
    | .p (.lit (.int k n)) => some (.p (.lit (.int k (k.wrap (0 - n)))))
    | _ => none
  | .unOp .not _ x => match S.ev x with
    | .p (.lit (.bool b)) => some (.p (.lit (.bool (!b))))
    | _ => none
  | .convert s t x => match S.ev x with
    | .p (.lit (.int _ n)) => match T s, T t with
      | some _, some ti => match ti.kd with
        | .int k => some (.p (.lit (.int k (k.wrap n))))
        | _ => none
      | _, _ => none
    | _ => none
  | .fieldAddr s x f => match fieldOff T s f with
    | some k => ptAdd S k (S.ev x)
    | none => none
  | .indexAddr t x i => idxV T S t (S.ev x) (S.ev i)
  | .extract x i => match S.ev x with
    | .tu vs => vs[i]?
    | _ => none
  | .makeFunc (.func f) first caps => if first.size = 0 ∧ allPt (caps.toList.map S.ev) = true then some (.fn f (caps.toList.map S.ev)) else none
  | .call ⟨.builtin .len, args, tys⟩ => match args[0]?, tys[0]? with
    | some x, some t => match T t with
      | some ti => match ti.kd with
        | .sl _ => (lenOf S (S.ev x)).map fun (n : Nat) => AV.p (.lit (.int .i64 (n : Int)))
        | .str => match S.ev x with
          | .p (.lit (.string s)) => some (.p (.lit (.int .i64 s.size)))
          | _ => none
        | .arr n _ => some (.p (.lit (.int .i64 n)))
        | _ => none
      | none => none
    | _, _ => none
  | .call ⟨.builtin .max, args, _⟩ => match args.toList with
    | x :: xs => maxL true (S.ev x) (xs.map S.ev)
    | [] => none
  | .call ⟨.builtin .min, args, _⟩ => match args.toList with
    | x :: xs => maxL false (S.ev x) (xs.map S.ev)
    | [] => none
  | _ => none
end

section
variable {P : Program} {T : Nat → Option TI} {E : Entry} {N : Nat} {A : Nat → Nat → Prop} {F : Nat → Nat → Value} {S : St} {a : Act} {w : World}

theorem run_info {t : TypeId} {i : TypeInfo} (h : P.info? t = some i) : (typeInfo t).run P w = .ok i w := by simp [typeInfo, h]
theorem run_sizeOf' {t : TypeId} {i : TypeInfo} (h : P.info? t = some i) : (sizeOf t).run P w = .ok i.size w := by simp [sizeOf, run_info h]

theorem TOk.isAgg (hT : TOk P T) {t : Nat} {ti : TI} (h : T t = some ti) : (isAgg t).run P w = .ok ti.isAgg w := by
  obtain ⟨i, d, hi, hd, _, _, _, _, _, _, hk⟩ := hT t ti h
  unfold Go.isAgg
  simp only [Sem.run_bind, run_underlying hd, Result.andThen_ok]
  cases hkd : ti.kd with
  | sca =>
    rw [hkd] at hk
    cases d <;> simp [TI.isAgg, hkd] <;> first | exact hk.1 _ rfl | exact hk.2 _ _ rfl
  | str => rw [hkd] at hk; subst hk; simp [TI.isAgg, hkd]
  | bool => rw [hkd] at hk; subst hk; simp [TI.isAgg, hkd]
  | int k => rw [hkd] at hk; subst hk; simp [TI.isAgg, hkd]
  | sl e => rw [hkd] at hk; subst hk; simp [TI.isAgg, hkd]
  | st fs => rw [hkd] at hk; obtain ⟨f, rfl, _⟩ := hk; simp [TI.isAgg, hkd]
  | arr n e => rw [hkd] at hk; subst hk; simp [TI.isAgg, hkd]

theorem TOk.size (hT : TOk P T) {t : Nat} {ti : TI} (h : T t = some ti) : (sizeOf t).run P w = .ok ti.size w := by
  obtain ⟨i, d, hi, hd, hs, _⟩ := hT t ti h
  rw [run_sizeOf' hi, hs]

theorem TOk.info (hT : TOk P T) {t : Nat} {ti : TI} (h : T t = some ti) : ∃ i, P.info? t = some i ∧ i.size = ti.size ∧ i.bytes = ti.bytes ∧ i.zero = some ti.zero ∧ ti.zero.cells.size = ti.size := by
  obtain ⟨i, d, hi, hd, hs, hb, hz, hc, _⟩ := hT t ti h
  exact ⟨i, hi, hs, hb, hz, hc⟩

theorem TOk.kind (hT : TOk P T) {t : Nat} {ti : TI} (h : T t = some ti) : ∃ d, P.underlying t = some d ∧ TKok P d ti.kd := by
  obtain ⟨i, d, hi, hd, hs, hb, hz, hc, _, _, hk⟩ := hT t ti h
  exact ⟨d, hd, hk⟩

/-- A variable of the cells us at (b, o). -/
theorem run_loadAgg (hT : TOk P T) {t : Nat} {ti : TI} (h : T t = some ti) (hag : ti.isAgg = true) {b o : Nat} {us : List Value} (hl : us.length = ti.size)
    (hc : ∀ j u, us[j]? = some u → w.cell? ⟨b, o + j, none⟩ = some u) : (loadVar t ⟨b, o, none⟩).run P w = .ok (.agg us.toArray) w := by
  unfold loadVar
  have := run_loadCells_list (P := P) w ⟨b, o, none⟩ us (fun j v hj => by rw [Addr.add_lit]; exact hc j v hj)
  simp only [Sem.run_bind, hT.isAgg h, Result.andThen_ok, hag, if_true, hT.size h, ← hl, this, Sem.run_pure]

theorem run_loadOne (hT : TOk P T) {t : Nat} {ti : TI} (h : T t = some ti) (hag : ti.isAgg = false) {b o : Nat} {u : Value}
    (hc : w.cell? ⟨b, o, none⟩ = some u) : (loadVar t ⟨b, o, none⟩).run P w = .ok u w := by
  unfold loadVar
  simp only [Sem.run_bind, hT.isAgg h, Result.andThen_ok, hag, Bool.false_eq_true, if_false, run_load, hc]

theorem allP_some {cs : List AV} {ps : List PV} (h : allP cs = some ps) : cs = ps.map .p := by
  induction cs generalizing ps with
  | nil => simp [allP] at h; subst h; rfl
  | cons x cs ih =>
    cases x <;> simp [allP] at h
    obtain ⟨ys, h1, rfl⟩ := h
    simp [← ih h1]

theorem RepA.mkAg {cs : List AV} {us : List Value} (h : RepAs A F S w cs us) : RepA A F S w (mkAg cs) (.agg us.toArray) := by
  unfold Go.Proofs.Ytablmbhnimnccaa.Pw.mkAg
  split
  · rename_i ps hp
    have := allP_some hp
    subst this
    exact .p _ _ (.ag _ _ (by simpa using h.to_p))
  · exact .ag _ _ (by simpa using h)

theorem ldA_sound (hT : TOk P T) {t : Nat} {ti : TI} (h : T t = some ti) {cs : List AV} {off : Nat} {v : AV} (hl : ldA ti cs off = some v) {b : Nat} {us : List Value}
    (hr : RepAs A F S w cs us) (hc : ∀ j u, us[j]? = some u → w.cell? ⟨b, j, none⟩ = some u) : ∃ u, (loadVar t ⟨b, off, none⟩).run P w = .ok u w ∧ RepA A F S w v u := by
  unfold ldA at hl
  split at hl
  · rename_i hag
    split at hl
    · rename_i hle
      simp at hl; subst hl
      have h2 : RepAs A F S w ((cs.drop off).take ti.size) ((us.drop off).take ti.size) := (hr.drop off).take ti.size
      have hul := hr.length
      refine ⟨_, run_loadAgg hT h hag (us := (us.drop off).take ti.size) (by simp; omega) (fun j u hj => ?_), RepA.mkAg h2⟩
      rw [List.getElem?_take] at hj
      split at hj
      · rw [List.getElem?_drop] at hj; exact hc _ _ hj
      · simp at hj
    · simp at hl
  · rename_i hag
    obtain ⟨u, h1, h2, _⟩ := hr.get hl
    exact ⟨u, run_loadOne hT h (by simpa using hag) (hc _ _ h1), h2⟩

theorem ldP_sound (hT : TOk P T) {t : Nat} {ti : TI} (h : T t = some ti) {cs : List PV} {off : Nat} {v : PV} (hl : ldP ti cs off = some v) {b o : Nat} {us : List Value}
    (hr : RepPs A w cs us) (hc : ∀ j u, us[j]? = some u → w.cell? ⟨b, o + j, none⟩ = some u) : ∃ u, (loadVar t ⟨b, o + off, none⟩).run P w = .ok u w ∧ RepP A w v u := by
  unfold ldP at hl
  split at hl
  · rename_i hag
    split at hl
    · rename_i hle
      simp at hl; subst hl
      have h2 : RepPs A w ((cs.drop off).take ti.size) ((us.drop off).take ti.size) := (hr.drop off).take ti.size
      have hul := hr.length
      refine ⟨_, run_loadAgg hT h hag (us := (us.drop off).take ti.size) (by simp; omega) (fun j u hj => ?_), .ag _ _ (by simpa using h2)⟩
      rw [List.getElem?_take] at hj
      split at hj
      · rw [List.getElem?_drop] at hj; rw [Nat.add_assoc]; exact hc _ _ hj
      · simp at hj
    · simp at hl
  · rename_i hag
    obtain ⟨u, h1, h2, _⟩ := hr.get hl
    exact ⟨u, run_loadOne hT h (by simpa using hag) (hc _ _ h1), h2⟩

theorem loadV_sound (hT : TOk P T) (hI : Inv E N S A F a w) {t : Nat} {x v : AV} {p : Value} (hl : loadV T S t x = some v) (hx : RepA A F S w x p) :
    ∃ u, (Instr.loadAt t p).run P w = .ok u w ∧ RepA A F S w v u := by
  unfold loadV at hl
  cases hti : T t with
  | none => simp [hti] at hl
  | some ti =>
    simp only [hti] at hl
    cases x with
    | pt t' g off =>
      simp only at hl
      cases hb : S.bl t' g with
      | none => simp [hb] at hl
      | some b =>
        cases b with
        | arr E0 sz xs m => simp [hb] at hl
        | bld T0 g1 n => simp [hb] at hl
        | var cs sd =>
          simp only [hb] at hl
          cases hx with
          | pt _ _ _ _ hg hq h1 =>
            obtain ⟨r, hF, rfl⟩ := hq _ hb rfl
            obtain ⟨r', us, T', hF', hw, hr, _, _⟩ := hI.bl _ _ _ hb
            rw [hF] at hF'; simp at hF'; subst hF'
            obtain ⟨u, h2, h3⟩ := ldA_sound hT hti hl hr (b := r) (fun j u hj => by rw [cell_of_heap hw]; simpa using hj)
            exact ⟨u, by simp only [Instr.loadAt, Instr.sureAddr, Sem.run_bind, Sem.run_pure, Result.andThen_ok, h2], h3⟩
    | pe t' g len i off =>
      simp only at hl
      cases hb : S.bl t' g with
      | none => simp [hb] at hl
      | some b =>
        cases b with
        | var cs sd => simp [hb] at hl
        | bld T0 g1 n => simp [hb] at hl
        | arr E0 sz xs m =>
          simp only [hb] at hl
          split at hl
          · rename_i hlen
            cases hy : xs[i]? with
            | none => simp [hy] at hl
            | some y =>
              simp only [hy, Option.map_eq_some_iff] at hl
              obtain ⟨z, hl, rfl⟩ := hl
              cases hx with
              | pe _ _ _ _ _ _ hg hq h1 =>
                obtain ⟨r, hr, rfl⟩ := (hq _ _ _ _ hb).2 hlen
                obtain ⟨us, ho, hrp, hs, hm, hA⟩ := hI.bl _ _ _ hb
                obtain ⟨l, rr, e, hll⟩ := flat_split hs hy
                rw [e] at hrp
                have hq := hrp.split.1.split.2
                obtain ⟨u, h2, h3⟩ := ldP_sound hT hti hl hq (b := r) (o := i * sz) (fun j u hj => by
                  refine ownsRow_cell ho hr ?_
                  rw [List.getElem?_drop, hll] at hj
                  rw [List.getElem?_take] at hj
                  split at hj
                  · exact hj
                  · simp at hj)
                exact ⟨u, by simp only [Instr.loadAt, Instr.sureAddr, Sem.run_bind, Sem.run_pure, Result.andThen_ok, h2], .p _ _ h3⟩
          · simp at hl
    | p q =>
      cases q with
      | ro y off =>
        simp only [Option.map_eq_some_iff] at hl
        obtain ⟨z, hl, rfl⟩ := hl
        cases hx with
        | p _ _ hx =>
          cases hx with
          | ro _ _ b o hc =>
            obtain ⟨us, h1, h2, h3⟩ := hc.vals
            obtain ⟨u, h4, h5⟩ := ldP_sound hT hti hl h1 h2
            exact ⟨u, by simp only [Instr.loadAt, Instr.sureAddr, Sem.run_bind, Sem.run_pure, Result.andThen_ok, h4], .p _ _ h5⟩
      | _ => simp at hl
    | _ => simp at hl

theorem ptAdd_sound (hI : Inv E N S A F a w) {k : Nat} {x v : AV} {p : Value} (hl : ptAdd S k x = some v) (hx : RepA A F S w x p) :
    ∃ b o, p = .pointer (some ⟨b, o, none⟩) ∧ RepA A F S w v (.pointer (some ⟨b, o + k, none⟩)) := by
  cases x with
  | pt t g off =>
    simp only [ptAdd, St.okA] at hl
    cases hb : S.bl t g with
    | none => simp [hb] at hl
    | some b =>
      cases b with
      | arr E0 sz xs m => simp [hb] at hl
      | bld T0 g1 n => simp [hb] at hl
      | var cs sd =>
        simp only [hb, if_true, Option.some.injEq] at hl
        subst hl
        cases hx with
        | pt _ _ _ _ hg hq h1 =>
          obtain ⟨r, hF, rfl⟩ := hq _ hb rfl
          refine ⟨r, off, rfl, .pt _ _ _ _ hg (fun b' hb' _ => ⟨r, hF, rfl⟩) rfl⟩
  | pe t g len i off =>
    simp only [ptAdd, St.okA] at hl
    cases hb : S.bl t g with
    | none => simp [hb] at hl
    | some b =>
      cases b with
      | var cs sd => simp [hb] at hl
      | bld T0 g1 n => simp [hb] at hl
      | arr E0 sz xs m =>
        simp only [hb, decide_eq_true_eq] at hl
        split at hl
        · rename_i hlen
          simp only [Option.some.injEq] at hl
          subst hl
          cases hx with
          | pe _ _ _ _ _ _ hg hq h1 =>
            obtain ⟨r, hr, rfl⟩ := (hq _ _ _ _ hb).2 hlen
            refine ⟨r, i * sz + off, rfl, .pe _ _ _ _ _ _ hg (fun E' sz' xs' m' hb' => ?_) rfl⟩
            rw [hb] at hb'; simp at hb'; obtain ⟨rfl, rfl, rfl, rfl⟩ := hb'
            exact ⟨(hq _ _ _ _ hb).1, fun _ => ⟨r, hr, by rw [Nat.add_assoc]⟩⟩
        · simp at hl
  | p q =>
    cases q with
    | ro y off =>
      simp only [ptAdd, Option.some.injEq] at hl
      subst hl
      cases hx with
      | p _ _ hx =>
        cases hx with
        | ro _ _ b o hc =>
          refine ⟨b, o + off, rfl, .p _ _ ?_⟩
          rw [Nat.add_assoc]
          exact .ro _ _ _ _ hc
    | _ => simp [ptAdd] at hl
  | _ => simp [ptAdd] at hl

theorem okA_os (hI : Inv E N S A F a w) {t g len : Nat} {p : Value} (hk : S.okA (.os t g len) = true) (hx : RepA A F S w (.os t g len) p) :
    ∃ E0 sz xs m us, S.bl t g = some (.arr E0 sz xs m) ∧ xs.length = len ∧ p = F t g ∧ w.ownsRow 0 E0 sz (F t g) xs.length us ∧ RepPs A w (flat xs) us ∧ (∀ x ∈ xs, x.size = sz) := by
  simp only [St.okA] at hk
  cases hb : S.bl t g with
  | none => simp [hb] at hk
  | some b =>
    cases b with
    | var cs sd => simp [hb] at hk
    | bld T0 g1 n => simp [hb] at hk
    | arr E0 sz xs m =>
      simp only [hb, decide_eq_true_eq] at hk
      cases hx with
      | os _ _ _ _ hg hq h1 =>
        obtain ⟨us, ho, hr, hs, _⟩ := hI.bl _ _ _ hb
        exact ⟨E0, sz, xs, m, us, rfl, hk, (hq _ _ _ _ hb).2 hk, ho, hr, hs⟩

theorem vBin_sound {op : BinOp} {x y v : Value} (h : vBin op x y = some v) (t : TypeId) : (binOp op t x y).run P w = .ok v w := by
  cases x <;> cases y <;> simp only [vBin, reduceCtorEq] at h
  · rename_i k a k' b
    cases op <;> simp only [reduceCtorEq, ite_self] at h <;> (try split at h) <;> (try split at h) <;> simp only [Option.some.injEq, reduceCtorEq] at h <;> (try subst h)
    all_goals simp_all [binOp, Op.shift, Op.intArith, Op.intDiv, Op.intBits, Op.intCmp]
    all_goals (intro hlt; omega)
  · rename_i a b
    cases op <;> simp only [reduceCtorEq] at h <;> (try split at h) <;> simp only [Option.some.injEq, reduceCtorEq] at h <;> (try subst h)
    all_goals simp_all [binOp, Op.stringOp, IntKind.max, IntKind.bits, IntKind.signed]
    all_goals omega
end
end Go.Proofs.Ytablmbhnimnccaa.Pw
/- Pw, part 8: operations that only give a value are sound. No condition. -/
namespace Go.Proofs.Ytablmbhnimnccaa.Pw
section
variable {P : Program} {T : Nat → Option TI} {E : Entry} {N : Nat} {A : Nat → Nat → Prop} {F : Nat → Nat → Value} {S : St} {a : Act} {w : World}

theorem repA_lit {v u : Value} (h : RepA A F S w (.p (.lit v)) u) : u = v := by
  cases h with | p _ _ h => cases h; rfl

theorem repA_ro {x : PV} {off : Nat} {u : Value} (h : RepA A F S w (.p (.ro x off)) u) : ∃ b o, u = .pointer (some ⟨b, o + off, none⟩) ∧ RepCells A w b o x.cells := by
  cases h with | p _ _ h => cases h with | ro _ _ b o h => exact ⟨b, o, rfl, h⟩
theorem repA_pfn {f : FuncId} {caps : List PV} {u : Value} (h : RepA A F S w (.p (.fn f caps)) u) : ∃ us : Array Value, u = .func (.func f) #[] us ∧ RepPs A w caps us.toList := by
  cases h with | p _ _ h => cases h with | fn _ _ us h => exact ⟨us, rfl, h⟩
theorem repA_fn {f : FuncId} {caps : List AV} {u : Value} (h : RepA A F S w (.fn f caps) u) : ∃ us : Array Value, u = .func (.func f) #[] us ∧ RepAs A F S w caps us.toList := by
  cases h with | fn _ _ us h => exact ⟨us, rfl, h⟩
theorem repA_tu {vs : List AV} {u : Value} (h : RepA A F S w (.tu vs) u) : ∃ us : Array Value, u = .tuple us ∧ RepTu A F S w vs us.toList := by
  cases h with | tu _ us h => exact ⟨us, rfl, h⟩

theorem run_equalIn_bool {t : TypeId} (hd : P.underlying t = some .bool) (d : Nat) (x y : Bool) : (Op.equalIn (d + 1) t (.bool x) (.bool y)).run P w = .ok (x == y) w := by
  simp [Op.equalIn, run_underlying hd]
theorem run_equal_bool {t : TypeId} (hd : P.underlying t = some .bool) (x y : Bool) : (Op.equal t (.bool x) (.bool y)).run P w = .ok (x == y) w :=
  run_equalIn_bool hd 9999 x y
theorem run_eql_bool {t : TypeId} (hd : P.underlying t = some .bool) (x y : Bool) : (binOp .eql t (.bool x) (.bool y)).run P w = .ok (.bool (x == y)) w := by
  have : binOp .eql t (.bool x) (.bool y) = (do pure (.bool (← Op.equal t (.bool x) (.bool y)))) := rfl
  rw [this]
  simp only [Sem.run_bind, run_equal_bool hd, Result.andThen_ok, Sem.run_pure]
theorem run_neq_bool {t : TypeId} (hd : P.underlying t = some .bool) (x y : Bool) : (binOp .neq t (.bool x) (.bool y)).run P w = .ok (.bool (!(x == y))) w := by
  have : binOp .neq t (.bool x) (.bool y) = (do pure (.bool (!(← Op.equal t (.bool x) (.bool y))))) := rfl
  rw [this]
  simp only [Sem.run_bind, run_equal_bool hd, Result.andThen_ok, Sem.run_pure]
theorem eqGuard_bool {op : BinOp} {t : TypeId} {X Y : Operand} {x y : Bool} : (eqGuard op t X Y (.bool x) (.bool y)).run P w = .ok () w := by
  unfold eqGuard; split <;> simp

theorem RepTu.get {vs : List AV} {us : List Value} (h : RepTu A F S w vs us) {i : Nat} {x : AV} (hx : vs[i]? = some x) : ∃ u, us[i]? = some u ∧ RepA A F S w x u := by
  induction vs generalizing us i with
  | nil => simp at hx
  | cons y xs ih =>
    cases h with
    | cons _ u _ us h hs =>
      cases i with
      | zero => simp at hx; subst hx; exact ⟨u, by simp, h⟩
      | succ i => simpa using ih hs (by simpa using hx)

theorem lenOf_sound (hI : Inv E N S A F a w) {x : AV} {n : Nat} {u : Value} (h : lenOf S x = some n) (hx : RepA A F S w x u) : ∃ ad c, u = .slice ad n c := by
  unfold lenOf at h
  split at h
  · simp at h; subst h
    cases hx with
    | p _ _ hx =>
      cases hx with
      | snil sz c hc ad => exact ⟨ad, c, rfl⟩
      | sl sz xs ad c => exact ⟨_, c, rfl⟩
  · simp at h; subst h
    have := repA_lit hx; subst this
    exact ⟨none, 0, rfl⟩
  · split at h
    · rename_i hk
      simp at h; subst h
      obtain ⟨E0, sz, xs, m, us, hb, hl, rfl, ho, _⟩ := okA_os hI hk hx
      rcases ho.2 with ⟨h1, h2⟩ | ⟨g, cap, cur, h1, _⟩
      · exact ⟨none, 0, by rw [h1]; congr 1; omega⟩
      · exact ⟨_, cap, by rw [h1, hl]⟩
    · simp at h
  · simp at h

theorem maxV_sound {big : Bool} {x y z : AV} {u v : Value} (h : maxV big x y = some z) (hx : RepA A F S w x u) (hy : RepA A F S w y v) :
    ∃ r, ((if big then Builtin.max2 else Builtin.min2) u v).run P w = .ok r w ∧ RepA A F S w z r := by
  unfold maxV at h
  split at h
  · simp at h
    have h1 := repA_lit hx; have h2 := repA_lit hy
    subst h1; subst h2; subst h
    cases big
    · exact ⟨_, by simp [Builtin.min2], .p _ _ (.lit _)⟩
    · exact ⟨_, by simp [Builtin.max2], .p _ _ (.lit _)⟩
  · simp at h

theorem maxL_sound {big : Bool} {ys : List AV} : ∀ {x z : AV} {u : Value} {vs : List Value}, maxL big x ys = some z → RepA A F S w x u → RepTu A F S w ys vs →
    ∃ r, (vs.foldlM (if big then Builtin.max2 else Builtin.min2) u).run P w = .ok r w ∧ RepA A F S w z r := by
  induction ys with
  | nil => intro x z u vs h hx hy; cases hy; simp [maxL] at h; subst h; exact ⟨u, by simp, hx⟩
  | cons y ys ih =>
    intro x z u vs h hx hy
    cases hy with
    | cons _ v _ vs hv hvs =>
      simp only [maxL] at h
      cases hm : maxV big x y with
      | none => simp [hm] at h
      | some q =>
        simp only [hm] at h
        obtain ⟨r, h1, h2⟩ := maxV_sound (P := P) hm hx hv
        obtain ⟨r', h3, h4⟩ := ih h h2 hvs
        exact ⟨r', by simp only [List.foldlM_cons, Sem.run_bind, h1, Result.andThen_ok, h3], h4⟩

theorem Inv.evs (h : Inv E N S A F a w) (xs : List Operand) : RepTu A F S w (xs.map S.ev) (xs.map a.eval) := by
  induction xs with
  | nil => exact .nil
  | cons x xs ih => exact .cons _ _ _ _ (h.ev x) ih

theorem fieldAt_sound (hT : TOk P T) (hI : Inv E N S A F a w) {s f k : Nat} {x v : AV} {p : Value} (hk : fieldOff T s f = some k) (hl : ptAdd S k x = some v) (hx : RepA A F S w x p) :
    ∃ u, (Instr.fieldAt s p f).run P w = .ok u w ∧ RepA A F S w v u := by
  obtain ⟨b, o, rfl, hr⟩ := ptAdd_sound hI hl hx
  unfold fieldOff at hk
  cases hti : T s with
  | none => simp [hti] at hk
  | some ti =>
    simp only [hti] at hk
    obtain ⟨d, hd, hkd⟩ := hT.kind hti
    cases hq : ti.kd <;> simp only [hq, reduceCtorEq, Option.map_eq_some_iff] at hk
    rename_i fs
    obtain ⟨⟨off, sz⟩, hf, rfl⟩ := hk
    rw [hq] at hkd
    obtain ⟨fields, rfl, hsz, hall⟩ := hkd
    obtain ⟨fd, h1, h2, h3, h4⟩ := hall f off sz hf
    simp only [Option.map_eq_some_iff] at h3
    obtain ⟨i, h3, h5⟩ := h3
    refine ⟨_, ?_, hr⟩
    subst h5
    simp [Instr.fieldAt, run_underlying hd, h1, Instr.sureAddr, fieldPlace, run_sizeOf' h3, h4, h2, Addr.add_lit]

theorem idxV_sound (hT : TOk P T) (hI : Inv E N S A F a w) {t : Nat} {x i v : AV} {p q : Value} (hl : idxV T S t x i = some v) (hx : RepA A F S w x p) (hi : RepA A F S w i q) :
    ∃ u, (Instr.indexAt t p q).run P w = .ok u w ∧ RepA A F S w v u := by
  unfold idxV at hl
  split at hl
  · rename_i k i
    have := repA_lit hi; subst this
    cases hti : T t with
    | none => simp [hti] at hl
    | some ti =>
      simp only [hti] at hl
      obtain ⟨d, hd, hkd⟩ := hT.kind hti
      cases hq : ti.kd <;> simp only [hq, reduceCtorEq] at hl
      · -- a slice
        rename_i e
        rw [hq] at hkd
        simp only [TKok] at hkd
        subst hkd
        cases hte : T e with
        | none => simp [hte] at hl
        | some te =>
          simp only [hte] at hl
          split at hl
          · rename_i sz xs
            split at hl
            · rename_i h0
              obtain ⟨rfl, h0⟩ := h0
              simp only [Option.map_eq_some_iff] at hl
              obtain ⟨y, hy, rfl⟩ := hl
              have hlt : i.toNat < xs.length := (List.getElem?_eq_some_iff.1 hy).1
              cases hx with
              | p _ _ hx =>
                cases hx with
                | snil => simp at hlt
                | sl _ _ ad c hle hc hs hsp hcells =>
                  have he := hcells.elem hs hy
                  have hr : RepA A F S w (.p (.ro y 0)) (.pointer (some ⟨ad.block, ad.off + i.toNat * te.size + 0, none⟩)) := .p _ _ (.ro _ _ _ _ he)
                  refine ⟨_, ?_, hr⟩
                  have hbd : 0 ≤ i ∧ i < (xs.length : Int) := by omega
                  have hadd : ad.add (i.toNat * te.size) = ⟨ad.block, ad.off + i.toNat * te.size + 0, none⟩ := by
                    obtain ⟨b, o, sp⟩ := ad
                    simp only at hsp
                    subst hsp
                    rw [Addr.add_lit]; rfl
                  simp [Instr.indexAt, asIntOf, run_underlying hd, hbd, hT.size hte, hadd]
            · simp at hl
          · rename_i t' g len
            split at hl
            · rename_i E0 sz xs m hb
              split at hl
              · rename_i h0
                obtain ⟨h1, rfl, h0, hlt⟩ := h0
                simp only [Option.some.injEq] at hl
                subst hl
                cases hx with
                | os _ _ _ _ hg hqq _ =>
                  have hu := (hqq _ _ _ _ hb).2 h1
                  obtain ⟨us, ho, hr, hs, _⟩ := hI.bl _ _ _ hb
                  rcases ho.2 with ⟨h3, h4⟩ | ⟨g0, cap, cur, h3, h5, h6, h7, h8, h9, h10⟩
                  · omega
                  · have hr : RepA A F S w (.pe t' g len i.toNat 0) (.pointer (some ⟨g0, i.toNat * te.size + 0, none⟩)) :=
                      .pe _ _ _ _ _ _ hg (fun E' sz' xs' m' hb' => by
                        rw [hb] at hb'; simp at hb'; obtain ⟨rfl, rfl, rfl, rfl⟩ := hb'
                        exact ⟨by omega, fun _ => ⟨g0, by rw [h3]; rfl, rfl⟩⟩) rfl
                    refine ⟨_, ?_, hr⟩
                    have hbd : 0 ≤ i ∧ i < (xs.length : Int) := by omega
                    rw [hu, h3]
                    simp [Instr.indexAt, asIntOf, run_underlying hd, hbd, hT.size hte, Addr.add_lit]
              · simp at hl
            · simp at hl
          · simp at hl
      · -- an array
        rename_i n e
        rw [hq] at hkd
        simp only [TKok] at hkd
        subst hkd
        cases hte : T e with
        | none => simp [hte] at hl
        | some te =>
          simp only [hte] at hl
          split at hl
          · rename_i hbd
            obtain ⟨b, o, rfl, hr⟩ := ptAdd_sound hI hl hx
            refine ⟨_, ?_, hr⟩
            simp [Instr.indexAt, asIntOf, run_underlying hd, hbd, hT.size hte, Instr.sureAddr, Addr.add_lit]
          · simp at hl
  · simp at hl

theorem pickV_sound {t : Bool} {x y : AV} {u v : Value} (hx : RepA A F S w x u) (hy : RepA A F S w y v) : RepA A F S w (pickV t x y) (if t then u else v) := by
  unfold pickV
  split
  · have h1 := repA_lit hx; have h2 := repA_lit hy
    subst h1; subst h2
    cases t <;> exact .p _ _ (.lit _)
  · cases t
    · exact hy
    · exact hx

theorem eqGuard_run {op : BinOp} {t : TypeId} {X Y : Operand} {x y v : Value} (h : vBin op x y = some v) : (eqGuard op t X Y x y).run P w = .ok () w := by
  cases x <;> cases y <;> simp only [vBin, reduceCtorEq] at h <;> (unfold eqGuard; split <;> simp)

theorem RepTu.ofPt {vs : List AV} {us : List Value} (h : RepTu A F S w vs us) (hp : allPt vs = true) : RepAs A F S w vs us := by
  induction vs generalizing us with
  | nil => cases h; exact .nil
  | cons x xs ih =>
    cases h with
    | cons _ u _ us h hs =>
      cases x <;> simp only [allPt, Bool.false_eq_true] at hp
      cases h with
      | pt _ _ _ _ hg hq h1 => exact .cons _ _ _ _ (.pt _ _ _ _ hg hq h1) h1 (ih hs hp)

theorem opv_sound (hT : TOk P T) (hI : Inv E N S A F a w) {o : Oper} {v : AV} (h : opv T S o.op = some v) : ∃ u, (execOp a.eval o).run P w = .ok (.value u) w ∧ RepA A F S w v u := by
  obtain ⟨dst, op, ty, pos, after, guard⟩ := o
  simp only at h
  cases op <;> simp only [opv, reduceCtorEq] at h
  case move x => simp at h; subst h; exact ⟨_, by simp [execOp], hI.ev x⟩
  case assign x => simp at h; subst h; exact ⟨_, by simp [execOp], hI.ev x⟩
  case pick c x y =>
    split at h
    · rename_i t hc
      simp at h; subst h
      have := hI.ev c; rw [hc] at this
      have hv := repA_lit this
      exact ⟨_, by simp [execOp, asBool, hv], pickV_sound (hI.ev x) (hI.ev y)⟩
    · simp at h
  case load t x =>
    obtain ⟨u, h1, h2⟩ := loadV_sound hT hI h (hI.ev x)
    exact ⟨u, by simp [execOp, h1], h2⟩
  case nilCheck x =>
    have hx := hI.ev x
    split at h
    · rename_i hc; rw [hc] at hx
      obtain ⟨b, o, hp, hr⟩ := ptAdd_sound hI h hx
      exact ⟨.pointer (some ⟨b, o, none⟩), by simp [execOp, hp], by simpa using hr⟩
    · rename_i hc; rw [hc] at hx
      obtain ⟨b, o, hp, hr⟩ := ptAdd_sound hI h hx
      exact ⟨.pointer (some ⟨b, o, none⟩), by simp [execOp, hp], by simpa using hr⟩
    · rename_i hc; rw [hc] at hx
      simp at h; subst h
      obtain ⟨b, o, hq, _⟩ := repA_ro hx
      rw [hq] at hx
      exact ⟨_, by simp only [execOp, hq]; rfl, hx⟩
    · rename_i hc; rw [hc] at hx
      simp at h; subst h
      obtain ⟨us, hq, _⟩ := repA_pfn hx
      rw [hq] at hx
      exact ⟨_, by simp only [execOp, hq]; rfl, hx⟩
    · rename_i hc; rw [hc] at hx
      simp at h; subst h
      obtain ⟨us, hq, _⟩ := repA_fn hx
      rw [hq] at hx
      exact ⟨_, by simp only [execOp, hq]; rfl, hx⟩
    · simp at h
  case binOp op t x y yt =>
    have hx := hI.ev x
    have hy := hI.ev y
    unfold binV at h
    split at h
    · rename_i p q hc1 hc2
      rw [hc1] at hx; rw [hc2] at hy
      have h1 := repA_lit hx; have h2 := repA_lit hy
      split at h
      · rename_i hb
        unfold isBool at hb
        split at hb
        · rename_i ti hti
          split at hb
          · rename_i hk
            obtain ⟨d, hd, hkd⟩ := hT.kind hti
            rw [hk] at hkd
            simp only [TKok] at hkd
            subst hkd
            cases op <;> simp only [reduceCtorEq, Option.some.injEq] at h <;> subst h
            · exact ⟨_, by simp only [execOp, h1, h2, Sem.run_bind, eqGuard_bool, run_eql_bool hd, Result.andThen_ok, Sem.run_pure], .p _ _ (.lit _)⟩
            · exact ⟨_, by simp only [execOp, h1, h2, Sem.run_bind, eqGuard_bool, run_neq_bool hd, Result.andThen_ok, Sem.run_pure], .p _ _ (.lit _)⟩
          · simp at hb
        · simp at hb
      · simp at h
    · rename_i p q _ hc1 hc2
      rw [hc1] at hx; rw [hc2] at hy
      have h1 := repA_lit hx; have h2 := repA_lit hy
      simp only [Option.map_eq_some_iff] at h
      obtain ⟨z, hz, rfl⟩ := h
      exact ⟨z, by simp only [execOp, h1, h2, Sem.run_bind, eqGuard_run hz, vBin_sound hz, Result.andThen_ok, Sem.run_pure], .p _ _ (.lit _)⟩
    · simp at h
  case unOp op t x =>
    have hx := hI.ev x
    cases op <;> simp only [opv, reduceCtorEq] at h <;> (split at h <;> simp only [Option.some.injEq, reduceCtorEq] at h) <;> subst h
    all_goals (rename_i hc; rw [hc] at hx; have h1 := repA_lit hx; exact ⟨_, by simp [execOp, h1, Op.unary, Op.intArith], .p _ _ (.lit _)⟩)
  case convert src t x =>
    have hx := hI.ev x
    split at h
    · rename_i k n hc
      rw [hc] at hx
      have h1 := repA_lit hx
      split at h
      · rename_i ts ti hts hti
        split at h
        · rename_i k' hk
          simp at h; subst h
          obtain ⟨d0, hd0, _⟩ := hT.kind hts
          obtain ⟨d, hd, hkd⟩ := hT.kind hti
          rw [hk] at hkd
          simp only [TKok] at hkd
          subst hkd
          exact ⟨_, by simp [execOp, h1, convert, run_underlying hd, run_underlying hd0, Conv.intToInt], .p _ _ (.lit _)⟩
        · simp at h
      · simp at h
    · simp at h
  case fieldAddr s x f =>
    split at h
    · rename_i k hk
      obtain ⟨u, h1, h2⟩ := fieldAt_sound hT hI hk h (hI.ev x)
      exact ⟨u, by simp [execOp, h1], h2⟩
    · simp at h
  case indexAddr t x i =>
    obtain ⟨u, h1, h2⟩ := idxV_sound hT hI h (hI.ev x) (hI.ev i)
    exact ⟨u, by simp [execOp, h1], h2⟩
  case extract x i =>
    have hx := hI.ev x
    split at h
    · rename_i vs hc
      rw [hc] at hx
      obtain ⟨us, hq, hus⟩ := repA_tu hx
      obtain ⟨u, h1, h2⟩ := hus.get h
      exact ⟨u, by simp only [Array.getElem?_toList] at h1; simp [execOp, hq, Instr.extract, h1], h2⟩
    · simp at h
  case makeFunc fn first caps =>
    cases fn <;> simp only [opv, reduceCtorEq] at h
    rename_i f
    split at h
    · rename_i h0
      simp at h; subst h
      have : first = #[] := Array.eq_empty_of_size_eq_zero h0.1
      subst this
      refine ⟨.func (.func f) #[] (caps.map a.eval), by simp [execOp, Instr.makeFunc], .fn _ _ _ ?_⟩
      have := (hI.evs caps.toList).ofPt h0.2
      simpa using this
    · simp at h
  case call c =>
    obtain ⟨callee, args, tys⟩ := c
    cases callee with
    | value f => simp [opv] at h
    | invoke r m => simp [opv] at h
    | builtin b =>
      have hb : ∀ r, (builtin b tys ty (args.map fun | .const _ => true | _ => false) (args.map a.eval)).run P w = .ok (.value r) w →
          (execOp a.eval ⟨dst, .call ⟨.builtin b, args, tys⟩, ty, pos, after, guard⟩).run P w = .ok (.value r) w := fun r hr => by
        simp only [execOp, resolve, invoke, Sem.run_bind, Sem.run_pure, Result.andThen_ok]; exact hr
      cases b <;> simp only [opv, reduceCtorEq] at h
      case len =>
        split at h
        · rename_i x t hx ht
          cases hti : T t with
          | none => simp [hti] at h
          | some ti =>
            simp only [hti] at h
            obtain ⟨d, hd, hkd⟩ := hT.kind hti
            have hx0 : (args.map a.eval)[0]? = some (a.eval x) := by simp [hx]
            have hv := hI.ev x
            have hlen : ∀ r, (Builtin.len_ tys ty (args.map a.eval)).run P w = .ok r w → (builtin .len tys ty (args.map fun | .const _ => true | _ => false) (args.map a.eval)).run P w = .ok (.value r) w := fun r hr => by
              simp only [builtin, Sem.run_bind, hr, Result.andThen_ok, Sem.run_pure]
            cases hq : ti.kd <;> simp only [hq, reduceCtorEq] at h <;> rw [hq] at hkd <;> simp only [TKok] at hkd
            · subst hkd
              split at h
              · rename_i s hc
                simp at h; subst h
                rw [hc] at hv
                have := repA_lit hv
                exact ⟨_, hb _ (hlen _ (by simp [Builtin.len_, ht, hx0, run_underlying hd, this]; rfl)), .p _ _ (.lit _)⟩
              · simp at h
            · subst hkd
              simp only [Option.map_eq_some_iff] at h
              obtain ⟨n, hn, rfl⟩ := h
              obtain ⟨ad, c, hu⟩ := lenOf_sound hI hn hv
              exact ⟨_, hb _ (hlen _ (by simp [Builtin.len_, ht, hx0, run_underlying hd, hu]; rfl)), .p _ _ (.lit _)⟩
            · subst hkd
              simp at h; subst h
              exact ⟨_, hb _ (hlen _ (by simp [Builtin.len_, ht, hx0, run_underlying hd]; rfl)), .p _ _ (.lit _)⟩
        · simp at h
      case max =>
        split at h
        · rename_i x xs hx
          obtain ⟨r, h1, h2⟩ := maxL_sound (P := P) h (hI.ev x) (hI.evs xs)
          refine ⟨r, hb _ ?_, h2⟩
          have e : (args.map a.eval).toList = a.eval x :: xs.map a.eval := by simp [hx]
          simp only [builtin, Builtin.max_, e, Sem.run_bind, Sem.run_pure, if_true] at h1 ⊢
          rw [h1]; rfl
        · simp at h
      case min =>
        split at h
        · rename_i x xs hx
          obtain ⟨r, h1, h2⟩ := maxL_sound (P := P) h (hI.ev x) (hI.evs xs)
          refine ⟨r, hb _ ?_, h2⟩
          have e : (args.map a.eval).toList = a.eval x :: xs.map a.eval := by simp [hx]
          simp only [builtin, Builtin.min_, e, Sem.run_bind, Sem.run_pure, Bool.false_eq_true, if_false] at h1 ⊢
          rw [h1]; rfl
        · simp at h
end
end Go.Proofs.Ytablmbhnimnccaa.Pw
/- Pw, part 9: every operation, as a rule on the frame's state. No condition. -/
namespace Go.Proofs.Ytablmbhnimnccaa.Pw

/-- What shows x shows y as well (nothing at all is a row of no elements). -/
def PVle (x y : PV) : Prop := ∀ (A : Nat → Nat → Prop) (w : World) (u : Value), RepP A w x u → RepP A w y u
def VLe (v v' : AV) : Prop := v' = v ∨ ∃ x y, v = .p x ∧ v' = .p y ∧ PVle x y

theorem VLe.rep {A : Nat → Nat → Prop} {F : Nat → Nat → Value} {S : St} {w : World} {v v' : AV} {u : Value} (h : VLe v v') (hr : RepA A F S w v u) : RepA A F S w v' u := by
  rcases h with rfl | ⟨x, y, rfl, rfl, h⟩
  · exact hr
  · cases hr with | p _ _ hr => exact .p _ _ (h _ _ _ hr)

def cellsOk : AV → Bool
  | .p (.lit v) => v.oneCell'
  | .tu _ => false
  | .un => false
  | _ => true

def splice {α : Type} (cs : List α) (off : Nat) (vs : List α) : List α := cs.take off ++ vs ++ cs.drop (off + vs.length)

def zeroA (ti : TI) : List AV := ti.zero.cells.toList.map fun z => .p (.lit z)
def zeroP (ti : TI) : PV := if ti.isAgg then .ag (ti.zero.cells.toList.map .lit) else .lit ti.zero

def setCells (y : PV) (off : Nat) (ps : List PV) : Option PV :=
  match y with
  | .ag cs => if off + ps.length ≤ cs.length then some (.ag (splice cs off ps)) else none
  | _ => match off, ps with
    | 0, [.ag _] => none
    | 0, [p] => some p
    | _, _ => none

def placeOf (T : Nat → Option TI) (ti : TI) (i : Nat) : Option (Nat × Nat) :=
  match ti.kd with
  | .st fs => fs[i]?
  | .arr _ e => match T e with
    | some te => some (i * te.size, te.size)
    | none => none
  | _ => none

def fillV (T : Nat → Option TI) (ti : TI) : List (Nat × AV) → List AV → Option (List AV)
  | [], cs => some cs
  | (i, v) :: r, cs => match placeOf T ti i with
    | some (off, size) => if cellsOk v = true ∧ (toCells v).length = size ∧ off + size ≤ cs.length then fillV T ti r (splice cs off (toCells v)) else none
    | none => none

def plainOk : PV → Bool
  | .lit v => v.oneCell'
  | _ => true

def buildOk (T : Nat → Option TI) (ti : TI) : Bool :=
  match ti.kd with
  | .st _ => true
  | .arr _ e => (T e).isSome
  | _ => false

def isNilSl : AV → Bool
  | .p (.lit (.slice none 0 0)) => true
  | _ => false

/-- '== ' of whole numbers in a row. -/
def eqAg (op : BinOp) (x y : AV) : Option (Nat × Bool) :=
  match x, y with
  | .p (.ag xs), .p (.ag ys) => match litInts xs, litInts ys with
    | some a, some b => if b.length = a.length then (match op with
      | .eql => some (a.length, decide (a = b))
      | .neq => some (a.length, !decide (a = b))
      | _ => none) else none
    | _, _ => none
  | _, _ => none

def natOf : AV → Option Nat
  | .p (.lit (.int .i64 n)) => if 0 ≤ n then some n.toNat else none
  | _ => none

def St.optN (S : St) (d : Nat) : Option Operand → Option Nat
  | some x => natOf (S.ev x)
  | none => some d

/-- What a call hands back, taken into the frame: what came with it gets a name of its own. -/
inductive Recv (d : Nat) : St → TV → AV → St → Prop
  | p (S : St) (x : PV) : Recv d S (.p x) (.p x) S
  | rf (S : St) (cs : List PV) : Recv d S (.rf cs) (.pt d (S.gen d) 0) (S.mk' d (.var (cs.map .p) false))
  | ow (S : St) (E sz : Nat) (xs : List PV) (m : Nat) : Recv d S (.ow E sz xs m) (.os d (S.gen d) xs.length) (S.mk' d (.arr E sz xs m))

inductive RecvL (d : Nat) : St → List TV → List AV → St → Prop
  | nil (S : St) : RecvL d S [] [] S
  | cons (S S1 S2 : St) (x : TV) (v : AV) (xs : List TV) (vs : List AV) (h : Recv d S x v S1) (hs : RecvL d S1 xs vs S2) : RecvL d S (x :: xs) (v :: vs) S2

inductive RecvV (d : Nat) : St → TV → AV → St → Prop
  | one (S S' : St) (x : TV) (v : AV) (h : Recv d S x v S') : RecvV d S x v S'
  | ag (S S' : St) (xs : List TV) (vs : List AV) (h : RecvL d S xs vs S') : RecvV d S (.ag xs) (.ag vs) S'
  | tu (S S' : St) (xs : List TV) (vs : List AV) (h : RecvL d S xs vs S') : RecvV d S (.tu xs) (.tu vs) S'

def putBack (S : St) : List (Nat × Nat) → List (List PV) → St
  | n :: l, o :: os => putBack (S.setBl n.1 n.2 (.var (o.map .p) false)) l os
  | _, _ => S

def callee (S : St) (f : Operand) : Option (FuncId × List AV) :=
  match S.ev f with
  | .p (.fn g caps) => some (g, caps.map .p)
  | .fn g caps => some (g, caps)
  | _ => none

section
variable (P : Program) (T : Nat → Option TI)

def newBl (S : St) (d : Option Tmp) (b : Blk) (v : Nat → Nat → AV) (K : St → Prop) : Prop :=
  match d with
  | some d => K ((S.mk' d b).put (some d) (v d (S.gen d)))
  | none => False

/-- The operation o, from the state S: then K holds. -/
def opW0 (o : Oper) (S : St) (K : St → Prop) : Prop :=
  match opv T S o.op with
  | some v => ∃ v', VLe v v' ∧ K (S.put o.dst v')
  | none => match o.op with
    | .alloc t => match T t with
      | some ti => newBl S o.dst (.var (zeroA ti) false) (fun d g => .pt d g 0) K
      | none => False
    | .box _ x => cellsOk (S.ev x) = true ∧ newBl S o.dst (.var (toCells (S.ev x)) false) (fun d g => .pt d g 0) K
    | .build t ps => match T t with
      | some ti => match fillV T ti (ps.toList.map fun p => (p.1, S.ev p.2)) (zeroA ti) with
        | some cs => buildOk T ti = true ∧ ∃ v', VLe (mkAg cs) v' ∧ K (S.put o.dst v')
        | none => False
      | none => False
    | .buildSlice t len ps => match T t with
      | some ti => match ti.kd with
        | .sl e => match T e with
          | some te => (ps.toList.map (·.1)) = List.range len ∧ len ≤ 4096 ∧ 0 < te.size ∧ te.size ≤ 64 ∧
            ∃ xs S', PassL S (ps.toList.map fun p => S.ev p.2) (xs.map .p) S' [] ∧ (∀ x ∈ xs, x.size = te.size ∧ plainOk x = true) ∧ newBl S' o.dst (.arr e te.size xs 0) (fun d g => .os d g len) K
          | none => False
        | _ => False
      | none => False
    | .binOp op t x y _ => match eqAg op (S.ev x) (S.ev y) with
      | some (n, b) => EqOk P t n ∧ K (S.put o.dst (.p (.lit (.bool b))))
      | none => False
    | .store t x y => match T t with
      | some ti => cellsOk (S.ev y) = true ∧ (toCells (S.ev y)).length = ti.size ∧ o.dst = none ∧ (match S.ev x with
        | .pt t' g off => match S.bl t' g with
          | some (.var cs false) => off + ti.size ≤ cs.length ∧ K (S.setBl t' g (.var (splice cs off (toCells (S.ev y))) false))
          | _ => False
        | .pe t' g len i off => match S.bl t' g with
          | some (.arr E sz xs m) => match xs[i]?, allP (toCells (S.ev y)) with
            | some z, some ps => match setCells z off ps with
              | some z' => xs.length = len ∧ m ≤ i ∧ z'.size = z.size ∧ K (S.setBl t' g (.arr E sz (xs.set i z') m))
              | none => False
            | _, _ => False
          | _ => False
        | _ => False)
      | none => False
    | .makeSlice t l c => match T t with
      | some ti => match ti.kd with
        | .sl e => match T e with
          | some te => match natOf (S.ev l), natOf (S.ev c) with
            | some n, some n' => n = n' ∧ 0 < te.size ∧ n * te.bytes ≤ 140737488355328 ∧ n ≤ 140737488355328 ∧ newBl S o.dst (.arr e te.size (List.replicate n (zeroP te)) 0) (fun d g => .os d g n) K
            | _, _ => False
          | none => False
        | _ => False
      | none => False
    | .slice t x lo hi mx => match T t with
      | some ti => match ti.kd with
        | .str => match S.ev x, S.optN 0 lo with
          | .p (.lit (.string s)), some l => match S.optN s.size hi, mx with
            | some h, none => l ≤ h ∧ h ≤ s.size ∧ K (S.put o.dst (.p (.lit (.string (s.extract l h)))))
            | _, _ => False
          | _, _ => False
        | .sl e => match T e, S.list (S.ev x), S.optN 0 lo with
          | some te, some xs, some l => match S.optN xs.length hi with
            | some h => (∀ m, mx = some m → natOf (S.ev m) = some h ∧ hi ≠ none) ∧ l ≤ h ∧ h ≤ xs.length ∧
              ∃ S', PassV S (S.ev x) (.p (.sl te.size xs)) S' [] ∧ K (S'.put o.dst (.p (.sl te.size ((xs.take h).drop l))))
            | none => False
          | _, _, _ => False
        | _ => False
      | none => False
    | .call ⟨.builtin .append, args, tys⟩ => match args.toList, tys.toList with
      | [x, y], [t, t'] => match T t with
        | some ti => match ti.kd with
          | .sl e => match T e, S.list (S.ev y) with
            | some te, some ys => t = t' ∧ 0 < te.size ∧ (∀ y ∈ ys, y.size = te.size) ∧ (match S.ev x with
              | .os t' g len => match S.bl t' g with
                | some (.arr E sz xs m) => xs.length = len ∧ E = e ∧ sz = te.size ∧ (len + ys.length) * te.bytes ≤ 140737488355328 ∧ len + ys.length ≤ 140737488355328 ∧
                  K ((S.setBl t' g (.arr E sz (xs ++ ys) m)).put o.dst (.os t' g (len + ys.length)))
                | _ => False
              | x => isNilSl x = true ∧ ys.length * te.bytes ≤ 140737488355328 ∧ ys.length ≤ 140737488355328 ∧ newBl S o.dst (.arr e te.size ys 0) (fun d g => .os d g ys.length) K)
            | _, _ => False
          | _ => False
        | none => False
      | _, _ => False
    | .call ⟨.value f, args, _⟩ => match callee S f with
      | some (g, caps) => ∃ targs S1 l res outs v S2, PassL S (args.toList.map S.ev ++ caps) targs S1 l ∧ Fn P g targs res outs ∧ outs.length = l.length ∧
        RecvV (o.dst.getD 0) (putBack S1 l outs) res v S2 ∧ (o.dst = none → ∃ x, res = .p x ∨ res = .tu []) ∧ K (S2.put o.dst v)
      | none => False
    | _ => False

end
/-- Plain values of a row of operands. -/
inductive RepQ (A : Nat → Nat → Prop) (w : World) : List PV → List Value → Prop
  | nil : RepQ A w [] []
  | cons (x : PV) (u : Value) (xs : List PV) (us : List Value) (h : RepP A w x u) (hs : RepQ A w xs us) : RepQ A w (x :: xs) (u :: us)
/-- As what a value is read: plain; or a row of the frame's own. -/
inductive Seen (S : St) : AV → PV → Prop
  | p (x : PV) : Seen S (.p x) x
  | os (t g E sz m len : Nat) (xs : List PV) (h : S.bl t g = some (.arr E sz xs m)) (hl : xs.length = len) : Seen S (.os t g len) (.sl sz xs)
inductive SeenL (S : St) : List AV → List PV → Prop
  | nil : SeenL S [] []
  | cons (v : AV) (x : PV) (vs : List AV) (xs : List PV) (h : Seen S v x) (hs : SeenL S vs xs) : SeenL S (v :: vs) (x :: xs)
/-- Of plain operands alone, and only a value: by its own law. Or of rows of its own, too, and a value that has no place. -/
def GenOk (P : Program) (o : Oper) (S : St) (v : PV) : Prop := (∃ xs : List PV, o.op.operands.toList.map S.ev = xs.map .p ∧
  ∀ (A : Nat → Nat → Prop) (w : World) (ev : Operand → Value), RepQ A w xs (o.op.operands.toList.map ev) → ∃ u, (execOp ev o).run P w = .ok (.value u) w ∧ RepP A w v u) ∨
  ((∃ u, v = .lit u) ∧ ∃ xs : List PV, SeenL S (o.op.operands.toList.map S.ev) xs ∧
  ∀ (A : Nat → Nat → Prop) (w : World) (ev : Operand → Value), RepQ A w xs (o.op.operands.toList.map ev) → ∃ u, (execOp ev o).run P w = .ok (.value u) w ∧ RepP A w v u)
/-- An owned row cut short; nothing, and as many noughts behind it. -/
def opT (T : Nat → Option TI) (o : Oper) (S : St) (K : St → Prop) : Prop :=
  match o.op with
  | .slice t x none (some h) none => ∃ ti te e t' g len E sz xs m k, T t = some ti ∧ ti.kd = .sl e ∧ T e = some te ∧ te.size = sz ∧ S.ev x = .os t' g len ∧ S.bl t' g = some (.arr E sz xs m) ∧ xs.length = len ∧
      natOf (S.ev h) = some k ∧ m ≤ k ∧ k ≤ len ∧ newBl (S.drop t' g) o.dst (.arr E sz (xs.take k) m) (fun d g => .os d g k) K
  | .call ⟨.builtin .append, args, tys⟩ => ∃ x y t tn ti te e ki tin n, args.toList = [x, y] ∧ tys.toList = [t, tn] ∧ T t = some ti ∧ ti.kd = .sl e ∧ T e = some te ∧ T tn = some tin ∧ tin.kd = .int ki ∧
      S.ev x = .p (.lit nilSl) ∧ natOf (S.ev y) = some n ∧ 0 < n ∧ 0 < te.size ∧ n * te.bytes ≤ 140737488355328 ∧ n ≤ 140737488355328 ∧ newBl S o.dst (.arr e te.size (List.replicate n (zeroP te)) 0) (fun d g => .os d g n) K
  | _ => False
def opW (P : Program) (T : Nat → Option TI) (o : Oper) (S : St) (K : St → Prop) : Prop :=
  (∃ v, GenOk P o S v ∧ K (S.put o.dst (.p v))) ∨ opT T o S K ∨ opW0 P T o S K
end Go.Proofs.Ytablmbhnimnccaa.Pw
/- Pw, part 10: blocks that are made and written. No condition. -/
namespace Go.Proofs.Ytablmbhnimnccaa.Pw
section
variable {P : Program} {T : Nat → Option TI} {E : Entry} {N : Nat} {A : Nat → Nat → Prop} {F : Nat → Nat → Value} {S S' : St} {a : Act} {w w' : World}

theorem mk'_bl {d : Nat} {b0 : Blk} {t g : Nat} {b : Blk} (hb : (S.mk' d b0).bl t g = some b) : (t = d ∧ g = S.gen d ∧ b = b0) ∨ (¬ (t = d ∧ g = S.gen d) ∧ S.bl t g = some b) := by
  simp only [St.mk'] at hb
  by_cases hc : t = d ∧ g = S.gen d
  · rw [hc.1, hc.2, upd2_same] at hb; simp at hb; exact .inl ⟨hc.1, hc.2, hb.symm⟩
  · rw [upd2_ne _ _ _ _ _ _ hc] at hb; exact .inr ⟨hc, hb⟩

theorem Evo.of_mk {d : Nat} {b : Blk} {Fv : Value} {A' : Nat → Nat → Prop} (k : Keeps A A' w w') : Evo A A' F (upd2 F d (S.gen d) Fv) S (S.mk' d b) w w' :=
  ⟨k, fun t => by by_cases h : t = d
                  · subst h; simp [St.mk', upd_same]
                  · simp [St.mk', upd_ne _ _ _ _ h],
    fun t g b' hg hb hp => by
      rcases mk'_bl hb with ⟨rfl, rfl, _⟩ | ⟨hn, hb⟩
      · omega
      · exact ⟨b', hb, hp, upd2_ne _ _ _ _ _ _ hn⟩,
    fun t g E0 sz xs m hg hb => by
      rcases mk'_bl hb with ⟨rfl, rfl, _⟩ | ⟨hn, hb⟩
      · omega
      · exact ⟨xs, m, hb, Nat.le_refl _, fun _ => upd2_ne _ _ _ _ _ _ hn⟩⟩

theorem Keeps.of_step {Wr : Nat → Prop} (h : Inv E N S A F a w) (ws : Wstep Wr w w') (hc : ∀ b o, A b o → Wr b → w'.cell? ⟨b, o, none⟩ = w.cell? ⟨b, o, none⟩) : Keeps A A w w' :=
  ⟨fun _ _ h => h, fun b o ha => by
    by_cases hw : Wr b
    · exact hc b o ha hw
    · have := ws.blk b (h.Alt b o ha) hw
      simp [World.cell?, this]⟩

theorem Inv.newBlk' (h : Inv E N S A F a w) (ws : Wstep (fun _ => False) w w') {d : Nat} {b : Blk} {Fv : Value} (hok : BlkOk A (upd2 F d (S.gen d) Fv) (S.mk' d b) w' d (S.gen d) b)
    (hnl : ∀ r, bOf Fv = some r → ¬ Live S F r) (hno : ∀ r, bOf Fv = some r → E.w.heap.size ≤ r ∨ r ∈ E.R) : Inv E N (S.mk' d b) A (upd2 F d (S.gen d) Fv) a w' := by
  have k : Keeps A A w w' := Keeps.of_step h ws fun _ _ _ h => h.elim
  have e : Evo A A F (upd2 F d (S.gen d) Fv) S (S.mk' d b) w w' := Evo.of_mk k
  have hF : ∀ {t g}, ¬ (t = d ∧ g = S.gen d) → upd2 F d (S.gen d) Fv t g = F t g := fun hn => upd2_ne _ _ _ _ _ _ hn
  have hFs : upd2 F d (S.gen d) Fv d (S.gen d) = Fv := upd2_same _ _ _ _
  refine h.change e rfl (fun t g b' hb => ?_) (fun t g b' hb => ?_) (fun t1 g1 b1 t2 g2 b2 r h1 h2 q1 q2 => ?_) (fun b o ha => Nat.lt_of_lt_of_le (h.Alt b o ha) ws.size) ws (fun _ h => h.elim) (fun b o ha _ => .inl ha) (fun t g b' r hb hr => ?_)
  · rcases mk'_bl hb with ⟨rfl, rfl, _⟩ | ⟨hn, hb⟩
    · simp [St.mk', upd_same]
    · have := h.lt _ _ _ hb
      by_cases ht : t = d
      · subst ht; simp [St.mk', upd_same]; omega
      · simp [St.mk', upd_ne _ _ _ _ ht]; exact this
  · rcases mk'_bl hb with ⟨rfl, rfl, rfl⟩ | ⟨hn, hb⟩
    · exact hok
    · have hb0 := h.bl _ _ _ hb
      exact BlkOk.evo e hb0 (hF hn) fun r hr => ⟨ws.blk r (hb0.bOf_lt hr) (fun h => h), fun _ h => h⟩
  · rcases mk'_bl h1 with ⟨rfl, rfl, rfl⟩ | ⟨n1, p1⟩
    · rcases mk'_bl h2 with ⟨rfl, rfl, rfl⟩ | ⟨n2, h2⟩
      · exact ⟨rfl, rfl⟩
      · rw [hFs] at q1; rw [hF n2] at q2
        exact absurd ⟨_, _, _, h2, q2⟩ (hnl r q1)
    · rcases mk'_bl h2 with ⟨rfl, rfl, rfl⟩ | ⟨n2, p2⟩
      · rw [hFs] at q2; rw [hF n1] at q1
        exact absurd ⟨_, _, _, p1, q1⟩ (hnl r q2)
      · rw [hF n1] at q1; rw [hF n2] at q2
        exact h.inj _ _ _ _ _ _ r p1 p2 q1 q2
  · rcases mk'_bl hb with ⟨rfl, rfl, rfl⟩ | ⟨n1, hb⟩
    · rw [hFs] at hr; exact hno r hr
    · rw [hF n1] at hr; exact h.own _ _ _ r hb hr

theorem Inv.newBlk (h : Inv E N S A F a w) (ws : Wstep (fun _ => False) w w') {d : Nat} {b : Blk} {Fv : Value} (hok : BlkOk A (upd2 F d (S.gen d) Fv) (S.mk' d b) w' d (S.gen d) b)
    (hnew : ∀ r, bOf Fv = some r → w.heap.size ≤ r) : Inv E N (S.mk' d b) A (upd2 F d (S.gen d) Fv) a w' :=
  h.newBlk' ws hok (fun r hr ⟨t, g, k, h1, h2⟩ => by have := hnew r hr; have := (h.bl _ _ _ h1).bOf_lt h2; omega) fun r hr => .inl (Nat.le_trans h.size (hnew r hr))

theorem Inv.updBlk (h : Inv E N S A F a w) {t g : Nat} {b0 b1 : Blk} (hb0 : S.bl t g = some b0) {Fv : Value} (ws : Wstep (fun b => bOf (F t g) = some b) w w')
    (e : Evo A A F (upd2 F t g Fv) S (S.setBl t g b1) w w') (hok : BlkOk A (upd2 F t g Fv) (S.setBl t g b1) w' t g b1)
    (hnew : ∀ r, bOf Fv = some r → bOf (F t g) = some r ∨ w.heap.size ≤ r) : Inv E N (S.setBl t g b1) A (upd2 F t g Fv) a w' := by
  have hF : ∀ {t' g'}, ¬ (t' = t ∧ g' = g) → upd2 F t g Fv t' g' = F t' g' := fun hn => upd2_ne _ _ _ _ _ _ hn
  have hFs : upd2 F t g Fv t g = Fv := upd2_same _ _ _ _
  refine h.change e rfl (fun t' g' b' hb => ?_) (fun t' g' b' hb => ?_) (fun t1 g1 b1 t2 g2 b2 r h1 h2 q1 q2 => ?_) (fun b o ha => Nat.lt_of_lt_of_le (h.Alt b o ha) ws.size) ws
    (fun b hb => h.own _ _ _ _ hb0 hb) (fun b o ha _ => .inl ha) (fun t' g' b' r hb hr => ?_)
  · rcases setBl_bl hb with ⟨rfl, rfl, _⟩ | ⟨hn, hb⟩
    · exact h.lt _ _ _ hb0
    · exact h.lt _ _ _ hb
  · rcases setBl_bl hb with ⟨rfl, rfl, rfl⟩ | ⟨hn, hb⟩
    · exact hok
    · have hq := h.bl _ _ _ hb
      exact BlkOk.evo e hq (hF hn) fun r hr => ⟨ws.blk r (hq.bOf_lt hr) (fun h' => hn (h.inj _ _ _ _ _ _ r hb hb0 hr h')), fun _ h => h⟩
  · rcases setBl_bl h1 with ⟨rfl, rfl, rfl⟩ | ⟨n1, p1⟩
    · rcases setBl_bl h2 with ⟨rfl, rfl, rfl⟩ | ⟨n2, h2⟩
      · exact ⟨rfl, rfl⟩
      · rw [hFs] at q1; rw [hF n2] at q2
        rcases hnew r q1 with q | q
        · exact h.inj _ _ _ _ _ _ r hb0 h2 q q2
        · have := (h.bl _ _ _ h2).bOf_lt q2; omega
    · rcases setBl_bl h2 with ⟨rfl, rfl, rfl⟩ | ⟨n2, p2⟩
      · rw [hFs] at q2; rw [hF n1] at q1
        rcases hnew r q2 with q | q
        · exact h.inj _ _ _ _ _ _ r p1 hb0 q1 q
        · have := (h.bl _ _ _ p1).bOf_lt q1; omega
      · rw [hF n1] at q1; rw [hF n2] at q2
        exact h.inj _ _ _ _ _ _ r p1 p2 q1 q2
  · rcases setBl_bl hb with ⟨rfl, rfl, rfl⟩ | ⟨n1, hb⟩
    · rw [hFs] at hr
      rcases hnew r hr with q | q
      · exact h.own _ _ _ r hb0 q
      · exact .inl (Nat.le_trans h.size q)
    · rw [hF n1] at hr; exact h.own _ _ _ r hb hr

theorem upd2_self (t g : Nat) : upd2 F t g (F t g) = F := by
  funext t' g'
  by_cases hc : t' = t ∧ g' = g
  · rw [hc.1, hc.2, upd2_same]
  · rw [upd2_ne _ _ _ _ _ _ hc]

theorem wstep_alloc (w : World) (o : Obj) : Wstep (fun _ => False) w (w.alloc o) := ⟨rfl, rfl, rfl, by simp, fun b hb _ => by simpa using heap_alloc_old w o b hb⟩

theorem Inv.newVar (h : Inv E N S A F a w) {cs : List AV} {us : Array Value} (hr : RepAs A F S w cs us.toList) (t : TypeId) (d : Nat) :
    Inv E N (S.mk' d (.var cs false)) A (upd2 F d (S.gen d) (.pointer (some ⟨w.heap.size, 0, none⟩))) a (w.alloc (.cells us t)) := by
  have ws := wstep_alloc w (.cells us t)
  have e : Evo A A F (upd2 F d (S.gen d) (.pointer (some ⟨w.heap.size, 0, none⟩))) S (S.mk' d (.var cs false)) w (w.alloc (.cells us t)) :=
    Evo.of_mk (Keeps.of_step h ws fun _ _ _ h => h.elim)
  refine h.newBlk ws ⟨w.heap.size, us, t, upd2_same _ _ _ _, by simpa using heap_alloc_new w _, RepAs.evo e hr, fun _ o ha => ?_, fun hq => by simp at hq⟩ fun r hr => by simp [bOf] at hr; omega
  have := h.Alt _ _ ha; omega

theorem RepA.newPt {d g : Nat} {b : Blk} {r : Nat} {Fv : Value} (hF : F d g = .pointer (some ⟨r, 0, none⟩)) (hg : g < S.gen d) : RepA A F S w (.pt d g 0) (.pointer (some ⟨r, 0, none⟩)) :=
  .pt _ _ _ _ hg (fun b hb _ => ⟨r, hF, rfl⟩) rfl

theorem RepA.newOs {d g len : Nat} {E0 sz : Nat} {xs : List PV} {m : Nat} (hg : g < S.gen d) (hb : S.bl d g = some (.arr E0 sz xs m)) (hl : xs.length = len) (h1 : (F d g).oneCell' = true) : RepA A F S w (.os d g len) (F d g) :=
  .os _ _ _ _ hg (fun E' sz' xs' m' hb' => by rw [hb] at hb'; simp at hb'; obtain ⟨rfl, rfl, rfl, rfl⟩ := hb'; exact ⟨by omega, fun _ => rfl⟩) h1

theorem toCells_sound {x : AV} {u : Value} (hk : cellsOk x = true) (hx : RepA A F S w x u) : RepAs A F S w (toCells x) u.cells.toList := by
  have one : ∀ {x : AV} {u : Value}, RepA A F S w x u → u.oneCell' = true → toCells x = [x] → RepAs A F S w (toCells x) u.cells.toList := fun {x u} hx h1 ht => by
    rw [ht]
    have : u.cells = #[u] := by cases u <;> simp_all [Value.cells, Value.oneCell']
    rw [this]
    exact .cons _ _ _ _ hx h1 .nil
  cases x with
  | p q =>
    cases hx with
    | p _ _ hx =>
      cases hx with
      | lit => exact one (.p _ _ (.lit _)) hk rfl
      | ag cs us h => exact RepAs.of_p h
      | snil sz c hc ad => exact one (.p _ _ (.snil _ _ hc ad)) rfl rfl
      | sl sz xs ad c hl hc hs hsp h => exact one (.p _ _ (.sl _ _ _ _ hl hc hs hsp h)) rfl rfl
      | fn f caps us h => exact one (.p _ _ (.fn _ _ _ h)) rfl rfl
      | ro x off b o h => exact one (.p _ _ (.ro _ _ _ _ h)) rfl rfl
  | ag cs => cases hx with | ag _ us h => exact h
  | tu vs => simp [cellsOk] at hk
  | fn f caps => cases hx with | fn _ _ us h => exact one (.fn _ _ _ h) rfl rfl
  | pt t g off => cases hx with | pt _ _ _ _ hg hq h1 => exact one (.pt _ _ _ _ hg hq h1) h1 rfl
  | os t g len => cases hx with | os _ _ _ _ hg hq h1 => exact one (.os _ _ _ _ hg hq h1) h1 rfl
  | pe t g len i off => cases hx with | pe _ _ _ _ _ _ hg hq h1 => exact one (.pe _ _ _ _ _ _ hg hq h1) h1 rfl
  | un => simp [cellsOk] at hk

theorem run_newVar (t : TypeId) (v : Value) : (newVar t v).run P w = .ok ⟨w.heap.size, 0, none⟩ (w.alloc (.cells v.cells t)) := by
  simp [newVar, newRow]
end
end Go.Proofs.Ytablmbhnimnccaa.Pw
