/- Pw, part 7: operations that only give a value. No condition. -/
import Derived.Test.YtablmbhnimnccaaZqHand
namespace Go.Proofs.Ytablmbhnimnccaa.Pw

/-- Of whole numbers, bools and strings. -/
def vBin (op : BinOp) (x y : Value) : Option Value :=
  match x, y with
  | .int k a, .int k' b =>
    match op with
    | .shl => if 0 ≤ b then some (.int k (k.wrap (a * 2 ^ (min b.toNat k.bits)))) else none
    | .shr => if 0 ≤ b then some (.int k (a.fdiv (2 ^ (min b.toNat k.bits)))) else none
    | _ => if k = k' then
      match op with
      | .add => some (.int k (k.wrap (a + b)))
      | .sub => some (.int k (k.wrap (a - b)))
      | .mul => some (.int k (k.wrap (a * b)))
      | .quo => if b = 0 then none else some (.int k (k.wrap (a.tdiv b)))
      | .rem => if b = 0 then none else some (.int k (a.tmod b))
      | .and => some (.int k (k.wrap (BitVec.ofInt k.bits a &&& BitVec.ofInt k.bits b).toNat))
      | .or => some (.int k (k.wrap (BitVec.ofInt k.bits a ||| BitVec.ofInt k.bits b).toNat))
      | .xor => some (.int k (k.wrap (BitVec.ofInt k.bits a ^^^ BitVec.ofInt k.bits b).toNat))
      | .eql => some (.bool (a == b))
      | .neq => some (.bool (a != b))
      | .lss => some (.bool (decide (a < b)))
      | .leq => some (.bool (decide (a ≤ b)))
      | .gtr => some (.bool (decide (a > b)))
      | .geq => some (.bool (decide (a ≥ b)))
      | _ => none
      else none
  | .string a, .string b => match op with
    | .add => if a.size + b.size ≤ 9223372036854775807 then some (.string (a ++ b)) else none
    | .eql => some (.bool (a.toList == b.toList))
    | .neq => some (.bool (!(a.toList == b.toList)))
    | _ => none
  | _, _ => none

def litInts : List PV → Option (List Int)
  | [] => some []
  | .lit (.int .i64 n) :: xs => (litInts xs).map (n :: ·)
  | _ => none

def ptAdd (S : St) (k : Nat) : AV → Option AV
  | .pt t g off => if S.okA (.pt t g off) then some (.pt t g (off + k)) else none
  | .pe t g len i off => if S.okA (.pe t g len i off) then some (.pe t g len i (off + k)) else none
  | .p (.ro x off) => some (.p (.ro x (off + k)))
  | _ => none

section
variable (T : Nat → Option TI) (S : St)

def loadV (t : Nat) (x : AV) : Option AV :=
  match T t with
  | none => none
  | some ti => match x with
    | .pt t g off => match S.bl t g with
      | some (.var cs _) => ldA ti cs off
      | _ => none
    | .pe t g len i off => match S.bl t g with
      | some (.arr _ _ xs _) => if xs.length = len then (match xs[i]? with | some y => (ldP ti y.cells off).map .p | none => none) else none
      | _ => none
    | .p (.ro y off) => (ldP ti y.cells off).map .p
    | _ => none

def fieldOff (s f : Nat) : Option Nat :=
  match T s with
  | some ti => match ti.kd with
    | .st fs => (fs[f]?).map (·.1)
    | _ => none
  | none => none

def idxV (t : Nat) (x i : AV) : Option AV :=
  match i with
  | .p (.lit (.int _ i)) => match T t with
    | none => none
    | some ti => match ti.kd with
      | .arr n e => match T e with
        | some te => if 0 ≤ i ∧ i < n then ptAdd S (i.toNat * te.size) x else none
        | none => none
      | .sl e => match T e with
        | none => none
        | some te => match x with
          | .p (.sl sz xs) => if sz = te.size ∧ 0 ≤ i then (xs[i.toNat]?).map fun y => .p (.ro y 0) else none
          | .os t g len => match S.bl t g with
            | some (.arr _ sz xs _) => if xs.length = len ∧ sz = te.size ∧ 0 ≤ i ∧ i < len then some (.pe t g len i.toNat 0) else none
            | _ => none
          | _ => none
      | _ => none
  | _ => none

def pickV (t : Bool) (x y : AV) : AV :=
  match x, y with
  | .p (.lit (.bool a)), .p (.lit (.bool b)) => .p (.lit (.bool (bif t then a else b)))
  | x, y => bif t then x else y

def isBool (t : Nat) : Bool := match T t with
  | some ti => match ti.kd with
    | .bool => true
    | _ => false
  | none => false

def binV (op : BinOp) (t : Nat) (x y : AV) : Option AV :=
  match x, y with
  | .p (.lit (.bool a)), .p (.lit (.bool b)) => if isBool T t then (match op with
    | .eql => some (.p (.lit (.bool (a == b))))
    | .neq => some (.p (.lit (.bool (!(a == b)))))
    | _ => none) else none
  | .p (.lit x), .p (.lit y) => (vBin op x y).map fun v => .p (.lit v)
  | _, _ => none

def allPt : List AV → Bool
  | [] => true
  | .pt _ _ _ :: xs => allPt xs
  | _ => false

def maxV (big : Bool) (x y : AV) : Option AV :=
  match x, y with
  | .p (.lit (.int k a)), .p (.lit (.int _ b)) => some (.p (.lit (.int k (if (if big then b > a else b < a) then b else a))))
  | _, _ => none
def maxL (big : Bool) : AV → List AV → Option AV
  | x, [] => some x
  | x, y :: ys => match maxV big x y with
    | some z => maxL big z ys
    | none => none

/-- What an operation gives that does nothing else. -/
def opv (op : Op) : Option AV :=
  match op with
  | .move x => some (S.ev x)
  | .assign x => some (S.ev x)
  | .pick c a b => match S.ev c with
    | .p (.lit (.bool t)) => some (pickV t (S.ev a) (S.ev b))
    | _ => none
  | .load t x => loadV T S t (S.ev x)
  | .nilCheck x => match S.ev x with
    | .pt t g off => ptAdd S 0 (.pt t g off)
    | .pe t g len i off => ptAdd S 0 (.pe t g len i off)
    | .p (.ro x off) => some (.p (.ro x off))
    | .p (.fn f caps) => some (.p (.fn f caps))
    | .fn f caps => some (.fn f caps)
    | _ => none
  | .binOp op t x y _ => binV T op t (S.ev x) (S.ev y)
  | .unOp .neg _ x => match S.ev x with
    | .p (.lit (.int k n)) => some (.p (.lit (.int k (k.wrap (0 - n)))))
    | _ => none
  | .unOp .not _ x => match S.ev x with
    | .p (.lit (.bool b)) => some (.p (.lit (.bool (!b))))
    | _ => none
  | .convert s t x => match S.ev x with
    | .p (.lit (.int _ n)) => match T s, T t with
      | some _, some ti => match ti.kd with
        | .int k => some (.p (.lit (.int k (k.wrap n))))
        | _ => none
      | _, _ => none
    | _ => none
  | .fieldAddr s x f => match fieldOff T s f with
    | some k => ptAdd S k (S.ev x)
    | none => none
  | .indexAddr t x i => idxV T S t (S.ev x) (S.ev i)
  | .extract x i => match S.ev x with
    | .tu vs => vs[i]?
    | _ => none
  | .makeFunc (.func f) first caps => if first.size = 0 ∧ allPt (caps.toList.map S.ev) = true then some (.fn f (caps.toList.map S.ev)) else none
  | .call ⟨.builtin .len, args, tys⟩ => match args[0]?, tys[0]? with
    | some x, some t => match T t with
      | some ti => match ti.kd with
        | .sl _ => (lenOf S (S.ev x)).map fun (n : Nat) => AV.p (.lit (.int .i64 (n : Int)))
        | .str => match S.ev x with
          | .p (.lit (.string s)) => some (.p (.lit (.int .i64 s.size)))
          | _ => none
        | .arr n _ => some (.p (.lit (.int .i64 n)))
        | _ => none
      | none => none
    | _, _ => none
  | .call ⟨.builtin .max, args, _⟩ => match args.toList with
    | x :: xs => maxL true (S.ev x) (xs.map S.ev)
    | [] => none
  | .call ⟨.builtin .min, args, _⟩ => match args.toList with
    | x :: xs => maxL false (S.ev x) (xs.map S.ev)
    | [] => none
  | _ => none
end

section
variable {P : Program} {T : Nat → Option TI} {E : Entry} {N : Nat} {A : Nat → Nat → Prop} {F : Nat → Nat → Value} {S : St} {a : Act} {w : World}

theorem run_info {t : TypeId} {i : TypeInfo} (h : P.info? t = some i) : (typeInfo t).run P w = .ok i w := by simp [typeInfo, h]
theorem run_sizeOf' {t : TypeId} {i : TypeInfo} (h : P.info? t = some i) : (sizeOf t).run P w = .ok i.size w := by simp [sizeOf, run_info h]

theorem TOk.isAgg (hT : TOk P T) {t : Nat} {ti : TI} (h : T t = some ti) : (isAgg t).run P w = .ok ti.isAgg w := by
  obtain ⟨i, d, hi, hd, _, _, _, _, _, _, hk⟩ := hT t ti h
  unfold Go.isAgg
  simp only [Sem.run_bind, run_underlying hd, Result.andThen_ok]
  cases hkd : ti.kd with
  | sca =>
    rw [hkd] at hk
    cases d <;> simp [TI.isAgg, hkd] <;> first | exact hk.1 _ rfl | exact hk.2 _ _ rfl
  | str => rw [hkd] at hk; subst hk; simp [TI.isAgg, hkd]
  | bool => rw [hkd] at hk; subst hk; simp [TI.isAgg, hkd]
  | int k => rw [hkd] at hk; subst hk; simp [TI.isAgg, hkd]
  | sl e => rw [hkd] at hk; subst hk; simp [TI.isAgg, hkd]
  | st fs => rw [hkd] at hk; obtain ⟨f, rfl, _⟩ := hk; simp [TI.isAgg, hkd]
  | arr n e => rw [hkd] at hk; subst hk; simp [TI.isAgg, hkd]

theorem TOk.size (hT : TOk P T) {t : Nat} {ti : TI} (h : T t = some ti) : (sizeOf t).run P w = .ok ti.size w := by
  obtain ⟨i, d, hi, hd, hs, _⟩ := hT t ti h
  rw [run_sizeOf' hi, hs]

theorem TOk.info (hT : TOk P T) {t : Nat} {ti : TI} (h : T t = some ti) : ∃ i, P.info? t = some i ∧ i.size = ti.size ∧ i.bytes = ti.bytes ∧ i.zero = some ti.zero ∧ ti.zero.cells.size = ti.size := by
  obtain ⟨i, d, hi, hd, hs, hb, hz, hc, _⟩ := hT t ti h
  exact ⟨i, hi, hs, hb, hz, hc⟩

theorem TOk.kind (hT : TOk P T) {t : Nat} {ti : TI} (h : T t = some ti) : ∃ d, P.underlying t = some d ∧ TKok P d ti.kd := by
  obtain ⟨i, d, hi, hd, hs, hb, hz, hc, _, _, hk⟩ := hT t ti h
  exact ⟨d, hd, hk⟩

/-- A variable of the cells us at (b, o). -/
theorem run_loadAgg (hT : TOk P T) {t : Nat} {ti : TI} (h : T t = some ti) (hag : ti.isAgg = true) {b o : Nat} {us : List Value} (hl : us.length = ti.size)
    (hc : ∀ j u, us[j]? = some u → w.cell? ⟨b, o + j, none⟩ = some u) : (loadVar t ⟨b, o, none⟩).run P w = .ok (.agg us.toArray) w := by
  unfold loadVar
  have := run_loadCells_list (P := P) w ⟨b, o, none⟩ us (fun j v hj => by rw [Addr.add_lit]; exact hc j v hj)
  simp only [Sem.run_bind, hT.isAgg h, Result.andThen_ok, hag, if_true, hT.size h, ← hl, this, Sem.run_pure]

theorem run_loadOne (hT : TOk P T) {t : Nat} {ti : TI} (h : T t = some ti) (hag : ti.isAgg = false) {b o : Nat} {u : Value}
    (hc : w.cell? ⟨b, o, none⟩ = some u) : (loadVar t ⟨b, o, none⟩).run P w = .ok u w := by
  unfold loadVar
  simp only [Sem.run_bind, hT.isAgg h, Result.andThen_ok, hag, Bool.false_eq_true, if_false, run_load, hc]

theorem allP_some {cs : List AV} {ps : List PV} (h : allP cs = some ps) : cs = ps.map .p := by
  induction cs generalizing ps with
  | nil => simp [allP] at h; subst h; rfl
  | cons x cs ih =>
    cases x <;> simp [allP] at h
    obtain ⟨ys, h1, rfl⟩ := h
    simp [← ih h1]

theorem RepA.mkAg {cs : List AV} {us : List Value} (h : RepAs A F S w cs us) : RepA A F S w (mkAg cs) (.agg us.toArray) := by
  unfold Go.Proofs.Ytablmbhnimnccaa.Pw.mkAg
  split
  · rename_i ps hp
    have := allP_some hp
    subst this
    exact .p _ _ (.ag _ _ (by simpa using h.to_p))
  · exact .ag _ _ (by simpa using h)

theorem ldA_sound (hT : TOk P T) {t : Nat} {ti : TI} (h : T t = some ti) {cs : List AV} {off : Nat} {v : AV} (hl : ldA ti cs off = some v) {b : Nat} {us : List Value}
    (hr : RepAs A F S w cs us) (hc : ∀ j u, us[j]? = some u → w.cell? ⟨b, j, none⟩ = some u) : ∃ u, (loadVar t ⟨b, off, none⟩).run P w = .ok u w ∧ RepA A F S w v u := by
  unfold ldA at hl
  split at hl
  · rename_i hag
    split at hl
    · rename_i hle
      simp at hl; subst hl
      have h2 : RepAs A F S w ((cs.drop off).take ti.size) ((us.drop off).take ti.size) := (hr.drop off).take ti.size
      have hul := hr.length
      refine ⟨_, run_loadAgg hT h hag (us := (us.drop off).take ti.size) (by simp; omega) (fun j u hj => ?_), RepA.mkAg h2⟩
      rw [List.getElem?_take] at hj
      split at hj
      · rw [List.getElem?_drop] at hj; exact hc _ _ hj
      · simp at hj
    · simp at hl
  · rename_i hag
    obtain ⟨u, h1, h2, _⟩ := hr.get hl
    exact ⟨u, run_loadOne hT h (by simpa using hag) (hc _ _ h1), h2⟩

theorem ldP_sound (hT : TOk P T) {t : Nat} {ti : TI} (h : T t = some ti) {cs : List PV} {off : Nat} {v : PV} (hl : ldP ti cs off = some v) {b o : Nat} {us : List Value}
    (hr : RepPs A w cs us) (hc : ∀ j u, us[j]? = some u → w.cell? ⟨b, o + j, none⟩ = some u) : ∃ u, (loadVar t ⟨b, o + off, none⟩).run P w = .ok u w ∧ RepP A w v u := by
  unfold ldP at hl
  split at hl
  · rename_i hag
    split at hl
    · rename_i hle
      simp at hl; subst hl
      have h2 : RepPs A w ((cs.drop off).take ti.size) ((us.drop off).take ti.size) := (hr.drop off).take ti.size
      have hul := hr.length
      refine ⟨_, run_loadAgg hT h hag (us := (us.drop off).take ti.size) (by simp; omega) (fun j u hj => ?_), .ag _ _ (by simpa using h2)⟩
      rw [List.getElem?_take] at hj
      split at hj
      · rw [List.getElem?_drop] at hj; rw [Nat.add_assoc]; exact hc _ _ hj
      · simp at hj
    · simp at hl
  · rename_i hag
    obtain ⟨u, h1, h2, _⟩ := hr.get hl
    exact ⟨u, run_loadOne hT h (by simpa using hag) (hc _ _ h1), h2⟩

theorem loadV_sound (hT : TOk P T) (hI : Inv E N S A F a w) {t : Nat} {x v : AV} {p : Value} (hl : loadV T S t x = some v) (hx : RepA A F S w x p) :
    ∃ u, (Instr.loadAt t p).run P w = .ok u w ∧ RepA A F S w v u := by
  unfold loadV at hl
  cases hti : T t with
  | none => simp [hti] at hl
  | some ti =>
    simp only [hti] at hl
    cases x with
    | pt t' g off =>
      simp only at hl
      cases hb : S.bl t' g with
      | none => simp [hb] at hl
      | some b =>
        cases b with
        | arr E0 sz xs m => simp [hb] at hl
        | var cs sd =>
          simp only [hb] at hl
          cases hx with
          | pt _ _ _ _ hg hq h1 =>
            obtain ⟨r, hF, rfl⟩ := hq _ _ hb
            obtain ⟨r', us, T', hF', hw, hr, _, _⟩ := hI.bl _ _ _ hb
            rw [hF] at hF'; simp at hF'; subst hF'
            obtain ⟨u, h2, h3⟩ := ldA_sound hT hti hl hr (b := r) (fun j u hj => by rw [cell_of_heap hw]; simpa using hj)
            exact ⟨u, by simp only [Instr.loadAt, Instr.sureAddr, Sem.run_bind, Sem.run_pure, Result.andThen_ok, h2], h3⟩
    | pe t' g len i off =>
      simp only at hl
      cases hb : S.bl t' g with
      | none => simp [hb] at hl
      | some b =>
        cases b with
        | var cs sd => simp [hb] at hl
        | arr E0 sz xs m =>
          simp only [hb] at hl
          split at hl
          · rename_i hlen
            cases hy : xs[i]? with
            | none => simp [hy] at hl
            | some y =>
              simp only [hy, Option.map_eq_some_iff] at hl
              obtain ⟨z, hl, rfl⟩ := hl
              cases hx with
              | pe _ _ _ _ _ _ hg hq h1 =>
                obtain ⟨r, hr, rfl⟩ := (hq _ _ _ _ hb).2 hlen
                obtain ⟨us, ho, hrp, hs, hm, hA⟩ := hI.bl _ _ _ hb
                obtain ⟨l, rr, e, hll⟩ := flat_split hs hy
                rw [e] at hrp
                have hq := hrp.split.1.split.2
                obtain ⟨u, h2, h3⟩ := ldP_sound hT hti hl hq (b := r) (o := i * sz) (fun j u hj => by
                  refine ownsRow_cell ho hr ?_
                  rw [List.getElem?_drop, hll] at hj
                  rw [List.getElem?_take] at hj
                  split at hj
                  · exact hj
                  · simp at hj)
                exact ⟨u, by simp only [Instr.loadAt, Instr.sureAddr, Sem.run_bind, Sem.run_pure, Result.andThen_ok, h2], .p _ _ h3⟩
          · simp at hl
    | p q =>
      cases q with
      | ro y off =>
        simp only [Option.map_eq_some_iff] at hl
        obtain ⟨z, hl, rfl⟩ := hl
        cases hx with
        | p _ _ hx =>
          cases hx with
          | ro _ _ b o hc =>
            obtain ⟨us, h1, h2, h3⟩ := hc.vals
            obtain ⟨u, h4, h5⟩ := ldP_sound hT hti hl h1 h2
            exact ⟨u, by simp only [Instr.loadAt, Instr.sureAddr, Sem.run_bind, Sem.run_pure, Result.andThen_ok, h4], .p _ _ h5⟩
      | _ => simp at hl
    | _ => simp at hl

theorem ptAdd_sound (hI : Inv E N S A F a w) {k : Nat} {x v : AV} {p : Value} (hl : ptAdd S k x = some v) (hx : RepA A F S w x p) :
    ∃ b o, p = .pointer (some ⟨b, o, none⟩) ∧ RepA A F S w v (.pointer (some ⟨b, o + k, none⟩)) := by
  cases x with
  | pt t g off =>
    simp only [ptAdd, St.okA] at hl
    cases hb : S.bl t g with
    | none => simp [hb] at hl
    | some b =>
      cases b with
      | arr E0 sz xs m => simp [hb] at hl
      | var cs sd =>
        simp only [hb, if_true, Option.some.injEq] at hl
        subst hl
        cases hx with
        | pt _ _ _ _ hg hq h1 =>
          obtain ⟨r, hF, rfl⟩ := hq _ _ hb
          refine ⟨r, off, rfl, .pt _ _ _ _ hg (fun cs' sd' hb' => ⟨r, hF, rfl⟩) rfl⟩
  | pe t g len i off =>
    simp only [ptAdd, St.okA] at hl
    cases hb : S.bl t g with
    | none => simp [hb] at hl
    | some b =>
      cases b with
      | var cs sd => simp [hb] at hl
      | arr E0 sz xs m =>
        simp only [hb, decide_eq_true_eq] at hl
        split at hl
        · rename_i hlen
          simp only [Option.some.injEq] at hl
          subst hl
          cases hx with
          | pe _ _ _ _ _ _ hg hq h1 =>
            obtain ⟨r, hr, rfl⟩ := (hq _ _ _ _ hb).2 hlen
            refine ⟨r, i * sz + off, rfl, .pe _ _ _ _ _ _ hg (fun E' sz' xs' m' hb' => ?_) rfl⟩
            rw [hb] at hb'; simp at hb'; obtain ⟨rfl, rfl, rfl, rfl⟩ := hb'
            exact ⟨(hq _ _ _ _ hb).1, fun _ => ⟨r, hr, by rw [Nat.add_assoc]⟩⟩
        · simp at hl
  | p q =>
    cases q with
    | ro y off =>
      simp only [ptAdd, Option.some.injEq] at hl
      subst hl
      cases hx with
      | p _ _ hx =>
        cases hx with
        | ro _ _ b o hc =>
          refine ⟨b, o + off, rfl, .p _ _ ?_⟩
          rw [Nat.add_assoc]
          exact .ro _ _ _ _ hc
    | _ => simp [ptAdd] at hl
  | _ => simp [ptAdd] at hl

theorem okA_os (hI : Inv E N S A F a w) {t g len : Nat} {p : Value} (hk : S.okA (.os t g len) = true) (hx : RepA A F S w (.os t g len) p) :
    ∃ E0 sz xs m us, S.bl t g = some (.arr E0 sz xs m) ∧ xs.length = len ∧ p = F t g ∧ w.ownsRow 0 E0 sz (F t g) xs.length us ∧ RepPs A w (flat xs) us ∧ (∀ x ∈ xs, x.size = sz) := by
  simp only [St.okA] at hk
  cases hb : S.bl t g with
  | none => simp [hb] at hk
  | some b =>
    cases b with
    | var cs sd => simp [hb] at hk
    | arr E0 sz xs m =>
      simp only [hb, decide_eq_true_eq] at hk
      cases hx with
      | os _ _ _ _ hg hq h1 =>
        obtain ⟨us, ho, hr, hs, _⟩ := hI.bl _ _ _ hb
        exact ⟨E0, sz, xs, m, us, rfl, hk, (hq _ _ _ _ hb).2 hk, ho, hr, hs⟩

theorem vBin_sound {op : BinOp} {x y v : Value} (h : vBin op x y = some v) (t : TypeId) : (binOp op t x y).run P w = .ok v w := by
  cases x <;> cases y <;> simp only [vBin, reduceCtorEq] at h
  · rename_i k a k' b
    cases op <;> simp only [reduceCtorEq, ite_self] at h <;> (try split at h) <;> (try split at h) <;> simp only [Option.some.injEq, reduceCtorEq] at h <;> (try subst h)
    all_goals simp_all [binOp, Op.shift, Op.intArith, Op.intDiv, Op.intBits, Op.intCmp]
    all_goals (intro hlt; omega)
  · rename_i a b
    cases op <;> simp only [reduceCtorEq] at h <;> (try split at h) <;> simp only [Option.some.injEq, reduceCtorEq] at h <;> (try subst h)
    all_goals simp_all [binOp, Op.stringOp, IntKind.max, IntKind.bits, IntKind.signed]
    all_goals omega
end
end Go.Proofs.Ytablmbhnimnccaa.Pw
