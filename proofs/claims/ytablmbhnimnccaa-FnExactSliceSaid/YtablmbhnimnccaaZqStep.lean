/- Pw, part 22: one operation at a time, and explicit states. No condition. -/
import Derived.Test.YtablmbhnimnccaaZqReg
namespace Go.Proofs.Ytablmbhnimnccaa.Pw

def lk {α : Type} (l : List (Nat × α)) (d : α) (t : Nat) : α :=
  match l with
  | [] => d
  | (k, v) :: r => bif Nat.beq k t then v else lk r d t

def lkB (l : List (Nat × Nat × Blk)) (t g : Nat) : Option Blk :=
  match l with
  | [] => none
  | (k, j, b) :: r => bif Nat.beq k t && Nat.beq j g then some b else lkB r t g

/-- A state, all told. -/
def mkS (tms : List (Nat × AV)) (bls : List (Nat × Nat × Blk)) (gens : List (Nat × Nat)) : St := ⟨lk tms .un, lkB bls, lk gens 1⟩

abbrev I64 (n : Int) : AV := .p (.lit (.int .i64 n))
abbrev BO (b : Bool) : AV := .p (.lit (.bool b))
abbrev iP (n : Int) : PV := .lit (.int .i64 n)
abbrev bP (n : Bool) : PV := .lit (.bool n)

def St.pt' (S : St) (d : Nat) (v : AV) : St := { S with tm := upd S.tm d v }
def St.nb (S : St) (d g : Nat) (b : Blk) (v : AV) : St := { tm := upd S.tm d v, bl := upd2 S.bl d g (some b), gen := upd S.gen d (g + 1) }

def inI (n : Int) : Prop := -9223372036854775808 ≤ n ∧ n ≤ 9223372036854775807

theorem wrap_inI {n : Int} (h : inI n) : IntKind.i64.wrap n = n := by
  unfold inI at h
  have : IntKind.i64.wrap n = if n % 18446744073709551616 ≥ 9223372036854775808 then n % 18446744073709551616 - 18446744073709551616 else n % 18446744073709551616 := by
    unfold IntKind.wrap
    show (if (true && decide (n % 18446744073709551616 ≥ 9223372036854775808)) = true then n % 18446744073709551616 - 18446744073709551616 else n % 18446744073709551616) = _
    simp
  rw [this]
  split <;> omega

section
variable {P : Program} {T : Nat → Option TI} {ops : Array Oper} {o : Oper} {l : List Oper} {S : St} {acc : List (List Nat × List Nat)} {KK : List (List Nat × List Nat) → St → Prop} {K : St → Prop}
  {d ty : Nat} {pos : String} {after : Array Edge} {gd : Option (Nat × Bool)}

theorem c0 (hg : o.guard = none) (h : opW P T o S fun S' => opsW P T ops l S' (acc ++ [(opNames S o.op, fw S o)]) KK) : opsW P T ops (o :: l) S acc KK := by
  simp only [opsW, gopW, hg]; exact h

theorem cn (h : KK acc S) : opsW P T ops [] S acc KK := h

/-- A guarded operation: it is done. -/
theorem cgT {j t : Nat} {want : Bool} (hg : o.guard = some (j, want)) (ht : (ops[j]?).bind (·.dst) = some t) (hb : S.tm t = BO want) (h : opW P T o S fun S' => opsW P T ops l S' (acc ++ [(opNames S o.op, fw S o)]) KK) :
    opsW P T ops (o :: l) S acc KK := by
  simp only [opsW, gopW, hg, ht, hb]
  exact ⟨fun _ => h, fun h => by simp [vwant] at h⟩

/-- A guarded operation: it is not. -/
theorem cgF {j t : Nat} {want : Bool} {v : Value} (hg : o.guard = some (j, want)) (ht : (ops[j]?).bind (·.dst) = some t) (hb : S.tm t = .p (.lit v)) (hw : vwant v want = false) (h : opsW P T ops l (S.put o.dst udf) (acc ++ [(opNames S o.op, fw S o)]) KK) :
    opsW P T ops (o :: l) S acc KK := by
  simp only [opsW, gopW, hg, ht, hb]
  exact ⟨fun h => by rw [hw] at h; simp at h, fun _ => h⟩

/-- A guard that is not known: both ways. -/
theorem cgS {j t : Nat} {want b : Bool} (hg : o.guard = some (j, want)) (ht : (ops[j]?).bind (·.dst) = some t) (hb : S.tm t = BO b)
    (h1 : b = true → opsW P T ops (o :: l) (S.pt' t (BO true)) acc KK) (h2 : b = false → opsW P T ops (o :: l) (S.pt' t (BO false)) acc KK) : opsW P T ops (o :: l) S acc KK := by
  have : ∀ v, S.tm t = v → S.pt' t v = S := fun v hv => put_same hv
  cases b with
  | true => have := h1 rfl; rwa [show S.pt' t (BO true) = S from put_same hb] at this
  | false => have := h2 rfl; rwa [show S.pt' t (BO false) = S from put_same hb] at this

/-- A value. -/
theorem w_v {op : Op} (v : AV) (h : opv T S op = some v) (hk : K (S.pt' d v)) : opW P T ⟨some d, op, ty, pos, after, gd⟩ S K := by
  unfold opW; refine .inr (.inr ?_); unfold opW0; simp only [h]; exact ⟨v, .inl rfl, hk⟩

/-- What lies in cells, told otherwise. -/
theorem PVle.refl (x : PV) : PVle x x := fun _ _ _ h => h
theorem PVle.nil (sz : Nat) : PVle (.lit nilSl) (.sl sz []) := fun A w u h => by cases h; exact .snil _ _ (by simp [maxLen]) none
def PVles : List PV → List PV → Prop
  | [], [] => True
  | x :: xs, y :: ys => PVle x y ∧ PVles xs ys
  | _, _ => False
theorem PVles.rep {A : Nat → Nat → Prop} {w : World} : ∀ {xs ys : List PV} {us : List Value}, PVles xs ys → RepPs A w xs us → RepPs A w ys us
  | [], [], _, _, h => h
  | x :: xs, y :: ys, _, h, .cons _ u _ us h1 h2 h3 => .cons _ _ _ _ (h.1 _ _ _ h1) h2 (PVles.rep h.2 h3)
theorem PVle.ag {xs ys : List PV} (h : PVles xs ys) : PVle (.ag xs) (.ag ys) := fun A w u hr => by cases hr with | ag _ us hr => exact .ag _ _ (h.rep hr)
theorem VLe.of {x y : PV} (h : PVle x y) : VLe (.p x) (.p y) := .inr ⟨x, y, rfl, rfl, h⟩

/-- A value that is told otherwise. -/
theorem w_le {op : Op} (x y : PV) (h : opv T S op = some (.p x)) (hl : PVle x y) (hk : K (S.pt' d (.p y))) : opW P T ⟨some d, op, ty, pos, after, gd⟩ S K := by
  unfold opW; refine .inr (.inr ?_); unfold opW0; simp only [h]; exact ⟨.p y, .of hl, hk⟩

/-- A value that is shown otherwise. -/
theorem w_e {op : Op} (v v' : AV) (h : opv T S op = some v') (e : v' = v) (hk : K (S.pt' d v)) : opW P T ⟨some d, op, ty, pos, after, gd⟩ S K := w_v v (e ▸ h) hk

/-- A whole number in its range. -/
theorem w_i {op : Op} (n : Int) (h : opv T S op = some (.p (.lit (.int .i64 (IntKind.i64.wrap n))))) (hi : inI n) (hk : K (S.pt' d (I64 n))) : opW P T ⟨some d, op, ty, pos, after, gd⟩ S K :=
  w_v _ (by rw [h, wrap_inI hi]) hk

theorem w_quo {x y : Operand} {t t' : Nat} (a b : Int) (hx : S.ev x = I64 a) (hy : S.ev y = I64 b) (hb : b ≠ 0) (hi : inI (a.tdiv b)) (hk : K (S.pt' d (I64 (a.tdiv b)))) : opW P T ⟨some d, .binOp .quo t x y t', ty, pos, after, gd⟩ S K :=
  w_i (a.tdiv b) (by simp [opv, hx, hy, binV, vBin, hb]) hi hk
theorem w_rem {x y : Operand} {t t' : Nat} (a b : Int) (hx : S.ev x = I64 a) (hy : S.ev y = I64 b) (hb : b ≠ 0) (hk : K (S.pt' d (I64 (a.tmod b)))) : opW P T ⟨some d, .binOp .rem t x y t', ty, pos, after, gd⟩ S K :=
  w_v _ (by simp [opv, hx, hy, binV, vBin, hb]) hk

/-- An element of a plain slice. -/
def slOk (T : Nat → Option TI) (t sz : Nat) : Bool := match T t with
  | some ti => match ti.kd with
    | .sl e => match T e with
      | some te => sz == te.size
      | none => false
    | _ => false
  | none => false

theorem w_ix {x y : Operand} {t sz : Nat} {xs : List PV} (n : Int) (q : PV) (hx : S.ev x = .p (.sl sz xs)) (hy : S.ev y = I64 n) (ht : slOk T t sz = true) (h0 : 0 ≤ n) (hq : xs[n.toNat]? = some q) (hk : K (S.pt' d (.p (.ro q 0)))) :
    opW P T ⟨some d, .indexAddr t x y, ty, pos, after, gd⟩ S K := by
  refine w_v (.p (.ro q 0)) ?_ hk
  unfold slOk at ht
  split at ht <;> try contradiction
  rename_i ti hti
  split at ht <;> try contradiction
  rename_i e hkd
  split at ht <;> try contradiction
  rename_i te hte
  have ht : sz = te.size := by simpa using ht
  simp [opv, hx, hy, idxV, hti, hkd, hte, ht, h0, hq]

/-- An element of an owned slice. -/
theorem w_ixo {x y : Operand} {t sz t' g len E m : Nat} {xs : List PV} (n : Int) (hx : S.ev x = .os t' g len) (hy : S.ev y = I64 n) (hb : S.bl t' g = some (.arr E sz xs m)) (ht : slOk T t sz = true) (hl : xs.length = len) (h0 : 0 ≤ n) (h1 : n < len)
    (hk : K (S.pt' d (.pe t' g len n.toNat 0))) : opW P T ⟨some d, .indexAddr t x y, ty, pos, after, gd⟩ S K := by
  refine w_v (.pe t' g len n.toNat 0) ?_ hk
  unfold slOk at ht
  split at ht <;> try contradiction
  rename_i ti hti
  split at ht <;> try contradiction
  rename_i e hkd
  split at ht <;> try contradiction
  rename_i te hte
  have ht : sz = te.size := by simpa using ht
  simp [opv, hx, hy, idxV, hti, hkd, hte, hb, hl, ht, h0, h1]

/-- An element of an array, at a place that is not known. -/
theorem w_ixa {x y : Operand} {t n e : Nat} {te : TI} (i : Int) (v : AV) (hy : S.ev y = I64 i) (ht : (T t).map TI.kd = some (.arr n e)) (he : T e = some te) (h0 : 0 ≤ i) (h1 : i < n) (hv : ptAdd S (i.toNat * te.size) (S.ev x) = some v)
    (hk : K (S.pt' d v)) : opW P T ⟨some d, .indexAddr t x y, ty, pos, after, gd⟩ S K := by
  refine w_v v ?_ hk
  cases hti : T t with
  | none => simp [hti] at ht
  | some ti =>
    simp [hti] at ht
    simp [opv, hy, idxV, hti, ht, he, h0, h1, hv]

/-- What lies at an element of an owned slice. -/
theorem w_ldo {x : Operand} {t t' g len E sz m i off : Nat} {xs : List PV} {ti : TI} (y v : PV) (hx : S.ev x = .pe t' g len i off) (hb : S.bl t' g = some (.arr E sz xs m)) (hl : xs.length = len) (hy : xs[i]? = some y) (ht : T t = some ti)
    (hv : ldP ti y.cells off = some v) (hk : K (S.pt' d (.p v))) : opW P T ⟨some d, .load t x, ty, pos, after, gd⟩ S K :=
  w_v _ (by simp [opv, hx, loadV, hb, hl, hy, ht, hv]) hk

theorem w_len {x : Operand} {t : Nat} {sz : Nat} {xs : List PV} (n : Nat) (hx : S.ev x = .p (.sl sz xs)) (ht : slOk T t sz = true) (hn : xs.length = n) (hk : K (S.pt' d (I64 n))) : opW P T ⟨some d, .call ⟨.builtin .len, #[x], #[t]⟩, ty, pos, after, gd⟩ S K := by
  refine w_v _ ?_ hk
  unfold slOk at ht
  split at ht <;> try contradiction
  rename_i ti hti
  split at ht <;> try contradiction
  rename_i e hkd
  simp [opv, hx, hti, hkd, lenOf, hn]

theorem w_leno {x : Operand} {t : Nat} {sz t' g len E m : Nat} {xs : List PV} (hx : S.ev x = .os t' g len) (hb : S.bl t' g = some (.arr E sz xs m)) (ht : slOk T t sz = true) (hn : xs.length = len) (hk : K (S.pt' d (I64 len))) :
    opW P T ⟨some d, .call ⟨.builtin .len, #[x], #[t]⟩, ty, pos, after, gd⟩ S K := by
  refine w_v _ ?_ hk
  unfold slOk at ht
  split at ht <;> try contradiction
  rename_i ti hti
  split at ht <;> try contradiction
  rename_i e hkd
  simp [opv, hx, hti, hkd, lenOf, hb, hn, St.okA]

theorem w_max2 {x y : Operand} {tys : Array Nat} (a b : Int) (hx : S.ev x = I64 a) (hy : S.ev y = I64 b) (hk : K (S.pt' d (I64 (max a b)))) : opW P T ⟨some d, .call ⟨.builtin .max, #[x, y], tys⟩, ty, pos, after, gd⟩ S K := by
  refine w_v _ ?_ hk
  simp only [opv, List.map_cons, List.map_nil, hx, hy, maxL, maxV]
  simp only [if_true, Option.some.injEq, AV.p.injEq, PV.lit.injEq, Value.int.injEq, true_and]
  split <;> omega
theorem w_min2 {x y : Operand} {tys : Array Nat} (a b : Int) (hx : S.ev x = I64 a) (hy : S.ev y = I64 b) (hk : K (S.pt' d (I64 (min a b)))) : opW P T ⟨some d, .call ⟨.builtin .min, #[x, y], tys⟩, ty, pos, after, gd⟩ S K := by
  refine w_v _ ?_ hk
  simp only [opv, List.map_cons, List.map_nil, hx, hy, maxL, maxV]
  simp only [Bool.false_eq_true, if_false, Option.some.injEq, AV.p.injEq, PV.lit.injEq, Value.int.injEq, true_and]
  split <;> omega

theorem nb_eq {b : Blk} {v : AV} {g : Nat} (hg : S.gen d = g) : (S.mk' d b).put (some d) v = S.nb d g b v := by subst hg; rfl

theorem w_alloc {t g : Nat} {ti : TI} (cs : List AV) (ht : T t = some ti) (hc : zeroA ti = cs) (hg : S.gen d = g) (hk : K (S.nb d g (.var cs false) (.pt d g 0))) : opW P T ⟨some d, .alloc t, ty, pos, after, gd⟩ S K := by
  unfold opW; refine .inr (.inr ?_); unfold opW0
  simp only [opv, ht, newBl]
  subst hc; subst hg
  exact hk

theorem w_box {t g : Nat} {x : Operand} (cs : List AV) (h1 : cellsOk (S.ev x) = true) (hc : toCells (S.ev x) = cs) (hg : S.gen d = g) (hk : K (S.nb d g (.var cs false) (.pt d g 0))) : opW P T ⟨some d, .box t x, ty, pos, after, gd⟩ S K := by
  unfold opW; refine .inr (.inr ?_); unfold opW0
  simp only [opv, newBl]
  subst hc; subst hg
  exact ⟨h1, hk⟩

theorem w_build {t : Nat} {ti : TI} {ps : Array (Nat × Operand)} {cs : List AV} (v : AV) (ht : T t = some ti) (hf : fillV T ti (ps.toList.map fun p => (p.1, S.ev p.2)) (zeroA ti) = some cs) (hb : buildOk T ti = true) (hv : mkAg cs = v)
    (hk : K (S.pt' d v)) : opW P T ⟨some d, .build t ps, ty, pos, after, gd⟩ S K := by
  unfold opW; refine .inr (.inr ?_); unfold opW0
  simp only [opv, ht, hf]
  subst hv
  exact ⟨hb, _, .inl rfl, hk⟩
theorem w_buildle {t : Nat} {ti : TI} {ps : Array (Nat × Operand)} {cs : List AV} (x y : PV) (ht : T t = some ti) (hf : fillV T ti (ps.toList.map fun p => (p.1, S.ev p.2)) (zeroA ti) = some cs) (hb : buildOk T ti = true) (hv : mkAg cs = .p x) (hl : PVle x y)
    (hk : K (S.pt' d (.p y))) : opW P T ⟨some d, .build t ps, ty, pos, after, gd⟩ S K := by
  unfold opW; refine .inr (.inr ?_); unfold opW0
  simp only [opv, ht, hf, hv]
  exact ⟨hb, .p y, .of hl, hk⟩

theorem w_eqag {op : BinOp} {x y : Operand} {t t' n : Nat} {b : Bool} (b' : Bool) {xs ys : List PV} (hx : S.ev x = .p (.ag xs)) (hy : S.ev y = .p (.ag ys)) (hb : eqAg op (.p (.ag xs)) (.p (.ag ys)) = some (n, b)) (he : EqOk P t n) (e : b = b')
    (hk : K (S.pt' d (BO b'))) : opW P T ⟨some d, .binOp op t x y t', ty, pos, after, gd⟩ S K := by
  unfold opW; refine .inr (.inr ?_); unfold opW0
  have : opv T S (.binOp op t x y t') = none := by simp [opv, hx, hy, binV]
  simp only [this, hx, hy, hb]
  subst e
  exact ⟨he, hk⟩

theorem w_st {t t' g off : Nat} {ti : TI} {x y : Operand} {cs : List AV} (cs' : List AV) (ht : T t = some ti) (h1 : cellsOk (S.ev y) = true) (h2 : (toCells (S.ev y)).length = ti.size) (hx : S.ev x = .pt t' g off) (hb : S.bl t' g = some (.var cs false))
    (ho : off + ti.size ≤ cs.length) (hc : splice cs off (toCells (S.ev y)) = cs') (hk : K (S.setBl t' g (.var cs' false))) : opW P T ⟨none, .store t x y, ty, pos, after, gd⟩ S K := by
  unfold opW; refine .inr (.inr ?_); unfold opW0
  simp only [opv, ht, hx, hb]
  subst hc
  exact ⟨h1, h2, trivial, ho, hk⟩

theorem w_sto {t t' g len i off E sz m : Nat} {ti : TI} {x y : Operand} {xs : List PV} (z z' : PV) (ps : List PV) (ht : T t = some ti) (h1 : cellsOk (S.ev y) = true) (h2 : (toCells (S.ev y)).length = ti.size) (hx : S.ev x = .pe t' g len i off)
    (hb : S.bl t' g = some (.arr E sz xs m)) (hz : xs[i]? = some z) (hp : allP (toCells (S.ev y)) = some ps) (hs : setCells z off ps = some z') (hl : xs.length = len) (hm : m ≤ i) (hzs : z'.size = z.size) (hk : K (S.setBl t' g (.arr E sz (xs.set i z') m))) :
    opW P T ⟨none, .store t x y, ty, pos, after, gd⟩ S K := by
  unfold opW; refine .inr (.inr ?_); unfold opW0
  simp only [opv, ht, hx, hb, hz, hp, hs]
  exact ⟨h1, h2, trivial, hl, hm, hzs, hk⟩

theorem w_mks {t g e n : Nat} {ti te : TI} {x y : Operand} (ht : T t = some ti) (hk1 : ti.kd = .sl e) (he : T e = some te) (hx : S.ev x = I64 n) (hy : S.ev y = I64 n) (h0 : 0 < te.size) (h1 : n * te.bytes ≤ 140737488355328) (h2 : n ≤ 140737488355328)
    (hg : S.gen d = g) (hk : K (S.nb d g (.arr e te.size (List.replicate n (zeroP te)) 0) (.os d g n))) : opW P T ⟨some d, .makeSlice t x y, ty, pos, after, gd⟩ S K := by
  unfold opW; refine .inr (.inr ?_); unfold opW0
  simp only [opv, ht, hk1, he, hx, hy, natOf, Int.natCast_nonneg, if_true, Int.toNat_natCast, newBl]
  subst hg
  exact ⟨trivial, h0, h1, h2, hk⟩

def hiOk (S : St) (dv : Nat) (x : Option Operand) (n : Nat) : Prop := match x with
  | none => dv = n
  | some y => S.ev y = I64 n
theorem optN_of {x : Option Operand} {dv n : Nat} (h : hiOk S dv x n) : S.optN dv x = some n := by
  cases x with
  | none => simp [hiOk] at h; simp [St.optN, h]
  | some y => simp [hiOk] at h; simp [St.optN, h, natOf]

/-- A part of a plain slice. -/
theorem w_sub {t e : Nat} {ti te : TI} {x : Operand} {lo hi : Option Operand} {sz : Nat} {xs : List PV} (i j : Nat) (v : List PV) (ht : T t = some ti) (hk1 : ti.kd = .sl e) (he : T e = some te) (hs : te.size = sz) (hx : S.ev x = .p (.sl sz xs)) (hi0 : hiOk S 0 lo i) (hj : hiOk S xs.length hi j) (h1 : i ≤ j) (h2 : j ≤ xs.length)
    (hv : (xs.take j).drop i = v) (hk : K (S.pt' d (.p (.sl sz v)))) : opW P T ⟨some d, .slice t x lo hi none, ty, pos, after, gd⟩ S K := by
  unfold opW; refine .inr (.inr ?_); unfold opW0
  simp only [opv, ht, hk1, he, hx, St.list, optN_of hi0, optN_of hj]
  subst hv; subst hs
  exact ⟨fun m hm => by simp at hm, h1, h2, S, .one _ _ _ _ _ (.p _ _), hk⟩

/-- A part of an owned slice, shown. -/
theorem w_subo {t e : Nat} {ti te : TI} {x : Operand} {lo hi : Option Operand} {sz t' g E m : Nat} {xs : List PV} (i j : Nat) (v : List PV) (ht : T t = some ti) (hk1 : ti.kd = .sl e) (he : T e = some te) (hs : te.size = sz) (hx : S.ev x = .os t' g xs.length) (hb : S.bl t' g = some (.arr E sz xs m)) (hi0 : hiOk S 0 lo i) (hj : hiOk S xs.length hi j) (h1 : i ≤ j) (h2 : j ≤ xs.length)
    (hv : (xs.take j).drop i = v) (hk : K ((S.setBl t' g (.arr E sz xs xs.length)).pt' d (.p (.sl sz v)))) : opW P T ⟨some d, .slice t x lo hi none, ty, pos, after, gd⟩ S K := by
  unfold opW; refine .inr (.inr ?_); unfold opW0
  have hl : S.list (.os t' g xs.length) = some xs := by simp [St.list, hb]
  simp only [opv, ht, hk1, he, hx, hl, optN_of hi0, optN_of hj]
  subst hv; subst hs
  refine ⟨fun m hm => by simp at hm, h1, h2, S.seal t' g, .one _ _ _ _ _ (.os _ _ _ _ _ _ _ hb), ?_⟩
  rw [seal_arr hb]
  exact hk

theorem w_call {f : Operand} {args : Array Operand} {tys : Array Nat} {g : FuncId} {caps : List AV} {targs : List TV} {S1 S2 : St} {ln : List (Nat × Nat)} {res : TV} {outs : List (List PV)} (v : AV) (hf : Fn P g targs res outs) (hc : callee S f = some (g, caps))
    (hp : PassL S (args.toList.map S.ev ++ caps) targs S1 ln) (hl : outs.length = ln.length) (hr : RecvV d (putBack S1 ln outs) res v S2) (hk : K (S2.pt' d v)) : opW P T ⟨some d, .call ⟨.value f, args, tys⟩, ty, pos, after, gd⟩ S K := by
  unfold opW; refine .inr (.inr ?_); unfold opW0
  have : opv T S (.call ⟨.value f, args, tys⟩) = none := by simp [opv]
  simp only [this, hc]
  exact ⟨targs, S1, ln, res, outs, v, S2, hp, hf, hl, hr, fun h => by simp at h, hk⟩

theorem w_call0 {f : Operand} {args : Array Operand} {tys : Array Nat} {g : FuncId} {caps : List AV} {targs : List TV} {S1 : St} {ln : List (Nat × Nat)} {outs : List (List PV)} (hf : Fn P g targs (.tu []) outs) (hc : callee S f = some (g, caps))
    (hp : PassL S (args.toList.map S.ev ++ caps) targs S1 ln) (hl : outs.length = ln.length) (hk : K (putBack S1 ln outs)) : opW P T ⟨none, .call ⟨.value f, args, tys⟩, ty, pos, after, gd⟩ S K := by
  unfold opW; refine .inr (.inr ?_); unfold opW0
  have : opv T S (.call ⟨.value f, args, tys⟩) = none := by simp [opv]
  simp only [this, hc]
  exact ⟨targs, S1, ln, .tu [], outs, .tu [], _, hp, hf, hl, .tu _ _ _ _ (.nil _), fun _ => ⟨.lit nilSl, .inr rfl⟩, hk⟩

/-- Appending to what is owned. -/
theorem w_appo {x y : Operand} {t e t' g len E sz m : Nat} {ti te : TI} {xs : List PV} (ys zs : List PV) (n : Nat) (ht : T t = some ti) (hk1 : ti.kd = .sl e) (he : T e = some te) (hx : S.ev x = .os t' g len) (hb : S.bl t' g = some (.arr E sz xs m)) (hy : S.list (S.ev y) = some ys) (h0 : 0 < te.size)
    (h1 : ∀ y ∈ ys, y.size = te.size) (hl : xs.length = len) (hE : E = e) (hs : sz = te.size) (h2 : (len + ys.length) * te.bytes ≤ 140737488355328) (h3 : len + ys.length ≤ 140737488355328) (hz : xs ++ ys = zs) (hn : len + ys.length = n)
    (hk : K ((S.setBl t' g (.arr E sz zs m)).pt' d (.os t' g n))) : opW P T ⟨some d, .call ⟨.builtin .append, #[x, y], #[t, t]⟩, ty, pos, after, gd⟩ S K := by
  unfold opW; refine .inr (.inr ?_); unfold opW0
  have : opv T S (.call ⟨.builtin .append, #[x, y], #[t, t]⟩) = none := by simp [opv]
  simp only [this, ht, hk1, he, hx, hb, hy]
  subst hz; subst hn
  exact ⟨trivial, h0, h1, hl, hE, hs, h2, h3, hk⟩

/-- Appending to nothing. -/
theorem w_appn {x y : Operand} {t e g : Nat} {ti te : TI} (ys : List PV) (n : Nat) (ht : T t = some ti) (hk1 : ti.kd = .sl e) (he : T e = some te) (hx : S.ev x = .p (.lit nilSl)) (hy : S.list (S.ev y) = some ys) (h0 : 0 < te.size)
    (h1 : ∀ y ∈ ys, y.size = te.size) (h2 : ys.length * te.bytes ≤ 140737488355328) (h3 : ys.length ≤ 140737488355328) (hn : ys.length = n) (hg : S.gen d = g)
    (hk : K (S.nb d g (.arr e te.size ys 0) (.os d g n))) : opW P T ⟨some d, .call ⟨.builtin .append, #[x, y], #[t, t]⟩, ty, pos, after, gd⟩ S K := by
  unfold opW; refine .inr (.inr ?_); unfold opW0
  have : opv T S (.call ⟨.builtin .append, #[x, y], #[t, t]⟩) = none := by simp [opv]
  have hnil : isNilSl (.p (.lit nilSl)) = true := rfl
  simp only [this, ht, hk1, he, hx, hy, nilSl]
  subst hn; subst hg
  exact ⟨trivial, h0, h1, hnil, h2, h3, hk⟩

theorem list_os {t' g len E sz m : Nat} {xs : List PV} (hb : S.bl t' g = some (.arr E sz xs m)) (hl : xs.length = len) : S.list (.os t' g len) = some xs := by simp [St.list, hb, hl]

/-- A row of values written out. -/
theorem w_bsl {t e len g : Nat} {ti te : TI} {ps : Array (Nat × Operand)} {S' : St} (xs : List PV) (ht : T t = some ti) (hk1 : ti.kd = .sl e) (he : T e = some te) (hr : (ps.toList.map (·.1)) = List.range len) (hl : len ≤ 4096) (h0 : 0 < te.size) (h1 : te.size ≤ 64)
    (hp : PassL S (ps.toList.map fun p => S.ev p.2) (xs.map .p) S' []) (hx : (xs.all fun x => x.size == te.size && plainOk x) = true) (hg : S'.gen d = g) (hk : K (S'.nb d g (.arr e te.size xs 0) (.os d g len))) : opW P T ⟨some d, .buildSlice t len ps, ty, pos, after, gd⟩ S K := by
  unfold opW; refine .inr (.inr ?_); unfold opW0
  simp only [opv, ht, hk1, he, newBl]
  subst hg
  refine ⟨hr, hl, h0, h1, xs, S', hp, fun x hm => ?_, hk⟩
  have := List.all_eq_true.1 hx x hm
  simpa using this
end

/-! ### Weaker states -/

/-- Where S holds, S' holds as well. -/
def Wk (S S' : St) : Prop := ∀ (E : Entry) (N : Nat) (A : Nat → Nat → Prop) (F : Nat → Nat → Value) (a : Act) (w : World), Inv E N S A F a w → ∃ A' F', Inv E N S' A' F' a w

def wkT (S : St) : List (Nat × AV) → Prop
  | [] => True
  | (t, v) :: r => S.tm t = v ∧ wkT S r
def wkB (S : St) : List (Nat × Nat × Blk) → Prop
  | [] => True
  | (t, g, b) :: r => S.bl t g = some b ∧ wkB S r
def wkG (S : St) : List (Nat × Nat) → Prop
  | [] => True
  | (t, g) :: r => S.gen t = g ∧ wkG S r

def hasG (gens : List (Nat × Nat)) (t : Nat) : Bool := gens.any fun p => Nat.beq p.1 t
def ok1 (gens : List (Nat × Nat)) : AV → Bool
  | .p _ => true
  | .un => true
  | .pt t _ _ => hasG gens t
  | .os t _ _ => hasG gens t
  | .pe t _ _ _ _ => hasG gens t
  | _ => false
def okN (gens : List (Nat × Nat)) : AV → Bool
  | .ag cs => cs.all (ok1 gens)
  | .tu cs => cs.all (ok1 gens)
  | .fn _ cs => cs.all (ok1 gens)
  | v => ok1 gens v
def okBl (gens : List (Nat × Nat)) : Blk → Bool
  | .var cs _ => cs.all (okN gens)
  | .arr _ _ _ _ => true
  | .bld _ _ _ => true

def wkOk (tms : List (Nat × AV)) (bls : List (Nat × Nat × Blk)) (gens : List (Nat × Nat)) : Bool :=
  tms.all (fun p => okN gens p.2) && bls.all (fun p => hasG gens p.1 && okBl gens p.2.2)

section
variable {S : St} {tms : List (Nat × AV)} {bls : List (Nat × Nat × Blk)} {gens : List (Nat × Nat)}

theorem lk_mem {α : Type} {l : List (Nat × α)} {d : α} {t : Nat} : (∃ v, (t, v) ∈ l ∧ lk l d t = v) ∨ lk l d t = d := by
  induction l with
  | nil => exact .inr rfl
  | cons x l ih =>
    obtain ⟨k, v⟩ := x
    unfold lk
    by_cases h : k = t
    · subst h; left; exact ⟨v, by simp, by simp [Nat.beq_refl]⟩
    · have hb : Nat.beq k t = false := by rw [Bool.eq_false_iff]; intro hq; exact h (Nat.eq_of_beq_eq_true hq)
      rw [hb]
      rcases ih with ⟨v', h1, h2⟩ | h2
      · left; exact ⟨v', by simp [h1], by simpa using h2⟩
      · right; simpa using h2

theorem lkB_mem {l : List (Nat × Nat × Blk)} {t g : Nat} {b : Blk} (h : lkB l t g = some b) : (t, g, b) ∈ l := by
  induction l with
  | nil => simp [lkB] at h
  | cons x l ih =>
    obtain ⟨k, j, v⟩ := x
    unfold lkB at h
    cases hq : (Nat.beq k t && Nat.beq j g) with
    | true =>
      rw [hq] at h
      simp only [cond_true, Option.some.injEq] at h
      simp only [Bool.and_eq_true] at hq
      rw [Nat.eq_of_beq_eq_true hq.1, Nat.eq_of_beq_eq_true hq.2, h]; simp
    | false => rw [hq] at h; simp at h; simp [ih h]

theorem wkT_mem (h : wkT S tms) {t : Nat} {v : AV} (hm : (t, v) ∈ tms) : S.tm t = v := by
  induction tms with
  | nil => simp at hm
  | cons x l ih =>
    rcases List.mem_cons.1 hm with rfl | hm
    · exact h.1
    · exact ih h.2 hm
theorem wkB_mem (h : wkB S bls) {t g : Nat} {v : Blk} (hm : (t, g, v) ∈ bls) : S.bl t g = some v := by
  induction bls with
  | nil => simp at hm
  | cons x l ih =>
    rcases List.mem_cons.1 hm with rfl | hm
    · exact h.1
    · exact ih h.2 hm
theorem wkG_mem (h : wkG S gens) {t v : Nat} (hm : (t, v) ∈ gens) : S.gen t = v := by
  induction gens with
  | nil => simp at hm
  | cons x l ih =>
    rcases List.mem_cons.1 hm with rfl | hm
    · exact h.1
    · exact ih h.2 hm
theorem hasG_gen (h : wkG S gens) {t : Nat} (ht : hasG gens t = true) : lk gens 1 t = S.gen t := by
  induction gens with
  | nil => simp [hasG] at ht
  | cons x l ih =>
    obtain ⟨k, v⟩ := x
    unfold lk
    cases hb : Nat.beq k t with
    | true => have := Nat.eq_of_beq_eq_true hb; subst this; exact h.1.symm
    | false =>
      simp only [cond_false]
      refine ih h.2 ?_
      simpa [hasG, hb] using ht

variable {A : Nat → Nat → Prop} {F : Nat → Nat → Value} {w : World} {S' : St}

theorem ok1_rep (hg : ∀ t, hasG gens t = true → S'.gen t = S.gen t) (hb : ∀ t g b, S'.bl t g = some b → S.bl t g = some b) {v : AV} {u : Value} (ho : ok1 gens v = true) (h : RepA A F S w v u) : RepA A F S' w v u := by
  cases h with
  | p _ _ h => exact .p _ _ h
  | un => exact .un _
  | pt t g off _ h1 h2 h3 => exact .pt _ _ _ _ (by rw [hg t ho]; exact h1) (fun b hq hp => h2 b (hb _ _ _ hq) hp) h3
  | os t g len _ h1 h2 h3 => exact .os _ _ _ _ (by rw [hg t ho]; exact h1) (fun E sz xs m hq => h2 E sz xs m (hb _ _ _ hq)) h3
  | pe t g len i off _ h1 h2 h3 => exact .pe _ _ _ _ _ _ (by rw [hg t ho]; exact h1) (fun E sz xs m hq => h2 E sz xs m (hb _ _ _ hq)) h3
  | ag => simp [ok1] at ho
  | tu => simp [ok1] at ho
  | fn => simp [ok1] at ho

theorem ok1_reps (hg : ∀ t, hasG gens t = true → S'.gen t = S.gen t) (hb : ∀ t g b, S'.bl t g = some b → S.bl t g = some b) {vs : List AV} : ∀ {us : List Value}, vs.all (ok1 gens) = true → RepAs A F S w vs us → RepAs A F S' w vs us := by
  induction vs with
  | nil => intro us _ h; cases h; exact .nil
  | cons v vs ih =>
    intro us ho h
    simp only [List.all_cons, Bool.and_eq_true] at ho
    cases h with
    | cons _ u _ us h h1 hs => exact .cons _ _ _ _ (ok1_rep hg hb ho.1 h) h1 (ih ho.2 hs)
theorem ok1_rept (hg : ∀ t, hasG gens t = true → S'.gen t = S.gen t) (hb : ∀ t g b, S'.bl t g = some b → S.bl t g = some b) {vs : List AV} : ∀ {us : List Value}, vs.all (ok1 gens) = true → RepTu A F S w vs us → RepTu A F S' w vs us := by
  induction vs with
  | nil => intro us _ h; cases h; exact .nil
  | cons v vs ih =>
    intro us ho h
    simp only [List.all_cons, Bool.and_eq_true] at ho
    cases h with
    | cons _ u _ us h hs => exact .cons _ _ _ _ (ok1_rep hg hb ho.1 h) (ih ho.2 hs)

theorem okN_rep (hg : ∀ t, hasG gens t = true → S'.gen t = S.gen t) (hb : ∀ t g b, S'.bl t g = some b → S.bl t g = some b) {v : AV} {u : Value} (ho : okN gens v = true) (h : RepA A F S w v u) : RepA A F S' w v u := by
  cases h with
  | p _ _ h => exact .p _ _ h
  | un => exact .un _
  | pt t g off _ h1 h2 h3 => exact ok1_rep hg hb ho (.pt t g off _ h1 h2 h3)
  | os t g len _ h1 h2 h3 => exact ok1_rep hg hb ho (.os t g len _ h1 h2 h3)
  | pe t g len i off _ h1 h2 h3 => exact ok1_rep hg hb ho (.pe t g len i off _ h1 h2 h3)
  | ag cs us h => exact .ag _ _ (ok1_reps hg hb ho h)
  | tu cs us h => exact .tu _ _ (ok1_rept hg hb ho h)
  | fn f cs us h => exact .fn _ _ _ (ok1_reps hg hb ho h)

theorem okN_reps (hg : ∀ t, hasG gens t = true → S'.gen t = S.gen t) (hb : ∀ t g b, S'.bl t g = some b → S.bl t g = some b) {vs : List AV} : ∀ {us : List Value}, vs.all (okN gens) = true → RepAs A F S w vs us → RepAs A F S' w vs us := by
  induction vs with
  | nil => intro us _ h; cases h; exact .nil
  | cons v vs ih =>
    intro us ho h
    simp only [List.all_cons, Bool.and_eq_true] at ho
    cases h with
    | cons _ u _ us h h1 hs => exact .cons _ _ _ _ (okN_rep hg hb ho.1 h) h1 (ih ho.2 hs)

theorem wk_of (ht : wkT S tms) (hb : wkB S bls) (hg : wkG S gens) (ho : wkOk tms bls gens = true) : Wk S (mkS tms bls gens) := fun E N A F a w h => by
  refine ⟨A, F, ?_⟩
  simp only [wkOk, Bool.and_eq_true, List.all_eq_true] at ho
  have g1 : ∀ t, hasG gens t = true → (mkS tms bls gens).gen t = S.gen t := fun t h => hasG_gen hg h
  have b1 : ∀ t g b, (mkS tms bls gens).bl t g = some b → S.bl t g = some b := fun t g b hq => wkB_mem hb (lkB_mem hq)
  have b2 : ∀ t g b, (mkS tms bls gens).bl t g = some b → hasG gens t = true ∧ okBl gens b = true := fun t g b hq => by
    have := ho.2 _ (lkB_mem hq)
    simpa using this
  refine { h with tm := fun t => ?_, lt := fun t g b hq => ?_, bl := fun t g b hq => ?_, inj := fun t g b t' g' b' r q1 q2 => h.inj t g b t' g' b' r (b1 _ _ _ q1) (b1 _ _ _ q2), own := fun t g b r hq => h.own t g b r (b1 _ _ _ hq), pgen := fun p v hp => ?_, par := fun p v b hp hq hi => h.par p v b hp (b1 _ _ _ hq) hi }
  · show RepA A F _ w (lk tms .un t) _
    rcases lk_mem (l := tms) (d := AV.un) (t := t) with ⟨v, h1, h2⟩ | h2
    · rw [h2]
      have := h.tm t
      rw [wkT_mem ht h1] at this
      exact okN_rep g1 b1 (ho.1 _ h1) this
    · rw [h2]; exact .un _
  · rw [g1 t (b2 _ _ _ hq).1]; exact h.lt _ _ _ (b1 _ _ _ hq)
  · have h0 := h.bl _ _ _ (b1 _ _ _ hq)
    cases b with
    | var cs sd =>
      obtain ⟨r, us, T, q1, q2, q3, q4, q5⟩ := h0
      exact ⟨r, us, T, q1, q2, okN_reps g1 b1 (b2 _ _ _ hq).2 q3, q4, q5⟩
    | arr E0 sz xs m => exact h0
    | bld T g1' n =>
      obtain ⟨r, pp, u, q1, q2, q3, q4, q5⟩ := h0
      exact ⟨r, pp, u, q1, q2, q3, okN_rep g1 b1 (v := .os t g1' n) (b2 _ _ _ hq).1 q4, q5⟩
  · show 0 < lk gens 1 p
    rcases lk_mem (l := gens) (d := 1) (t := p) with ⟨v', h1, h2⟩ | h2
    · rw [h2, ← wkG_mem hg h1]; exact h.pgen p v hp
    · rw [h2]; exact Nat.one_pos

theorem Wk.refl (S : St) : Wk S S := fun _ _ A F _ _ h => ⟨A, F, h⟩
theorem Wk.trans {S1 S2 S3 : St} (h : Wk S1 S2) (k : Wk S2 S3) : Wk S1 S3 := fun E N A F a w i => let ⟨A1, F1, i1⟩ := h E N A F a w i; k E N A1 F1 a w i1

variable {P : Program} {T : Nat → Option TI} {N : Nat} {K : Exit → St → Prop}

theorem cw_weak {c : Code} {S S' : St} (h : Wk S S') (hk : CW P N c K S') : CW P N c K S := fun E A F a w hI => let ⟨A1, F1, i1⟩ := h E N A F a w hI; hk E A1 F1 a w i1

/-- The loop rule: I n S says that S is fit for the loop's head, and that n rounds at most are left. -/
theorem cw_loopI {c : Code} (I : Nat → St → Prop) {S : St} (n : Nat) (h0 : ∃ S', Wk S S' ∧ I n S') (round : ∀ n S, I n S → CW P N c (thenK (fun S' => ∃ m S'', m < n ∧ Wk S' S'' ∧ I m S'') K) S) : CW P N (.loop c) K S := by
  obtain ⟨S', h1, h2⟩ := h0
  refine cw_weak h1 ?_
  intro E A F a w hI
  intro b k cs
  have key : ∀ n S A F a w, Inv E N S A F a w → I n S → ∃ e a' w', Nx E N (K e) a' w' ∧ Arrives P (lone (b.at a (.code c :: .inLoop c :: k)) cs w) b k cs e a' w' := by
    intro n
    induction n using Nat.strongRecOn with
    | _ n ih =>
      intro S A F a w hI hS
      obtain ⟨e, a₁, w₁, hq, harr⟩ := round n S hS E A F a w hI b (.inLoop c :: k) cs
      cases e with
      | normal =>
        obtain ⟨X, A', F', h1, m, X', hlt, hw, hIX⟩ := hq
        obtain ⟨A2, F2, i2⟩ := hw _ _ _ _ _ _ h1
        obtain ⟨e₂, a₂, w₂, hq₂, harr₂⟩ := ih m hlt X' A2 F2 a₁ w₁ i2 hIX
        exact ⟨e₂, a₂, w₂, hq₂, .of_steps (Steps.trans harr (.one step_inLoop)) harr₂⟩
      | exit id => exact ⟨_, a₁, w₁, hq, .pass (x := .inLoop c) rfl (fun _ _ => .inl (by simp)) harr⟩
      | goto l => exact ⟨_, a₁, w₁, hq, .pass (x := .inLoop c) rfl (fun _ _ => .inl (by simp)) harr⟩
      | ret => exact ⟨_, a₁, w₁, hq, .pass (x := .inLoop c) rfl (fun _ _ => .inl (by simp)) harr⟩
      | panic ch => exact ⟨_, a₁, w₁, hq, .pass (x := .inLoop c) rfl (fun _ _ => .inl (by simp)) harr⟩
      | outgrown => exact ⟨_, a₁, w₁, hq, .pass (x := .inLoop c) rfl (fun _ _ => .inl (by simp)) harr⟩
  obtain ⟨e, a', w', hq, harr⟩ := key n S' A F a w hI h2
  exact ⟨e, a', w', hq, .of_steps (.one step_loop) harr⟩

/-- The loop, round by round. -/
def CWL (P : Program) (N : Nat) (c : Code) (K : Exit → St → Prop) (S : St) : Prop :=
  ∀ E A F a w, Inv E N S A F a w → ∀ (b : Frame) (k : List Item) (cs : List Frame), ∃ e a' w', Nx E N (K e) a' w' ∧ Arrives P (lone (b.at a (.code c :: .inLoop c :: k)) cs w) b k cs e a' w'

theorem cwl_step {c : Code} {S : St} (h : CW P N c (thenK (CWL P N c K) K) S) : CWL P N c K S := fun E A F a w hI b k cs => by
  obtain ⟨e, a₁, w₁, hq, harr⟩ := h E A F a w hI b (.inLoop c :: k) cs
  cases e with
  | normal =>
    obtain ⟨X, A', F', h1, h2⟩ := hq
    obtain ⟨e₂, a₂, w₂, hq₂, harr₂⟩ := h2 E A' F' a₁ w₁ h1 b k cs
    exact ⟨e₂, a₂, w₂, hq₂, .of_steps (Steps.trans harr (.one step_inLoop)) harr₂⟩
  | exit id => exact ⟨_, a₁, w₁, hq, .pass (x := .inLoop c) rfl (fun _ _ => .inl (by simp)) harr⟩
  | goto l => exact ⟨_, a₁, w₁, hq, .pass (x := .inLoop c) rfl (fun _ _ => .inl (by simp)) harr⟩
  | ret => exact ⟨_, a₁, w₁, hq, .pass (x := .inLoop c) rfl (fun _ _ => .inl (by simp)) harr⟩
  | panic ch => exact ⟨_, a₁, w₁, hq, .pass (x := .inLoop c) rfl (fun _ _ => .inl (by simp)) harr⟩
  | outgrown => exact ⟨_, a₁, w₁, hq, .pass (x := .inLoop c) rfl (fun _ _ => .inl (by simp)) harr⟩

theorem cw_loopU {c : Code} {S : St} (h : CWL P N c K S) : CW P N (.loop c) K S := fun E A F a w hI b k cs => by
  obtain ⟨e, a', w', hq, harr⟩ := h E A F a w hI b k cs
  exact ⟨e, a', w', hq, .of_steps (.one step_loop) harr⟩

/-- A region. -/
theorem cw_reg0 {id : Nat} {ops : Array Oper} {l : List Oper} {S : St} (hT : TOk P T) (hl : ops.toList = l) (hd : dstOk N ops = true) (h : opsW P T ops l S [] fun _ S' => K .normal S') : CW P N (.region id ops false) K S := by
  subst hl
  exact cw_region (k := K .normal) hT (by simp) hd h fun _ h => h
theorem cw_reg1 {id : Nat} {ops : Array Oper} {l : List Oper} {S : St} (hT : TOk P T) (hm : P.follows .mixedOrders = true) (hl : ops.toList = l) (hd : dstOk N ops = true) (h : opsW P T ops l S [] fun acc S' => chk ops acc = true ∧ K .normal S') : CW P N (.region id ops true) K S := by
  subst hl
  exact cw_region (k := K .normal) hT (fun _ => hm) hd h fun _ h => h

/-- Nothing at all is an owned row of no elements. -/
theorem wk_nil {S : St} {t g E0 sz : Nat} (ht : S.tm t = .p (.lit nilSl)) (hg : S.gen t = g) : Wk S (S.nb t g (.arr E0 sz [] 0) (.os t g 0)) := fun E N A F a w h => by
  subst hg
  have h1 := h.newBlk' (d := t) (b := .arr E0 sz [] 0) (Fv := nilSl) (.refl _ w) ⟨[], by rw [upd2_same]; exact World.ownsRow_nil w 0 E0 sz, .nil, by simp, Nat.le_refl _, fun r hr => by rw [upd2_same] at hr; simp [nilSl, bOf] at hr⟩ (fun r hr => by simp [nilSl, bOf] at hr) (fun r hr => by simp [nilSl, bOf] at hr)
  refine ⟨A, upd2 F t (S.gen t) nilSl, ?_⟩
  have hv : a.tmps.getD t undef = nilSl := by
    have := h.tm t
    rw [ht] at this
    generalize a.tmps.getD t undef = u at this
    cases this with | p _ _ q => cases q; rfl
  have hr : RepA A (upd2 F t (S.gen t) nilSl) (S.mk' t (.arr E0 sz [] 0)) w (.os t (S.gen t) 0) nilSl := by
    have := RepA.newOs (A := A) (F := upd2 F t (S.gen t) nilSl) (S := S.mk' t (.arr E0 sz [] 0)) (w := w) (d := t) (g := S.gen t) (len := 0) (E0 := E0) (sz := sz) (xs := []) (m := 0)
      (by simp [St.mk', upd_same]) (by simp [St.mk', upd2_same]) rfl (by rw [upd2_same]; rfl)
    rwa [upd2_same] at this
  by_cases hN : t < N
  · have h2 := h1.put hr (d := some t) (fun q hq => by simp at hq; rw [← hq]; exact hN)
    have : a.put (some t) nilSl = a := by
      unfold Act.put
      have hs : t < a.tmps.size := by rw [h.tmps]; exact hN
      simp only [Array.getD_eq_getD_getElem?] at hv
      rw [Array.getElem?_eq_getElem hs] at hv
      simp only [Option.getD_some] at hv
      cases a
      simp only [Act.mk.injEq, and_true]
      apply Array.ext
      · simp
      · intro i hi1 hi2
        by_cases hti : t = i
        · subst hti; simp [← hv]
        · rw [Array.getElem_setIfInBounds_ne _ hti]
    rw [this] at h2
    exact h2
  · exfalso
    have : a.tmps.getD t undef = undef := by
      rw [Array.getD_eq_getD_getElem?, Array.getElem?_eq_none (by rw [h.tmps]; omega)]; rfl
    rw [this] at hv
    simp [nilSl, undef] at hv

theorem join_of {c d : Code} {S : St} (J : St → Prop) (h : CW P N c (thenK (fun S' => ∃ S'', Wk S' S'' ∧ J S'') K) S) (k : ∀ S, J S → CW P N d K S) : CW P N (.seq c d) K S :=
  cw_seq (CW.mono h fun e S hS => by
    cases e with
    | normal => obtain ⟨S', h1, h2⟩ := hS; exact cw_weak h1 (k S' h2)
    | _ => exact hS)

theorem Fn.cast {f : FuncId} {args : List TV} {r r' : TV} {outs : List (List PV)} (h : Fn P f args r outs) (e : r = r') : Fn P f args r' outs := e ▸ h

section
variable {ops : Array Oper} {S : St} {KK : St → Prop} {d ty : Nat} {pos : String} {after : Array Edge} {gd : Option (Nat × Bool)} {f x1 x2 x3 x4 x5 : Operand} {tys : Array Nat} {g : FuncId} {a1 a2 a3 a4 a5 r : PV}

theorem w_call_0 (hf : Fn P g [] (.p r) []) (hc : callee S f = some (g, [])) (hk : KK (S.pt' d (.p r))) : opW P T ⟨some d, .call ⟨.value f, #[], tys⟩, ty, pos, after, gd⟩ S KK :=
  w_call _ hf hc (.nil _) rfl (.one _ _ _ _ (.p _ _)) hk
theorem w_call_1 (hf : Fn P g [.p a1] (.p r) []) (hc : callee S f = some (g, [])) (h1 : S.ev x1 = .p a1) (hk : KK (S.pt' d (.p r))) : opW P T ⟨some d, .call ⟨.value f, #[x1], tys⟩, ty, pos, after, gd⟩ S KK :=
  w_call (S1 := S) (S2 := S) (ln := []) (.p r) hf hc (by
    show PassL S [S.ev x1] _ _ _
    rw [h1]; exact .cons _ _ _ _ _ _ _ [] [] (.one _ _ _ _ _ (.p _ _)) (.nil _)) rfl (.one _ _ _ _ (.p _ _)) hk
theorem w_call_2 (hf : Fn P g [.p a1, .p a2] (.p r) []) (hc : callee S f = some (g, [])) (h1 : S.ev x1 = .p a1) (h2 : S.ev x2 = .p a2) (hk : KK (S.pt' d (.p r))) : opW P T ⟨some d, .call ⟨.value f, #[x1, x2], tys⟩, ty, pos, after, gd⟩ S KK :=
  w_call (S1 := S) (S2 := S) (ln := []) (.p r) hf hc (by
    show PassL S [S.ev x1, S.ev x2] _ _ _
    rw [h1, h2]; exact .cons _ _ _ _ _ _ _ [] [] (.one _ _ _ _ _ (.p _ _)) (.cons _ _ _ _ _ _ _ [] [] (.one _ _ _ _ _ (.p _ _)) (.nil _))) rfl (.one _ _ _ _ (.p _ _)) hk
theorem w_call_3 (hf : Fn P g [.p a1, .p a2, .p a3] (.p r) []) (hc : callee S f = some (g, [])) (h1 : S.ev x1 = .p a1) (h2 : S.ev x2 = .p a2) (h3 : S.ev x3 = .p a3) (hk : KK (S.pt' d (.p r))) : opW P T ⟨some d, .call ⟨.value f, #[x1, x2, x3], tys⟩, ty, pos, after, gd⟩ S KK :=
  w_call (S1 := S) (S2 := S) (ln := []) (.p r) hf hc (by
    show PassL S [S.ev x1, S.ev x2, S.ev x3] _ _ _
    rw [h1, h2, h3]; exact .cons _ _ _ _ _ _ _ [] [] (.one _ _ _ _ _ (.p _ _)) (.cons _ _ _ _ _ _ _ [] [] (.one _ _ _ _ _ (.p _ _)) (.cons _ _ _ _ _ _ _ [] [] (.one _ _ _ _ _ (.p _ _)) (.nil _)))) rfl (.one _ _ _ _ (.p _ _)) hk
theorem w_call_4 (hf : Fn P g [.p a1, .p a2, .p a3, .p a4] (.p r) []) (hc : callee S f = some (g, [])) (h1 : S.ev x1 = .p a1) (h2 : S.ev x2 = .p a2) (h3 : S.ev x3 = .p a3) (h4 : S.ev x4 = .p a4) (hk : KK (S.pt' d (.p r))) : opW P T ⟨some d, .call ⟨.value f, #[x1, x2, x3, x4], tys⟩, ty, pos, after, gd⟩ S KK :=
  w_call (S1 := S) (S2 := S) (ln := []) (.p r) hf hc (by
    show PassL S [S.ev x1, S.ev x2, S.ev x3, S.ev x4] _ _ _
    rw [h1, h2, h3, h4]; exact .cons _ _ _ _ _ _ _ [] [] (.one _ _ _ _ _ (.p _ _)) (.cons _ _ _ _ _ _ _ [] [] (.one _ _ _ _ _ (.p _ _)) (.cons _ _ _ _ _ _ _ [] [] (.one _ _ _ _ _ (.p _ _)) (.cons _ _ _ _ _ _ _ [] [] (.one _ _ _ _ _ (.p _ _)) (.nil _))))) rfl (.one _ _ _ _ (.p _ _)) hk
end

theorem getE {α : Type} {l : List α} {i : Nat} (h : i < l.length) : ∃ q, l[i]? = some q := ⟨l[i], by simp [h]⟩
theorem getM {α : Type} {l : List α} {i : Nat} {q : α} {f : α → PV} (h : l[i]? = some q) : (l.map f)[i]? = some (f q) := by simp [h]

/-- The ends of functions. -/
theorem finN {rv : List ResultVar} {args : List TV} {outs : List (List PV)} {S : St} (sz : Nat) (y : PV) (hr : rvA T S rv = some [.p (.lit nilSl)]) (e : .sl sz [] = y) (ho : outsOk S args 0 outs) : FinOk T rv args (.p y) outs S :=
  ⟨_, S, hr, by subst e; exact .one _ _ _ _ [] (.one _ _ _ _ _ (.nil _ _)), ho⟩
theorem finO {rv : List ResultVar} {args : List TV} {outs : List (List PV)} {S : St} {t g E0 sz m len : Nat} {xs : List PV} (y : PV) (hr : rvA T S rv = some [.os t g len]) (hb : S.bl t g = some (.arr E0 sz xs m)) (hl : xs.length = len) (e : .sl sz xs = y)
    (ho : outsOk (S.setBl t g (.arr E0 sz xs xs.length)) args 0 outs) : FinOk T rv args (.p y) outs S :=
  ⟨_, S.seal t g, hr, by subst e; subst hl; exact .one _ _ _ _ [] (.one _ _ _ _ _ (.os _ _ _ _ _ _ _ hb)), by rw [seal_arr hb]; exact ho⟩
theorem finT2 {rv : List ResultVar} {args : List TV} {outs : List (List PV)} {S : St} (x1 x2 y1 y2 : PV) (hr : rvA T S rv = some [.p x1, .p x2]) (e1 : x1 = y1) (e2 : x2 = y2) (ho : outsOk S args 0 outs) : FinOk T rv args (.tu [.p y1, .p y2]) outs S :=
  ⟨_, S, hr, by subst e1; subst e2; exact .tu _ _ _ _ [] (by simp) (.cons _ _ _ _ _ _ _ [] [] (.one _ _ _ _ _ (.p _ _)) (.cons _ _ _ _ _ _ _ [] [] (.one _ _ _ _ _ (.p _ _)) (.nil _))), ho⟩
theorem fin0 {rv : List ResultVar} {args : List TV} {outs : List (List PV)} {S : St} (hr : rvA T S rv = some []) (ho : outsOk S args 0 outs) : FinOk T rv args (.tu []) outs S :=
  ⟨_, S, hr, .tu _ _ _ _ [] (by simp) (.nil _), ho⟩
theorem fin1 {rv : List ResultVar} {args : List TV} {outs : List (List PV)} {S : St} (x y : PV) (hr : rvA T S rv = some [.p x]) (e : x = y) (ho : outsOk S args 0 outs) : FinOk T rv args (.p y) outs S :=
  ⟨_, S, hr, by subst e; exact .one _ _ _ _ [] (.one _ _ _ _ _ (.p _ _)), ho⟩
end

/-! ### Tables of types -/
inductive BT where
  | leaf (l : List (Nat × TI))
  | node (k : Nat) (a b : BT)

def lkO (l : List (Nat × TI)) (t : Nat) : Option TI :=
  match l with
  | [] => none
  | (k, v) :: r => bif Nat.beq k t then some v else lkO r t

def BT.get : BT → Nat → Option TI
  | .leaf l, t => lkO l t
  | .node k a b, t => bif Nat.blt t k then a.get t else b.get t

def Ent (P : Program) (e : Nat × TI) : Prop := ∃ i d, P.info? e.1 = some i ∧ P.underlying e.1 = some d ∧ i.size = e.2.size ∧ i.bytes = e.2.bytes ∧ i.zero = some e.2.zero ∧
    e.2.zero.cells.size = e.2.size ∧ (∀ z ∈ e.2.zero.cells, z.oneCell' = true) ∧ (e.2.isAgg = false → e.2.size = 1 ∧ e.2.zero.oneCell' = true) ∧ TKok P d e.2.kd

def AllE (P : Program) : List (Nat × TI) → Prop
  | [] => True
  | e :: r => Ent P e ∧ AllE P r
def BT.All (P : Program) : BT → Prop
  | .leaf l => AllE P l
  | .node _ a b => a.All P ∧ b.All P

theorem lkO_all {P : Program} {l : List (Nat × TI)} (h : AllE P l) {t : Nat} {ti : TI} (hq : lkO l t = some ti) : Ent P (t, ti) := by
  induction l with
  | nil => simp [lkO] at hq
  | cons x l ih =>
    obtain ⟨k, v⟩ := x
    unfold lkO at hq
    cases hb : Nat.beq k t with
    | true =>
      rw [hb] at hq
      simp only [cond_true, Option.some.injEq] at hq
      have := Nat.eq_of_beq_eq_true hb; subst this; subst hq
      exact h.1
    | false => rw [hb] at hq; exact ih h.2 (by simpa using hq)

theorem BT.all_get {P : Program} {b : BT} (h : b.All P) {t : Nat} {ti : TI} (hq : b.get t = some ti) : Ent P (t, ti) := by
  induction b with
  | leaf l => exact lkO_all h hq
  | node k a b iha ihb =>
    unfold BT.get at hq
    cases hb : Nat.blt t k with
    | true => rw [hb] at hq; exact iha h.1 hq
    | false => rw [hb] at hq; exact ihb h.2 hq

theorem tok_of {P : Program} {b : BT} (h : b.All P) : TOk P b.get := fun _ _ hq => BT.all_get h hq

theorem all_lit {vs : List Value} (h : vs.all (·.oneCell') = true) : ∀ z ∈ vs.toArray, z.oneCell' = true := fun z hz => by
  rw [List.all_eq_true] at h; exact h z (by simpa using hz)
theorem fld {P : Program} {f : Field} {t s : Nat} {i : TypeInfo} (h : f.type = t) (hi : P.info? t = some i) (hs : i.size = s) : (P.info? f.type).map (fun i : TypeInfo => i.size) = some s := by
  rw [h, hi]; simp [hs]

theorem ent_sca {P : Program} {t : Nat} {i : TypeInfo} {d : TypeDesc} {ti : TI} (h1 : P.info? t = some i) (h2 : P.underlying t = some d) (hs : i.size = ti.size) (hb : i.bytes = ti.bytes) (hz : i.zero = some ti.zero) (hc : ti.zero.cells = #[ti.zero])
    (ho : ti.zero.oneCell' = true) (hz1 : ti.size = 1) (hk : TKok P d ti.kd) : Ent P (t, ti) :=
  ⟨i, d, h1, h2, hs, hb, hz, by simp [hc, hz1], by simp [hc, ho], fun _ => ⟨hz1, ho⟩, hk⟩
theorem ent_agg {P : Program} {t : Nat} {i : TypeInfo} {d : TypeDesc} {ti : TI} (vs : List Value) (h1 : P.info? t = some i) (h2 : P.underlying t = some d) (hs : i.size = ti.size) (hb : i.bytes = ti.bytes) (hz : i.zero = some ti.zero) (hc : ti.zero = .agg vs.toArray)
    (hl : vs.length = ti.size) (ho : vs.all (·.oneCell') = true) (ha : ti.isAgg = true) (hk : TKok P d ti.kd) : Ent P (t, ti) :=
  ⟨i, d, h1, h2, hs, hb, hz, by simp [hc, Value.cells, hl], by rw [hc]; exact all_lit ho, fun h => by simp [ha] at h, hk⟩
end Go.Proofs.Ytablmbhnimnccaa.Pw
