/- Pw, part 22c: operations on plain values, each by a law of its own. No condition. -/
import Derived.Test.YtablmbhnimnccaaZqStep2
import Derived.Lib.BufferMore
namespace Go.Proofs.Ytablmbhnimnccaa.Pw
section
variable {P : Program} {T : Nat → Option TI} {N : Nat} {S : St} {K : St → Prop} {d ty : Nat} {pos : String} {after : Array Edge} {gd : Option (Nat × Bool)}

theorem w_gen {o : Oper} (v : PV) (h : GenOk P o S v) (hk : K (S.put o.dst (.p v))) : opW P T o S K := .inl ⟨v, h, hk⟩

theorem slTy (hT : TOk P T) {t sz : Nat} (h : slOk T t sz = true) : ∃ e, P.underlying t = some (.slice e) := by
  unfold slOk at h
  split at h <;> try contradiction
  rename_i ti hti
  split at h <;> try contradiction
  rename_i e hkd
  obtain ⟨d, hd, hk⟩ := hT.kind hti
  rw [hkd] at hk
  simp only [TKok] at hk
  subst hk
  exact ⟨e, hd⟩

theorem eqGuard_sl {w : World} {op : BinOp} {t : TypeId} {X Y : Operand} {a b : Option Addr} {n m c k : Nat} : (eqGuard op t X Y (.slice a n c) (.slice b m k)).run P w = .ok () w := by
  unfold eqGuard; split <;> simp

theorem repP_lit {A : Nat → Nat → Prop} {w : World} {v u : Value} (h : RepP A w (.lit v) u) : u = v := by cases h; rfl
theorem repP_sl {A : Nat → Nat → Prop} {w : World} {sz : Nat} {xs : List PV} {u : Value} (h : RepP A w (.sl sz xs) u) : (xs = [] ∧ ∃ a c, u = .slice a 0 c) ∨
    ∃ ad c, u = .slice (some ad) xs.length c ∧ xs.length ≤ c ∧ c ≤ maxLen ∧ (∀ x ∈ xs, x.size = sz) ∧ ad.spot = none ∧ RepCells A w ad.block ad.off (flat xs) := by
  cases h with
  | snil _ c hc a => exact .inl ⟨rfl, a, c, rfl⟩
  | sl _ _ ad c hl hc hs hsp hcells => exact .inr ⟨ad, c, rfl, hl, hc, hs, hsp, hcells⟩
theorem repP_ag {A : Nat → Nat → Prop} {w : World} {cs : List PV} {u : Value} (h : RepP A w (.ag cs) u) : ∃ us : Array Value, u = .agg us ∧ RepPs A w cs us.toList := by
  cases h with
  | ag _ us h => exact ⟨us, rfl, h⟩
theorem RepQ.two {A : Nat → Nat → Prop} {w : World} {x y : PV} {u v : Value} (h : RepQ A w [x, y] [u, v]) : RepP A w x u ∧ RepP A w y v := by
  cases h with
  | cons _ _ _ _ h hs => cases hs with | cons _ _ _ _ h2 hs => exact ⟨h, h2⟩
theorem RepQ.one {A : Nat → Nat → Prop} {w : World} {x : PV} {u : Value} (h : RepQ A w [x] [u]) : RepP A w x u := by
  cases h with
  | cons _ _ _ _ h hs => exact h

theorem gen2 {o : Oper} {x y : Operand} {p q v : PV} (ho : o.op.operands.toList = [x, y]) (hx : S.ev x = .p p) (hy : S.ev y = .p q)
    (h : ∀ (A : Nat → Nat → Prop) (w : World) (ev : Operand → Value) (a b : Value), ev x = a → ev y = b → RepP A w p a → RepP A w q b → ∃ u, (execOp ev o).run P w = .ok (.value u) w ∧ RepP A w v u) : GenOk P o S v :=
  .inl ⟨[p, q], by rw [ho]; simp only [List.map_cons, List.map_nil, hx, hy], fun A w ev hr => by
    rw [ho] at hr
    obtain ⟨h1, h2⟩ := hr.two
    exact h A w ev _ _ rfl rfl h1 h2⟩
theorem gen1 {o : Oper} {x : Operand} {p v : PV} (ho : o.op.operands.toList = [x]) (hx : S.ev x = .p p)
    (h : ∀ (A : Nat → Nat → Prop) (w : World) (ev : Operand → Value) (a : Value), ev x = a → RepP A w p a → ∃ u, (execOp ev o).run P w = .ok (.value u) w ∧ RepP A w v u) : GenOk P o S v :=
  .inl ⟨[p], by rw [ho]; simp only [List.map_cons, List.map_nil, hx], fun A w ev hr => by
    rw [ho] at hr
    exact h A w ev _ rfl hr.one⟩

/-- A slice with elements is not nil. -/
theorem w_eqnil {x : Operand} {t t' sz : Nat} {xs : List PV} (hT : TOk P T) (hx : S.ev x = .p (.sl sz xs)) (ht : slOk T t sz = true) (hn : xs ≠ []) (hk : K (S.pt' d (BO false))) :
    opW P T ⟨some d, .binOp .eql t x (.const nilSl) t', ty, pos, after, gd⟩ S K :=
  w_gen (.lit (.bool false)) (gen2 rfl hx rfl fun A w ev a b h1 h2 ha hb => by
    obtain ⟨e, he⟩ := slTy hT ht
    rcases repP_sl ha with ⟨h, _⟩ | ⟨ad, c, rfl, _⟩
    · exact absurd h hn
    · have := repP_lit hb; subst this
      unfold nilSl at h2
      refine ⟨.bool false, ?_, .lit _⟩
      simp only [execOp, h1, h2, nilSl, Sem.run_bind, eqGuard_sl, Go.Lib.run_eql_slice_some_nil w ad _ _ he, Result.andThen_ok, Sem.run_pure]) hk
/-- A slice without elements, held against nil. -/
theorem w_eqnil0 {x : Operand} {t t' e : Nat} {a : Option Addr} {c : Nat} (he : P.underlying t = some (.slice e)) (hx : S.ev x = .p (.lit (.slice a 0 c))) (hk : K (S.pt' d (BO a.isNone))) :
    opW P T ⟨some d, .binOp .eql t x (.const nilSl) t', ty, pos, after, gd⟩ S K :=
  w_gen (.lit (.bool a.isNone)) (gen2 rfl hx rfl fun A w ev u b h1 h2 ha hb => by
    have := repP_lit hb; subst this
    have := repP_lit ha; subst this
    unfold nilSl at h2
    refine ⟨.bool a.isNone, ?_, .lit _⟩
    cases a with
    | none => simp only [execOp, h1, h2, nilSl, Sem.run_bind, eqGuard_sl, Go.Lib.run_eql_slice_nil_nil w _ _ he, Result.andThen_ok, Sem.run_pure, Option.isNone]
    | some a => simp only [execOp, h1, h2, nilSl, Sem.run_bind, eqGuard_sl, Go.Lib.run_eql_slice_some_nil w a _ _ he, Result.andThen_ok, Sem.run_pure, Option.isNone]) hk

theorem w_capnil {x : Operand} {t e : Nat} (he : P.underlying t = some (.slice e)) (hx : S.ev x = .p (.lit nilSl)) (hk : K (S.pt' d (I64 0))) : opW P T ⟨some d, .call ⟨.builtin .cap, #[x], #[t]⟩, ty, pos, after, gd⟩ S K :=
  w_gen (.lit (.int .i64 0)) (gen1 rfl hx fun A w ev a h1 ha => by
    have := repP_lit ha; subst this
    change ev x = .slice none 0 0 at h1
    refine ⟨.int .i64 0, ?_, .lit _⟩
    simp [execOp, resolve, invoke, builtin, Builtin.cap_, h1, run_underlying he]; rfl) hk
/-- Nothing, cut to no elements. -/
theorem w_slnil {x h : Operand} {t e : Nat} {te : TypeInfo} (he : P.underlying t = some (.slice e)) (hte : P.info? e = some te) (hx : S.ev x = .p (.lit nilSl)) (hh : S.ev h = I64 0) (hk : K (S.pt' d (.p (.lit nilSl)))) : opW P T ⟨some d, .slice t x none (some h) none, ty, pos, after, gd⟩ S K :=
  w_gen (.lit nilSl) (gen2 rfl hx hh fun A w ev a b h1 h2 ha hb => by
    have := repP_lit ha; subst this
    have := repP_lit hb; subst this
    change ev x = .slice none 0 0 at h1
    change ev h = .int .i64 0 at h2
    refine ⟨nilSl, ?_, .lit _⟩
    have hb2 := run_bounds (P := P) (w := w) (isS := true) (len := 0) (cap := 0) (l := 0) (h := 0) (m := 0) (lo := none) (hi := some (.int .i64 (0 : Nat))) (mx := none) (.inl ⟨rfl, rfl⟩) (.inr rfl) (.inl ⟨rfl, rfl⟩) (Nat.le_refl _) (Nat.le_refl _)
    simp only [execOp, Instr.sliceAt, Sem.run_bind, run_underlying he, Result.andThen_ok, h1, h2, Instr.slice, Option.map_none, Option.map_some]
    have e0 : ((0 : Nat) : Int) = 0 := rfl
    rw [e0] at hb2
    rw [hb2]
    simp [sizeOf, typeInfo, hte, nilSl]) hk
theorem w_trunc {x h : Operand} {t e t' g len E sz m k g2 : Nat} {ti te : TI} {xs : List PV} (ys : List PV) (ht : T t = some ti) (hk1 : ti.kd = .sl e) (he : T e = some te) (hs : te.size = sz) (hx : S.ev x = .os t' g len) (hb : S.bl t' g = some (.arr E sz xs m)) (hl : xs.length = len)
    (hh : S.ev h = I64 k) (hmk : m ≤ k) (hkl : k ≤ len) (hy : xs.take k = ys) (hg : (S.drop t' g).gen d = g2) (hk : K ((S.drop t' g).nb d g2 (.arr E sz ys m) (.os d g2 k))) : opW P T ⟨some d, .slice t x none (some h) none, ty, pos, after, gd⟩ S K := by
  refine .inr (.inl ⟨ti, te, e, t', g, len, E, sz, xs, m, k, ht, hk1, he, hs, hx, hb, hl, by rw [hh]; simp [natOf], hmk, hkl, ?_⟩)
  subst hy; subst hg
  exact hk
theorem w_zeros {x y : Operand} {t tn e n g : Nat} {ti te tin : TI} {ki : IntKind} (ys : List PV) (hti : T t = some ti) (hkd : ti.kd = .sl e) (hte : T e = some te) (htn : T tn = some tin) (hkn : tin.kd = .int ki)
    (hx : S.ev x = .p (.lit nilSl)) (hy : S.ev y = I64 n) (hn0 : 0 < n) (h0 : 0 < te.size) (hb : n * te.bytes ≤ 140737488355328) (hn : n ≤ 140737488355328) (hys : List.replicate n (zeroP te) = ys) (hg : S.gen d = g)
    (hk : K (S.nb d g (.arr e te.size ys 0) (.os d g n))) : opW P T ⟨some d, .call ⟨.builtin .append, #[x, y], #[t, tn]⟩, ty, pos, after, gd⟩ S K := by
  refine .inr (.inl ⟨x, y, t, tn, ti, te, e, ki, tin, n, rfl, rfl, hti, hkd, hte, htn, hkn, hx, by rw [hy]; simp [natOf], hn0, h0, hb, hn, ?_⟩)
  subst hys; subst hg
  exact hk

theorem w_mksl {t g e n : Nat} {ti te : TI} {x y : Operand} (ys : List PV) (ht : T t = some ti) (hk1 : ti.kd = .sl e) (he : T e = some te) (hx : S.ev x = I64 n) (hy : S.ev y = I64 n) (h0 : 0 < te.size) (h1 : n * te.bytes ≤ 140737488355328) (h2 : n ≤ 140737488355328)
    (hys : List.replicate n (zeroP te) = ys) (hg : S.gen d = g) (hk : K (S.nb d g (.arr e te.size ys 0) (.os d g n))) : opW P T ⟨some d, .makeSlice t x y, ty, pos, after, gd⟩ S K := by
  subst hys; exact w_mks ht hk1 he hx hy h0 h1 h2 hg hk
theorem w_subol {t e : Nat} {ti te : TI} {x : Operand} {lo hi : Option Operand} {sz t' g E m : Nat} {xs : List PV} (i j n : Nat) (v : List PV) (ht : T t = some ti) (hk1 : ti.kd = .sl e) (he : T e = some te) (hs : te.size = sz) (hx : S.ev x = .os t' g n) (hb : S.bl t' g = some (.arr E sz xs m)) (hl : xs.length = n)
    (hi0 : hiOk S 0 lo i) (hj : hiOk S n hi j) (h1 : i ≤ j) (h2 : j ≤ n) (hv : (xs.take j).drop i = v) (hk : K ((S.setBl t' g (.arr E sz xs n)).pt' d (.p (.sl sz v)))) : opW P T ⟨some d, .slice t x lo hi none, ty, pos, after, gd⟩ S K := by
  subst hl; exact w_subo i j v ht hk1 he hs hx hb hi0 hj h1 h2 hv hk
/-- A field of a struct told plain. -/
theorem w_field {x : Operand} {t f off : Nat} {cs : List PV} {fs : Array Field} {fd : Field} (v : PV) (ht : P.underlying t = some (.struct fs)) (hf : fs[f]? = some fd) (ha : ∀ w, (isAgg fd.type).run P w = .ok false w) (ho : fd.offset = off)
    (hx : S.ev x = .p (.ag cs)) (hv : cs[off]? = some v) (hk : K (S.pt' d (.p v))) : opW P T ⟨some d, .field t x f, ty, pos, after, gd⟩ S K :=
  w_gen v (gen1 rfl hx fun A w ev a h1 hr => by
    obtain ⟨us, rfl, hr2⟩ := repP_ag hr
    obtain ⟨u, h2, h3, _⟩ := hr2.get hv
    refine ⟨u, ?_, h3⟩
    have h2' : us[off]? = some u := by simpa using h2
    subst ho
    simp [execOp, h1, Instr.field, run_underlying ht, hf, asAgg, part, ha, h2']) hk

/-- A byte of a text. -/
theorem w_bidx {x i : Operand} {t : Nat} {s : ByteArray} (n : Nat) (b : UInt8) (ht : P.underlying t = some .string) (hx : S.ev x = .p (.lit (.string s))) (hi : S.ev i = I64 n) (hb : s[n]? = some b) (hk : K (S.pt' d (.p (.lit (.int .u8 (b.toNat : Int)))))) :
    opW P T ⟨some d, .index t x i, ty, pos, after, gd⟩ S K :=
  w_gen (.lit (.int .u8 (b.toNat : Int))) (gen2 rfl hx hi fun A w ev a c h1 h2 ha hc => by
    have := repP_lit ha; subst this
    have := repP_lit hc; subst this
    refine ⟨_, ?_, .lit _⟩
    simp [execOp, h1, h2, Instr.index, asIntOf, run_underlying ht, hb]) hk
end

/-- A slice of no elements, by what it is. -/
theorem Fn.emp1 {P : Program} {f : FuncId} {res : TV} {outs : List (List PV)} {sz : Nat} (h : ∀ (a : Option Addr) (c : Nat), Fn P f [.p (.lit (.slice a 0 c))] res outs) : Fn P f [.p (.sl sz [])] res outs :=
  ⟨(h none 0).1, fun A w us rs ha hnd hA => by
    cases ha with
    | cons _ u _ us' r rs' hx hs =>
      cases hs
      cases hx with
      | p _ _ hx =>
        have key : ∃ a c, u = .slice a 0 c := by
          rcases repP_sl hx with ⟨_, a, c, hq⟩ | ⟨ad, c, hq, _⟩
          · exact ⟨a, c, hq⟩
          · exact ⟨some ad, c, by simpa using hq⟩
        obtain ⟨a, c, rfl⟩ := key
        exact (h a c).2 A w _ _ (.cons _ _ _ _ _ _ (.p _ _ (.lit _)) .nil) hnd hA⟩
end Go.Proofs.Ytablmbhnimnccaa.Pw
