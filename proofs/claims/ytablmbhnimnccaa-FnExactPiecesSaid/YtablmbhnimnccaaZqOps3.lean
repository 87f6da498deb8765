/- Pw, part 13: elements that are written, cuts, appends, comparisons. No condition. -/
import Derived.Test.YtablmbhnimnccaaZqOps2
namespace Go.Proofs.Ytablmbhnimnccaa.Pw
section
variable {P : Program} {T : Nat → Option TI} {E : Entry} {N : Nat} {A : Nat → Nat → Prop} {F : Nat → Nat → Value} {S S' : St} {a : Act} {w w' : World} {K : St → Prop} {Q : Exit → Act → World → Prop}

theorem splice_take {α : Type} (cs : List α) (o : Nat) (vs : List α) (k : Nat) (h : o + vs.length ≤ k) (hk : k ≤ cs.length) : (splice cs o vs).take k = splice (cs.take k) o vs := by
  unfold splice
  have h1 : (cs.take o).length = o := by simp; omega
  rw [List.take_append, List.take_append, List.length_append, h1, List.take_of_length_le (l := cs.take o) (by omega), List.take_of_length_le (l := vs) (by omega), List.take_take, List.drop_take]
  rw [Nat.min_eq_left (by omega : o ≤ k)]

theorem splice_len {α : Type} (cs : List α) (o : Nat) (vs : List α) (h : o + vs.length ≤ cs.length) : (splice cs o vs).length = cs.length := by
  unfold splice; simp; omega

theorem splice_get_lt {α : Type} (cs : List α) (o : Nat) (vs : List α) (h : o ≤ cs.length) (k : Nat) (hk : k < o) : (splice cs o vs)[k]? = cs[k]? := by
  unfold splice
  rw [List.append_assoc, List.getElem?_append_left (by simp; omega), List.getElem?_take]
  simp [hk]

theorem splice_mid {α : Type} (l z r : List α) (off : Nat) (vs : List α) (h : off + vs.length ≤ z.length) : splice (l ++ z ++ r) (l.length + off) vs = l ++ splice z off vs ++ r := by
  unfold splice
  have h1 : (l ++ z ++ r).take (l.length + off) = l ++ z.take off := by
    rw [List.append_assoc, List.take_append, List.take_of_length_le (by omega), List.take_append]
    have : l.length + off - l.length = off := by omega
    rw [this]
    have : off - z.length = 0 := by omega
    simp [this]
  have h2 : (l ++ z ++ r).drop (l.length + off + vs.length) = z.drop (off + vs.length) ++ r := by
    rw [List.append_assoc, List.drop_append, List.drop_of_length_le (by omega), List.drop_append]
    have e : l.length + off + vs.length - l.length = off + vs.length := by omega
    rw [e]
    have : off + vs.length - z.length = 0 := by omega
    simp [this]
  rw [h1, h2]; simp

theorem flat_set {sz : Nat} {xs : List PV} (h : ∀ x ∈ xs, x.size = sz) {i : Nat} {z z' : PV} (hz : xs[i]? = some z) :
    ∃ l r, flat xs = l ++ z.cells ++ r ∧ l.length = i * sz ∧ flat (xs.set i z') = l ++ z'.cells ++ r := by
  induction xs generalizing i with
  | nil => simp at hz
  | cons y xs ih =>
    cases i with
    | zero => simp at hz; subst hz; exact ⟨[], flat xs, by simp [flat], by simp, by simp [flat]⟩
    | succ i =>
      obtain ⟨l, r, e, hl, e2⟩ := ih (fun z hz => h z (by simp [hz])) (i := i) (by simpa using hz)
      have h1 : y.cells.length = sz := h y (by simp)
      refine ⟨y.cells ++ l, r, by simp [flat, e], ?_, by simp [flat, e2]⟩
      simp only [List.length_append, h1, hl, Nat.succ_mul]
      omega

theorem setCells_cells {y y' : PV} {off : Nat} {ps : List PV} (h : setCells y off ps = some y') : y'.cells = splice y.cells off ps ∧ off + ps.length ≤ y.cells.length := by
  unfold setCells at h
  split at h
  · split at h
    · simp at h; subst h; exact ⟨rfl, by simpa [PV.cells]⟩
    · simp at h
  · rename_i hn
    have hy : y.cells = [y] := by cases y <;> simp_all [PV.cells]
    split at h
    · simp at h
    · rename_i p hp
      simp at h; subst h
      have : p.cells = [p] := by cases p <;> simp_all [PV.cells]
      rw [hy, this]; simp [splice]
    · simp at h

theorem RepPs.splice {cs vs : List PV} {us ws : List Value} (h : RepPs A w cs us) (k : RepPs A w vs ws) (off : Nat) : RepPs A w (splice cs off vs) (splice us off ws) := by
  unfold Go.Proofs.Ytablmbhnimnccaa.Pw.splice
  rw [k.length]
  exact ((h.take off).append k).append (h.drop _)

theorem store_arr_sound (hT : TOk P T) (hI : Inv E N S A F a w) {t ty : Nat} {x y : Operand} {pos : String} {after : Array Edge} {guard : Option (Nat × Bool)}
    {ti : TI} (hti : T t = some ti) (hc : cellsOk (S.ev y) = true) (hl : (toCells (S.ev y)).length = ti.size) {t' g len i off : Nat} (hx : S.ev x = .pe t' g len i off) {E0 sz : Nat} {xs : List PV} {m : Nat}
    (hb : S.bl t' g = some (.arr E0 sz xs m)) {z z' : PV} {ps : List PV} (hz : xs[i]? = some z) (hp : allP (toCells (S.ev y)) = some ps) (hset : setCells z off ps = some z') (hlen : xs.length = len) (hm : m ≤ i)
    (hzs : z'.size = z.size) (hk : K (S.setBl t' g (.arr E0 sz (xs.set i z') m))) : Oper.wp P ⟨none, .store t x y, ty, pos, after, guard⟩ a w (Nx E N K) Q := by
  have hxr := hI.ev x
  rw [hx] at hxr
  have hyr := toCells_sound hc (hI.ev y)
  rw [allP_some hp] at hyr hl
  have hyp := hyr.to_p
  obtain ⟨us, ho, hr, hs, hml, hA⟩ := hI.bl _ _ _ hb
  obtain ⟨hzc, hzl⟩ := setCells_cells hset
  cases hxr with
  | pe _ _ _ _ _ u hg hq h1 =>
    obtain ⟨r, hbo, hu⟩ := (hq _ _ _ _ hb).2 hlen
    rcases ho.2 with ⟨hF, _⟩ | ⟨g0, cap, cur, hF, q1, q2, q3, q4, q5, q6⟩
    · rw [hF] at hbo; simp [bOf] at hbo
    · have hrg : g0 = r := by rw [hF] at hbo; simpa [bOf] using hbo
      subst hrg
      obtain ⟨l, rr, e1, e2, e3⟩ := flat_set hs (z' := z') hz
      have hlt : i < xs.length := (List.getElem?_eq_some_iff.1 hz).1
      have hfl : (flat xs).length = xs.length * sz := flat_length hs
      have hzz : z.cells.length = sz := hs z (List.mem_of_getElem? hz)
      have hvl := hyp.length
      have hpl : ps.length = ti.size := by simpa using hl
      have hfit : i * sz + off + ti.size ≤ xs.length * sz := by
        rw [e1] at hfl; simp only [List.length_append, e2, hzz] at hfl; omega
      have hcap : xs.length * sz ≤ cap * sz := Nat.mul_le_mul_right _ q3
      have hrun := run_storeAt (P := P) hT hti (r := g0) (o := i * sz + off) (v := a.eval y) q2 (by simp at hvl; omega) (by omega) hyr.one
      have hvs : (a.eval y).cells.toList.length = ti.size := by omega
      have hcl : cur.toList.length = cap * sz := by simpa using q5
      let cs' := (Go.Proofs.Ytablmbhnimnccaa.Pw.splice cur.toList (i * sz + off) (a.eval y).cells.toList)
      have ws : Wstep (fun b => bOf (F t' g) = some b) w (w.setRow g0 cs'.toArray) :=
        ⟨rfl, rfl, rfl, by simp, fun b _ hn => setRow_other w g0 b _ (fun hq => hn (by rw [hF, hq]; rfl))⟩
      have k : Keeps A A w (w.setRow g0 cs'.toArray) := Keeps.of_step hI ws fun b o ha hbo => by
        rw [hF] at hbo; simp [bOf] at hbo; subst hbo
        have h5 := hA _ (by rw [hF]; rfl) o ha
        have h6 : m * sz ≤ i * sz := Nat.mul_le_mul_right _ hm
        rw [cell_setRow_same w g0 o cur _ E0 (0, 0) q2, cell_of_heap q2]
        have := splice_get_lt cur.toList (i * sz + off) (a.eval y).cells.toList (by omega) o (by omega)
        simpa [cs'] using this
      have e : Evo A A F F S (S.setBl t' g (.arr E0 sz (xs.set i z') m)) w (w.setRow g0 cs'.toArray) :=
        Evo.of_set_arr hb (by simp) (fun _ _ _ => rfl) (fun _ => rfl) k
      have hflat : flat (xs.set i z') = Go.Proofs.Ytablmbhnimnccaa.Pw.splice (flat xs) (i * sz + off) ps := by
        rw [e3, e1, hzc, ← e2, splice_mid _ _ _ _ _ hzl]
      have hup := hI.updBlk hb (Fv := F t' g) ws (b1 := .arr E0 sz (xs.set i z') m) (by rw [upd2_self]; exact e) (by
        rw [upd2_self]
        refine ⟨Go.Proofs.Ytablmbhnimnccaa.Pw.splice us (i * sz + off) (a.eval y).cells.toList, ⟨?_, .inr ⟨g0, cap, cs'.toArray, by rw [List.length_set]; exact hF, Nat.zero_le _, setRow_heap w g0 cur _ E0 (0, 0) q2, by simpa using q3, q4, ?_, ?_⟩⟩, ?_, fun x hx => ?_, by simpa using hml, fun r hr o ha => hA r hr o ha⟩
        · rw [splice_len _ _ _ (by rw [hvs, ho.1]; exact hfit), ho.1]; simp
        · simp only [List.size_toArray, cs']
          rw [splice_len _ _ _ (by omega)]; exact hcl
        · simp only [List.length_set, cs']
          rw [splice_take _ _ _ _ (by omega) (by omega), q6]
        · rw [hflat]
          exact (hr.mono k).splice (hyp.mono k) _
        · rcases List.mem_or_eq_of_mem_set hx with hx | rfl
          · exact hs x hx
          · rw [hzs]; exact hzz) (fun r hr => .inl hr)
      rw [upd2_self] at hup
      refine wp_skp (w' := w.setRow g0 cs'.toArray) ?_ ⟨_, _, _, hup, hk⟩
      simp only [execOp, hu, Sem.run_bind, hrun, Result.andThen_ok, Sem.run_pure, cs']

theorem list_rep (hI : Inv E N S A F a w) {x : AV} {xs : List PV} {u : Value} (h : S.list x = some xs) (hx : RepA A F S w x u) :
    (∃ a c us, u = .slice (some a) xs.length c ∧ RepPs A w (flat xs) us ∧ (∀ j v, us[j]? = some v → w.cell? (a.add j) = some v)) ∨ (u = .slice none 0 0 ∧ xs = []) ∨ (∃ ad c, u = .slice ad 0 c ∧ xs = []) := by
  unfold St.list at h
  split at h
  · simp at h; subst h
    cases hx with
    | p _ _ hx =>
      cases hx with
      | snil sz c hc ad => exact .inr (.inr ⟨ad, c, rfl, rfl⟩)
      | sl sz xs ad c hl hc hs hsp hcells =>
        obtain ⟨us, h1, h2, h3⟩ := hcells.vals
        refine .inl ⟨ad, c, us, rfl, h1, fun j v hj => ?_⟩
        have := h2 j v hj
        obtain ⟨b, o, sp⟩ := ad
        simp only at hsp; subst hsp
        rw [Addr.add_lit]; exact this
  · simp at h; subst h
    have := repA_lit hx
    exact .inr (.inr ⟨_, _, this, rfl⟩)
  · rename_i t g len
    split at h
    · rename_i E0 sz ys m hb
      split at h
      · rename_i hlen
        simp at h; subst h
        obtain ⟨us, ho, hr, hs, _⟩ := hI.bl _ _ _ hb
        cases hx with
        | os _ _ _ u hg hq h1 =>
          have hu := (hq _ _ _ _ hb).2 hlen
          rcases ho.2 with ⟨hF, h0⟩ | ⟨g0, cap, cur, hF, _⟩
          · exact .inr (.inl ⟨by rw [hu, hF], List.eq_nil_of_length_eq_zero h0⟩)
          · refine .inl ⟨⟨g0, 0, none⟩, cap, us, by rw [hu, hF], hr, fun j v hj => ?_⟩
            exact ho.cells (by rw [hF]; rfl) j v hj
      · simp at h
    · simp at h
  · simp at h

theorem isNilSl_val {x : AV} {u : Value} (h : isNilSl x = true) (hx : RepA A F S w x u) : u = .slice none 0 0 := by
  unfold isNilSl at h
  split at h
  · exact repA_lit hx
  · simp at h

theorem run_append_empty (hT : TOk P T) {t e ty : Nat} {te : TI} (hte : T e = some te) (hu : P.underlying t = some (.slice e)) {v : Value} {ad : Option Addr} {b : Option Addr} {n cap c : Nat} (hv : v = .slice b n cap) (hn : n ≤ cap) :
    (Builtin.append_ #[t, t] ty #[v, .slice ad 0 c]).run P w = .ok v w := by
  subst hv
  obtain ⟨ie, hie, hs, _⟩ := hT.info hte
  cases ad with
  | none => cases b <;> simp [Builtin.append_, run_underlying hu, sizeOf, run_info hie, Builtin.lenOf, hn, Builtin.firstCells, storeCells]
  | some ad =>
    cases b <;> simp [Builtin.append_, run_underlying hu, sizeOf, run_info hie, Builtin.lenOf, hn, Builtin.firstCells, loadCells, loadCellsFrom, storeCells]

theorem grown_wstep {v : Value} (h : w.grownBy w' v.ownBlock) (hb : bOf v = v.ownBlock) : Wstep (fun b => bOf v = some b) w w' :=
  ⟨h.os, h.tape, h.output, h.size, fun b hlt hn => h.block b hlt fun hq => hn (by rw [hb, hq])⟩

theorem ownsRow_base {E0 sz n : Nat} {v : Value} {us : List Value} (h : w.ownsRow 0 E0 sz v n us) {base : Nat} (hb : ∀ r, bOf v = some r → base ≤ r) : w.ownsRow base E0 sz v n us := by
  refine ⟨h.1, ?_⟩
  rcases h.2 with hn | ⟨g, cap, cur, rfl, h1, h2⟩
  · exact .inl hn
  · exact .inr ⟨g, cap, cur, rfl, hb g rfl, h2⟩

theorem ownsRow_base0 {E0 sz n base : Nat} {v : Value} {us : List Value} (h : w.ownsRow base E0 sz v n us) : w.ownsRow 0 E0 sz v n us := by
  refine ⟨h.1, ?_⟩
  rcases h.2 with hn | ⟨g, cap, cur, rfl, h1, h2⟩
  · exact .inl hn
  · exact .inr ⟨g, cap, cur, rfl, Nat.zero_le _, h2⟩

theorem ownsRow_one {E0 sz n base : Nat} {v : Value} {us : List Value} (h : w.ownsRow base E0 sz v n us) : v.oneCell' = true := by
  rcases h.2 with ⟨rfl, _⟩ | ⟨g, cap, cur, rfl, _⟩ <;> rfl

/-- The law of append on a row of one's own, or on nil: where the new row lies, and what stays. -/
theorem run_append_mine (t ty e : TypeId) (i : TypeInfo) (z : Value) (size bytes : Nat) (ht : P.underlying t = some (.slice e)) (hi : P.info? e = some i) (hz : i.zero = some z)
    (hsize : i.size = size) (hby : i.bytes = bytes) (hzs : z.cells.size = size) (hsz : 0 < size) (v : Value) (n : Nat) (xs : List Value) (hown : w.ownsRow 0 e size v n xs)
    (ad : Addr) (m c : Nat) (news : List Value) (hl : news.length = m * size) (hnews : ∀ j u, news[j]? = some u → w.cell? (ad.add j) = some u) (h1 : ∀ u ∈ news, u.oneCell' = true) (hm0 : 0 < m)
    (h63 : n + m ≤ maxLen) (hbytes : (n + m) * bytes ≤ 140737488355328) :
    ∃ v' w', (Builtin.append_ #[t, t] ty #[v, .slice (some ad) m c]).run P w = .ok v' w' ∧ w'.ownsRow 0 e size v' (n + m) (xs ++ news) ∧ Wstep (fun b => bOf v = some b) w w' ∧
      (∀ r, bOf v' = some r → bOf v = some r ∨ w.heap.size ≤ r) ∧ (∀ r o, bOf v = some r → o < n * size → w'.cell? ⟨r, o, none⟩ = w.cell? ⟨r, o, none⟩) := by
  by_cases hin : ∃ g cap, v = .slice (some ⟨g, 0, none⟩) n cap ∧ n + m ≤ cap
  · obtain ⟨g, cap, rfl, hroom⟩ := hin
    obtain ⟨v', w', r1, r2, r3, _⟩ := run_append_own (P := P) w 0 t ty e i z size bytes ht hi hz hsize hby hzs hsz _ n xs hown ad m c news hl hnews h1 h63 hbytes (Nat.zero_le _)
    have hd := hown.2
    simp only [reduceCtorEq, false_and, Value.slice.injEq, Option.some.injEq, Addr.mk.injEq, and_true, true_and, false_or] at hd
    obtain ⟨g', cap', cur, ⟨rfl, rfl⟩, q1, q2, q3, q4, q5, q6⟩ := hd
    subst hsize
    have hr := run_append_room (P := P) w t ty e i ht hi g n cap cur q2 ad m c news hl hnews h1 hroom (by rw [hl, q5, ← Nat.add_mul]; exact Nat.mul_le_mul_right _ hroom)
    rw [hr] at r1
    simp only [Result.ok.injEq] at r1
    obtain ⟨rfl, rfl⟩ := r1
    refine ⟨_, _, hr, r2, grown_wstep r3 rfl, fun r hb => .inl (by simpa [bOf] using hb), fun r o hb ho => ?_⟩
    simp [bOf] at hb; subst hb
    have hnc : n * i.size ≤ cap * i.size := Nat.mul_le_mul_right _ q3
    have hlc : cur.toList.length = cap * i.size := by simpa using q5
    rw [cell_setRow_same w g o cur _ e (0, 0) q2, cell_of_heap q2]
    simp only [List.getElem?_toArray]
    rw [List.append_assoc, List.getElem?_append_left (by rw [List.length_take]; omega), List.getElem?_take, if_pos ho]
    simp
  · have hbase : w.ownsRow w.heap.size e size v n xs ∨ ∃ g cap, v = .slice (some ⟨g, 0, none⟩) n cap ∧ cap < n + m := by
      rcases hown.2 with hn | ⟨g, cap, cur, rfl, q⟩
      · exact .inl ⟨hown.1, .inl hn⟩
      · exact .inr ⟨g, cap, rfl, by
          rcases Nat.lt_or_ge cap (n + m) with h | h
          · exact h
          · exact absurd ⟨g, cap, rfl, h⟩ hin⟩
    rcases hbase with hb | ⟨g, cap, rfl, hlt⟩
    · obtain ⟨v', w', r1, r2, r3, _⟩ := run_append_own (P := P) w w.heap.size t ty e i z size bytes ht hi hz hsize hby hzs hsz _ n xs hb ad m c news hl hnews h1 h63 hbytes (Nat.le_refl _)
      refine ⟨v', w', r1, ownsRow_base0 r2, grown_wstep r3 (ownsRow_bOf hown), fun r hq => .inr ?_, fun r o hq ho => ?_⟩
      · have := r2.lt r (by rw [← ownsRow_bOf (ownsRow_base0 r2)]; exact hq)
        exact this.1
      · have := hb.lt r (by rw [← ownsRow_bOf hown]; exact hq)
        omega
    · obtain ⟨v', w', r1, r2, r3, _⟩ := run_append_own (P := P) w 0 t ty e i z size bytes ht hi hz hsize hby hzs hsz _ n xs hown ad m c news hl hnews h1 h63 hbytes (Nat.zero_le _)
      have holds : ∀ j u, xs[j]? = some u → w.cell? ((⟨g, 0, none⟩ : Addr).add j) = some u := hown.cells (g := g) rfl
      subst hsize; subst hby
      have hr := run_append_grow (P := P) w t ty e i z ht hi hz ⟨g, 0, none⟩ n cap xs hown.1 holds ad m c news hl hnews hlt (by simp [maxLen] at h63; omega) (growslice_fits hlt hbytes)
      rw [hr] at r1
      simp only [Result.ok.injEq] at r1
      obtain ⟨rfl, rfl⟩ := r1
      refine ⟨_, _, hr, r2, grown_wstep r3 rfl, fun r hb => .inr (by simp [bOf] at hb; omega), fun r o hb ho => ?_⟩
      simp [bOf] at hb; subst hb
      have hlt2 : g < w.heap.size := ownsRow_lt hown (r := g) rfl
      have : ((w.drew.alloc (.cells (xs.toArray ++ news.toArray ++ Builtin.zeroCells z.cells (grownCap w (n + m) cap e - (n + m))) e)).heap[g]?) = w.heap[g]? := heap_alloc_old w.drew _ g hlt2
      simp only [World.cell?]; rw [this]

/-- The law of append on a row of one's own, or on nil, from whatever source. -/
theorem run_append_any (hT : TOk P T) (hI : Inv E N S A F a w) {t e ty : Nat} {te : TI} (hte : T e = some te) (hu : P.underlying t = some (.slice e)) (h0 : 0 < te.size) {v y : Value} {n : Nat} {us : List Value}
    (ho : w.ownsRow 0 e te.size v n us) {Y : AV} {ys : List PV} (hY : S.list Y = some ys) (hy : RepA A F S w Y y) (hys : ∀ y ∈ ys, y.size = te.size)
    (h1 : (n + ys.length) * te.bytes ≤ 140737488355328) (h2 : n + ys.length ≤ 140737488355328) :
    ∃ v' w' ws, (Builtin.append_ #[t, t] ty #[v, y]).run P w = .ok v' w' ∧ w'.ownsRow 0 e te.size v' (n + ys.length) (us ++ ws) ∧ Wstep (fun b => bOf v = some b) w w' ∧
      (∀ r, bOf v' = some r → bOf v = some r ∨ w.heap.size ≤ r) ∧ (∀ r o, bOf v = some r → o < n * te.size → w'.cell? ⟨r, o, none⟩ = w.cell? ⟨r, o, none⟩) ∧ RepPs A w (flat ys) ws ∧ (ys.length = 0 → v' = v) := by
  obtain ⟨ie, hie, hs, hby, hz, hcz⟩ := hT.info hte
  have empty : ∀ ad c, y = .slice ad 0 c → ys = [] → ∃ v' w' ws, (Builtin.append_ #[t, t] ty #[v, y]).run P w = .ok v' w' ∧ w'.ownsRow 0 e te.size v' (n + ys.length) (us ++ ws) ∧ Wstep (fun b => bOf v = some b) w w' ∧
      (∀ r, bOf v' = some r → bOf v = some r ∨ w.heap.size ≤ r) ∧ (∀ r o, bOf v = some r → o < n * te.size → w'.cell? ⟨r, o, none⟩ = w.cell? ⟨r, o, none⟩) ∧ RepPs A w (flat ys) ws ∧ (ys.length = 0 → v' = v) := fun ad c hq hys => by
    subst hys
    refine ⟨v, w, [], ?_, by simpa using ho, .refl _ _, fun r hb => .inl hb, fun _ _ _ _ => rfl, .nil, fun _ => rfl⟩
    rw [hq]
    rcases ho.2 with ⟨hF, hn⟩ | ⟨g0, cap, cur, hF, q1, q2, q3, q4, q5, q6⟩
    · exact run_append_empty hT hte hu hF (Nat.le_refl _)
    · exact run_append_empty hT hte hu hF q3
  rcases list_rep hI hY hy with ⟨ad, c, ws, hq, hr, hc⟩ | ⟨hq, hys0⟩ | ⟨ad, c, hq, hys0⟩
  · by_cases hl : ys.length = 0
    · have := List.eq_nil_of_length_eq_zero hl
      exact empty (some ad) c (by rw [hq, hl]) this
    · obtain ⟨v', w', r1, r2, r3, r4, r5⟩ := run_append_mine (P := P) (w := w) t ty e ie te.zero te.size te.bytes hu hie hz hs hby hcz h0 v n us ho ad ys.length c ws
        (by rw [hr.length, flat_length hys]) hc hr.one (by omega) (by simp [maxLen]; omega) h1
      exact ⟨v', w', ws, by rw [hq]; exact r1, r2, r3, r4, r5, hr, fun hq => absurd hq hl⟩
  · exact empty none 0 hq hys0
  · exact empty ad c hq hys0

theorem flat_app (xs ys : List PV) : flat (xs ++ ys) = flat xs ++ flat ys := flat_append xs ys

/-- An append to a row of the frame's own. -/
theorem append_os (hT : TOk P T) (hI : Inv E N S A F a w) {t e ty : Nat} {te : TI} (hte : T e = some te) (hu : P.underlying t = some (.slice e)) (h0 : 0 < te.size) {t' g len : Nat} {xs ys : List PV} {m : Nat}
    (hb : S.bl t' g = some (.arr e te.size xs m)) (hlen : xs.length = len) {v y : Value} (hv : RepA A F S w (.os t' g len) v) {Y : AV} (hY : S.list Y = some ys) (hy : RepA A F S w Y y) (hys : ∀ y ∈ ys, y.size = te.size)
    (h1 : (len + ys.length) * te.bytes ≤ 140737488355328) (h2 : len + ys.length ≤ 140737488355328) {dst : Option Tmp} (hd : ∀ t, dst = some t → t < N)
    (hk : K ((S.setBl t' g (.arr e te.size (xs ++ ys) m)).put dst (.os t' g (len + ys.length)))) :
    ∃ v' w', (Builtin.append_ #[t, t] ty #[v, y]).run P w = .ok v' w' ∧ Nx E N K (a.put dst v') w' := by
  obtain ⟨us, ho, hr, hs, hml, hA⟩ := hI.bl _ _ _ hb
  have hvF : v = F t' g := by
    cases hv with
    | os _ _ _ u hg hq _ => exact (hq _ _ _ _ hb).2 hlen
  have hg : g < S.gen t' := hI.lt _ _ _ hb
  subst hvF
  subst hlen
  obtain ⟨v', w', ws, r1, r2, r3, r4, r5, r6, r7⟩ := run_append_any (P := P) hT hI (ty := ty) hte hu h0 ho hY hy hys h1 h2
  have k : Keeps A A w w' := Keeps.of_step hI r3 fun b o ha hq => r5 b o hq (Nat.lt_of_lt_of_le (hA b hq o ha) (Nat.mul_le_mul_right _ hml))
  have e1 : Evo A A F (upd2 F t' g v') S (S.setBl t' g (.arr e te.size (xs ++ ys) m)) w w' :=
    Evo.of_set_arr hb (by simp) (fun t1 g1 hn => upd2_ne _ _ _ _ _ _ hn) (fun hq => by rw [upd2_same]; exact r7 (by rw [List.length_append] at hq; omega)) k
  have hup := hI.updBlk hb (Fv := v') r3 (b1 := .arr e te.size (xs ++ ys) m) e1 (by
    refine ⟨us ++ ws, by rw [upd2_same, List.length_append]; exact r2, ?_, fun x hx => ?_, by simp; omega, fun r hr o ha => ?_⟩
    · rw [flat_append]; exact (hr.mono k).append (r6.mono k)
    · rcases List.mem_append.1 hx with hx | hx
      · exact hs x hx
      · exact hys x hx
    · rw [upd2_same] at hr
      rcases r4 r hr with hq | hq
      · exact hA r hq o ha
      · have := hI.Alt _ _ ha; omega) r4
  have h1c := ownsRow_one r2
  have hra : RepA A (upd2 F t' g v') (S.setBl t' g (.arr e te.size (xs ++ ys) m)) w' (.os t' g (xs.length + ys.length)) v' := by
    have := RepA.newOs (A := A) (F := upd2 F t' g v') (S := S.setBl t' g (.arr e te.size (xs ++ ys) m)) (w := w') (d := t') (g := g) (len := xs.length + ys.length) (E0 := e) (sz := te.size) (xs := xs ++ ys) (m := m)
      hg (by simp [St.setBl, upd2_same]) (by simp) (by rw [upd2_same]; exact h1c)
    rwa [upd2_same] at this
  exact ⟨v', w', r1, _, _, _, hup.put hra hd, hk⟩

/-- An append to nil. -/
theorem append_nil (hT : TOk P T) (hI : Inv E N S A F a w) {t e ty : Nat} {te : TI} (hte : T e = some te) (hu : P.underlying t = some (.slice e)) (h0 : 0 < te.size) {ys : List PV} {X : AV}
    (hX : isNilSl X = true) {v y : Value} (hv : RepA A F S w X v) {Y : AV} (hY : S.list Y = some ys) (hy : RepA A F S w Y y) (hys : ∀ y ∈ ys, y.size = te.size)
    (h1 : ys.length * te.bytes ≤ 140737488355328) (h2 : ys.length ≤ 140737488355328) {dst : Option Tmp} (hd : ∀ t, dst = some t → t < N)
    (hk : newBl S dst (.arr e te.size ys 0) (fun d g => .os d g ys.length) K) :
    ∃ v' w', (Builtin.append_ #[t, t] ty #[v, y]).run P w = .ok v' w' ∧ Nx E N K (a.put dst v') w' := by
  have := isNilSl_val hX hv
  subst this
  have ho := World.ownsRow_nil w 0 e te.size
  obtain ⟨v', w', ws, r1, r2, r3, r4, r5, r6, r7⟩ := run_append_any (P := P) hT hI (ty := ty) hte hu h0 ho hY hy hys (by simpa using h1) (by simpa using h2)
  have r3' : Wstep (fun _ => False) w w' := ⟨r3.os, r3.tape, r3.output, r3.size, fun b hb _ => r3.blk b hb (by simp [bOf])⟩
  simp only [Nat.zero_add, List.nil_append] at r2
  refine ⟨v', w', r1, newBl_arr hI r3' r2 (fun r hr => ?_) r6 hys hd rfl hk⟩
  rcases r4 r hr with hq | hq
  · simp [bOf] at hq
  · exact hq
end
end Go.Proofs.Ytablmbhnimnccaa.Pw
