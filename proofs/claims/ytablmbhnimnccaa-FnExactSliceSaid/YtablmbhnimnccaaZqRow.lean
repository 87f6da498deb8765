/- Pw, the last part: what a row hands in, as plain values; the row's proof out of a contract. No condition. -/
import Derived.ChangeArms
import Derived.ChangeShapes
import Derived.OpenShut
import Derived.ShutString
import Derived.ChangeOld
import Derived.Carry
import Derived.SizedLaws
import Derived.JoinedOf
import Derived.Test.YtablmbhnimnccaaZqReg
import Derived.Test.YtablmbhnimnccaaZqEnc
import Derived.Test.YtablmbhnimnccaaZqPure5
namespace Go.Proofs.Ytablmbhnimnccaa.Pw
open Go.ChangeShapes Go.WideShapes Go.RowKit

/-- All cells that are there. -/
def Aw (w : World) : Nat → Nat → Prop := fun b o => (w.cell? ⟨b, o, none⟩).isSome = true
theorem Aw_lt {w : World} : ∀ b o, Aw w b o → b < w.heap.size := fun b o h => by
  unfold Aw World.cell? at h
  by_cases hb : b < w.heap.size
  · exact hb
  · have : w.heap[b]? = none := by simp; omega
    simp [this] at h

section
variable {w : World} {H : Type} {enc : TypeId × Value → H} {P : Program}
theorem rep_cells : ∀ {xs : List PV} {us : List Value} {b o : Nat}, RepPs (Aw w) w xs us → (∀ i, i < us.length → w.cell? ⟨b, o + i, none⟩ = us[i]?) → RepCells (Aw w) w b o xs
  | [], _, b, o, _, _ => .nil b o
  | x :: xs, _, b, o, .cons _ u _ us h h1 hs, hc => by
    have h0 : w.cell? ⟨b, o, none⟩ = some u := by simpa using hc 0 (by simp)
    refine .cons b o x u xs (by unfold Aw; rw [h0]; rfl) h0 h h1 (rep_cells hs fun i hi => ?_)
    have := hc (i + 1) (by simp; omega)
    rw [show o + 1 + i = o + (i + 1) by omega, this]; simp
theorem RepCells.app : ∀ {xs ys : List PV} {b o : Nat}, RepCells (Aw w) w b o xs → RepCells (Aw w) w b (o + xs.length) ys → RepCells (Aw w) w b o (xs ++ ys)
  | [], _, b, o, _, k => by simpa using k
  | x :: xs, ys, b, o, .cons _ _ _ u _ hA hc h h1 hs, k => .cons b o x u _ hA hc h h1 (RepCells.app hs (by rw [show o + 1 + xs.length = o + (x :: xs).length by simp; omega]; exact k))

theorem addr_add (b o n : Nat) : (⟨b, o, none⟩ : Addr).add n = ⟨b, o + n, none⟩ := by
  unfold Addr.add; split <;> simp_all
/-- Every weight told is within reach. -/
def wOk (P : Program) (t : TypeId) (d : DataW H) : Prop := ∀ n ∈ d.weights P t, n ≤ reachBytes
theorem weightsAll_mem {P : Program} {e : TypeId} : ∀ {l : List (DataW H)} {d : DataW H}, d ∈ l → ∀ n ∈ d.weights P e, n ∈ DataW.weightsAll P e l
  | x :: l, d, h, n, hn => by
    rw [DataW.weightsAll]
    rcases List.mem_cons.1 h with rfl | h
    · exact List.mem_append_left _ hn
    · exact List.mem_append_right _ (weightsAll_mem h n hn)
theorem weightsEach_get {P : Program} : ∀ {ts : List TypeId} {l : List (DataW H)} {i : Nat} {t : TypeId} {d : DataW H}, ts[i]? = some t → l[i]? = some d → ∀ n ∈ d.weights P t, n ∈ DataW.weightsEach P ts l
  | s :: ts, x :: l, 0, t, d, h1, h2, n, hn => by
    simp at h1 h2; subst h1; subst h2
    rw [DataW.weightsEach]; exact List.mem_append_left _ hn
  | s :: ts, x :: l, i + 1, t, d, h1, h2, n, hn => by
    rw [DataW.weightsEach]; exact List.mem_append_right _ (weightsEach_get (by simpa using h1) (by simpa using h2) n hn)
  | [], _, _, _, _, h1, _, _, _ => by simp at h1
  | _ :: _, [], _, _, _, _, h2, _, _ => by simp at h2

theorem cells?_get {a : Addr} {n : Nat} {cs : List Value} (h : w.cells? 0 a n = some cs) : cs.length = n ∧ ∀ i, i < n → w.cell? (a.add i) = cs[i]? := by
  unfold World.cells? at h
  rw [if_pos (Nat.zero_le _)] at h
  exact ⟨by simpa using mapM_some_length h, fun i hi => mapM_some_get h i i (by simp [hi])⟩

/-- A slice that was handed in. -/
theorem open_list {t e : TypeId} {sz by_ n : Nat} (hu : P.underlying t = some (.slice e)) (hsz : P.cellsOf e = sz) (hpos : 0 < sz) (hb : P.bytesOf e = by_) {α : Type} {f : α → PV} {Q : α → Prop} (hf : ∀ a, (f a).size = sz) {held : Bool} {spare : Nat → Bool}
    (HE : ∀ m, m < n → ∀ cs (y : DataW H × List MemPlace), DataW.trod enc P w 0 spare held m e cs = some y → wOk P e y.1 → ∃ a, RepPs (Aw w) w (f a).cells cs ∧ Q a)
    {cs : List Value} {x : DataW H × List MemPlace} (h : DataW.trod enc P w 0 spare held n t cs = some x) (hw : wOk P t x.1) :
    ∃ (l : List α) (u : Value), cs = [u] ∧ u.oneCell' = true ∧ RepP (Aw w) w (.sl sz (l.map f)) u ∧ l.length * by_ ≤ reachBytes ∧ ∀ a ∈ l, Q a := by
  rcases DataW.trod_slice hu h with ⟨rfl, _⟩ | ⟨a, len, cap, elems, rest, m, rfl, rfl, hx, _, hl, hc, hlen, hel, _, _⟩
  · exact ⟨[], _, rfl, rfl, .snil sz 0 (Nat.zero_le _) none, by simp, by simp⟩
  · have hxw : x.1 = .slice (elems.map (·.1)) (rest.map (·.1)) := by rw [hx]
    rw [hxw] at hw
    unfold wOk at hw
    rw [DataW.weights, hu] at hw
    simp only [List.mem_cons, List.mem_append] at hw
    have key : ∀ k, k ≤ len → ∃ l : List α, l.length = k ∧ (∀ y ∈ l, Q y) ∧ (k ≠ 0 → a.spot = none) ∧ RepCells (Aw w) w a.block a.off (flat (l.map f)) := by
      intro k
      induction k with
      | zero => exact fun _ => ⟨[], rfl, by simp, by simp, .nil _ _⟩
      | succ k ih =>
        intro hk
        obtain ⟨l, h1, h2, hs0, h3⟩ := ih (by omega)
        have he := hel k (by omega)
        rw [hsz, List.getElem?_eq_getElem (by omega)] at he
        obtain ⟨cs', e1, e2⟩ := Option.bind_eq_some_iff.1 he
        obtain ⟨y, q1, q2⟩ := HE m (by omega) cs' _ e2 fun q hq => hw q (.inr (.inl (weightsAll_mem (by simp; exact ⟨_, List.getElem_mem (by omega)⟩) q hq)))
        obtain ⟨g1, g2⟩ := cells?_get e1
        have hsp : a.spot = none := by
          rcases Nat.eq_zero_or_pos k with hk0 | hk0
          case inr => exact hs0 (by omega)
          have := g2 0 hpos
          subst hk0
          rw [List.getElem?_eq_getElem (by omega)] at this
          unfold World.cell? at this
          split at this
          · split at this
            · simp at this
            · rename_i hq; simpa [Addr.add] using hq
          · simp at this
        refine ⟨l ++ [y], by simp [h1], fun z hz => ?_, fun _ => hsp, ?_⟩
        · rcases List.mem_append.1 hz with hz | hz
          · exact h2 z hz
          · simp at hz; subst hz; exact q2
        · have hfl : ∀ l : List α, (flat (l.map f)).length = l.length * sz := fun l => by
            induction l with
            | nil => simp [flat]
            | cons z l ih =>
              have := hf z
              unfold PV.size at this
              simp only [List.map_cons, flat, List.length_append, ih, this, List.length_cons, Nat.succ_mul]; omega
          have hfa : ∀ (l m : List PV), flat (l ++ m) = flat l ++ flat m := fun l m => by
            induction l with
            | nil => rfl
            | cons z l ih => simp [flat, ih]
          rw [List.map_append, hfa]
          refine RepCells.app h3 ?_
          simp only [List.map_cons, List.map_nil, flat, List.append_nil]
          refine rep_cells q1 fun i hi => ?_
          have := g2 i (by omega)
          rw [hfl, h1, Nat.add_assoc]
          obtain ⟨ab, ao, asp⟩ := a
          simp at hsp; subst hsp
          rw [addr_add, addr_add, Nat.add_assoc] at this; exact this
    obtain ⟨l, h1, h2, h3, h4⟩ := key len (Nat.le_refl _)
    refine ⟨l, _, rfl, rfl, ?_, ?_, h2⟩
    · rcases Nat.eq_zero_or_pos len with hz | hz
      · subst hz
        have : l = [] := List.eq_nil_of_length_eq_zero h1
        subst this
        exact .snil sz cap hc (some a)
      · rw [← h1, ← List.length_map (f := f)]
        refine .sl sz _ a cap (by rw [List.length_map, h1]; exact hl) hc (sz_map hf) (h3 (by omega)) h4
    · have := hw _ (.inl rfl)
      rw [hb] at this
      refine Nat.le_trans (Nat.mul_le_mul_right _ ?_) this
      rw [List.length_map, hlen, h1]; omega

/-- One field of a struct that was handed in. -/
theorem open_field {t : TypeId} {fs : Array Field} {n : Nat} {held : Bool} {spare : Nat → Bool} (hu : P.underlying t = some (.struct fs)) {cs : List Value} {x : DataW H × List MemPlace} (h : DataW.trod enc P w 0 spare held n t cs = some x) (hw : wOk P t x.1) :
    ∃ m, n = m + 1 ∧ cs.length = P.cellsOf t ∧ ∀ (i : Nat) (f : Field), fs[i]? = some f → ∃ y, DataW.trod enc P w 0 spare held m f.type ((cs.drop f.offset).take (P.cellsOf f.type)) = some y ∧ wOk P f.type y.1 := by
  obtain ⟨xs, m, hn, hx, hl, hxs, hg⟩ := DataW.trod_struct hu h
  refine ⟨m, hn, hl, fun i f hf => ?_⟩
  have hi : i < xs.length := by
    rw [hxs]
    exact (Array.getElem?_eq_some_iff.1 hf).1
  have := hg i f hf
  rw [List.getElem?_eq_getElem hi] at this
  refine ⟨_, this, fun q hq => hw q ?_⟩
  rw [hx, DataW.weights, hu]
  refine weightsEach_get (i := i) (t := f.type) (d := xs[i].1) ?_ ?_ q hq
  · rw [List.getElem?_map]
    have : fs.toList[i]? = some f := by simpa using hf
    rw [this]; rfl
  · rw [List.getElem?_map, List.getElem?_eq_getElem hi]; rfl
end

/-! The program's own. -/
structure TyP (P : Program) (t : TypeId) : Prop where
  u : ∃ fs, P.underlying t = some (.struct fs) ∧ (fs.toList.map fun f => (f.type, f.offset)) = [(3, 0), (3, 1), (3, 2), (3, 3)]
  c : P.cellsOf t = 4
structure TyS (P : Program) (s p k : TypeId) : Prop where
  u : ∃ fs, P.underlying s = some (.struct fs) ∧ (fs.toList.map fun f => (f.type, f.offset)) = [(4, 0), (p, 1), (k, 5)]
  c : P.cellsOf s = 6
  b : P.bytesOf s = 64
  ku : P.underlying k = some (.slice s)
  kc : P.cellsOf k = 1
structure TyI (P : Program) : Prop where
  i : P.underlying 3 = some (.int .i64)
  b : P.underlying 4 = some .bool
  ic : P.cellsOf 3 = 1
  bc : P.cellsOf 4 = 1
section
variable {w : World} {H : Type} {enc : TypeId × Value → H} {P : Program} {held : Bool} {spare : Nat → Bool}
theorem fs_get {fs : Array Field} {l : List (TypeId × Nat)} (h : (fs.toList.map fun f => (f.type, f.offset)) = l) {i : Nat} {t : TypeId} {o : Nat} (hi : l[i]? = some (t, o)) : ∃ f, fs[i]? = some f ∧ f.type = t ∧ f.offset = o := by
  rw [← h, List.getElem?_map] at hi
  obtain ⟨f, h1, h2⟩ := Option.map_eq_some_iff.1 hi
  simp only [Prod.mk.injEq] at h2
  exact ⟨f, by simpa using h1, h2.1, h2.2⟩
theorem open_i {n : Nat} (hi : P.underlying 3 = some (.int .i64)) {cs : List Value} {x : DataW H × List MemPlace} (h : DataW.trod enc P w 0 spare held n 3 cs = some x) : ∃ a : Int, cs = [.int .i64 a] := by
  obtain ⟨a, h, _⟩ := DataW.trod_int hi h; exact ⟨a, h⟩
theorem list4 {cs : List Value} (hl : cs.length = 4) : ∃ a b c d, cs = [a, b, c, d] := by
  match cs, hl with
  | [a, b, c, d], _ => exact ⟨_, _, _, _, rfl⟩
theorem list6 {cs : List Value} (hl : cs.length = 6) : ∃ a b c d e f, cs = [a, b, c, d, e, f] := by
  match cs, hl with
  | [a, b, c, d, e, f], _ => exact ⟨_, _, _, _, _, _, rfl⟩
theorem rp1 {A : Nat → Nat → Prop} {xs : List PV} {us : List Value} (v : Value) (h1 : v.oneCell' = true) (h : RepPs A w xs us) : RepPs A w (.lit v :: xs) (v :: us) := .cons _ _ _ _ (.lit v) h1 h
theorem open_plane {t : TypeId} {n : Nat} (hI : TyI P) (hT : TyP P t) {cs : List Value} {x : DataW H × List MemPlace} (h : DataW.trod enc P w 0 spare held n t cs = some x) (hw : wOk P t x.1) : ∃ p : Pl, RepPs (Aw w) w (encP p).cells cs := by
  obtain ⟨fs, hu, hf⟩ := hT.u
  obtain ⟨m, _, hl, hg⟩ := open_field hu h hw
  rw [hT.c] at hl
  obtain ⟨c0, c1, c2, c3, rfl⟩ := list4 hl
  obtain ⟨f0, a0, b0, d0⟩ := fs_get hf (i := 0) rfl
  obtain ⟨f1, a1, b1, d1⟩ := fs_get hf (i := 1) rfl
  obtain ⟨f2, a2, b2, d2⟩ := fs_get hf (i := 2) rfl
  obtain ⟨f3, a3, b3, d3⟩ := fs_get hf (i := 3) rfl
  obtain ⟨y0, g0, _⟩ := hg 0 f0 a0
  obtain ⟨y1, g1, _⟩ := hg 1 f1 a1
  obtain ⟨y2, g2, _⟩ := hg 2 f2 a2
  obtain ⟨y3, g3, _⟩ := hg 3 f3 a3
  rw [b0, d0, hI.ic] at g0; rw [b1, d1, hI.ic] at g1; rw [b2, d2, hI.ic] at g2; rw [b3, d3, hI.ic] at g3
  obtain ⟨i0, e0⟩ := open_i hI.i g0
  obtain ⟨i1, e1⟩ := open_i hI.i g1
  obtain ⟨i2, e2⟩ := open_i hI.i g2
  obtain ⟨i3, e3⟩ := open_i hI.i g3
  simp at e0 e1 e2 e3
  subst e0; subst e1; subst e2; subst e3
  exact ⟨⟨i0, i1, i2, i3⟩, rp1 _ rfl (rp1 _ rfl (rp1 _ rfl (rp1 _ rfl .nil)))⟩
theorem open_sol {s p k : TypeId} (hI : TyI P) (hP : TyP P p) (hS : TyS P s p k) : ∀ (n : Nat) {cs : List Value} {x : DataW H × List MemPlace}, DataW.trod enc P w 0 spare held n s cs = some x → wOk P s x.1 → ∃ q : Sol, RepPs (Aw w) w (encS q).cells cs ∧ lens q := by
  intro n
  induction n using Nat.strongRecOn with
  | _ n ih =>
    intro cs x h hw
    obtain ⟨fs, hu, hf⟩ := hS.u
    obtain ⟨m, hn, hl, hg⟩ := open_field hu h hw
    rw [hS.c] at hl
    obtain ⟨c0, c1, c2, c3, c4, c5, rfl⟩ := list6 hl
    obtain ⟨f0, a0, b0, d0⟩ := fs_get hf (i := 0) rfl
    obtain ⟨f1, a1, b1, d1⟩ := fs_get hf (i := 1) rfl
    obtain ⟨f2, a2, b2, d2⟩ := fs_get hf (i := 2) rfl
    obtain ⟨y0, g0, _⟩ := hg 0 f0 a0
    obtain ⟨y1, g1, w1⟩ := hg 1 f1 a1
    obtain ⟨y2, g2, w2⟩ := hg 2 f2 a2
    rw [b0, d0, hI.bc] at g0; rw [b1, d1, hP.c] at g1; rw [b2, d2, hS.kc] at g2; rw [b1] at w1; rw [b2] at w2
    obtain ⟨i, e0, _⟩ := DataW.trod_bool hI.b g0
    obtain ⟨q, r1⟩ := open_plane hI hP g1 w1
    obtain ⟨l, u, e2, hu1, r2, hb, hQ⟩ := open_list (f := encS) (Q := lens) hS.ku hS.c (by omega) hS.b encS_size (fun m' hm' cs' y' hy' hw' => ih m' (by omega) hy' hw') g2 w2
    simp at e0 e2
    subst e0; subst e2
    refine ⟨.mk i q l, ?_, ?_⟩
    · refine rp1 _ rfl ?_
      have : RepPs (Aw w) w ([iP q.a, iP q.b, iP q.c, iP q.d] ++ [.sl 6 (encSs l)]) ([c1, c2, c3, c4] ++ [c5]) := RepPs.append r1 (.cons _ _ _ _ (by rw [encSs_map]; exact r2) hu1 .nil)
      exact this
    · unfold lens
      refine ⟨?_, ?_⟩
      · have : l.length * 64 ≤ 140737488351232 := hb
        omega
      · clear r2 hb
        induction l with
        | nil => simp [lensS]
        | cons z l ih2 => unfold lensS; exact ⟨hQ z (by simp), ih2 fun a ha => hQ a (by simp [ha])⟩

theorem rep_agg {cs : Array Value} {xs : List PV} (h : RepPs (Aw w) w xs cs.toList) : RepP (Aw w) w (.ag xs) (.agg cs) := .ag xs cs h
end

structure TyPt (P : Program) (t : TypeId) : Prop where
  u : ∃ fs, P.underlying t = some (.struct fs) ∧ (fs.toList.map fun f => (f.type, f.offset)) = [(3, 0), (3, 1), (3, 2)]
  c : P.cellsOf t = 3
section
variable {w : World} {H : Type} {enc : TypeId × Value → H} {P : Program} {held : Bool} {spare : Nat → Bool}
theorem list3 {cs : List Value} (hl : cs.length = 3) : ∃ a b c, cs = [a, b, c] := by
  match cs, hl with
  | [a, b, c], _ => exact ⟨_, _, _, rfl⟩
theorem open_pt {t : TypeId} {n : Nat} (hI : TyI P) (hT : TyPt P t) {cs : List Value} {x : DataW H × List MemPlace} (h : DataW.trod enc P w 0 spare held n t cs = some x) (hw : wOk P t x.1) : ∃ p : Pt, RepPs (Aw w) w (encPt p).cells cs := by
  obtain ⟨fs, hu, hf⟩ := hT.u
  obtain ⟨m, _, hl, hg⟩ := open_field hu h hw
  rw [hT.c] at hl
  obtain ⟨c0, c1, c2, rfl⟩ := list3 hl
  obtain ⟨f0, a0, b0, d0⟩ := fs_get hf (i := 0) rfl
  obtain ⟨f1, a1, b1, d1⟩ := fs_get hf (i := 1) rfl
  obtain ⟨f2, a2, b2, d2⟩ := fs_get hf (i := 2) rfl
  obtain ⟨y0, g0, _⟩ := hg 0 f0 a0
  obtain ⟨y1, g1, _⟩ := hg 1 f1 a1
  obtain ⟨y2, g2, _⟩ := hg 2 f2 a2
  rw [b0, d0, hI.ic] at g0; rw [b1, d1, hI.ic] at g1; rw [b2, d2, hI.ic] at g2
  obtain ⟨i0, e0⟩ := open_i hI.i g0
  obtain ⟨i1, e1⟩ := open_i hI.i g1
  obtain ⟨i2, e2⟩ := open_i hI.i g2
  simp at e0 e1 e2
  subst e0; subst e1; subst e2
  exact ⟨⟨i0, i1, i2⟩, rp1 _ rfl (rp1 _ rfl (rp1 _ rfl .nil))⟩
theorem agg_of {P : Program} {r : Reach} {b : Nat} {t : TypeId} {v : Value} {fs : Array Field} (hu : P.underlying t = some (.struct fs)) (h : Value.okWide P w r b t v) : ∃ cs, v = .agg cs := by
  unfold Value.okWide at h
  rw [hu] at h
  obtain ⟨cs, h, _⟩ := h
  exact ⟨cs, h⟩
/-- A row of bytes that was handed in. -/
theorem open_bytes {t e : TypeId} {n : Nat} (hu : P.underlying t = some (.slice e)) (he : P.underlying e = some (.int .u8)) (hc : P.cellsOf e = 1) (hb : P.bytesOf e = 1) {cs : List Value} {x : DataW H × List MemPlace} (h : DataW.trod enc P w 0 spare held n t cs = some x) (hw : wOk P t x.1) :
    ∃ (l : List Int) (u : Value), cs = [u] ∧ RepP (Aw w) w (.sl 1 (l.map u8P)) u ∧ l.length ≤ 140737488351232 ∧ ∀ a ∈ l, 0 ≤ a ∧ a ≤ 255 := by
  obtain ⟨l, u, h1, _, h2, h3, h4⟩ := open_list (f := u8P) (Q := fun a => 0 ≤ a ∧ a ≤ 255) hu hc (by omega) hb (fun _ => rfl) (fun m _ cs y hy _ => by
    obtain ⟨a, q1, _, q2⟩ := DataW.trod_int he hy
    subst q1
    refine ⟨a, rp1 _ rfl .nil, ?_⟩
    have := bounds_u8 q2
    omega) h hw
  refine ⟨l, u, h1, h2, ?_, h4⟩
  have : l.length * 1 ≤ 140737488351232 := h3
  omega
/-- A row of planes that was handed in. -/
theorem open_planes {t e : TypeId} {n : Nat} (hI : TyI P) (hT : TyP P e) (hu : P.underlying t = some (.slice e)) (hb : P.bytesOf e = 32) {cs : List Value} {x : DataW H × List MemPlace} (h : DataW.trod enc P w 0 spare held n t cs = some x) (hw : wOk P t x.1) :
    ∃ (l : List Pl) (u : Value), cs = [u] ∧ RepP (Aw w) w (.sl 4 (l.map encP)) u ∧ l.length ≤ 140737488355328 := by
  obtain ⟨l, u, h1, _, h2, h3, h4⟩ := open_list (f := encP) (Q := fun _ => True) hu hT.c (by omega) hb (fun _ => rfl) (fun m _ cs y hy hw => by
    obtain ⟨p, hp⟩ := open_plane hI hT hy hw
    exact ⟨p, hp, trivial⟩) h hw
  refine ⟨l, u, h1, h2, ?_⟩
  have : l.length * 32 ≤ 140737488351232 := h3
  omega
end

/-- The contract of a law's function, called at what was handed in. -/
theorem Fn.law {P : Program} {f : FuncId} {xs : List PV} {r : PV} {W : World} {us : List Value} (h : Fn P f (xs.map .p) (.p r) []) (hr : RepTt (Aw W) W (xs.map .p) us []) :
    Calls P f us.toArray W fun e W' => ∃ u A', e = .returned u ∧ RepP A' W' r u ∧ Below W.heap.size W W' := by
  obtain ⟨_, h⟩ := h
  refine (h (Aw W) W us [] hr List.nodup_nil Aw_lt).mono fun e W' ⟨u, A', r1, r2, he, hu, _, haf⟩ => ?_
  refine ⟨u, A', he, ?_, ⟨haf.os, haf.tape, haf.output, haf.size, fun k hk => haf.old k hk (by simp)⟩⟩
  cases hu with
  | p _ _ h => exact h
theorem bool_of {A : Nat → Nat → Prop} {W : World} {b : Bool} {u : Value} (h : RepP A W (bP b) u) : u = .bool b := by cases h; rfl
end Go.Proofs.Ytablmbhnimnccaa.Pw
