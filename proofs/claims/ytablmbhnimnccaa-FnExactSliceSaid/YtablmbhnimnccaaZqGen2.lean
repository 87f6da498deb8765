/- Pw, part 22d: operations that read a row of the frame's own, each by a law of its own. No condition. -/
import Derived.Test.YtablmbhnimnccaaZqGen
import Derived.Laws.BytesArg
namespace Go.Proofs.Ytablmbhnimnccaa.Pw
section
variable {P : Program} {T : Nat → Option TI} {N : Nat} {S : St} {K : St → Prop} {d ty : Nat} {pos : String} {after : Array Edge} {gd : Option (Nat × Bool)}

theorem Seen.plain {x : AV} {p : PV} (h : x = .p p) : Seen S x p := by subst h; exact .p p
theorem Seen.own {x : AV} {t g E sz m len : Nat} {xs ys : List PV} (h : x = .os t g len) (hb : S.bl t g = some (.arr E sz xs m)) (hl : xs.length = len) (hy : xs = ys) : Seen S x (.sl sz ys) := by
  subst h; subst hy; exact .os t g E sz m len xs hb hl
theorem gen1s {o : Oper} {x : Operand} {p : PV} {v : Value} (ho : o.op.operands.toList = [x]) (hx : Seen S (S.ev x) p)
    (h : ∀ (A : Nat → Nat → Prop) (w : World) (ev : Operand → Value) (a : Value), ev x = a → RepP A w p a → (execOp ev o).run P w = .ok (.value v) w) : GenOk P o S (.lit v) :=
  .inr ⟨⟨v, rfl⟩, [p], by rw [ho]; exact .cons _ _ _ _ hx .nil, fun A w ev hr => by
    rw [ho] at hr
    exact ⟨v, h A w ev _ rfl hr.one, .lit _⟩⟩
theorem gen2s {o : Oper} {x y : Operand} {p q : PV} {v : Value} (ho : o.op.operands.toList = [x, y]) (hx : Seen S (S.ev x) p) (hy : Seen S (S.ev y) q)
    (h : ∀ (A : Nat → Nat → Prop) (w : World) (ev : Operand → Value) (a b : Value), ev x = a → ev y = b → RepP A w p a → RepP A w q b → (execOp ev o).run P w = .ok (.value v) w) : GenOk P o S (.lit v) :=
  .inr ⟨⟨v, rfl⟩, [p, q], by rw [ho]; exact .cons _ _ _ _ hx (.cons _ _ _ _ hy .nil), fun A w ev hr => by
    rw [ho] at hr
    obtain ⟨h1, h2⟩ := hr.two
    exact ⟨v, h A w ev _ _ rfl rfl h1 h2, .lit _⟩⟩

theorem repc_u8 {A : Nat → Nat → Prop} {w : World} : ∀ {l : List Int} {b o : Nat}, RepCells A w b o (flat (l.map u8P)) → ∀ i, i < l.length → w.cell? ⟨b, o + i, none⟩ = some (.int .u8 (l.getD i 0))
  | n :: l, b, o, h, i, hi => by
    simp only [List.map_cons, flat, PV.cells, List.singleton_append] at h
    cases h with
    | cons _ _ _ u _ hA hc hr h1 hs =>
      cases hr
      match i with
      | 0 => simpa using hc
      | i + 1 =>
        have := repc_u8 hs i (by simpa using hi)
        rw [show o + (i + 1) = o + 1 + i by omega, this]; simp
  | [], _, _, _, i, hi => by simp at hi

/-- The text of a row of bytes. -/
theorem w_b2s {x : Operand} {s t e : Nat} {l : List Int} (hs : P.underlying s = some (.slice e)) (he : P.underlying e = some (.int .u8)) (ht : P.underlying t = some .string) (hx : Seen S (S.ev x) (.sl 1 (l.map u8P)))
    (hk : K (S.pt' d (.p (.lit (.string (strOfNums l)))))) : opW P T ⟨some d, .convert s t x, ty, pos, after, gd⟩ S K :=
  w_gen (.lit (.string (strOfNums l))) (gen1s rfl hx fun A w ev a h1 hr => by
    have key : (convert s t a).run P w = .ok (.string (strOfNums l)) w := by
      rcases repP_sl hr with ⟨h0, a', c, rfl⟩ | ⟨⟨b, o, sp⟩, c, rfl, hl, hc, hsz, hsp, hcell⟩
      · have : l = [] := by simpa using h0
        subst this
        cases a' with
        | none => exact run_convert_bytes_nil w s e hs he _ _ t ht
        | some a' =>
          rw [run_convert_bytes_string w s t e _ _ _ hs he ht, run_bytesToString w a' 0 c [] (by simpa using run_loadCells_list (P := P) w a' [] (by simp))]
          rfl
      · simp at hsp; subst hsp
        rw [List.length_map]
        exact run_convert_bytes_arg w s e hs he b o _ _ l rfl (fun i hi => repc_u8 hcell i hi) t ht
    simp [execOp, h1, key]) hk
end
end Go.Proofs.Ytablmbhnimnccaa.Pw
