/- A part of that proof: contracts of the functions that are called, one theorem a function. No condition. -/
import Derived.Test.YtablmbhnimnccaaZqT
import Derived.Test.YtablmbhnimnccaaZqEnc
import Derived.Test.YtablmbhnimnccaaRows
import Derived.Laws.StructEq
import Derived.ChangeKeysEq
namespace Go.Proofs.Ytablmbhnimnccaa.Pw
noncomputable abbrev PP := Go.Proofs.Try.prog
theorem mixed : PP.follows .mixedOrders = true := Go.Proofs.Try.checked.mixed

theorem part_one {P : Program} {w : World} {t : TypeId} {xs : Array Value} {off : Nat} {v : Value} (ha : (isAgg t).run P w = .ok false w) (hx : xs[off]? = some v) : (part t xs off).run P w = .ok v w := by
  simp [part, Sem.run_bind, ha, hx]

theorem eq4 {P : Program} {t : TypeId} {fs : Array Field} {a b c d : Field} (h : P.underlying t = some (.struct fs)) (hf : fs.toList = [a, b, c, d]) (hp : P.stoodInHeld t = false) (hm : P.eqGuardType P.depth t = false)
    (ha : a.type = 3 ∧ a.offset = 0 ∧ a.name ≠ "_") (hb : b.type = 3 ∧ b.offset = 1 ∧ b.name ≠ "_") (hc : c.type = 3 ∧ c.offset = 2 ∧ c.name ≠ "_") (hd : d.type = 3 ∧ d.offset = 3 ∧ d.name ≠ "_")
    (h3 : P.underlying 3 = some (.int .i64)) (hi : ∀ w, (isAgg 3).run P w = .ok false w) : EqOk P t 4 := fun w k xs ys hx hy => by
  have key : ∀ xs ys : List Int, xs.length = 4 → ys.length = 4 → (Op.equalIn 10000 t (.agg (xs.map (Value.int k)).toArray) (.agg (ys.map (Value.int k)).toArray)).run P w = .ok (decide (xs = ys)) w := by
    intro xs ys hx hy
    match xs, hx, ys, hy with
    | [x0, x1, x2, x3], _, [y0, y1, y2, y3], _ =>
      rw [run_equalIn_struct w 9999 t _ _ (by simp [Program.fieldsOf, h]) hp]
      have hff : (P.fieldsOf t).toList = [a, b, c, d] := by simp [Program.fieldsOf, h, hf]
      rw [hff]
      have p0 : ∀ z0 z1 z2 z3 : Value, (part 3 [z0, z1, z2, z3].toArray 0).run P w = .ok z0 w := fun z0 z1 z2 z3 => part_one (hi w) rfl
      have p1 : ∀ z0 z1 z2 z3 : Value, (part 3 [z0, z1, z2, z3].toArray 1).run P w = .ok z1 w := fun z0 z1 z2 z3 => part_one (hi w) rfl
      have p2 : ∀ z0 z1 z2 z3 : Value, (part 3 [z0, z1, z2, z3].toArray 2).run P w = .ok z2 w := fun z0 z1 z2 z3 => part_one (hi w) rfl
      have p3 : ∀ z0 z1 z2 z3 : Value, (part 3 [z0, z1, z2, z3].toArray 3).run P w = .ok z3 w := fun z0 z1 z2 z3 => part_one (hi w) rfl
      have eqi := fun x y => run_equalIn_int (P := P) w 9998 3 k .i64 x y h3
      simp only [Op.eqFields, ha, hb, hc, hd, ne_eq, not_false_eq_true, if_true, Sem.run_bind, List.map_cons, List.map_nil, p0, p1, p2, p3, Result.andThen_ok, eqi, Sem.run_ite, Sem.run_pure]
      by_cases e0 : x0 = y0
      · by_cases e1 : x1 = y1
        · by_cases e2 : x2 = y2
          · by_cases e3 : x3 = y3 <;> simp [e0, e1, e2, e3]
          · simp [e0, e1, e2]
        · simp [e0, e1]
      · simp [e0]
  refine ⟨fun X Y => run_eqGuard_agg w _ _ _ _ _ _ hm, fun X Y => run_eqGuard_agg w _ _ _ _ _ _ hm, ?_, ?_⟩
  · rw [run_eql_struct, key xs ys hx hy]; rfl
  · rw [run_neq_struct, key xs ys hx hy]; rfl

theorem eqA3 {P : Program} {t : TypeId} {i : TypeInfo} (h : P.underlying t = some (.array 3 3)) (hm : P.eqGuardType P.depth t = false) (h3i : P.info? 3 = some i) (h3s : i.size = 1)
    (h3 : P.underlying 3 = some (.int .i64)) (hi : ∀ w, (isAgg 3).run P w = .ok false w) : EqOk P t 3 := fun w k xs ys hx hy => by
  have key : ∀ xs ys : List Int, xs.length = 3 → ys.length = 3 → (Op.equalIn 10000 t (.agg (xs.map (Value.int k)).toArray) (.agg (ys.map (Value.int k)).toArray)).run P w = .ok (decide (xs = ys)) w := by
    intro xs ys hx hy
    match xs, hx, ys, hy with
    | [x0, x1, x2], _, [y0, y1, y2], _ =>
      rw [run_equalIn_array w 9999 _ _ h h3i]
      have hc : P.cellsOf 3 = 1 := by simp [Program.cellsOf, h3i, h3s]
      rw [hc]
      have p0 : ∀ z0 z1 z2 : Value, (part 3 [z0, z1, z2].toArray 0).run P w = .ok z0 w := fun z0 z1 z2 => part_one (hi w) rfl
      have p1 : ∀ z0 z1 z2 : Value, (part 3 [z0, z1, z2].toArray 1).run P w = .ok z1 w := fun z0 z1 z2 => part_one (hi w) rfl
      have p2 : ∀ z0 z1 z2 : Value, (part 3 [z0, z1, z2].toArray 2).run P w = .ok z2 w := fun z0 z1 z2 => part_one (hi w) rfl
      have eqi := fun x y => run_equalIn_int (P := P) w 9998 3 k .i64 x y h3
      have hr : List.range 3 = [0, 1, 2] := rfl
      rw [hr]
      simp only [Op.eqItems, Nat.zero_mul, Nat.one_mul, Nat.mul_one, Sem.run_bind, List.map_cons, List.map_nil, p0, p1, p2, Result.andThen_ok, eqi, Sem.run_ite, Sem.run_pure]
      by_cases e0 : x0 = y0
      · by_cases e1 : x1 = y1
        · by_cases e2 : x2 = y2 <;> simp [e0, e1, e2]
        · simp [e0, e1]
      · simp [e0]
  refine ⟨fun X Y => run_eqGuard_agg w _ _ _ _ _ _ hm, fun X Y => run_eqGuard_agg w _ _ _ _ _ _ hm, ?_, ?_⟩
  · rw [run_eql_struct, key xs ys hx hy]; rfl
  · rw [run_neq_struct, key xs ys hx hy]; rfl

set_option maxRecDepth 20000 in
theorem eqV3 : EqOk PP 190 3 := eqA3 Go.Proofs.Try.underlying190 Go.Proofs.Try.eqGuardType190 Go.Proofs.Try.type3 rfl Go.Proofs.Try.underlying3 Go.Proofs.Try.isAgg3
theorem eqPl : EqOk PP 31 4 := eq4 Go.Proofs.Try.underlying31 rfl Go.Proofs.Try.stoodInHeld31 Go.Proofs.Try.eqGuardType31 (by decide) (by decide) (by decide) (by decide) Go.Proofs.Try.underlying3 Go.Proofs.Try.isAgg3
theorem eqSpot : EqOk PP 48 4 := eq4 Go.Proofs.Try.underlying48 rfl Go.Proofs.Try.stoodInHeld48 Go.Proofs.Try.eqGuardType48 (by decide) (by decide) (by decide) (by decide) Go.Proofs.Try.underlying3 Go.Proofs.Try.isAgg3
end Go.Proofs.Ytablmbhnimnccaa.Pw
