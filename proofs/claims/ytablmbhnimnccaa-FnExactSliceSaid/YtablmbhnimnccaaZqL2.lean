/- Proved: laws.FnExactSlice hands back true, whatever its input, and its input reads as before. No condition. -/
import Derived.Test.YtablmbhnimnccaaRows
import Derived.Test.YtablmbhnimnccaaZqRow
import Derived.WalkKit
import Derived.ProofKit
import Derived.Test.YtablmbhnimnccaaZqF14
set_option maxRecDepth 20000
namespace Go.Proofs.Ytablmbhnimnccaa.fnExactSlice
open Go.Proofs.Ytablmbhnimnccaa.Pw Go.ChangeShapes Go.WideShapes Go.ChangeAt Go.RowKit

theorem tyI : TyI Go.Proofs.Try.prog := ⟨Go.Proofs.Try.underlying3, Go.Proofs.Try.underlying4, by kernel_rfl, by kernel_rfl⟩
theorem tyP : TyP Go.Proofs.Try.prog 23 := ⟨⟨_, Go.Proofs.Try.underlying23, rfl⟩, by kernel_rfl⟩
theorem tyS : TyS Go.Proofs.Try.prog 26 23 24 := ⟨⟨_, Go.Proofs.Try.underlying26, rfl⟩, by kernel_rfl, by kernel_rfl, Go.Proofs.Try.underlying24, by kernel_rfl⟩
theorem tyPt : TyPt Go.Proofs.Try.prog 28 := ⟨⟨_, Go.Proofs.Try.underlying28, rfl⟩, by kernel_rfl⟩
theorem own : ownKnob Try.prog.godebug = none := by kernel_rfl
theorem laidOut : laidOutB Try.prog = true := by kernel_rfl
set_option maxRecDepth 100000 in
theorem lifted (os : Os) (started : os.Started) (H : Type) (enc : TypeId × Value → H) :
    ReturnsInHanded {} Try.checked os 3 .any (Rows.fnExactSliceSpec.pre6 enc Try.prog Try.f3 Rows.fnExactSliceRow.domain false) (Rows.fnExactSliceSpec.post enc Try.prog Try.f3 false true false false) := by
  refine returnsInHanded_of_change_sized (C := Try.checked) own started (by kernel_rfl) Try.func3
    (ChangeSpec.witness6 (enc := enc) (C := Try.checked) false ⟨#[], #[.agg #[.bool false, .int .i64 0, .int .i64 0, .int .i64 0, .int .i64 0, .slice none 0 0], .int .i64 0, .agg #[.int .i64 0, .int .i64 0, .int .i64 0], .agg #[.int .i64 0, .int .i64 0, .int .i64 0]], []⟩ 8 (by kernel_rfl) (by kernel_rfl) (by kernel_rfl) (by kernel_rfl)) ?_
  intro W base args ds gs before hval0 hW hcnd hsz0 _
  have hsz : (DataW.weightsEach Try.prog (Try.f3.params.toList ++ Rows.fnExactSliceSpec.plain.varTypes Try.prog) (ds ++ gs)).all (· ≤ reachBytes) = true := hsz0
  have hval : ∀ (j : Nat) t v, Try.f3.params[j]? = some t → args[j]? = some v → Value.okWide Try.prog W .any base t v := hval0
  have hW' := hW
  obtain ⟨p, q, hA0, hV, rfl, hfz, hnd⟩ := hW
  have hA : DataW.TrodAll enc Try.prog W 0 (fun _ => true) true Try.f3.params.toList args.toList ds p := hA0
  rw [Try.params3] at hA hval hsz
  obtain ⟨v0, vs0, d0, ds0, p0, q0, hargs, rfl, rfl, h0, r0⟩ := trodAll_cons hA
  obtain ⟨v1, vs1, d1, ds1, p1, q1, rfl, rfl, rfl, h1, r1⟩ := trodAll_cons r0
  obtain ⟨v2, vs2, d2, ds2, p2, q2, rfl, rfl, rfl, h2, r2⟩ := trodAll_cons r1
  obtain ⟨v3, vs3, d3, ds3, p3, q3, rfl, rfl, rfl, h3, r3⟩ := trodAll_cons r2
  obtain ⟨rfl, rfl, rfl⟩ := trodAll_nil r3
  obtain rfl : args = #[v0, v1, v2, v3] := by cases args; simp_all
  obtain ⟨rfl, rfl⟩ := trodVars_none hV
  have k0 := h0
  have lt0 : ∀ x ∈ p0, x.block < W.heap.size := by obtain ⟨m, hm⟩ := k0; exact DataW.trod_lt m _ _ _ hm
  have w0 : wOk Try.prog 26 d0 := fun n hn => of_decide_eq_true (List.all_eq_true.1 hsz n (weightsEach_get (i := 0) (t := 26) (d := d0) rfl rfl n hn))
  obtain ⟨fu0, e0⟩ := h0
  obtain ⟨s0, g0, hl0⟩ := open_sol tyI tyP tyS fu0 e0 w0
  obtain ⟨cs0, rfl⟩ := agg_of Try.underlying26 (hval 0 26 v0 rfl rfl)
  obtain ⟨a1, rfl, rfl, rfl, w1⟩ := open_int Try.underlying3 (hval 1 3 v1 rfl rfl) h1
  have k2 := h2
  have lt2 : ∀ x ∈ p2, x.block < W.heap.size := by obtain ⟨m, hm⟩ := k2; exact DataW.trod_lt m _ _ _ hm
  have w2 : wOk Try.prog 28 d2 := fun n hn => of_decide_eq_true (List.all_eq_true.1 hsz n (weightsEach_get (i := 2) (t := 28) (d := d2) rfl rfl n hn))
  obtain ⟨fu2, e2⟩ := h2
  obtain ⟨s2, g2⟩ := open_pt tyI tyPt e2 w2
  obtain ⟨cs2, rfl⟩ := agg_of Try.underlying28 (hval 2 28 v2 rfl rfl)
  have k3 := h3
  have lt3 : ∀ x ∈ p3, x.block < W.heap.size := by obtain ⟨m, hm⟩ := k3; exact DataW.trod_lt m _ _ _ hm
  have w3 : wOk Try.prog 28 d3 := fun n hn => of_decide_eq_true (List.all_eq_true.1 hsz n (weightsEach_get (i := 3) (t := 28) (d := d3) rfl rfl n hn))
  obtain ⟨fu3, e3⟩ := h3
  obtain ⟨s3, g3⟩ := open_pt tyI tyPt e3 w3
  obtain ⟨cs3, rfl⟩ := agg_of Try.underlying28 (hval 3 28 v3 rfl rfl)
  have rep := (show RepTt (Aw W) W ([encS s0, iP a1, encPt s2, encPt s3].map .p) _ [] from (.cons _ _ _ _ [] [] (.p _ _ (by cases s0; exact rep_agg g0)) (.cons _ _ _ _ [] [] (.p _ _ (.lit _)) (.cons _ _ _ _ [] [] (.p _ _ (rep_agg g2)) (.cons _ _ _ _ [] [] (.p _ _ (rep_agg g3)) .nil)))))
  clear hA0 hval0 hsz0 hsz
  refine (Fn.law (xs := [encS s0, iP a1, encPt s2, encPt s3]) (xSlice s0 a1 s2 s3 hl0) rep).mono fun e W' ⟨u, A', he, hu, bel⟩ => ?_
  subst he
  have hu := bool_of hu
  subst hu
  exact ⟨_, rfl, _, _, _, [], _, [], hW', trodAll_mk1 (shut_bool Try.underlying4 _), (trodAll_cons_mk (Below.trod laidOut (by kernel_rfl) (of_decide_eq_true (by kernel_rfl)) k0 bel lt0) (trodAll_cons_mk (shut_int Try.underlying3 w1) (trodAll_cons_mk (Below.trod laidOut (by kernel_rfl) (of_decide_eq_true (by kernel_rfl)) k2 bel lt2) (trodAll_cons_mk (Below.trod laidOut (by kernel_rfl) (of_decide_eq_true (by kernel_rfl)) k3 bel lt3) trodAll_mk0)))), rfl, bel.frame _, fun h => by cases h⟩
theorem over : Rows.fnExactSliceRow.holds Try.pinned (OpenSpec.ofChange Rows.fnExactSliceSpec) :=
  OpenClaim.holds_of_wide 3 Try.f3 rfl rfl rfl rfl rfl rfl rfl ⟨rfl, rfl, rfl, rfl, rfl⟩ rfl rfl rfl rfl rfl (by kernel_rfl) Try.func3 (by kernel_rfl)
    (of_decide_eq_true (by kernel_rfl)) (by unfold Func.isWrapper; first | (rw [if_pos (by decide +kernel)]; kernel_rfl) | (rw [if_neg (by decide +kernel)]; exact ⟨rfl, rfl⟩))
    (fun os started H enc _ => lifted os started H enc)
theorem proved : Rows.FnExactSliceSaid := over
#print axioms proved
end Go.Proofs.Ytablmbhnimnccaa.fnExactSlice
