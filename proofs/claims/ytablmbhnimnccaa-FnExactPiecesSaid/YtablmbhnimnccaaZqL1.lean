/- Proved: laws.FnExactPieces hands back true, whatever its input, and its input reads as before. No condition. -/
import Derived.Test.YtablmbhnimnccaaRows
import Derived.Test.YtablmbhnimnccaaZqRow
import Derived.WalkKit
import Derived.ProofKit
import Derived.Test.YtablmbhnimnccaaZqF12
set_option maxRecDepth 20000
namespace Go.Proofs.Ytablmbhnimnccaa.Pw
theorem xPieces (s : Sol) (h : lens s) : Fn PP 4 [.p (encS s)] (.p (bP true)) [] := by
  cases s; exact xPieces_fn _ _ _ h
theorem tyI : TyI PP := ⟨Go.Proofs.Try.underlying3, Go.Proofs.Try.underlying4, by kernel_rfl, by kernel_rfl⟩
theorem tyP : TyP PP 23 := ⟨⟨_, Go.Proofs.Try.underlying23, rfl⟩, by kernel_rfl⟩
theorem tyS : TyS PP 26 23 24 := ⟨⟨_, Go.Proofs.Try.underlying26, rfl⟩, by kernel_rfl, by kernel_rfl, Go.Proofs.Try.underlying24, by kernel_rfl⟩
end Go.Proofs.Ytablmbhnimnccaa.Pw
namespace Go.Proofs.Ytablmbhnimnccaa.fnExactPieces
open Go.Proofs.Ytablmbhnimnccaa.Pw Go.ChangeShapes Go.WideShapes Go.ChangeAt Go.RowKit

theorem own : ownKnob Try.prog.godebug = none := by kernel_rfl
theorem laidOut : laidOutB Try.prog = true := by kernel_rfl
set_option maxRecDepth 100000 in
theorem lifted (os : Os) (started : os.Started) (H : Type) (enc : TypeId × Value → H) :
    ReturnsInHanded {} Try.checked os 4 .any (Rows.fnExactPiecesSpec.pre6 enc Try.prog Try.f4 Rows.fnExactPiecesRow.domain false) (Rows.fnExactPiecesSpec.post enc Try.prog Try.f4 false true false false) := by
  refine returnsInHanded_of_change_sized (C := Try.checked) own started (by kernel_rfl) Try.func4
    (ChangeSpec.witness6 (enc := enc) (C := Try.checked) false ⟨#[], #[.agg #[.bool false, .int .i64 0, .int .i64 0, .int .i64 0, .int .i64 0, .slice none 0 0]], []⟩ 8 (by kernel_rfl) (by kernel_rfl) (by kernel_rfl) (by kernel_rfl)) ?_
  intro W base args ds gs before hval0 hW hcnd hsz0 _
  have hsz : (DataW.weightsEach Try.prog (Try.f4.params.toList ++ Rows.fnExactPiecesSpec.plain.varTypes Try.prog) (ds ++ gs)).all (· ≤ reachBytes) = true := hsz0
  have hval : ∀ (j : Nat) t v, Try.f4.params[j]? = some t → args[j]? = some v → Value.okWide Try.prog W .any base t v := hval0
  have hW' := hW
  obtain ⟨p, q, hA0, hV, rfl, hfz, hnd⟩ := hW
  have hA : DataW.TrodAll enc Try.prog W 0 (fun _ => true) true Try.f4.params.toList args.toList ds p := hA0
  rw [Try.params4] at hA hval hsz
  obtain ⟨v0, vs0, d0, ds0, p0, q0, hargs, rfl, rfl, h0, r0⟩ := trodAll_cons hA
  obtain ⟨rfl, rfl, rfl⟩ := trodAll_nil r0
  obtain rfl : args = #[v0] := by cases args; simp_all
  obtain ⟨rfl, rfl⟩ := trodVars_none hV
  have k0 := h0
  have lt0 : ∀ x ∈ p0, x.block < W.heap.size := by obtain ⟨m, hm⟩ := k0; exact DataW.trod_lt m _ _ _ hm
  have w0 : wOk Try.prog 26 d0 := fun n hn => of_decide_eq_true (List.all_eq_true.1 hsz n (weightsEach_get (i := 0) (t := 26) (d := d0) rfl rfl n hn))
  obtain ⟨fu0, e0⟩ := h0
  obtain ⟨s, g0, hl⟩ := open_sol tyI tyP tyS fu0 e0 w0
  obtain ⟨cs, rfl, _⟩ : ∃ cs, v0 = .agg cs ∧ True := by
    have := hval 0 26 v0 rfl rfl
    unfold Value.okWide at this
    rw [Try.underlying26] at this
    obtain ⟨cs, h, _⟩ := this
    exact ⟨cs, h, trivial⟩
  have rep : RepTt (Aw W) W ([encS s].map .p) [.agg cs] [] := by
    cases s
    exact .cons _ _ _ _ [] [] (.p _ _ (rep_agg g0)) .nil
  clear hA0 hval0 hsz0 hsz
  refine (Fn.law (xPieces s hl) rep).mono fun e W' ⟨u, A', he, hu, bel⟩ => ?_
  subst he
  have := bool_of hu
  subst this
  exact ⟨_, rfl, _, _, _, [], _, [], hW', trodAll_mk1 (shut_bool Try.underlying4 _), (trodAll_cons_mk (Below.trod laidOut (by kernel_rfl) (of_decide_eq_true (by kernel_rfl)) k0 bel lt0) trodAll_mk0), rfl, bel.frame _, fun h => by cases h⟩
theorem over : Rows.fnExactPiecesRow.holds Try.pinned (OpenSpec.ofChange Rows.fnExactPiecesSpec) :=
  OpenClaim.holds_of_wide 4 Try.f4 rfl rfl rfl rfl rfl rfl rfl ⟨rfl, rfl, rfl, rfl, rfl⟩ rfl rfl rfl rfl rfl (by kernel_rfl) Try.func4 (by kernel_rfl)
    (of_decide_eq_true (by kernel_rfl)) (by unfold Func.isWrapper; first | (rw [if_pos (by decide +kernel)]; kernel_rfl) | (rw [if_neg (by decide +kernel)]; exact ⟨rfl, rfl⟩))
    (fun os started H enc _ => lifted os started H enc)
theorem proved : Rows.FnExactPiecesSaid := over
#print axioms proved
end Go.Proofs.Ytablmbhnimnccaa.fnExactPieces
