/- A part of that proof: contracts of the functions that are called, one theorem a function. No condition. -/
import Derived.Test.YtablmbhnimnccaaZqF13
import Derived.Test.YtablmbhnimnccaaZqBld2
set_option maxRecDepth 20000
set_option maxHeartbeats 4000000
namespace Go.Proofs.Ytablmbhnimnccaa.Pw
theorem sSlice_fn (si : Bool) (sp : Pl) (sk : List Sol) (z : Int) (lo : Pt) (hi : Pt) (hf : fits (Sol.mk si sp sk)) : Fn PP 12 [.p (encS (Sol.mk si sp sk)), .p (iP z), .p (encPt lo), .p (encPt hi)] (.p (sP (sliceT (Sol.mk si sp sk) z lo hi))) [] := by
  refine fn_intro tok Go.Proofs.Try.func12 (c := _) rfl rfl (Nat.le_of_ble_eq_true rfl) ?_
  refine cw_seq ?_
  refine cw_reg0 tok rfl rfl ?_
  refine c0 rfl (w_box (g := 0) [BO si, I64 sp.a, I64 sp.b, I64 sp.c, I64 sp.d, .p (.sl 6 (encSs sk))] rfl rfl rfl ?_)
  refine c0 rfl (w_box (g := 0) [I64 lo.x, I64 lo.y, I64 lo.z] rfl rfl rfl ?_)
  refine c0 rfl (w_box (g := 0) [I64 hi.x, I64 hi.y, I64 hi.z] rfl rfl rfl ?_)
  refine c0 rfl (w_v (.p (sP (⟨#[]⟩))) rfl ?_)
  refine cn ?_
  refine cw_seq ?_
  refine cw_reg0 tok rfl rfl ?_
  refine c0 rfl (w_v (I64 z) rfl ?_)
  refine c0 rfl (w_v (.pt 6 0 2) rfl ?_)
  refine c0 rfl (w_st [I64 lo.x, I64 lo.y, I64 z] rfl rfl rfl rfl rfl (Nat.le_of_ble_eq_true rfl) rfl ?_)
  refine cn ?_
  refine cw_seq ?_
  refine cw_reg0 tok rfl rfl ?_
  refine c0 rfl (w_v (I64 z) rfl ?_)
  refine c0 rfl (w_v (.pt 7 0 2) rfl ?_)
  refine c0 rfl (w_st [I64 hi.x, I64 hi.y, I64 z] rfl rfl rfl rfl rfl (Nat.le_of_ble_eq_true rfl) rfl ?_)
  refine cn ?_
  refine cw_seq ?_
  refine cw_seq ?_
  refine cw_reg0 tok rfl rfl ?_
  refine c0 rfl (w_v (.p (encS (Sol.mk si sp sk))) rfl ?_)
  refine c0 rfl (w_call_1 (sSolidOk (Sol.mk si sp sk) hf) rfl rfl ?_)
  refine c0 rfl (w_v (BO (!(sok (Sol.mk si sp sk)))) rfl ?_)
  refine c0 rfl (w_v (BO (!(sok (Sol.mk si sp sk)))) rfl ?_)
  refine cgS (b := !(sok (Sol.mk si sp sk))) rfl rfl rfl (fun c1 => ?_) (fun c1 => ?_)
  ·
    replace c1 := nt c1
    refine cgF (v := .bool true) rfl rfl rfl rfl ?_
    refine cgF (v := .bool true) rfl rfl rfl rfl ?_
    refine cgF (v := .bool true) rfl rfl rfl rfl ?_
    refine c0 rfl (w_v (BO true) rfl ?_)
    refine c0 rfl (w_v (BO true) rfl ?_)
    refine cgF (v := .bool true) rfl rfl rfl rfl ?_
    refine cgF (v := .bool true) rfl rfl rfl rfl ?_
    refine cgF (v := .bool true) rfl rfl rfl rfl ?_
    refine c0 rfl (w_v (BO true) rfl ?_)
    refine c0 rfl (w_v (BO true) rfl ?_)
    refine cgF (v := .bool true) rfl rfl rfl rfl ?_
    refine cgF (v := .bool true) rfl rfl rfl rfl ?_
    refine cgF (v := .bool true) rfl rfl rfl rfl ?_
    refine cgF (v := .bool true) rfl rfl rfl rfl ?_
    refine cgF (v := .bool true) rfl rfl rfl rfl ?_
    refine cgF (v := .bool true) rfl rfl rfl rfl ?_
    refine c0 rfl (w_v (BO true) rfl ?_)
    refine c0 rfl (w_v (BO true) rfl ?_)
    refine cgF (v := .bool true) rfl rfl rfl rfl ?_
    refine cgF (v := .bool true) rfl rfl rfl rfl ?_
    refine cgF (v := .bool true) rfl rfl rfl rfl ?_
    refine cgF (v := .bool true) rfl rfl rfl rfl ?_
    refine cgF (v := .bool true) rfl rfl rfl rfl ?_
    refine cgF (v := .bool true) rfl rfl rfl rfl ?_
    refine c0 rfl (w_v (BO true) rfl ?_)
    refine cn ?_
    refine cw_cond (t := true) rfl (fun _ => ?_) (fun h => nomatch h)
    refine cw_seq ?_
    refine cw_reg0 tok rfl rfl ?_
    refine c0 rfl (w_v (.p (sP (⟨#[]⟩))) rfl ?_)
    refine cn ?_
    refine cw_ret ?_
    exact fin1 (sP (⟨#[]⟩)) (sP (sliceT (Sol.mk si sp sk) z lo hi)) rfl (congrArg sP (by exact sliceT_no (by first | exact .inl (by assumption) | exact .inr (gridZ_no (by simp_all))) : (⟨#[]⟩) = (sliceT (Sol.mk si sp sk) z lo hi))) rfl
  ·
    replace c1 := nf c1
    refine cgT rfl rfl rfl (w_v (.p (encPt (Pt.mk lo.x lo.y z))) rfl ?_)
    refine cgT rfl rfl rfl (w_call_1 (sPtOk_fn (Pt.mk lo.x lo.y z)) rfl rfl ?_)
    refine cgT rfl rfl rfl (w_v (BO (!(decide (ptok (Pt.mk lo.x lo.y z))))) rfl ?_)
    refine c0 rfl (w_v (BO (!(decide (ptok (Pt.mk lo.x lo.y z))))) rfl ?_)
    refine c0 rfl (w_v (BO (!(decide (ptok (Pt.mk lo.x lo.y z))))) rfl ?_)
    refine cgS (b := !(decide (ptok (Pt.mk lo.x lo.y z)))) rfl rfl rfl (fun c2 => ?_) (fun c2 => ?_)
    ·
      replace c2 := nt c2
      replace c2 := of_decide_eq_false c2
      refine cgF (v := .bool true) rfl rfl rfl rfl ?_
      refine cgF (v := .bool true) rfl rfl rfl rfl ?_
      refine cgF (v := .bool true) rfl rfl rfl rfl ?_
      refine c0 rfl (w_v (BO true) rfl ?_)
      refine c0 rfl (w_v (BO true) rfl ?_)
      refine cgF (v := .bool true) rfl rfl rfl rfl ?_
      refine cgF (v := .bool true) rfl rfl rfl rfl ?_
      refine cgF (v := .bool true) rfl rfl rfl rfl ?_
      refine cgF (v := .bool true) rfl rfl rfl rfl ?_
      refine cgF (v := .bool true) rfl rfl rfl rfl ?_
      refine cgF (v := .bool true) rfl rfl rfl rfl ?_
      refine c0 rfl (w_v (BO true) rfl ?_)
      refine c0 rfl (w_v (BO true) rfl ?_)
      refine cgF (v := .bool true) rfl rfl rfl rfl ?_
      refine cgF (v := .bool true) rfl rfl rfl rfl ?_
      refine cgF (v := .bool true) rfl rfl rfl rfl ?_
      refine cgF (v := .bool true) rfl rfl rfl rfl ?_
      refine cgF (v := .bool true) rfl rfl rfl rfl ?_
      refine cgF (v := .bool true) rfl rfl rfl rfl ?_
      refine c0 rfl (w_v (BO true) rfl ?_)
      refine cn ?_
      refine cw_cond (t := true) rfl (fun _ => ?_) (fun h => nomatch h)
      refine cw_seq ?_
      refine cw_reg0 tok rfl rfl ?_
      refine c0 rfl (w_v (.p (sP (⟨#[]⟩))) rfl ?_)
      refine cn ?_
      refine cw_ret ?_
      exact fin1 (sP (⟨#[]⟩)) (sP (sliceT (Sol.mk si sp sk) z lo hi)) rfl (congrArg sP (by exact sliceT_no (by first | exact .inl (by assumption) | exact .inr (gridZ_no (by simp_all))) : (⟨#[]⟩) = (sliceT (Sol.mk si sp sk) z lo hi))) rfl
    ·
      replace c2 := nf c2
      replace c2 := of_decide_eq_true c2
      refine cgT rfl rfl rfl (w_v (.p (encPt (Pt.mk hi.x hi.y z))) rfl ?_)
      refine cgT rfl rfl rfl (w_call_1 (sPtOk_fn (Pt.mk hi.x hi.y z)) rfl rfl ?_)
      refine cgT rfl rfl rfl (w_v (BO (!(decide (ptok (Pt.mk hi.x hi.y z))))) rfl ?_)
      refine c0 rfl (w_v (BO (!(decide (ptok (Pt.mk hi.x hi.y z))))) rfl ?_)
      refine c0 rfl (w_v (BO (!(decide (ptok (Pt.mk hi.x hi.y z))))) rfl ?_)
      refine cgS (b := !(decide (ptok (Pt.mk hi.x hi.y z)))) rfl rfl rfl (fun c3 => ?_) (fun c3 => ?_)
      ·
        replace c3 := nt c3
        replace c3 := of_decide_eq_false c3
        refine cgF (v := .bool true) rfl rfl rfl rfl ?_
        refine cgF (v := .bool true) rfl rfl rfl rfl ?_
        refine cgF (v := .bool true) rfl rfl rfl rfl ?_
        refine cgF (v := .bool true) rfl rfl rfl rfl ?_
        refine cgF (v := .bool true) rfl rfl rfl rfl ?_
        refine cgF (v := .bool true) rfl rfl rfl rfl ?_
        refine c0 rfl (w_v (BO true) rfl ?_)
        refine c0 rfl (w_v (BO true) rfl ?_)
        refine cgF (v := .bool true) rfl rfl rfl rfl ?_
        refine cgF (v := .bool true) rfl rfl rfl rfl ?_
        refine cgF (v := .bool true) rfl rfl rfl rfl ?_
        refine cgF (v := .bool true) rfl rfl rfl rfl ?_
        refine cgF (v := .bool true) rfl rfl rfl rfl ?_
        refine cgF (v := .bool true) rfl rfl rfl rfl ?_
        refine c0 rfl (w_v (BO true) rfl ?_)
        refine cn ?_
        refine cw_cond (t := true) rfl (fun _ => ?_) (fun h => nomatch h)
        refine cw_seq ?_
        refine cw_reg0 tok rfl rfl ?_
        refine c0 rfl (w_v (.p (sP (⟨#[]⟩))) rfl ?_)
        refine cn ?_
        refine cw_ret ?_
        exact fin1 (sP (⟨#[]⟩)) (sP (sliceT (Sol.mk si sp sk) z lo hi)) rfl (congrArg sP (by exact sliceT_no (by first | exact .inl (by assumption) | exact .inr (gridZ_no (by simp_all))) : (⟨#[]⟩) = (sliceT (Sol.mk si sp sk) z lo hi))) rfl
      ·
        replace c3 := nf c3
        replace c3 := of_decide_eq_true c3
        refine cgT rfl rfl rfl (w_v (.pt 6 0 0) rfl ?_)
        refine cgT rfl rfl rfl (w_v (I64 lo.x) rfl ?_)
        refine cgT rfl rfl rfl (w_v (.pt 7 0 0) rfl ?_)
        refine cgT rfl rfl rfl (w_v (I64 hi.x) rfl ?_)
        refine cgT rfl rfl rfl (w_call_2 (l17Way_fn lo.x hi.x (by unfold ptok at c2; simp only at c2; omega) (by unfold ptok at c3; simp only at c3; omega)) rfl rfl rfl ?_)
        refine cgT rfl rfl rfl (w_v (BO (!(gridW lo.x hi.x))) rfl ?_)
        refine c0 rfl (w_v (BO (!(gridW lo.x hi.x))) rfl ?_)
        refine c0 rfl (w_v (BO (!(gridW lo.x hi.x))) rfl ?_)
        refine cgS (b := !(gridW lo.x hi.x)) rfl rfl rfl (fun c4 => ?_) (fun c4 => ?_)
        ·
          replace c4 := nt c4
          refine cgF (v := .bool true) rfl rfl rfl rfl ?_
          refine cgF (v := .bool true) rfl rfl rfl rfl ?_
          refine cgF (v := .bool true) rfl rfl rfl rfl ?_
          refine cgF (v := .bool true) rfl rfl rfl rfl ?_
          refine cgF (v := .bool true) rfl rfl rfl rfl ?_
          refine cgF (v := .bool true) rfl rfl rfl rfl ?_
          refine c0 rfl (w_v (BO true) rfl ?_)
          refine cn ?_
          refine cw_cond (t := true) rfl (fun _ => ?_) (fun h => nomatch h)
          refine cw_seq ?_
          refine cw_reg0 tok rfl rfl ?_
          refine c0 rfl (w_v (.p (sP (⟨#[]⟩))) rfl ?_)
          refine cn ?_
          refine cw_ret ?_
          exact fin1 (sP (⟨#[]⟩)) (sP (sliceT (Sol.mk si sp sk) z lo hi)) rfl (congrArg sP (by exact sliceT_no (by first | exact .inl (by assumption) | exact .inr (gridZ_no (by simp_all))) : (⟨#[]⟩) = (sliceT (Sol.mk si sp sk) z lo hi))) rfl
        ·
          replace c4 := nf c4
          refine cgT rfl rfl rfl (w_v (.pt 6 0 1) rfl ?_)
          refine cgT rfl rfl rfl (w_v (I64 lo.y) rfl ?_)
          refine cgT rfl rfl rfl (w_v (.pt 7 0 1) rfl ?_)
          refine cgT rfl rfl rfl (w_v (I64 hi.y) rfl ?_)
          refine cgT rfl rfl rfl (w_call_2 (l17Way_fn lo.y hi.y (by unfold ptok at c2; simp only at c2; omega) (by unfold ptok at c3; simp only at c3; omega)) rfl rfl rfl ?_)
          refine cgT rfl rfl rfl (w_v (BO (!(gridW lo.y hi.y))) rfl ?_)
          refine c0 rfl (w_v (BO (!(gridW lo.y hi.y))) rfl ?_)
          refine cn ?_
          refine cw_cond (t := !(gridW lo.y hi.y)) rfl (fun c5 => ?_) (fun c5 => ?_)
          ·
            replace c5 := nt c5
            refine cw_seq ?_
            refine cw_reg0 tok rfl rfl ?_
            refine c0 rfl (w_v (.p (sP (⟨#[]⟩))) rfl ?_)
            refine cn ?_
            refine cw_ret ?_
            exact fin1 (sP (⟨#[]⟩)) (sP (sliceT (Sol.mk si sp sk) z lo hi)) rfl (congrArg sP (by exact sliceT_no (by first | exact .inl (by assumption) | exact .inr (gridZ_no (by simp_all))) : (⟨#[]⟩) = (sliceT (Sol.mk si sp sk) z lo hi))) rfl
          ·
            replace c5 := nf c5
            refine cw_skip ?_
            refine cw_seq ?_
            refine cw_reg0 tok rfl rfl ?_
            have hg := gridZ_mk c2 c3 c4 c5
            have hgz := gridZ_of hg
            refine c0 rfl (w_bsl (g := 0) [] rfl rfl rfl rfl (Nat.le_of_ble_eq_true rfl) (Nat.le_of_ble_eq_true rfl) (Nat.le_of_ble_eq_true rfl) (.nil _) rfl rfl ?_)
            refine c0 rfl (w_v (.os 45 0 0) rfl ?_)
            refine cn ?_
            refine cw_seq ?_
            refine cw_seq ?_
            refine cw_reg0 tok rfl rfl ?_
            refine c0 rfl (w_v (.pt 7 0 1) rfl ?_)
            refine c0 rfl (w_v (I64 hi.y) rfl ?_)
            refine c0 rfl (w_v (I64 hi.y) rfl (cv (by exact congrArg I64 (by omega) : (I64 hi.y : AV) = I64 (hi.y - (0 : Int))) ?_))
            refine cn ?_
            refine cw_block ?_
            refine cw_loopI (fun nn S => ∃ j : Nat, ∃ out : List Int, (j ≤ (hi.y - lo.y + 1).toNat ∧ out = sliceL (Sol.mk si sp sk) z lo.x hi.y (hi.x - lo.x + 1).toNat j) ∧ nn = (hi.y - lo.y + 1).toNat - j ∧ S = mkS [(1, I64 z), (4, .pt 4 0 0), (6, .pt 6 0 0), (7, .pt 7 0 0), (9, .os 45 0 out.length), (10, I64 (hi.y - (j : Int)))] [(4, 0, .var [BO si, I64 sp.a, I64 sp.b, I64 sp.c, I64 sp.d, .p (.sl 6 (encSs sk))] false), (6, 0, .var [I64 lo.x, I64 lo.y, I64 z] false), (7, 0, .var [I64 hi.x, I64 hi.y, I64 z] false), (45, 0, .arr 5 1 (out.map u8P) 0)] [(4, 1), (6, 1), (7, 1), (45, 1)]) ((hi.y - lo.y + 1).toNat - 0) ?_ ?_
            · exact ⟨_, wk_of (tms := [(1, I64 z), (4, .pt 4 0 0), (6, .pt 6 0 0), (7, .pt 7 0 0), (9, .os 45 0 (([] : List Int).length)), (10, I64 (hi.y - (0 : Int)))]) (bls := [(4, 0, .var [BO si, I64 sp.a, I64 sp.b, I64 sp.c, I64 sp.d, .p (.sl 6 (encSs sk))] false), (6, 0, .var [I64 lo.x, I64 lo.y, I64 z] false), (7, 0, .var [I64 hi.x, I64 hi.y, I64 z] false), (45, 0, .arr 5 1 (([] : List Int).map u8P) 0)]) (gens := [(4, 1), (6, 1), (7, 1), (45, 1)]) ⟨rfl, rfl, rfl, rfl, by first | rfl | exact congrArg (AV.os 45 0) (by (try simp) <;> (try omega)), rfl, trivial⟩ ⟨rfl, rfl, rfl, rfl, trivial⟩ ⟨rfl, rfl, rfl, rfl, trivial⟩ rfl, 0, ([] : List Int), ⟨by omega, rfl⟩, rfl, rfl⟩
            · rintro nn _ ⟨j, out, ⟨hj, ho⟩, hn1, rfl⟩
              have hol := sliceL_le (Sol.mk si sp sk) z lo.x hi.y (hi.x - lo.x + 1).toNat j (by omega)
              refine cw_seq ?_
              refine cw_seq ?_
              refine cw_reg0 tok rfl rfl ?_
              refine c0 rfl (w_v (I64 (hi.y - (j : Int))) rfl ?_)
              refine c0 rfl (w_v (.pt 6 0 1) rfl ?_)
              refine c0 rfl (w_v (I64 lo.y) rfl ?_)
              refine c0 rfl (w_v (BO (decide (hi.y - (j : Int) ≥ lo.y))) rfl ?_)
              refine cn ?_
              refine cw_cond (t := decide (hi.y - (j : Int) ≥ lo.y)) rfl (fun c6 => ?_) (fun c6 => ?_)
              ·
                replace c6 := of_decide_eq_true c6
                refine cw_skip ?_
                refine cw_seq ?_
                refine cw_block ?_
                refine cw_seq ?_
                refine cw_seq ?_
                refine cw_reg0 tok rfl rfl ?_
                refine c0 rfl (w_v (.pt 6 0 0) rfl ?_)
                refine c0 rfl (w_v (I64 lo.x) rfl ?_)
                refine c0 rfl (w_v (I64 lo.x) rfl (cv (by exact congrArg I64 (by omega) : (I64 lo.x : AV) = I64 (lo.x + (0 : Int))) ?_))
                refine cn ?_
                refine cw_block ?_
                refine cw_loopI (fun nn S => ∃ i : Nat, ∃ o2 : List Int, (i ≤ (hi.x - lo.x + 1).toNat ∧ o2 = out ++ rowC (Sol.mk si sp sk) z (hi.y - (j : Int)) lo.x i) ∧ nn = (hi.x - lo.x + 1).toNat - i ∧ S = mkS [(1, I64 z), (4, .pt 4 0 0), (6, .pt 6 0 0), (7, .pt 7 0 0), (9, .os 45 0 o2.length), (10, I64 (hi.y - (j : Int))), (11, I64 (lo.x + (i : Int)))] [(4, 0, .var [BO si, I64 sp.a, I64 sp.b, I64 sp.c, I64 sp.d, .p (.sl 6 (encSs sk))] false), (6, 0, .var [I64 lo.x, I64 lo.y, I64 z] false), (7, 0, .var [I64 hi.x, I64 hi.y, I64 z] false), (45, 0, .arr 5 1 (o2.map u8P) 0)] [(4, 1), (6, 1), (7, 1), (45, 1)]) ((hi.x - lo.x + 1).toNat - 0) ?_ ?_
                · exact ⟨_, wk_of (tms := [(1, I64 z), (4, .pt 4 0 0), (6, .pt 6 0 0), (7, .pt 7 0 0), (9, .os 45 0 out.length), (10, I64 (hi.y - (j : Int))), (11, I64 (lo.x + (0 : Int)))]) (bls := [(4, 0, .var [BO si, I64 sp.a, I64 sp.b, I64 sp.c, I64 sp.d, .p (.sl 6 (encSs sk))] false), (6, 0, .var [I64 lo.x, I64 lo.y, I64 z] false), (7, 0, .var [I64 hi.x, I64 hi.y, I64 z] false), (45, 0, .arr 5 1 (out.map u8P) 0)]) (gens := [(4, 1), (6, 1), (7, 1), (45, 1)]) ⟨rfl, rfl, rfl, rfl, by first | rfl | exact congrArg (AV.os 45 0) (by (try simp) <;> (try omega)), rfl, rfl, trivial⟩ ⟨rfl, rfl, rfl, rfl, trivial⟩ ⟨rfl, rfl, rfl, rfl, trivial⟩ rfl, 0, out, ⟨by omega, by simp [rowC]⟩, rfl, rfl⟩
                · rintro nn _ ⟨i, o2, ⟨hi2, ho2⟩, hn2, rfl⟩
                  have hrl : o2.length = out.length + i := by rw [ho2]; simp
                  have hol2 : out.length ≤ 17 * j := by rw [ho]; exact hol
                  refine cw_seq ?_
                  refine cw_seq ?_
                  refine cw_reg0 tok rfl rfl ?_
                  refine c0 rfl (w_v (I64 (lo.x + (i : Int))) rfl ?_)
                  refine c0 rfl (w_v (.pt 7 0 0) rfl ?_)
                  refine c0 rfl (w_v (I64 hi.x) rfl ?_)
                  refine c0 rfl (w_v (BO (decide (lo.x + (i : Int) ≤ hi.x))) rfl ?_)
                  refine cn ?_
                  refine cw_cond (t := decide (lo.x + (i : Int) ≤ hi.x)) rfl (fun c7 => ?_) (fun c7 => ?_)
                  ·
                    replace c7 := of_decide_eq_true c7
                    refine cw_skip ?_
                    refine cw_seq ?_
                    refine cw_block ?_
                    refine cw_seq ?_
                    refine cw_reg0 tok rfl rfl ?_
                    refine c0 rfl (w_v (.p (encS (Sol.mk si sp sk))) rfl ?_)
                    refine c0 rfl (w_v (I64 (lo.x + (i : Int))) rfl ?_)
                    refine c0 rfl (w_v (I64 (hi.y - (j : Int))) rfl ?_)
                    refine c0 rfl (w_v (I64 z) rfl ?_)
                    refine c0 rfl (w_call_4 (l17At_fn si sp sk (lo.x + (i : Int)) (hi.y - (j : Int)) z c1 (by unfold ptok; simp only; omega)) rfl rfl rfl rfl rfl ?_)
                    refine cn ?_
                    refine cw_block ?_
                    refine cw_seq ?_
                    refine cw_reg0 tok rfl rfl ?_
                    refine c0 rfl (w_eqi (whrP (Sol.mk si sp sk) ⟨(lo.x + (i : Int)), (hi.y - (j : Int)), z⟩) (1) rfl rfl ?_)
                    refine c0 rfl (w_v (BO (decide (whrP (Sol.mk si sp sk) ⟨(lo.x + (i : Int)), (hi.y - (j : Int)), z⟩ = 1))) rfl ?_)
                    refine cn ?_
                    refine cw_cond (t := decide (whrP (Sol.mk si sp sk) ⟨(lo.x + (i : Int)), (hi.y - (j : Int)), z⟩ = 1)) rfl (fun c8 => ?_) (fun c8 => ?_)
                    ·
                      replace c8 := of_decide_eq_true c8
                      refine cw_reg0 tok rfl rfl ?_
                      refine c0 rfl (w_v (.os 45 0 o2.length) rfl ?_)
                      refine c0 rfl (w_bsl (g := 1) [u8P 35] rfl rfl rfl rfl (Nat.le_of_ble_eq_true rfl) (Nat.le_of_ble_eq_true rfl) (Nat.le_of_ble_eq_true rfl) (.cons _ _ _ _ _ _ _ [] [] (.one _ _ _ _ _ (.p _ _)) (.nil _)) rfl rfl ?_)
                      refine c0 rfl (w_appo ([35].map u8P) ((o2 ++ [35]).map u8P) ((o2 ++ [35]).length) rfl rfl rfl rfl rfl (list_os rfl rfl) (Nat.le_of_ble_eq_true rfl) (sz_map fun _ => rfl) (by (try simp) <;> (try omega)) rfl rfl (by show (_ + _) * 1 ≤ _; (try simp) <;> omega) (by (try simp) <;> omega) List.map_append.symm (by (try simp) <;> omega) ?_)
                      refine c0 rfl (w_v (.os 45 0 ((o2 ++ [35]).length)) rfl ?_)
                      refine cn ?_
                      refine cw_reg0 tok rfl rfl ?_
                      refine c0 rfl (w_v (I64 (lo.x + (i : Int))) rfl ?_)
                      refine c0 rfl (w_i ((lo.x + (i : Int)) + 1) rfl (by unfold inI; omega) ?_)
                      refine c0 rfl (w_v (I64 ((lo.x + (i : Int)) + 1)) rfl (cv (by exact congrArg I64 (by omega) : (I64 ((lo.x + (i : Int)) + 1) : AV) = I64 (lo.x + ((i + 1) : Int))) ?_))
                      refine cn ?_
                      exact ⟨_, _, by omega, wk_of (tms := [(1, I64 z), (4, .pt 4 0 0), (6, .pt 6 0 0), (7, .pt 7 0 0), (9, .os 45 0 ((o2 ++ [35]).length)), (10, I64 (hi.y - (j : Int))), (11, I64 (lo.x + ((i + 1) : Int)))]) (bls := [(4, 0, .var [BO si, I64 sp.a, I64 sp.b, I64 sp.c, I64 sp.d, .p (.sl 6 (encSs sk))] false), (6, 0, .var [I64 lo.x, I64 lo.y, I64 z] false), (7, 0, .var [I64 hi.x, I64 hi.y, I64 z] false), (45, 0, .arr 5 1 ((o2 ++ [35]).map u8P) 0)]) (gens := [(4, 1), (6, 1), (7, 1), (45, 1)]) ⟨rfl, rfl, rfl, rfl, by first | rfl | exact congrArg (AV.os 45 0) (by (try simp) <;> (try omega)), rfl, rfl, trivial⟩ ⟨rfl, rfl, rfl, rfl, trivial⟩ ⟨rfl, rfl, rfl, rfl, trivial⟩ rfl, (i + 1), (o2 ++ [35]), ⟨by omega, by rw [ho2, ← rowC_su, List.append_assoc]; first | rw [chr_1 (by assumption)] | rw [chr_0 (by assumption) (by assumption)] | rw [chr_n (by assumption) (by assumption)]⟩, rfl, rfl⟩
                    ·
                      replace c8 := of_decide_eq_false c8
                      refine cw_seq ?_
                      refine cw_reg0 tok rfl rfl ?_
                      refine c0 rfl (w_eqi (whrP (Sol.mk si sp sk) ⟨(lo.x + (i : Int)), (hi.y - (j : Int)), z⟩) (0) rfl rfl ?_)
                      refine c0 rfl (w_v (BO (decide (whrP (Sol.mk si sp sk) ⟨(lo.x + (i : Int)), (hi.y - (j : Int)), z⟩ = 0))) rfl ?_)
                      refine cn ?_
                      refine cw_cond (t := decide (whrP (Sol.mk si sp sk) ⟨(lo.x + (i : Int)), (hi.y - (j : Int)), z⟩ = 0)) rfl (fun c9 => ?_) (fun c9 => ?_)
                      ·
                        replace c9 := of_decide_eq_true c9
                        refine cw_reg0 tok rfl rfl ?_
                        refine c0 rfl (w_v (.os 45 0 o2.length) rfl ?_)
                        refine c0 rfl (w_bsl (g := 1) [u8P 43] rfl rfl rfl rfl (Nat.le_of_ble_eq_true rfl) (Nat.le_of_ble_eq_true rfl) (Nat.le_of_ble_eq_true rfl) (.cons _ _ _ _ _ _ _ [] [] (.one _ _ _ _ _ (.p _ _)) (.nil _)) rfl rfl ?_)
                        refine c0 rfl (w_appo ([43].map u8P) ((o2 ++ [43]).map u8P) ((o2 ++ [43]).length) rfl rfl rfl rfl rfl (list_os rfl rfl) (Nat.le_of_ble_eq_true rfl) (sz_map fun _ => rfl) (by (try simp) <;> (try omega)) rfl rfl (by show (_ + _) * 1 ≤ _; (try simp) <;> omega) (by (try simp) <;> omega) List.map_append.symm (by (try simp) <;> omega) ?_)
                        refine c0 rfl (w_v (.os 45 0 ((o2 ++ [43]).length)) rfl ?_)
                        refine cn ?_
                        refine cw_reg0 tok rfl rfl ?_
                        refine c0 rfl (w_v (I64 (lo.x + (i : Int))) rfl ?_)
                        refine c0 rfl (w_i ((lo.x + (i : Int)) + 1) rfl (by unfold inI; omega) ?_)
                        refine c0 rfl (w_v (I64 ((lo.x + (i : Int)) + 1)) rfl (cv (by exact congrArg I64 (by omega) : (I64 ((lo.x + (i : Int)) + 1) : AV) = I64 (lo.x + ((i + 1) : Int))) ?_))
                        refine cn ?_
                        exact ⟨_, _, by omega, wk_of (tms := [(1, I64 z), (4, .pt 4 0 0), (6, .pt 6 0 0), (7, .pt 7 0 0), (9, .os 45 0 ((o2 ++ [43]).length)), (10, I64 (hi.y - (j : Int))), (11, I64 (lo.x + ((i + 1) : Int)))]) (bls := [(4, 0, .var [BO si, I64 sp.a, I64 sp.b, I64 sp.c, I64 sp.d, .p (.sl 6 (encSs sk))] false), (6, 0, .var [I64 lo.x, I64 lo.y, I64 z] false), (7, 0, .var [I64 hi.x, I64 hi.y, I64 z] false), (45, 0, .arr 5 1 ((o2 ++ [43]).map u8P) 0)]) (gens := [(4, 1), (6, 1), (7, 1), (45, 1)]) ⟨rfl, rfl, rfl, rfl, by first | rfl | exact congrArg (AV.os 45 0) (by (try simp) <;> (try omega)), rfl, rfl, trivial⟩ ⟨rfl, rfl, rfl, rfl, trivial⟩ ⟨rfl, rfl, rfl, rfl, trivial⟩ rfl, (i + 1), (o2 ++ [43]), ⟨by omega, by rw [ho2, ← rowC_su, List.append_assoc]; first | rw [chr_1 (by assumption)] | rw [chr_0 (by assumption) (by assumption)] | rw [chr_n (by assumption) (by assumption)]⟩, rfl, rfl⟩
                      ·
                        replace c9 := of_decide_eq_false c9
                        refine cw_reg0 tok rfl rfl ?_
                        refine c0 rfl (w_v (.os 45 0 o2.length) rfl ?_)
                        refine c0 rfl (w_bsl (g := 1) [u8P 46] rfl rfl rfl rfl (Nat.le_of_ble_eq_true rfl) (Nat.le_of_ble_eq_true rfl) (Nat.le_of_ble_eq_true rfl) (.cons _ _ _ _ _ _ _ [] [] (.one _ _ _ _ _ (.p _ _)) (.nil _)) rfl rfl ?_)
                        refine c0 rfl (w_appo ([46].map u8P) ((o2 ++ [46]).map u8P) ((o2 ++ [46]).length) rfl rfl rfl rfl rfl (list_os rfl rfl) (Nat.le_of_ble_eq_true rfl) (sz_map fun _ => rfl) (by (try simp) <;> (try omega)) rfl rfl (by show (_ + _) * 1 ≤ _; (try simp) <;> omega) (by (try simp) <;> omega) List.map_append.symm (by (try simp) <;> omega) ?_)
                        refine c0 rfl (w_v (.os 45 0 ((o2 ++ [46]).length)) rfl ?_)
                        refine cn ?_
                        refine cw_reg0 tok rfl rfl ?_
                        refine c0 rfl (w_v (I64 (lo.x + (i : Int))) rfl ?_)
                        refine c0 rfl (w_i ((lo.x + (i : Int)) + 1) rfl (by unfold inI; omega) ?_)
                        refine c0 rfl (w_v (I64 ((lo.x + (i : Int)) + 1)) rfl (cv (by exact congrArg I64 (by omega) : (I64 ((lo.x + (i : Int)) + 1) : AV) = I64 (lo.x + ((i + 1) : Int))) ?_))
                        refine cn ?_
                        exact ⟨_, _, by omega, wk_of (tms := [(1, I64 z), (4, .pt 4 0 0), (6, .pt 6 0 0), (7, .pt 7 0 0), (9, .os 45 0 ((o2 ++ [46]).length)), (10, I64 (hi.y - (j : Int))), (11, I64 (lo.x + ((i + 1) : Int)))]) (bls := [(4, 0, .var [BO si, I64 sp.a, I64 sp.b, I64 sp.c, I64 sp.d, .p (.sl 6 (encSs sk))] false), (6, 0, .var [I64 lo.x, I64 lo.y, I64 z] false), (7, 0, .var [I64 hi.x, I64 hi.y, I64 z] false), (45, 0, .arr 5 1 ((o2 ++ [46]).map u8P) 0)]) (gens := [(4, 1), (6, 1), (7, 1), (45, 1)]) ⟨rfl, rfl, rfl, rfl, by first | rfl | exact congrArg (AV.os 45 0) (by (try simp) <;> (try omega)), rfl, rfl, trivial⟩ ⟨rfl, rfl, rfl, rfl, trivial⟩ ⟨rfl, rfl, rfl, rfl, trivial⟩ rfl, (i + 1), (o2 ++ [46]), ⟨by omega, by rw [ho2, ← rowC_su, List.append_assoc]; first | rw [chr_1 (by assumption)] | rw [chr_0 (by assumption) (by assumption)] | rw [chr_n (by assumption) (by assumption)]⟩, rfl, rfl⟩
                  ·
                    replace c7 := of_decide_eq_false c7
                    refine cw_exit ?_
                    refine cw_reg0 tok rfl rfl ?_
                    refine c0 rfl (w_v (.os 45 0 o2.length) rfl ?_)
                    refine c0 rfl (w_bsl (g := 1) [u8P 10] rfl rfl rfl rfl (Nat.le_of_ble_eq_true rfl) (Nat.le_of_ble_eq_true rfl) (Nat.le_of_ble_eq_true rfl) (.cons _ _ _ _ _ _ _ [] [] (.one _ _ _ _ _ (.p _ _)) (.nil _)) rfl rfl ?_)
                    refine c0 rfl (w_appo ([10].map u8P) ((o2 ++ [10]).map u8P) ((o2 ++ [10]).length) rfl rfl rfl rfl rfl (list_os rfl rfl) (Nat.le_of_ble_eq_true rfl) (sz_map fun _ => rfl) (by (try simp) <;> (try omega)) rfl rfl (by show (_ + _) * 1 ≤ _; (try simp) <;> omega) (by (try simp) <;> omega) List.map_append.symm (by (try simp) <;> omega) ?_)
                    refine c0 rfl (w_v (.os 45 0 ((o2 ++ [10]).length)) rfl ?_)
                    refine cn ?_
                    refine cw_reg0 tok rfl rfl ?_
                    refine c0 rfl (w_v (I64 (hi.y - (j : Int))) rfl ?_)
                    refine c0 rfl (w_i ((hi.y - (j : Int)) - 1) rfl (by unfold inI; omega) ?_)
                    refine c0 rfl (w_v (I64 ((hi.y - (j : Int)) - 1)) rfl (cv (by exact congrArg I64 (by omega) : (I64 ((hi.y - (j : Int)) - 1) : AV) = I64 (hi.y - ((j + 1) : Int))) ?_))
                    refine cn ?_
                    exact ⟨_, _, by omega, wk_of (tms := [(1, I64 z), (4, .pt 4 0 0), (6, .pt 6 0 0), (7, .pt 7 0 0), (9, .os 45 0 ((o2 ++ [10]).length)), (10, I64 (hi.y - ((j + 1) : Int)))]) (bls := [(4, 0, .var [BO si, I64 sp.a, I64 sp.b, I64 sp.c, I64 sp.d, .p (.sl 6 (encSs sk))] false), (6, 0, .var [I64 lo.x, I64 lo.y, I64 z] false), (7, 0, .var [I64 hi.x, I64 hi.y, I64 z] false), (45, 0, .arr 5 1 ((o2 ++ [10]).map u8P) 0)]) (gens := [(4, 1), (6, 1), (7, 1), (45, 1)]) ⟨rfl, rfl, rfl, rfl, by first | rfl | exact congrArg (AV.os 45 0) (by (try simp) <;> (try omega)), rfl, trivial⟩ ⟨rfl, rfl, rfl, rfl, trivial⟩ ⟨rfl, rfl, rfl, rfl, trivial⟩ rfl, (j + 1), (o2 ++ [10]), ⟨by omega, by rw [ho2, ho, show i = (hi.x - lo.x + 1).toNat by omega, List.append_assoc]; exact sliceL_su _ _ _ _ _ _⟩, rfl, rfl⟩
              ·
                replace c6 := of_decide_eq_false c6
                refine cw_exit ?_
                refine cw_seq ?_
                refine cw_reg0 tok rfl rfl ?_
                refine c0 rfl (w_v (.os 45 0 out.length) rfl ?_)
                refine c0 rfl (w_b2s (l := out) Go.Proofs.Try.underlying45 Go.Proofs.Try.underlying5 Go.Proofs.Try.underlying9 (Seen.own rfl rfl (by simp) rfl) ?_)
                refine c0 rfl (w_v (.p (sP (strOfNums out))) rfl ?_)
                refine cn ?_
                refine cw_ret ?_
                exact fin1 (sP (strOfNums out)) (sP (sliceT (Sol.mk si sp sk) z lo hi)) rfl (congrArg sP (by rw [ho, show j = (hi.y - lo.y + 1).toNat by omega, sliceT, if_pos ⟨hg, c1⟩] : (strOfNums out) = (sliceT (Sol.mk si sp sk) z lo hi))) rfl
theorem iSlice_fn (si : Bool) (sp : Pl) (sk : List Sol) (z : Int) (lo : Pt) (hi : Pt) : Fn PP 15 [.p (encS (Sol.mk si sp sk)), .p (iP z), .p (encPt lo), .p (encPt hi)] (.p (sP (sliceT (Sol.mk si sp sk) z lo hi))) [] := by
  refine fn_intro tok Go.Proofs.Try.func15 (c := _) rfl rfl (Nat.le_of_ble_eq_true rfl) ?_
  refine cw_seq ?_
  refine cw_reg0 tok rfl rfl ?_
  refine c0 rfl (w_box (g := 0) [BO si, I64 sp.a, I64 sp.b, I64 sp.c, I64 sp.d, .p (.sl 6 (encSs sk))] rfl rfl rfl ?_)
  refine c0 rfl (w_box (g := 0) [I64 lo.x, I64 lo.y, I64 lo.z] rfl rfl rfl ?_)
  refine c0 rfl (w_box (g := 0) [I64 hi.x, I64 hi.y, I64 hi.z] rfl rfl rfl ?_)
  refine c0 rfl (w_v (.p (sP (⟨#[]⟩))) rfl ?_)
  refine cn ?_
  refine cw_seq ?_
  refine cw_reg0 tok rfl rfl ?_
  refine c0 rfl (w_v (I64 z) rfl ?_)
  refine c0 rfl (w_v (I64 z) rfl ?_)
  refine c0 rfl (w_v (.pt 6 0 2) rfl ?_)
  refine c0 rfl (w_st [I64 lo.x, I64 lo.y, I64 z] rfl rfl rfl rfl rfl (Nat.le_of_ble_eq_true rfl) rfl ?_)
  refine c0 rfl (w_v (.pt 7 0 2) rfl ?_)
  refine c0 rfl (w_st [I64 hi.x, I64 hi.y, I64 z] rfl rfl rfl rfl rfl (Nat.le_of_ble_eq_true rfl) rfl ?_)
  refine cn ?_
  refine cw_seq ?_
  refine cw_seq ?_
  refine cw_reg0 tok rfl rfl ?_
  refine c0 rfl (w_v (.p (encPt (Pt.mk lo.x lo.y z))) rfl ?_)
  refine c0 rfl (w_v (.p (encPt (Pt.mk hi.x hi.y z))) rfl ?_)
  refine c0 rfl (w_call_2 (isGrid_fn (Pt.mk lo.x lo.y z) (Pt.mk hi.x hi.y z)) rfl rfl rfl ?_)
  refine c0 rfl (w_v (BO (!(gridB (Pt.mk lo.x lo.y z) (Pt.mk hi.x hi.y z)))) rfl ?_)
  refine c0 rfl (w_v (BO (!(gridB (Pt.mk lo.x lo.y z) (Pt.mk hi.x hi.y z)))) rfl ?_)
  refine cgS (b := !(gridB (Pt.mk lo.x lo.y z) (Pt.mk hi.x hi.y z))) rfl rfl rfl (fun c1 => ?_) (fun c1 => ?_)
  ·
    replace c1 := nt c1
    refine cgF (v := .bool true) rfl rfl rfl rfl ?_
    refine cgF (v := .bool true) rfl rfl rfl rfl ?_
    refine cgF (v := .bool true) rfl rfl rfl rfl ?_
    refine c0 rfl (w_v (BO true) rfl ?_)
    refine cn ?_
    refine cw_cond (t := true) rfl (fun _ => ?_) (fun h => nomatch h)
    refine cw_seq ?_
    refine cw_reg0 tok rfl rfl ?_
    refine c0 rfl (w_v (.p (sP (⟨#[]⟩))) rfl ?_)
    refine cn ?_
    refine cw_ret ?_
    exact fin1 (sP (⟨#[]⟩)) (sP (sliceT (Sol.mk si sp sk) z lo hi)) rfl (congrArg sP (by exact sliceT_no (by first | exact .inl (by assumption) | exact .inr (by assumption)) : (⟨#[]⟩) = (sliceT (Sol.mk si sp sk) z lo hi))) rfl
  ·
    replace c1 := nf c1
    refine cgT rfl rfl rfl (w_v (.p (encS (Sol.mk si sp sk))) rfl ?_)
    refine cgT rfl rfl rfl (w_call_1 (iSolidOk (Sol.mk si sp sk)) rfl rfl ?_)
    refine cgT rfl rfl rfl (w_v (BO (!(sok (Sol.mk si sp sk)))) rfl ?_)
    refine c0 rfl (w_v (BO (!(sok (Sol.mk si sp sk)))) rfl ?_)
    refine cn ?_
    refine cw_cond (t := !(sok (Sol.mk si sp sk))) rfl (fun c2 => ?_) (fun c2 => ?_)
    ·
      replace c2 := nt c2
      refine cw_seq ?_
      refine cw_reg0 tok rfl rfl ?_
      refine c0 rfl (w_v (.p (sP (⟨#[]⟩))) rfl ?_)
      refine cn ?_
      refine cw_ret ?_
      exact fin1 (sP (⟨#[]⟩)) (sP (sliceT (Sol.mk si sp sk) z lo hi)) rfl (congrArg sP (by exact sliceT_no (by first | exact .inl (by assumption) | exact .inr (by assumption)) : (⟨#[]⟩) = (sliceT (Sol.mk si sp sk) z lo hi))) rfl
    ·
      replace c2 := nf c2
      refine cw_skip ?_
      refine cw_seq ?_
      refine cw_own1 rfl (fun E A F a w hI Q => bnew_sound (g := 0) hI (Nat.le_of_ble_eq_true rfl) rfl ?_)
      refine cw_seq ?_
      refine cw_seq ?_
      refine cw_reg0 tok rfl rfl ?_
      have hg : gridZ z lo hi = true := by assumption
      have hsk : sok (Sol.mk si sp sk) = true := by assumption
      have hgz := gridZ_of hg
      refine c0 rfl (w_v (.pt 7 0 1) rfl ?_)
      refine c0 rfl (w_v (I64 hi.y) rfl ?_)
      refine c0 rfl (w_v (I64 hi.y) rfl (cv (by exact congrArg I64 (by omega) : (I64 hi.y : AV) = I64 (hi.y - (0 : Int))) ?_))
      refine cn ?_
      refine cw_block ?_
      refine cw_weak (wk_sealv (t := 4) (g := 0) [bP si, iP sp.a, iP sp.b, iP sp.c, iP sp.d, .sl 6 (encSs sk)] rfl) ?_
      refine cw_loopI (fun nn S => ∃ j : Nat, ∃ out : List Int, (j ≤ (hi.y - lo.y + 1).toNat ∧ out = sliceL (Sol.mk si sp sk) z lo.x hi.y (hi.x - lo.x + 1).toNat j) ∧ nn = (hi.y - lo.y + 1).toNat - j ∧ S = mkS [(1, I64 z), (4, .pt 4 0 0), (6, .pt 6 0 0), (7, .pt 7 0 0), (9, .pt 9 1 0), (10, I64 (hi.y - (j : Int)))] [(4, 0, .var [BO si, I64 sp.a, I64 sp.b, I64 sp.c, I64 sp.d, .p (.sl 6 (encSs sk))] true), (6, 0, .var [I64 lo.x, I64 lo.y, I64 z] false), (7, 0, .var [I64 hi.x, I64 hi.y, I64 z] false), (9, 0, .arr 5 1 (out.map u8P) 0), (9, 1, .bld 89 0 out.length)] [(4, 1), (6, 1), (7, 1), (9, 2)]) ((hi.y - lo.y + 1).toNat - 0) ?_ ?_
      · exact ⟨_, wk_of (tms := [(1, I64 z), (4, .pt 4 0 0), (6, .pt 6 0 0), (7, .pt 7 0 0), (9, .pt 9 1 0), (10, I64 (hi.y - (0 : Int)))]) (bls := [(4, 0, .var [BO si, I64 sp.a, I64 sp.b, I64 sp.c, I64 sp.d, .p (.sl 6 (encSs sk))] true), (6, 0, .var [I64 lo.x, I64 lo.y, I64 z] false), (7, 0, .var [I64 hi.x, I64 hi.y, I64 z] false), (9, 0, .arr 5 1 (([] : List Int).map u8P) 0), (9, 1, .bld 89 0 (([] : List Int).length))]) (gens := [(4, 1), (6, 1), (7, 1), (9, 2)]) ⟨rfl, rfl, rfl, rfl, rfl, rfl, trivial⟩ ⟨rfl, rfl, rfl, rfl, (by first | rfl | exact congrArg (fun x => some (Blk.bld 89 0 x)) (by (try simp) <;> (try omega))), trivial⟩ ⟨rfl, rfl, rfl, rfl, trivial⟩ rfl, 0, ([] : List Int), ⟨by omega, rfl⟩, rfl, rfl⟩
      · rintro nn _ ⟨j, out, ⟨hj, ho⟩, hn1, rfl⟩
        have hol := sliceL_le (Sol.mk si sp sk) z lo.x hi.y (hi.x - lo.x + 1).toNat j (by omega)
        refine cw_seq ?_
        refine cw_seq ?_
        refine cw_reg0 tok rfl rfl ?_
        refine c0 rfl (w_v (I64 (hi.y - (j : Int))) rfl ?_)
        refine c0 rfl (w_v (.pt 6 0 1) rfl ?_)
        refine c0 rfl (w_v (I64 lo.y) rfl ?_)
        refine c0 rfl (w_v (BO (decide (hi.y - (j : Int) ≥ lo.y))) rfl ?_)
        refine cn ?_
        refine cw_cond (t := decide (hi.y - (j : Int) ≥ lo.y)) rfl (fun c3 => ?_) (fun c3 => ?_)
        ·
          replace c3 := of_decide_eq_true c3
          refine cw_skip ?_
          refine cw_seq ?_
          refine cw_block ?_
          refine cw_seq ?_
          refine cw_seq ?_
          refine cw_reg0 tok rfl rfl ?_
          refine c0 rfl (w_v (.pt 6 0 0) rfl ?_)
          refine c0 rfl (w_v (I64 lo.x) rfl ?_)
          refine c0 rfl (w_v (I64 lo.x) rfl (cv (by exact congrArg I64 (by omega) : (I64 lo.x : AV) = I64 (lo.x + (0 : Int))) ?_))
          refine cn ?_
          refine cw_block ?_
          refine cw_loopI (fun nn S => ∃ i : Nat, ∃ o2 : List Int, (i ≤ (hi.x - lo.x + 1).toNat ∧ o2 = out ++ rowC (Sol.mk si sp sk) z (hi.y - (j : Int)) lo.x i) ∧ nn = (hi.x - lo.x + 1).toNat - i ∧ S = mkS [(1, I64 z), (4, .pt 4 0 0), (6, .pt 6 0 0), (7, .pt 7 0 0), (9, .pt 9 1 0), (10, I64 (hi.y - (j : Int))), (11, I64 (lo.x + (i : Int)))] [(4, 0, .var [BO si, I64 sp.a, I64 sp.b, I64 sp.c, I64 sp.d, .p (.sl 6 (encSs sk))] true), (6, 0, .var [I64 lo.x, I64 lo.y, I64 z] false), (7, 0, .var [I64 hi.x, I64 hi.y, I64 z] false), (9, 0, .arr 5 1 (o2.map u8P) 0), (9, 1, .bld 89 0 o2.length)] [(4, 1), (6, 1), (7, 1), (9, 2)]) ((hi.x - lo.x + 1).toNat - 0) ?_ ?_
          · exact ⟨_, wk_of (tms := [(1, I64 z), (4, .pt 4 0 0), (6, .pt 6 0 0), (7, .pt 7 0 0), (9, .pt 9 1 0), (10, I64 (hi.y - (j : Int))), (11, I64 (lo.x + (0 : Int)))]) (bls := [(4, 0, .var [BO si, I64 sp.a, I64 sp.b, I64 sp.c, I64 sp.d, .p (.sl 6 (encSs sk))] true), (6, 0, .var [I64 lo.x, I64 lo.y, I64 z] false), (7, 0, .var [I64 hi.x, I64 hi.y, I64 z] false), (9, 0, .arr 5 1 (out.map u8P) 0), (9, 1, .bld 89 0 out.length)]) (gens := [(4, 1), (6, 1), (7, 1), (9, 2)]) ⟨rfl, rfl, rfl, rfl, rfl, rfl, rfl, trivial⟩ ⟨rfl, rfl, rfl, rfl, (by first | rfl | exact congrArg (fun x => some (Blk.bld 89 0 x)) (by (try simp) <;> (try omega))), trivial⟩ ⟨rfl, rfl, rfl, rfl, trivial⟩ rfl, 0, out, ⟨by omega, by simp [rowC]⟩, rfl, rfl⟩
          · rintro nn _ ⟨i, o2, ⟨hi2, ho2⟩, hn2, rfl⟩
            have hrl : o2.length = out.length + i := by rw [ho2]; simp
            have hol2 : out.length ≤ 17 * j := by rw [ho]; exact hol
            refine cw_seq ?_
            refine cw_seq ?_
            refine cw_reg0 tok rfl rfl ?_
            refine c0 rfl (w_v (I64 (lo.x + (i : Int))) rfl ?_)
            refine c0 rfl (w_v (.pt 7 0 0) rfl ?_)
            refine c0 rfl (w_v (I64 hi.x) rfl ?_)
            refine c0 rfl (w_v (BO (decide (lo.x + (i : Int) ≤ hi.x))) rfl ?_)
            refine cn ?_
            refine cw_cond (t := decide (lo.x + (i : Int) ≤ hi.x)) rfl (fun c4 => ?_) (fun c4 => ?_)
            ·
              replace c4 := of_decide_eq_true c4
              refine cw_skip ?_
              refine cw_seq ?_
              refine cw_block ?_
              refine cw_seq ?_
              refine cw_reg0 tok rfl rfl ?_
              refine c0 rfl (w_v (I64 (lo.x + (i : Int))) rfl ?_)
              refine c0 rfl (w_v (I64 (hi.y - (j : Int))) rfl ?_)
              refine c0 rfl (w_v (I64 z) rfl ?_)
              refine c0 rfl (w_build (.p (encPt (Pt.mk (lo.x + (i : Int)) (hi.y - (j : Int)) z))) rfl rfl rfl rfl ?_)
              refine c0 rfl (w_call (I64 (whrP (Sol.mk si sp sk) (Pt.mk (lo.x + (i : Int)) (hi.y - (j : Int)) z))) (whereOf_fn si sp sk (Pt.mk (lo.x + (i : Int)) (hi.y - (j : Int)) z) hsk (by unfold ptok; simp only; omega)) rfl (.cons _ _ _ _ _ _ _ [] _ (.one _ _ _ _ _ (.ro _ _ _ _ [bP si, iP sp.a, iP sp.b, iP sp.c, iP sp.d, .sl 6 (encSs sk)] _ rfl)) (.cons _ _ _ _ _ _ _ [] _ (.one _ _ _ _ _ (.p _ _)) (.nil _))) rfl (.one _ _ _ _ (.p _ _)) ?_)
              refine cn ?_
              refine cw_block ?_
              refine cw_seq ?_
              refine cw_reg0 tok rfl rfl ?_
              refine c0 rfl (w_eqi (whrP (Sol.mk si sp sk) (Pt.mk (lo.x + (i : Int)) (hi.y - (j : Int)) z)) (1) rfl rfl ?_)
              refine c0 rfl (w_v (BO (decide (whrP (Sol.mk si sp sk) (Pt.mk (lo.x + (i : Int)) (hi.y - (j : Int)) z) = 1))) rfl ?_)
              refine cn ?_
              refine cw_cond (t := decide (whrP (Sol.mk si sp sk) (Pt.mk (lo.x + (i : Int)) (hi.y - (j : Int)) z) = 1)) rfl (fun c5 => ?_) (fun c5 => ?_)
              ·
                replace c5 := of_decide_eq_true c5
                refine cw_own1 rfl (fun E A F a w hI Q => bwrite_sound (l := o2) (n := o2.length) hI (Nat.le_of_ble_eq_true rfl) rfl rfl rfl rfl (by (try simp) <;> omega) ?_)
                refine cw_reg0 tok rfl rfl ?_
                refine c0 rfl (w_v (I64 (lo.x + (i : Int))) rfl ?_)
                refine c0 rfl (w_i ((lo.x + (i : Int)) + 1) rfl (by unfold inI; omega) ?_)
                refine c0 rfl (w_v (I64 ((lo.x + (i : Int)) + 1)) rfl (cv (by exact congrArg I64 (by omega) : (I64 ((lo.x + (i : Int)) + 1) : AV) = I64 (lo.x + ((i + 1) : Int))) ?_))
                refine cn ?_
                exact ⟨_, _, by omega, wk_of (tms := [(1, I64 z), (4, .pt 4 0 0), (6, .pt 6 0 0), (7, .pt 7 0 0), (9, .pt 9 1 0), (10, I64 (hi.y - (j : Int))), (11, I64 (lo.x + ((i + 1) : Int)))]) (bls := [(4, 0, .var [BO si, I64 sp.a, I64 sp.b, I64 sp.c, I64 sp.d, .p (.sl 6 (encSs sk))] true), (6, 0, .var [I64 lo.x, I64 lo.y, I64 z] false), (7, 0, .var [I64 hi.x, I64 hi.y, I64 z] false), (9, 0, .arr 5 1 ((o2 ++ [35]).map u8P) 0), (9, 1, .bld 89 0 ((o2 ++ [35]).length))]) (gens := [(4, 1), (6, 1), (7, 1), (9, 2)]) ⟨rfl, rfl, rfl, rfl, rfl, rfl, rfl, trivial⟩ ⟨rfl, rfl, rfl, rfl, (by first | rfl | exact congrArg (fun x => some (Blk.bld 89 0 x)) (by (try simp) <;> (try omega))), trivial⟩ ⟨rfl, rfl, rfl, rfl, trivial⟩ rfl, (i + 1), (o2 ++ [35]), ⟨by omega, by rw [ho2, ← rowC_su, List.append_assoc]; first | rw [chr_1 (by assumption)] | rw [chr_0 (by assumption) (by assumption)] | rw [chr_n (by assumption) (by assumption)]⟩, rfl, rfl⟩
              ·
                replace c5 := of_decide_eq_false c5
                refine cw_seq ?_
                refine cw_reg0 tok rfl rfl ?_
                refine c0 rfl (w_eqi (whrP (Sol.mk si sp sk) (Pt.mk (lo.x + (i : Int)) (hi.y - (j : Int)) z)) (0) rfl rfl ?_)
                refine c0 rfl (w_v (BO (decide (whrP (Sol.mk si sp sk) (Pt.mk (lo.x + (i : Int)) (hi.y - (j : Int)) z) = 0))) rfl ?_)
                refine cn ?_
                refine cw_cond (t := decide (whrP (Sol.mk si sp sk) (Pt.mk (lo.x + (i : Int)) (hi.y - (j : Int)) z) = 0)) rfl (fun c6 => ?_) (fun c6 => ?_)
                ·
                  replace c6 := of_decide_eq_true c6
                  refine cw_own1 rfl (fun E A F a w hI Q => bwrite_sound (l := o2) (n := o2.length) hI (Nat.le_of_ble_eq_true rfl) rfl rfl rfl rfl (by (try simp) <;> omega) ?_)
                  refine cw_reg0 tok rfl rfl ?_
                  refine c0 rfl (w_v (I64 (lo.x + (i : Int))) rfl ?_)
                  refine c0 rfl (w_i ((lo.x + (i : Int)) + 1) rfl (by unfold inI; omega) ?_)
                  refine c0 rfl (w_v (I64 ((lo.x + (i : Int)) + 1)) rfl (cv (by exact congrArg I64 (by omega) : (I64 ((lo.x + (i : Int)) + 1) : AV) = I64 (lo.x + ((i + 1) : Int))) ?_))
                  refine cn ?_
                  exact ⟨_, _, by omega, wk_of (tms := [(1, I64 z), (4, .pt 4 0 0), (6, .pt 6 0 0), (7, .pt 7 0 0), (9, .pt 9 1 0), (10, I64 (hi.y - (j : Int))), (11, I64 (lo.x + ((i + 1) : Int)))]) (bls := [(4, 0, .var [BO si, I64 sp.a, I64 sp.b, I64 sp.c, I64 sp.d, .p (.sl 6 (encSs sk))] true), (6, 0, .var [I64 lo.x, I64 lo.y, I64 z] false), (7, 0, .var [I64 hi.x, I64 hi.y, I64 z] false), (9, 0, .arr 5 1 ((o2 ++ [43]).map u8P) 0), (9, 1, .bld 89 0 ((o2 ++ [43]).length))]) (gens := [(4, 1), (6, 1), (7, 1), (9, 2)]) ⟨rfl, rfl, rfl, rfl, rfl, rfl, rfl, trivial⟩ ⟨rfl, rfl, rfl, rfl, (by first | rfl | exact congrArg (fun x => some (Blk.bld 89 0 x)) (by (try simp) <;> (try omega))), trivial⟩ ⟨rfl, rfl, rfl, rfl, trivial⟩ rfl, (i + 1), (o2 ++ [43]), ⟨by omega, by rw [ho2, ← rowC_su, List.append_assoc]; first | rw [chr_1 (by assumption)] | rw [chr_0 (by assumption) (by assumption)] | rw [chr_n (by assumption) (by assumption)]⟩, rfl, rfl⟩
                ·
                  replace c6 := of_decide_eq_false c6
                  refine cw_own1 rfl (fun E A F a w hI Q => bwrite_sound (l := o2) (n := o2.length) hI (Nat.le_of_ble_eq_true rfl) rfl rfl rfl rfl (by (try simp) <;> omega) ?_)
                  refine cw_reg0 tok rfl rfl ?_
                  refine c0 rfl (w_v (I64 (lo.x + (i : Int))) rfl ?_)
                  refine c0 rfl (w_i ((lo.x + (i : Int)) + 1) rfl (by unfold inI; omega) ?_)
                  refine c0 rfl (w_v (I64 ((lo.x + (i : Int)) + 1)) rfl (cv (by exact congrArg I64 (by omega) : (I64 ((lo.x + (i : Int)) + 1) : AV) = I64 (lo.x + ((i + 1) : Int))) ?_))
                  refine cn ?_
                  exact ⟨_, _, by omega, wk_of (tms := [(1, I64 z), (4, .pt 4 0 0), (6, .pt 6 0 0), (7, .pt 7 0 0), (9, .pt 9 1 0), (10, I64 (hi.y - (j : Int))), (11, I64 (lo.x + ((i + 1) : Int)))]) (bls := [(4, 0, .var [BO si, I64 sp.a, I64 sp.b, I64 sp.c, I64 sp.d, .p (.sl 6 (encSs sk))] true), (6, 0, .var [I64 lo.x, I64 lo.y, I64 z] false), (7, 0, .var [I64 hi.x, I64 hi.y, I64 z] false), (9, 0, .arr 5 1 ((o2 ++ [46]).map u8P) 0), (9, 1, .bld 89 0 ((o2 ++ [46]).length))]) (gens := [(4, 1), (6, 1), (7, 1), (9, 2)]) ⟨rfl, rfl, rfl, rfl, rfl, rfl, rfl, trivial⟩ ⟨rfl, rfl, rfl, rfl, (by first | rfl | exact congrArg (fun x => some (Blk.bld 89 0 x)) (by (try simp) <;> (try omega))), trivial⟩ ⟨rfl, rfl, rfl, rfl, trivial⟩ rfl, (i + 1), (o2 ++ [46]), ⟨by omega, by rw [ho2, ← rowC_su, List.append_assoc]; first | rw [chr_1 (by assumption)] | rw [chr_0 (by assumption) (by assumption)] | rw [chr_n (by assumption) (by assumption)]⟩, rfl, rfl⟩
            ·
              replace c4 := of_decide_eq_false c4
              refine cw_exit ?_
              refine cw_own1 rfl (fun E A F a w hI Q => bwrite_sound (l := o2) (n := o2.length) hI (Nat.le_of_ble_eq_true rfl) rfl rfl rfl rfl (by (try simp) <;> omega) ?_)
              refine cw_reg0 tok rfl rfl ?_
              refine c0 rfl (w_v (I64 (hi.y - (j : Int))) rfl ?_)
              refine c0 rfl (w_i ((hi.y - (j : Int)) - 1) rfl (by unfold inI; omega) ?_)
              refine c0 rfl (w_v (I64 ((hi.y - (j : Int)) - 1)) rfl (cv (by exact congrArg I64 (by omega) : (I64 ((hi.y - (j : Int)) - 1) : AV) = I64 (hi.y - ((j + 1) : Int))) ?_))
              refine cn ?_
              exact ⟨_, _, by omega, wk_of (tms := [(1, I64 z), (4, .pt 4 0 0), (6, .pt 6 0 0), (7, .pt 7 0 0), (9, .pt 9 1 0), (10, I64 (hi.y - ((j + 1) : Int)))]) (bls := [(4, 0, .var [BO si, I64 sp.a, I64 sp.b, I64 sp.c, I64 sp.d, .p (.sl 6 (encSs sk))] true), (6, 0, .var [I64 lo.x, I64 lo.y, I64 z] false), (7, 0, .var [I64 hi.x, I64 hi.y, I64 z] false), (9, 0, .arr 5 1 ((o2 ++ [10]).map u8P) 0), (9, 1, .bld 89 0 ((o2 ++ [10]).length))]) (gens := [(4, 1), (6, 1), (7, 1), (9, 2)]) ⟨rfl, rfl, rfl, rfl, rfl, rfl, trivial⟩ ⟨rfl, rfl, rfl, rfl, (by first | rfl | exact congrArg (fun x => some (Blk.bld 89 0 x)) (by (try simp) <;> (try omega))), trivial⟩ ⟨rfl, rfl, rfl, rfl, trivial⟩ rfl, (j + 1), (o2 ++ [10]), ⟨by omega, by rw [ho2, ho, show i = (hi.x - lo.x + 1).toNat by omega, List.append_assoc]; exact sliceL_su _ _ _ _ _ _⟩, rfl, rfl⟩
        ·
          replace c3 := of_decide_eq_false c3
          refine cw_exit ?_
          refine cw_seq ?_
          have hoo : out = sliceL (Sol.mk si sp sk) z lo.x hi.y (hi.x - lo.x + 1).toNat (hi.y - lo.y + 1).toNat := by rw [ho, show j = (hi.y - lo.y + 1).toNat by omega]
          refine cw_own2 tok rfl rfl (fun t ht => by cases ht; exact Nat.le_of_ble_eq_true rfl) (fun E A F a w hI Q => bstring_sound (l := out) (n := out.length) hI (Nat.le_of_ble_eq_true rfl) rfl rfl rfl rfl (by rw [hoo]; exact sliceL_ne (by omega)) (by rw [hoo]; exact sliceL_u8 _ _ _ _ _ _) rfl) ?_
          refine w_v (.p (sP (strOfNums out))) rfl ?_
          refine cw_ret ?_
          exact fin1 (sP (strOfNums out)) (sP (sliceT (Sol.mk si sp sk) z lo hi)) rfl (congrArg sP (by rw [hoo, sliceT, if_pos ⟨hg, hsk⟩] : (strOfNums out) = (sliceT (Sol.mk si sp sk) z lo hi))) rfl
theorem sSlice (s : Sol) (z : Int) (lo hi : Pt) (hf : fits s) : Fn PP 12 [.p (encS s), .p (iP z), .p (encPt lo), .p (encPt hi)] (.p (sP (sliceT s z lo hi))) [] := by
  cases s; exact sSlice_fn _ _ _ _ _ _ hf
theorem iSlice (s : Sol) (z : Int) (lo hi : Pt) : Fn PP 15 [.p (encS s), .p (iP z), .p (encPt lo), .p (encPt hi)] (.p (sP (sliceT s z lo hi))) [] := by
  cases s; exact iSlice_fn _ _ _ _ _ _
theorem toPt_fn (a : Pt) : Fn PP 14 [.p (encPt a)] (.p (encPt a)) [] := by
  refine fn_intro tok Go.Proofs.Try.func14 (c := _) rfl rfl (Nat.le_of_ble_eq_true rfl) ?_
  refine cw_seq ?_
  refine cw_reg0 tok rfl rfl ?_
  refine c0 rfl (w_box (g := 0) [I64 a.x, I64 a.y, I64 a.z] rfl rfl rfl ?_)
  refine c0 rfl (w_alloc (g := 0) [I64 0, I64 0, I64 0] rfl rfl rfl ?_)
  refine cn ?_
  refine cw_seq ?_
  refine cw_reg0 tok rfl rfl ?_
  refine c0 rfl (w_alloc (g := 0) [I64 0, I64 0, I64 0] rfl rfl rfl ?_)
  refine cn ?_
  refine cw_seq ?_
  refine cw_reg0 tok rfl rfl ?_
  refine c0 rfl (w_v (.pt 1 0 0) rfl ?_)
  refine c0 rfl (w_v (I64 a.x) rfl ?_)
  refine c0 rfl (w_v (.pt 3 0 0) rfl ?_)
  refine c0 rfl (w_st [I64 a.x, I64 0, I64 0] rfl rfl rfl rfl rfl (Nat.le_of_ble_eq_true rfl) rfl ?_)
  refine cn ?_
  refine cw_seq ?_
  refine cw_reg0 tok rfl rfl ?_
  refine c0 rfl (w_v (.pt 1 0 1) rfl ?_)
  refine c0 rfl (w_v (I64 a.y) rfl ?_)
  refine c0 rfl (w_v (.pt 3 0 1) rfl ?_)
  refine c0 rfl (w_st [I64 a.x, I64 a.y, I64 0] rfl rfl rfl rfl rfl (Nat.le_of_ble_eq_true rfl) rfl ?_)
  refine cn ?_
  refine cw_seq ?_
  refine cw_reg0 tok rfl rfl ?_
  refine c0 rfl (w_v (.pt 1 0 2) rfl ?_)
  refine c0 rfl (w_v (I64 a.z) rfl ?_)
  refine c0 rfl (w_v (.pt 3 0 2) rfl ?_)
  refine c0 rfl (w_st [I64 a.x, I64 a.y, I64 a.z] rfl rfl rfl rfl rfl (Nat.le_of_ble_eq_true rfl) rfl ?_)
  refine cn ?_
  refine cw_seq ?_
  refine cw_reg0 tok rfl rfl ?_
  refine c0 rfl (w_v (.p (encPt a)) rfl ?_)
  refine c0 rfl (w_st [I64 a.x, I64 a.y, I64 a.z] rfl rfl rfl rfl rfl (Nat.le_of_ble_eq_true rfl) rfl ?_)
  refine cn ?_
  refine cw_ret ?_
  exact fin1 (encPt a) (encPt a) rfl (congrArg encPt (by first | rfl | simp_all : a = a)) rfl
theorem xSlice_fn (si : Bool) (sp : Pl) (sk : List Sol) (z : Int) (lo : Pt) (hi : Pt) (hlen : lens (Sol.mk si sp sk)) : Fn PP 3 [.p (encS (Sol.mk si sp sk)), .p (iP z), .p (encPt lo), .p (encPt hi)] (.p (bP true)) [] := by
  refine fn_intro tok Go.Proofs.Try.func3 (c := _) rfl rfl (Nat.le_of_ble_eq_true rfl) ?_
  refine cw_seq ?_
  refine cw_reg0 tok rfl rfl ?_
  refine c0 rfl (w_box (g := 0) [BO si, I64 sp.a, I64 sp.b, I64 sp.c, I64 sp.d, .p (.sl 6 (encSs sk))] rfl rfl rfl ?_)
  refine c0 rfl (w_box (g := 0) [I64 lo.x, I64 lo.y, I64 lo.z] rfl rfl rfl ?_)
  refine c0 rfl (w_box (g := 0) [I64 hi.x, I64 hi.y, I64 hi.z] rfl rfl rfl ?_)
  refine c0 rfl (w_v (BO false) rfl ?_)
  refine cn ?_
  refine cw_seq ?_
  refine cw_reg0 tok rfl rfl ?_
  refine c0 rfl (w_v (I64 1048576) rfl ?_)
  refine cn ?_
  refine cw_seq ?_
  refine cw_reg0 tok rfl rfl ?_
  refine c0 rfl (w_v (.p (encS (Sol.mk si sp sk))) rfl ?_)
  refine c0 rfl (w_v (I64 1048576) rfl ?_)
  refine c0 rfl (w_call_2 (szSolid_rec (Sol.mk si sp sk) 1048576 ⟨by omega, by omega⟩ hlen) rfl rfl rfl ?_)
  refine c0 rfl (w_v (I64 (szT (Sol.mk si sp sk) 1048576)) rfl ?_)
  refine cn ?_
  refine cw_seq ?_
  refine cw_seq ?_
  refine cw_reg0 tok rfl rfl ?_
  refine c0 rfl (w_v (I64 (szT (Sol.mk si sp sk) 1048576)) rfl ?_)
  refine c0 rfl (w_v (BO (decide (szT (Sol.mk si sp sk) 1048576 < 0))) rfl ?_)
  refine cn ?_
  refine cw_cond (t := decide (szT (Sol.mk si sp sk) 1048576 < 0)) rfl (fun c1 => ?_) (fun c1 => ?_)
  ·
    replace c1 := of_decide_eq_true c1
    refine cw_seq ?_
    refine cw_reg0 tok rfl rfl ?_
    refine c0 rfl (w_v (BO true) rfl ?_)
    refine cn ?_
    refine cw_ret ?_
    exact fin1 (bP true) (bP true) rfl (congrArg bP (by first | rfl | (exfalso; simp_all [eqS_refl]) : true = true)) rfl
  ·
    replace c1 := of_decide_eq_false c1
    refine cw_skip ?_
    refine cw_seq ?_
    refine cw_reg1 tok mixed rfl rfl ?_
    have hfit := szT_fits (Sol.mk si sp sk) 1048576 (by omega) (by omega) (by omega)
    refine c0 rfl (w_v (.p (encS (Sol.mk si sp sk))) rfl ?_)
    refine c0 rfl (w_call_1 (toSolid_rec (Sol.mk si sp sk) hfit) rfl rfl ?_)
    refine c0 rfl (w_v (I64 z) rfl ?_)
    refine c0 rfl (w_v (.p (encPt lo)) rfl ?_)
    refine c0 rfl (w_call_1 (toPt_fn lo) rfl rfl ?_)
    refine c0 rfl (w_v (.p (encPt hi)) rfl ?_)
    refine c0 rfl (w_call_1 (toPt_fn hi) rfl rfl ?_)
    refine c0 rfl (w_call_4 (sSlice (Sol.mk si sp sk) z lo hi hfit) rfl rfl rfl rfl rfl ?_)
    refine c0 rfl (w_v (.p (sP (sliceT (Sol.mk si sp sk) z lo hi))) rfl ?_)
    refine cn ⟨by kernel_rfl, ?_⟩
    refine cw_seq ?_
    refine cw_reg0 tok rfl rfl ?_
    refine c0 rfl (w_v (.p (encS (Sol.mk si sp sk))) rfl ?_)
    refine c0 rfl (w_call_1 (toSolid_rec (Sol.mk si sp sk) hfit) rfl rfl ?_)
    refine c0 rfl (w_alloc (g := 0) [BO false, I64 0, I64 0, I64 0, I64 0, .p (.lit nilSl)] rfl rfl rfl ?_)
    refine c0 rfl (w_st [BO si, I64 sp.a, I64 sp.b, I64 sp.c, I64 sp.d, .p (.sl 6 (encSs sk))] rfl rfl rfl rfl rfl (Nat.le_of_ble_eq_true rfl) rfl ?_)
    refine cn ?_
    refine cw_seq ?_
    refine cw_reg1 tok mixed rfl rfl ?_
    refine c0 rfl (w_v (.p (encS (Sol.mk si sp sk))) rfl ?_)
    refine c0 rfl (w_v (I64 z) rfl ?_)
    refine c0 rfl (w_v (.p (encPt lo)) rfl ?_)
    refine c0 rfl (w_call_1 (toPt_fn lo) rfl rfl ?_)
    refine c0 rfl (w_v (.p (encPt hi)) rfl ?_)
    refine c0 rfl (w_call_1 (toPt_fn hi) rfl rfl ?_)
    refine c0 rfl (w_call_4 (iSlice (Sol.mk si sp sk) z lo hi) rfl rfl rfl rfl rfl ?_)
    refine c0 rfl (w_v (.p (sP (sliceT (Sol.mk si sp sk) z lo hi))) rfl ?_)
    refine cn ⟨by kernel_rfl, ?_⟩
    refine cw_seq ?_
    refine cw_seq ?_
    refine cw_reg0 tok rfl rfl ?_
    refine c0 rfl (w_v (.p (sP (sliceT (Sol.mk si sp sk) z lo hi))) rfl ?_)
    refine c0 rfl (w_v (.p (sP (sliceT (Sol.mk si sp sk) z lo hi))) rfl ?_)
    refine c0 rfl (w_v (BO (!((sliceT (Sol.mk si sp sk) z lo hi).toList == (sliceT (Sol.mk si sp sk) z lo hi).toList))) rfl ?_)
    refine cn ?_
    refine cw_cond (t := !((sliceT (Sol.mk si sp sk) z lo hi).toList == (sliceT (Sol.mk si sp sk) z lo hi).toList)) rfl (fun c2 => ?_) (fun c2 => ?_)
    ·
      replace c2 := nt c2
      refine cw_seq ?_
      refine cw_reg0 tok rfl rfl ?_
      refine c0 rfl (w_v (BO false) rfl ?_)
      refine cn ?_
      refine cw_ret ?_
      exact fin1 (bP false) (bP true) rfl (congrArg bP (by first | rfl | (exfalso; simp_all [eqS_refl]) : false = true)) rfl
    ·
      replace c2 := nf c2
      refine cw_skip ?_
      refine cw_seq ?_
      refine cw_seq ?_
      refine cw_reg1 tok mixed rfl rfl ?_
      refine c0 rfl (w_v (.p (encS (Sol.mk si sp sk))) rfl ?_)
      refine c0 rfl (w_v (.p (encS (Sol.mk si sp sk))) rfl ?_)
      refine c0 rfl (w_call_1 (toSolid_rec (Sol.mk si sp sk) hfit) rfl rfl ?_)
      refine c0 rfl (w_call_2 (eqSolid_rec (Sol.mk si sp sk) (Sol.mk si sp sk) hlen) rfl rfl rfl ?_)
      refine c0 rfl (w_v (BO (!(eqS (Sol.mk si sp sk) (Sol.mk si sp sk)))) rfl ?_)
      refine cn ⟨by kernel_rfl, ?_⟩
      refine cw_cond (t := !(eqS (Sol.mk si sp sk) (Sol.mk si sp sk))) rfl (fun c3 => ?_) (fun c3 => ?_)
      ·
        replace c3 := nt c3
        refine cw_seq ?_
        refine cw_reg0 tok rfl rfl ?_
        refine c0 rfl (w_v (BO false) rfl ?_)
        refine cn ?_
        refine cw_ret ?_
        exact fin1 (bP false) (bP true) rfl (congrArg bP (by first | rfl | (exfalso; simp_all [eqS_refl]) : false = true)) rfl
      ·
        replace c3 := nf c3
        refine cw_skip ?_
        refine cw_seq ?_
        refine cw_reg0 tok rfl rfl ?_
        refine c0 rfl (w_v (BO true) rfl ?_)
        refine cn ?_
        refine cw_ret ?_
        exact fin1 (bP true) (bP true) rfl (congrArg bP (by first | rfl | (exfalso; simp_all [eqS_refl]) : true = true)) rfl
theorem xSlice (s : Sol) (z : Int) (lo hi : Pt) (h : lens s) : Fn PP 3 [.p (encS s), .p (iP z), .p (encPt lo), .p (encPt hi)] (.p (bP true)) [] := by
  cases s; exact xSlice_fn _ _ _ _ _ _ h
end Go.Proofs.Ytablmbhnimnccaa.Pw
