/- A part of that proof: contracts of the functions that are called, one theorem a function. No condition. -/
import Derived.Test.YtablmbhnimnccaaZqF3
set_option maxRecDepth 20000
set_option maxHeartbeats 4000000
namespace Go.Proofs.Ytablmbhnimnccaa.Pw
theorem sclash3_fn (p : Pl) (q : Pl) (r : Pl) (hp : okc p) (hq : okc q) (hr : okc r) : Fn PP 188 [.p (encP p), .p (encP q), .p (encP r)] (.p (bP (clash3 p q r))) [] := by
  have x1 := smCross (smN hq) (smN hr); have x2 := smCross (smN hr) (smN hp); have x3 := smCross (smN hp) (smN hq)
  have k1 := hp.2.2.2; have k2 := hq.2.2.2; have k3 := hr.2.2.2
  refine fn_intro tok Go.Proofs.Try.func188 (c := _) rfl rfl (Nat.le_of_ble_eq_true rfl) ?_
  refine cw_seq ?_
  refine cw_reg0 tok rfl rfl ?_
  refine c0 rfl (w_box (g := 0) [I64 p.a, I64 p.b, I64 p.c, I64 p.d] rfl rfl rfl ?_)
  refine c0 rfl (w_box (g := 0) [I64 q.a, I64 q.b, I64 q.c, I64 q.d] rfl rfl rfl ?_)
  refine c0 rfl (w_box (g := 0) [I64 r.a, I64 r.b, I64 r.c, I64 r.d] rfl rfl rfl ?_)
  refine c0 rfl (w_v (BO false) rfl ?_)
  refine cn ?_
  refine cw_seq ?_
  refine cw_seq ?_
  refine cw_reg0 tok rfl rfl ?_
  refine c0 rfl (w_v (.p (encP p)) rfl ?_)
  refine c0 rfl (w_v (.p (encP q)) rfl ?_)
  refine c0 rfl (w_v (.p (encP r)) rfl ?_)
  refine c0 rfl (w_call_3 (sdet3_fn p q r (by first | assumption | omega) (by first | assumption | omega) (by first | assumption | omega)) rfl rfl rfl rfl ?_)
  refine c0 rfl (w_nei (det3 p q r) (0) rfl rfl ?_)
  refine cn ?_
  refine cw_cond (t := decide (det3 p q r ≠ 0)) rfl (fun c1 => ?_) (fun c1 => ?_)
  ·
    replace c1 := of_decide_eq_true c1
    refine cw_seq ?_
    refine cw_reg0 tok rfl rfl ?_
    refine c0 rfl (w_v (BO false) rfl ?_)
    refine cn ?_
    refine cw_ret ?_
    exact fin1 (bP false) (bP (clash3 p q r)) rfl (congrArg bP (by first | exact clash3_no (by assumption) | exact c3_n (by assumption) (by omega) (by omega) (by omega) : false = (clash3 p q r))) rfl
  ·
    replace c1 := of_decide_eq_false c1
    refine cw_skip ?_
    refine cw_seq ?_
    refine cw_reg0 tok rfl rfl ?_
    refine c0 rfl (w_v (.p (encP q)) rfl ?_)
    refine c0 rfl (w_v (.p (encP r)) rfl ?_)
    refine c0 rfl (w_call_2 (l4Cross_fn q r (by first | assumption | omega) (by first | assumption | omega)) rfl rfl rfl ?_)
    refine c0 rfl (w_alloc (g := 0) [I64 0, I64 0, I64 0] rfl rfl rfl ?_)
    refine c0 rfl (w_st [I64 ((cross (nrm q) (nrm r)).a), I64 ((cross (nrm q) (nrm r)).b), I64 ((cross (nrm q) (nrm r)).c)] rfl rfl rfl rfl rfl (Nat.le_of_ble_eq_true rfl) rfl ?_)
    refine cn ?_
    refine cw_seq ?_
    refine cw_reg0 tok rfl rfl ?_
    refine c0 rfl (w_v (.p (encP r)) rfl ?_)
    refine c0 rfl (w_v (.p (encP p)) rfl ?_)
    refine c0 rfl (w_call_2 (l4Cross_fn r p (by first | assumption | omega) (by first | assumption | omega)) rfl rfl rfl ?_)
    refine c0 rfl (w_alloc (g := 0) [I64 0, I64 0, I64 0] rfl rfl rfl ?_)
    refine c0 rfl (w_st [I64 ((cross (nrm r) (nrm p)).a), I64 ((cross (nrm r) (nrm p)).b), I64 ((cross (nrm r) (nrm p)).c)] rfl rfl rfl rfl rfl (Nat.le_of_ble_eq_true rfl) rfl ?_)
    refine cn ?_
    refine cw_seq ?_
    refine cw_reg0 tok rfl rfl ?_
    refine c0 rfl (w_v (.p (encP p)) rfl ?_)
    refine c0 rfl (w_v (.p (encP q)) rfl ?_)
    refine c0 rfl (w_call_2 (l4Cross_fn p q (by first | assumption | omega) (by first | assumption | omega)) rfl rfl rfl ?_)
    refine c0 rfl (w_alloc (g := 0) [I64 0, I64 0, I64 0] rfl rfl rfl ?_)
    refine c0 rfl (w_st [I64 ((cross (nrm p) (nrm q)).a), I64 ((cross (nrm p) (nrm q)).b), I64 ((cross (nrm p) (nrm q)).c)] rfl rfl rfl rfl rfl (Nat.le_of_ble_eq_true rfl) rfl ?_)
    refine cn ?_
    refine cw_seq ?_
    refine cw_seq ?_
    refine cw_reg0 tok rfl rfl ?_
    refine c0 rfl (w_v (I64 0) rfl ?_)
    refine cn ?_
    refine cw_block ?_
    refine cw_loopU ?_
    refine cwl_step ?_
    refine cw_seq ?_
    refine cw_seq ?_
    refine cw_reg0 tok rfl rfl ?_
    refine c0 rfl (w_v (I64 0) rfl ?_)
    refine c0 rfl (w_v (BO true) rfl ?_)
    refine cn ?_
    refine cw_cond (t := true) rfl (fun _ => ?_) (fun h => nomatch h)
    refine cw_skip ?_
    refine cw_seq ?_
    refine cw_block ?_
    refine cw_seq ?_
    refine cw_reg0 tok rfl rfl ?_
    refine c0 rfl (w_v (I64 0) rfl ?_)
    refine c0 rfl (w_v (.pt 7 0 0) rfl ?_)
    refine c0 rfl (w_v (I64 ((cross (nrm q) (nrm r)).a)) rfl ?_)
    refine c0 rfl (w_nei ((cross (nrm q) (nrm r)).a) (0) rfl rfl ?_)
    refine c0 rfl (w_v (BO (decide ((cross (nrm q) (nrm r)).a ≠ 0))) rfl ?_)
    refine cgS (b := decide ((cross (nrm q) (nrm r)).a ≠ 0)) rfl rfl rfl (fun c2 => ?_) (fun c2 => ?_)
    ·
      replace c2 := of_decide_eq_true c2
      refine cgF (v := .bool true) rfl rfl rfl rfl ?_
      refine cgF (v := .bool true) rfl rfl rfl rfl ?_
      refine cgF (v := .bool true) rfl rfl rfl rfl ?_
      refine cgF (v := .bool true) rfl rfl rfl rfl ?_
      refine c0 rfl (w_v (BO true) rfl ?_)
      refine c0 rfl (w_v (BO true) rfl ?_)
      refine cgF (v := .bool true) rfl rfl rfl rfl ?_
      refine cgF (v := .bool true) rfl rfl rfl rfl ?_
      refine cgF (v := .bool true) rfl rfl rfl rfl ?_
      refine cgF (v := .bool true) rfl rfl rfl rfl ?_
      refine c0 rfl (w_v (BO true) rfl ?_)
      refine cn ?_
      refine cw_cond (t := true) rfl (fun _ => ?_) (fun h => nomatch h)
      refine cw_seq ?_
      refine cw_reg1 tok mixed rfl rfl ?_
      refine c0 rfl (w_v (I64 0) rfl ?_)
      refine c0 rfl (w_v (.pt 7 0 0) rfl ?_)
      refine c0 rfl (w_v (I64 ((cross (nrm q) (nrm r)).a)) rfl ?_)
      refine c0 rfl (w_v (I64 0) rfl ?_)
      refine c0 rfl (w_v (.pt 8 0 0) rfl ?_)
      refine c0 rfl (w_v (I64 ((cross (nrm r) (nrm p)).a)) rfl ?_)
      refine c0 rfl (w_v (I64 0) rfl ?_)
      refine c0 rfl (w_v (.pt 9 0 0) rfl ?_)
      refine c0 rfl (w_v (I64 ((cross (nrm p) (nrm q)).a)) rfl ?_)
      refine c0 rfl (w_bsl (g := 0) [iP ((cross (nrm q) (nrm r)).a), iP ((cross (nrm r) (nrm p)).a), iP ((cross (nrm p) (nrm q)).a)] rfl rfl rfl rfl (Nat.le_of_ble_eq_true rfl) (Nat.le_of_ble_eq_true rfl) (Nat.le_of_ble_eq_true rfl) (.cons _ _ _ _ _ _ _ [] [] (.one _ _ _ _ _ (.p _ _)) (.cons _ _ _ _ _ _ _ [] [] (.one _ _ _ _ _ (.p _ _)) (.cons _ _ _ _ _ _ _ [] [] (.one _ _ _ _ _ (.p _ _)) (.nil _)))) rfl rfl ?_)
      refine c0 rfl (w_v (.pt 3 0 3) rfl ?_)
      refine c0 rfl (w_v (I64 p.d) rfl ?_)
      refine c0 rfl (w_v (.pt 4 0 3) rfl ?_)
      refine c0 rfl (w_v (I64 q.d) rfl ?_)
      refine c0 rfl (w_v (.pt 5 0 3) rfl ?_)
      refine c0 rfl (w_v (I64 r.d) rfl ?_)
      refine c0 rfl (w_bsl (g := 0) [iP p.d, iP q.d, iP r.d] rfl rfl rfl rfl (Nat.le_of_ble_eq_true rfl) (Nat.le_of_ble_eq_true rfl) (Nat.le_of_ble_eq_true rfl) (.cons _ _ _ _ _ _ _ [] [] (.one _ _ _ _ _ (.p _ _)) (.cons _ _ _ _ _ _ _ [] [] (.one _ _ _ _ _ (.p _ _)) (.cons _ _ _ _ _ _ _ [] [] (.one _ _ _ _ _ (.p _ _)) (.nil _)))) rfl rfl ?_)
      refine c0 rfl (w_call (BO (sumB ([(cross (nrm q) (nrm r)).a, (cross (nrm r) (nrm p)).a, (cross (nrm p) (nrm q)).a]) ([p.d, q.d, r.d]))) (l6Sum_fn ([(cross (nrm q) (nrm r)).a, (cross (nrm r) (nrm p)).a, (cross (nrm p) (nrm q)).a]) ([p.d, q.d, r.d]) (by unfold sm at x1 x2 x3; simp; omega) (by simp; omega) (by simp) (by simp)) rfl (.cons _ _ _ _ _ _ _ [] _ (.one _ _ _ _ _ (passOs (xs := ([(cross (nrm q) (nrm r)).a, (cross (nrm r) (nrm p)).a, (cross (nrm p) (nrm q)).a]).map iP) rfl rfl)) (.cons _ _ _ _ _ _ _ [] _ (.one _ _ _ _ _ (passOs (xs := ([p.d, q.d, r.d]).map iP) rfl rfl)) (.nil _))) rfl (.one _ _ _ _ (.p _ _)) ?_)
      refine c0 rfl (w_v (BO (sumB ([(cross (nrm q) (nrm r)).a, (cross (nrm r) (nrm p)).a, (cross (nrm p) (nrm q)).a]) ([p.d, q.d, r.d]))) rfl ?_)
      refine cn ⟨by kernel_rfl, ?_⟩
      refine cw_ret ?_
      exact fin1 (bP (sumB ([(cross (nrm q) (nrm r)).a, (cross (nrm r) (nrm p)).a, (cross (nrm p) (nrm q)).a]) ([p.d, q.d, r.d]))) (bP (clash3 p q r)) rfl (congrArg bP (by exact c3_a (by assumption) (by omega) : (sumB ([(cross (nrm q) (nrm r)).a, (cross (nrm r) (nrm p)).a, (cross (nrm p) (nrm q)).a]) ([p.d, q.d, r.d])) = (clash3 p q r))) rfl
    ·
      replace c2 := of_decide_eq_false c2
      refine cgT rfl rfl rfl (w_v (I64 0) rfl ?_)
      refine cgT rfl rfl rfl (w_v (.pt 8 0 0) rfl ?_)
      refine cgT rfl rfl rfl (w_v (I64 ((cross (nrm r) (nrm p)).a)) rfl ?_)
      refine cgT rfl rfl rfl (w_nei ((cross (nrm r) (nrm p)).a) (0) rfl rfl ?_)
      refine c0 rfl (w_v (BO (decide ((cross (nrm r) (nrm p)).a ≠ 0))) rfl ?_)
      refine c0 rfl (w_v (BO (decide ((cross (nrm r) (nrm p)).a ≠ 0))) rfl ?_)
      refine cgS (b := decide ((cross (nrm r) (nrm p)).a ≠ 0)) rfl rfl rfl (fun c3 => ?_) (fun c3 => ?_)
      ·
        replace c3 := of_decide_eq_true c3
        refine cgF (v := .bool true) rfl rfl rfl rfl ?_
        refine cgF (v := .bool true) rfl rfl rfl rfl ?_
        refine cgF (v := .bool true) rfl rfl rfl rfl ?_
        refine cgF (v := .bool true) rfl rfl rfl rfl ?_
        refine c0 rfl (w_v (BO true) rfl ?_)
        refine cn ?_
        refine cw_cond (t := true) rfl (fun _ => ?_) (fun h => nomatch h)
        refine cw_seq ?_
        refine cw_reg1 tok mixed rfl rfl ?_
        refine c0 rfl (w_v (I64 0) rfl ?_)
        refine c0 rfl (w_v (.pt 7 0 0) rfl ?_)
        refine c0 rfl (w_v (I64 ((cross (nrm q) (nrm r)).a)) rfl ?_)
        refine c0 rfl (w_v (I64 0) rfl ?_)
        refine c0 rfl (w_v (.pt 8 0 0) rfl ?_)
        refine c0 rfl (w_v (I64 ((cross (nrm r) (nrm p)).a)) rfl ?_)
        refine c0 rfl (w_v (I64 0) rfl ?_)
        refine c0 rfl (w_v (.pt 9 0 0) rfl ?_)
        refine c0 rfl (w_v (I64 ((cross (nrm p) (nrm q)).a)) rfl ?_)
        refine c0 rfl (w_bsl (g := 0) [iP ((cross (nrm q) (nrm r)).a), iP ((cross (nrm r) (nrm p)).a), iP ((cross (nrm p) (nrm q)).a)] rfl rfl rfl rfl (Nat.le_of_ble_eq_true rfl) (Nat.le_of_ble_eq_true rfl) (Nat.le_of_ble_eq_true rfl) (.cons _ _ _ _ _ _ _ [] [] (.one _ _ _ _ _ (.p _ _)) (.cons _ _ _ _ _ _ _ [] [] (.one _ _ _ _ _ (.p _ _)) (.cons _ _ _ _ _ _ _ [] [] (.one _ _ _ _ _ (.p _ _)) (.nil _)))) rfl rfl ?_)
        refine c0 rfl (w_v (.pt 3 0 3) rfl ?_)
        refine c0 rfl (w_v (I64 p.d) rfl ?_)
        refine c0 rfl (w_v (.pt 4 0 3) rfl ?_)
        refine c0 rfl (w_v (I64 q.d) rfl ?_)
        refine c0 rfl (w_v (.pt 5 0 3) rfl ?_)
        refine c0 rfl (w_v (I64 r.d) rfl ?_)
        refine c0 rfl (w_bsl (g := 0) [iP p.d, iP q.d, iP r.d] rfl rfl rfl rfl (Nat.le_of_ble_eq_true rfl) (Nat.le_of_ble_eq_true rfl) (Nat.le_of_ble_eq_true rfl) (.cons _ _ _ _ _ _ _ [] [] (.one _ _ _ _ _ (.p _ _)) (.cons _ _ _ _ _ _ _ [] [] (.one _ _ _ _ _ (.p _ _)) (.cons _ _ _ _ _ _ _ [] [] (.one _ _ _ _ _ (.p _ _)) (.nil _)))) rfl rfl ?_)
        refine c0 rfl (w_call (BO (sumB ([(cross (nrm q) (nrm r)).a, (cross (nrm r) (nrm p)).a, (cross (nrm p) (nrm q)).a]) ([p.d, q.d, r.d]))) (l6Sum_fn ([(cross (nrm q) (nrm r)).a, (cross (nrm r) (nrm p)).a, (cross (nrm p) (nrm q)).a]) ([p.d, q.d, r.d]) (by unfold sm at x1 x2 x3; simp; omega) (by simp; omega) (by simp) (by simp)) rfl (.cons _ _ _ _ _ _ _ [] _ (.one _ _ _ _ _ (passOs (xs := ([(cross (nrm q) (nrm r)).a, (cross (nrm r) (nrm p)).a, (cross (nrm p) (nrm q)).a]).map iP) rfl rfl)) (.cons _ _ _ _ _ _ _ [] _ (.one _ _ _ _ _ (passOs (xs := ([p.d, q.d, r.d]).map iP) rfl rfl)) (.nil _))) rfl (.one _ _ _ _ (.p _ _)) ?_)
        refine c0 rfl (w_v (BO (sumB ([(cross (nrm q) (nrm r)).a, (cross (nrm r) (nrm p)).a, (cross (nrm p) (nrm q)).a]) ([p.d, q.d, r.d]))) rfl ?_)
        refine cn ⟨by kernel_rfl, ?_⟩
        refine cw_ret ?_
        exact fin1 (bP (sumB ([(cross (nrm q) (nrm r)).a, (cross (nrm r) (nrm p)).a, (cross (nrm p) (nrm q)).a]) ([p.d, q.d, r.d]))) (bP (clash3 p q r)) rfl (congrArg bP (by exact c3_a (by assumption) (by omega) : (sumB ([(cross (nrm q) (nrm r)).a, (cross (nrm r) (nrm p)).a, (cross (nrm p) (nrm q)).a]) ([p.d, q.d, r.d])) = (clash3 p q r))) rfl
      ·
        replace c3 := of_decide_eq_false c3
        refine cgT rfl rfl rfl (w_v (I64 0) rfl ?_)
        refine cgT rfl rfl rfl (w_v (.pt 9 0 0) rfl ?_)
        refine cgT rfl rfl rfl (w_v (I64 ((cross (nrm p) (nrm q)).a)) rfl ?_)
        refine cgT rfl rfl rfl (w_nei ((cross (nrm p) (nrm q)).a) (0) rfl rfl ?_)
        refine c0 rfl (w_v (BO (decide ((cross (nrm p) (nrm q)).a ≠ 0))) rfl ?_)
        refine cn ?_
        refine cw_cond (t := decide ((cross (nrm p) (nrm q)).a ≠ 0)) rfl (fun c4 => ?_) (fun c4 => ?_)
        ·
          replace c4 := of_decide_eq_true c4
          refine cw_seq ?_
          refine cw_reg1 tok mixed rfl rfl ?_
          refine c0 rfl (w_v (I64 0) rfl ?_)
          refine c0 rfl (w_v (.pt 7 0 0) rfl ?_)
          refine c0 rfl (w_v (I64 ((cross (nrm q) (nrm r)).a)) rfl ?_)
          refine c0 rfl (w_v (I64 0) rfl ?_)
          refine c0 rfl (w_v (.pt 8 0 0) rfl ?_)
          refine c0 rfl (w_v (I64 ((cross (nrm r) (nrm p)).a)) rfl ?_)
          refine c0 rfl (w_v (I64 0) rfl ?_)
          refine c0 rfl (w_v (.pt 9 0 0) rfl ?_)
          refine c0 rfl (w_v (I64 ((cross (nrm p) (nrm q)).a)) rfl ?_)
          refine c0 rfl (w_bsl (g := 0) [iP ((cross (nrm q) (nrm r)).a), iP ((cross (nrm r) (nrm p)).a), iP ((cross (nrm p) (nrm q)).a)] rfl rfl rfl rfl (Nat.le_of_ble_eq_true rfl) (Nat.le_of_ble_eq_true rfl) (Nat.le_of_ble_eq_true rfl) (.cons _ _ _ _ _ _ _ [] [] (.one _ _ _ _ _ (.p _ _)) (.cons _ _ _ _ _ _ _ [] [] (.one _ _ _ _ _ (.p _ _)) (.cons _ _ _ _ _ _ _ [] [] (.one _ _ _ _ _ (.p _ _)) (.nil _)))) rfl rfl ?_)
          refine c0 rfl (w_v (.pt 3 0 3) rfl ?_)
          refine c0 rfl (w_v (I64 p.d) rfl ?_)
          refine c0 rfl (w_v (.pt 4 0 3) rfl ?_)
          refine c0 rfl (w_v (I64 q.d) rfl ?_)
          refine c0 rfl (w_v (.pt 5 0 3) rfl ?_)
          refine c0 rfl (w_v (I64 r.d) rfl ?_)
          refine c0 rfl (w_bsl (g := 0) [iP p.d, iP q.d, iP r.d] rfl rfl rfl rfl (Nat.le_of_ble_eq_true rfl) (Nat.le_of_ble_eq_true rfl) (Nat.le_of_ble_eq_true rfl) (.cons _ _ _ _ _ _ _ [] [] (.one _ _ _ _ _ (.p _ _)) (.cons _ _ _ _ _ _ _ [] [] (.one _ _ _ _ _ (.p _ _)) (.cons _ _ _ _ _ _ _ [] [] (.one _ _ _ _ _ (.p _ _)) (.nil _)))) rfl rfl ?_)
          refine c0 rfl (w_call (BO (sumB ([(cross (nrm q) (nrm r)).a, (cross (nrm r) (nrm p)).a, (cross (nrm p) (nrm q)).a]) ([p.d, q.d, r.d]))) (l6Sum_fn ([(cross (nrm q) (nrm r)).a, (cross (nrm r) (nrm p)).a, (cross (nrm p) (nrm q)).a]) ([p.d, q.d, r.d]) (by unfold sm at x1 x2 x3; simp; omega) (by simp; omega) (by simp) (by simp)) rfl (.cons _ _ _ _ _ _ _ [] _ (.one _ _ _ _ _ (passOs (xs := ([(cross (nrm q) (nrm r)).a, (cross (nrm r) (nrm p)).a, (cross (nrm p) (nrm q)).a]).map iP) rfl rfl)) (.cons _ _ _ _ _ _ _ [] _ (.one _ _ _ _ _ (passOs (xs := ([p.d, q.d, r.d]).map iP) rfl rfl)) (.nil _))) rfl (.one _ _ _ _ (.p _ _)) ?_)
          refine c0 rfl (w_v (BO (sumB ([(cross (nrm q) (nrm r)).a, (cross (nrm r) (nrm p)).a, (cross (nrm p) (nrm q)).a]) ([p.d, q.d, r.d]))) rfl ?_)
          refine cn ⟨by kernel_rfl, ?_⟩
          refine cw_ret ?_
          exact fin1 (bP (sumB ([(cross (nrm q) (nrm r)).a, (cross (nrm r) (nrm p)).a, (cross (nrm p) (nrm q)).a]) ([p.d, q.d, r.d]))) (bP (clash3 p q r)) rfl (congrArg bP (by exact c3_a (by assumption) (by omega) : (sumB ([(cross (nrm q) (nrm r)).a, (cross (nrm r) (nrm p)).a, (cross (nrm p) (nrm q)).a]) ([p.d, q.d, r.d])) = (clash3 p q r))) rfl
        ·
          replace c4 := of_decide_eq_false c4
          refine cw_skip ?_
          refine cw_reg0 tok rfl rfl ?_
          refine c0 rfl (w_v (I64 0) rfl ?_)
          refine c0 rfl (w_i (1) rfl (by unfold inI; omega) ?_)
          refine c0 rfl (w_v (I64 1) rfl ?_)
          refine cn ?_
          refine cwl_step ?_
          refine cw_seq ?_
          refine cw_seq ?_
          refine cw_reg0 tok rfl rfl ?_
          refine c0 rfl (w_v (I64 1) rfl ?_)
          refine c0 rfl (w_v (BO true) rfl ?_)
          refine cn ?_
          refine cw_cond (t := true) rfl (fun _ => ?_) (fun h => nomatch h)
          refine cw_skip ?_
          refine cw_seq ?_
          refine cw_block ?_
          refine cw_seq ?_
          refine cw_reg0 tok rfl rfl ?_
          refine c0 rfl (w_v (I64 1) rfl ?_)
          refine c0 rfl (w_v (.pt 7 0 1) rfl ?_)
          refine c0 rfl (w_v (I64 ((cross (nrm q) (nrm r)).b)) rfl ?_)
          refine c0 rfl (w_nei ((cross (nrm q) (nrm r)).b) (0) rfl rfl ?_)
          refine c0 rfl (w_v (BO (decide ((cross (nrm q) (nrm r)).b ≠ 0))) rfl ?_)
          refine cgS (b := decide ((cross (nrm q) (nrm r)).b ≠ 0)) rfl rfl rfl (fun c5 => ?_) (fun c5 => ?_)
          ·
            replace c5 := of_decide_eq_true c5
            refine cgF (v := .bool true) rfl rfl rfl rfl ?_
            refine cgF (v := .bool true) rfl rfl rfl rfl ?_
            refine cgF (v := .bool true) rfl rfl rfl rfl ?_
            refine cgF (v := .bool true) rfl rfl rfl rfl ?_
            refine c0 rfl (w_v (BO true) rfl ?_)
            refine c0 rfl (w_v (BO true) rfl ?_)
            refine cgF (v := .bool true) rfl rfl rfl rfl ?_
            refine cgF (v := .bool true) rfl rfl rfl rfl ?_
            refine cgF (v := .bool true) rfl rfl rfl rfl ?_
            refine cgF (v := .bool true) rfl rfl rfl rfl ?_
            refine c0 rfl (w_v (BO true) rfl ?_)
            refine cn ?_
            refine cw_cond (t := true) rfl (fun _ => ?_) (fun h => nomatch h)
            refine cw_seq ?_
            refine cw_reg1 tok mixed rfl rfl ?_
            refine c0 rfl (w_v (I64 1) rfl ?_)
            refine c0 rfl (w_v (.pt 7 0 1) rfl ?_)
            refine c0 rfl (w_v (I64 ((cross (nrm q) (nrm r)).b)) rfl ?_)
            refine c0 rfl (w_v (I64 1) rfl ?_)
            refine c0 rfl (w_v (.pt 8 0 1) rfl ?_)
            refine c0 rfl (w_v (I64 ((cross (nrm r) (nrm p)).b)) rfl ?_)
            refine c0 rfl (w_v (I64 1) rfl ?_)
            refine c0 rfl (w_v (.pt 9 0 1) rfl ?_)
            refine c0 rfl (w_v (I64 ((cross (nrm p) (nrm q)).b)) rfl ?_)
            refine c0 rfl (w_bsl (g := 0) [iP ((cross (nrm q) (nrm r)).b), iP ((cross (nrm r) (nrm p)).b), iP ((cross (nrm p) (nrm q)).b)] rfl rfl rfl rfl (Nat.le_of_ble_eq_true rfl) (Nat.le_of_ble_eq_true rfl) (Nat.le_of_ble_eq_true rfl) (.cons _ _ _ _ _ _ _ [] [] (.one _ _ _ _ _ (.p _ _)) (.cons _ _ _ _ _ _ _ [] [] (.one _ _ _ _ _ (.p _ _)) (.cons _ _ _ _ _ _ _ [] [] (.one _ _ _ _ _ (.p _ _)) (.nil _)))) rfl rfl ?_)
            refine c0 rfl (w_v (.pt 3 0 3) rfl ?_)
            refine c0 rfl (w_v (I64 p.d) rfl ?_)
            refine c0 rfl (w_v (.pt 4 0 3) rfl ?_)
            refine c0 rfl (w_v (I64 q.d) rfl ?_)
            refine c0 rfl (w_v (.pt 5 0 3) rfl ?_)
            refine c0 rfl (w_v (I64 r.d) rfl ?_)
            refine c0 rfl (w_bsl (g := 0) [iP p.d, iP q.d, iP r.d] rfl rfl rfl rfl (Nat.le_of_ble_eq_true rfl) (Nat.le_of_ble_eq_true rfl) (Nat.le_of_ble_eq_true rfl) (.cons _ _ _ _ _ _ _ [] [] (.one _ _ _ _ _ (.p _ _)) (.cons _ _ _ _ _ _ _ [] [] (.one _ _ _ _ _ (.p _ _)) (.cons _ _ _ _ _ _ _ [] [] (.one _ _ _ _ _ (.p _ _)) (.nil _)))) rfl rfl ?_)
            refine c0 rfl (w_call (BO (sumB ([(cross (nrm q) (nrm r)).b, (cross (nrm r) (nrm p)).b, (cross (nrm p) (nrm q)).b]) ([p.d, q.d, r.d]))) (l6Sum_fn ([(cross (nrm q) (nrm r)).b, (cross (nrm r) (nrm p)).b, (cross (nrm p) (nrm q)).b]) ([p.d, q.d, r.d]) (by unfold sm at x1 x2 x3; simp; omega) (by simp; omega) (by simp) (by simp)) rfl (.cons _ _ _ _ _ _ _ [] _ (.one _ _ _ _ _ (passOs (xs := ([(cross (nrm q) (nrm r)).b, (cross (nrm r) (nrm p)).b, (cross (nrm p) (nrm q)).b]).map iP) rfl rfl)) (.cons _ _ _ _ _ _ _ [] _ (.one _ _ _ _ _ (passOs (xs := ([p.d, q.d, r.d]).map iP) rfl rfl)) (.nil _))) rfl (.one _ _ _ _ (.p _ _)) ?_)
            refine c0 rfl (w_v (BO (sumB ([(cross (nrm q) (nrm r)).b, (cross (nrm r) (nrm p)).b, (cross (nrm p) (nrm q)).b]) ([p.d, q.d, r.d]))) rfl ?_)
            refine cn ⟨by kernel_rfl, ?_⟩
            refine cw_ret ?_
            exact fin1 (bP (sumB ([(cross (nrm q) (nrm r)).b, (cross (nrm r) (nrm p)).b, (cross (nrm p) (nrm q)).b]) ([p.d, q.d, r.d]))) (bP (clash3 p q r)) rfl (congrArg bP (by exact c3_b (by assumption) (by omega) (by omega) : (sumB ([(cross (nrm q) (nrm r)).b, (cross (nrm r) (nrm p)).b, (cross (nrm p) (nrm q)).b]) ([p.d, q.d, r.d])) = (clash3 p q r))) rfl
          ·
            replace c5 := of_decide_eq_false c5
            refine cgT rfl rfl rfl (w_v (I64 1) rfl ?_)
            refine cgT rfl rfl rfl (w_v (.pt 8 0 1) rfl ?_)
            refine cgT rfl rfl rfl (w_v (I64 ((cross (nrm r) (nrm p)).b)) rfl ?_)
            refine cgT rfl rfl rfl (w_nei ((cross (nrm r) (nrm p)).b) (0) rfl rfl ?_)
            refine c0 rfl (w_v (BO (decide ((cross (nrm r) (nrm p)).b ≠ 0))) rfl ?_)
            refine c0 rfl (w_v (BO (decide ((cross (nrm r) (nrm p)).b ≠ 0))) rfl ?_)
            refine cgS (b := decide ((cross (nrm r) (nrm p)).b ≠ 0)) rfl rfl rfl (fun c6 => ?_) (fun c6 => ?_)
            ·
              replace c6 := of_decide_eq_true c6
              refine cgF (v := .bool true) rfl rfl rfl rfl ?_
              refine cgF (v := .bool true) rfl rfl rfl rfl ?_
              refine cgF (v := .bool true) rfl rfl rfl rfl ?_
              refine cgF (v := .bool true) rfl rfl rfl rfl ?_
              refine c0 rfl (w_v (BO true) rfl ?_)
              refine cn ?_
              refine cw_cond (t := true) rfl (fun _ => ?_) (fun h => nomatch h)
              refine cw_seq ?_
              refine cw_reg1 tok mixed rfl rfl ?_
              refine c0 rfl (w_v (I64 1) rfl ?_)
              refine c0 rfl (w_v (.pt 7 0 1) rfl ?_)
              refine c0 rfl (w_v (I64 ((cross (nrm q) (nrm r)).b)) rfl ?_)
              refine c0 rfl (w_v (I64 1) rfl ?_)
              refine c0 rfl (w_v (.pt 8 0 1) rfl ?_)
              refine c0 rfl (w_v (I64 ((cross (nrm r) (nrm p)).b)) rfl ?_)
              refine c0 rfl (w_v (I64 1) rfl ?_)
              refine c0 rfl (w_v (.pt 9 0 1) rfl ?_)
              refine c0 rfl (w_v (I64 ((cross (nrm p) (nrm q)).b)) rfl ?_)
              refine c0 rfl (w_bsl (g := 0) [iP ((cross (nrm q) (nrm r)).b), iP ((cross (nrm r) (nrm p)).b), iP ((cross (nrm p) (nrm q)).b)] rfl rfl rfl rfl (Nat.le_of_ble_eq_true rfl) (Nat.le_of_ble_eq_true rfl) (Nat.le_of_ble_eq_true rfl) (.cons _ _ _ _ _ _ _ [] [] (.one _ _ _ _ _ (.p _ _)) (.cons _ _ _ _ _ _ _ [] [] (.one _ _ _ _ _ (.p _ _)) (.cons _ _ _ _ _ _ _ [] [] (.one _ _ _ _ _ (.p _ _)) (.nil _)))) rfl rfl ?_)
              refine c0 rfl (w_v (.pt 3 0 3) rfl ?_)
              refine c0 rfl (w_v (I64 p.d) rfl ?_)
              refine c0 rfl (w_v (.pt 4 0 3) rfl ?_)
              refine c0 rfl (w_v (I64 q.d) rfl ?_)
              refine c0 rfl (w_v (.pt 5 0 3) rfl ?_)
              refine c0 rfl (w_v (I64 r.d) rfl ?_)
              refine c0 rfl (w_bsl (g := 0) [iP p.d, iP q.d, iP r.d] rfl rfl rfl rfl (Nat.le_of_ble_eq_true rfl) (Nat.le_of_ble_eq_true rfl) (Nat.le_of_ble_eq_true rfl) (.cons _ _ _ _ _ _ _ [] [] (.one _ _ _ _ _ (.p _ _)) (.cons _ _ _ _ _ _ _ [] [] (.one _ _ _ _ _ (.p _ _)) (.cons _ _ _ _ _ _ _ [] [] (.one _ _ _ _ _ (.p _ _)) (.nil _)))) rfl rfl ?_)
              refine c0 rfl (w_call (BO (sumB ([(cross (nrm q) (nrm r)).b, (cross (nrm r) (nrm p)).b, (cross (nrm p) (nrm q)).b]) ([p.d, q.d, r.d]))) (l6Sum_fn ([(cross (nrm q) (nrm r)).b, (cross (nrm r) (nrm p)).b, (cross (nrm p) (nrm q)).b]) ([p.d, q.d, r.d]) (by unfold sm at x1 x2 x3; simp; omega) (by simp; omega) (by simp) (by simp)) rfl (.cons _ _ _ _ _ _ _ [] _ (.one _ _ _ _ _ (passOs (xs := ([(cross (nrm q) (nrm r)).b, (cross (nrm r) (nrm p)).b, (cross (nrm p) (nrm q)).b]).map iP) rfl rfl)) (.cons _ _ _ _ _ _ _ [] _ (.one _ _ _ _ _ (passOs (xs := ([p.d, q.d, r.d]).map iP) rfl rfl)) (.nil _))) rfl (.one _ _ _ _ (.p _ _)) ?_)
              refine c0 rfl (w_v (BO (sumB ([(cross (nrm q) (nrm r)).b, (cross (nrm r) (nrm p)).b, (cross (nrm p) (nrm q)).b]) ([p.d, q.d, r.d]))) rfl ?_)
              refine cn ⟨by kernel_rfl, ?_⟩
              refine cw_ret ?_
              exact fin1 (bP (sumB ([(cross (nrm q) (nrm r)).b, (cross (nrm r) (nrm p)).b, (cross (nrm p) (nrm q)).b]) ([p.d, q.d, r.d]))) (bP (clash3 p q r)) rfl (congrArg bP (by exact c3_b (by assumption) (by omega) (by omega) : (sumB ([(cross (nrm q) (nrm r)).b, (cross (nrm r) (nrm p)).b, (cross (nrm p) (nrm q)).b]) ([p.d, q.d, r.d])) = (clash3 p q r))) rfl
            ·
              replace c6 := of_decide_eq_false c6
              refine cgT rfl rfl rfl (w_v (I64 1) rfl ?_)
              refine cgT rfl rfl rfl (w_v (.pt 9 0 1) rfl ?_)
              refine cgT rfl rfl rfl (w_v (I64 ((cross (nrm p) (nrm q)).b)) rfl ?_)
              refine cgT rfl rfl rfl (w_nei ((cross (nrm p) (nrm q)).b) (0) rfl rfl ?_)
              refine c0 rfl (w_v (BO (decide ((cross (nrm p) (nrm q)).b ≠ 0))) rfl ?_)
              refine cn ?_
              refine cw_cond (t := decide ((cross (nrm p) (nrm q)).b ≠ 0)) rfl (fun c7 => ?_) (fun c7 => ?_)
              ·
                replace c7 := of_decide_eq_true c7
                refine cw_seq ?_
                refine cw_reg1 tok mixed rfl rfl ?_
                refine c0 rfl (w_v (I64 1) rfl ?_)
                refine c0 rfl (w_v (.pt 7 0 1) rfl ?_)
                refine c0 rfl (w_v (I64 ((cross (nrm q) (nrm r)).b)) rfl ?_)
                refine c0 rfl (w_v (I64 1) rfl ?_)
                refine c0 rfl (w_v (.pt 8 0 1) rfl ?_)
                refine c0 rfl (w_v (I64 ((cross (nrm r) (nrm p)).b)) rfl ?_)
                refine c0 rfl (w_v (I64 1) rfl ?_)
                refine c0 rfl (w_v (.pt 9 0 1) rfl ?_)
                refine c0 rfl (w_v (I64 ((cross (nrm p) (nrm q)).b)) rfl ?_)
                refine c0 rfl (w_bsl (g := 0) [iP ((cross (nrm q) (nrm r)).b), iP ((cross (nrm r) (nrm p)).b), iP ((cross (nrm p) (nrm q)).b)] rfl rfl rfl rfl (Nat.le_of_ble_eq_true rfl) (Nat.le_of_ble_eq_true rfl) (Nat.le_of_ble_eq_true rfl) (.cons _ _ _ _ _ _ _ [] [] (.one _ _ _ _ _ (.p _ _)) (.cons _ _ _ _ _ _ _ [] [] (.one _ _ _ _ _ (.p _ _)) (.cons _ _ _ _ _ _ _ [] [] (.one _ _ _ _ _ (.p _ _)) (.nil _)))) rfl rfl ?_)
                refine c0 rfl (w_v (.pt 3 0 3) rfl ?_)
                refine c0 rfl (w_v (I64 p.d) rfl ?_)
                refine c0 rfl (w_v (.pt 4 0 3) rfl ?_)
                refine c0 rfl (w_v (I64 q.d) rfl ?_)
                refine c0 rfl (w_v (.pt 5 0 3) rfl ?_)
                refine c0 rfl (w_v (I64 r.d) rfl ?_)
                refine c0 rfl (w_bsl (g := 0) [iP p.d, iP q.d, iP r.d] rfl rfl rfl rfl (Nat.le_of_ble_eq_true rfl) (Nat.le_of_ble_eq_true rfl) (Nat.le_of_ble_eq_true rfl) (.cons _ _ _ _ _ _ _ [] [] (.one _ _ _ _ _ (.p _ _)) (.cons _ _ _ _ _ _ _ [] [] (.one _ _ _ _ _ (.p _ _)) (.cons _ _ _ _ _ _ _ [] [] (.one _ _ _ _ _ (.p _ _)) (.nil _)))) rfl rfl ?_)
                refine c0 rfl (w_call (BO (sumB ([(cross (nrm q) (nrm r)).b, (cross (nrm r) (nrm p)).b, (cross (nrm p) (nrm q)).b]) ([p.d, q.d, r.d]))) (l6Sum_fn ([(cross (nrm q) (nrm r)).b, (cross (nrm r) (nrm p)).b, (cross (nrm p) (nrm q)).b]) ([p.d, q.d, r.d]) (by unfold sm at x1 x2 x3; simp; omega) (by simp; omega) (by simp) (by simp)) rfl (.cons _ _ _ _ _ _ _ [] _ (.one _ _ _ _ _ (passOs (xs := ([(cross (nrm q) (nrm r)).b, (cross (nrm r) (nrm p)).b, (cross (nrm p) (nrm q)).b]).map iP) rfl rfl)) (.cons _ _ _ _ _ _ _ [] _ (.one _ _ _ _ _ (passOs (xs := ([p.d, q.d, r.d]).map iP) rfl rfl)) (.nil _))) rfl (.one _ _ _ _ (.p _ _)) ?_)
                refine c0 rfl (w_v (BO (sumB ([(cross (nrm q) (nrm r)).b, (cross (nrm r) (nrm p)).b, (cross (nrm p) (nrm q)).b]) ([p.d, q.d, r.d]))) rfl ?_)
                refine cn ⟨by kernel_rfl, ?_⟩
                refine cw_ret ?_
                exact fin1 (bP (sumB ([(cross (nrm q) (nrm r)).b, (cross (nrm r) (nrm p)).b, (cross (nrm p) (nrm q)).b]) ([p.d, q.d, r.d]))) (bP (clash3 p q r)) rfl (congrArg bP (by exact c3_b (by assumption) (by omega) (by omega) : (sumB ([(cross (nrm q) (nrm r)).b, (cross (nrm r) (nrm p)).b, (cross (nrm p) (nrm q)).b]) ([p.d, q.d, r.d])) = (clash3 p q r))) rfl
              ·
                replace c7 := of_decide_eq_false c7
                refine cw_skip ?_
                refine cw_reg0 tok rfl rfl ?_
                refine c0 rfl (w_v (I64 1) rfl ?_)
                refine c0 rfl (w_i (2) rfl (by unfold inI; omega) ?_)
                refine c0 rfl (w_v (I64 2) rfl ?_)
                refine cn ?_
                refine cwl_step ?_
                refine cw_seq ?_
                refine cw_seq ?_
                refine cw_reg0 tok rfl rfl ?_
                refine c0 rfl (w_v (I64 2) rfl ?_)
                refine c0 rfl (w_v (BO true) rfl ?_)
                refine cn ?_
                refine cw_cond (t := true) rfl (fun _ => ?_) (fun h => nomatch h)
                refine cw_skip ?_
                refine cw_seq ?_
                refine cw_block ?_
                refine cw_seq ?_
                refine cw_reg0 tok rfl rfl ?_
                refine c0 rfl (w_v (I64 2) rfl ?_)
                refine c0 rfl (w_v (.pt 7 0 2) rfl ?_)
                refine c0 rfl (w_v (I64 ((cross (nrm q) (nrm r)).c)) rfl ?_)
                refine c0 rfl (w_nei ((cross (nrm q) (nrm r)).c) (0) rfl rfl ?_)
                refine c0 rfl (w_v (BO (decide ((cross (nrm q) (nrm r)).c ≠ 0))) rfl ?_)
                refine cgS (b := decide ((cross (nrm q) (nrm r)).c ≠ 0)) rfl rfl rfl (fun c8 => ?_) (fun c8 => ?_)
                ·
                  replace c8 := of_decide_eq_true c8
                  refine cgF (v := .bool true) rfl rfl rfl rfl ?_
                  refine cgF (v := .bool true) rfl rfl rfl rfl ?_
                  refine cgF (v := .bool true) rfl rfl rfl rfl ?_
                  refine cgF (v := .bool true) rfl rfl rfl rfl ?_
                  refine c0 rfl (w_v (BO true) rfl ?_)
                  refine c0 rfl (w_v (BO true) rfl ?_)
                  refine cgF (v := .bool true) rfl rfl rfl rfl ?_
                  refine cgF (v := .bool true) rfl rfl rfl rfl ?_
                  refine cgF (v := .bool true) rfl rfl rfl rfl ?_
                  refine cgF (v := .bool true) rfl rfl rfl rfl ?_
                  refine c0 rfl (w_v (BO true) rfl ?_)
                  refine cn ?_
                  refine cw_cond (t := true) rfl (fun _ => ?_) (fun h => nomatch h)
                  refine cw_seq ?_
                  refine cw_reg1 tok mixed rfl rfl ?_
                  refine c0 rfl (w_v (I64 2) rfl ?_)
                  refine c0 rfl (w_v (.pt 7 0 2) rfl ?_)
                  refine c0 rfl (w_v (I64 ((cross (nrm q) (nrm r)).c)) rfl ?_)
                  refine c0 rfl (w_v (I64 2) rfl ?_)
                  refine c0 rfl (w_v (.pt 8 0 2) rfl ?_)
                  refine c0 rfl (w_v (I64 ((cross (nrm r) (nrm p)).c)) rfl ?_)
                  refine c0 rfl (w_v (I64 2) rfl ?_)
                  refine c0 rfl (w_v (.pt 9 0 2) rfl ?_)
                  refine c0 rfl (w_v (I64 ((cross (nrm p) (nrm q)).c)) rfl ?_)
                  refine c0 rfl (w_bsl (g := 0) [iP ((cross (nrm q) (nrm r)).c), iP ((cross (nrm r) (nrm p)).c), iP ((cross (nrm p) (nrm q)).c)] rfl rfl rfl rfl (Nat.le_of_ble_eq_true rfl) (Nat.le_of_ble_eq_true rfl) (Nat.le_of_ble_eq_true rfl) (.cons _ _ _ _ _ _ _ [] [] (.one _ _ _ _ _ (.p _ _)) (.cons _ _ _ _ _ _ _ [] [] (.one _ _ _ _ _ (.p _ _)) (.cons _ _ _ _ _ _ _ [] [] (.one _ _ _ _ _ (.p _ _)) (.nil _)))) rfl rfl ?_)
                  refine c0 rfl (w_v (.pt 3 0 3) rfl ?_)
                  refine c0 rfl (w_v (I64 p.d) rfl ?_)
                  refine c0 rfl (w_v (.pt 4 0 3) rfl ?_)
                  refine c0 rfl (w_v (I64 q.d) rfl ?_)
                  refine c0 rfl (w_v (.pt 5 0 3) rfl ?_)
                  refine c0 rfl (w_v (I64 r.d) rfl ?_)
                  refine c0 rfl (w_bsl (g := 0) [iP p.d, iP q.d, iP r.d] rfl rfl rfl rfl (Nat.le_of_ble_eq_true rfl) (Nat.le_of_ble_eq_true rfl) (Nat.le_of_ble_eq_true rfl) (.cons _ _ _ _ _ _ _ [] [] (.one _ _ _ _ _ (.p _ _)) (.cons _ _ _ _ _ _ _ [] [] (.one _ _ _ _ _ (.p _ _)) (.cons _ _ _ _ _ _ _ [] [] (.one _ _ _ _ _ (.p _ _)) (.nil _)))) rfl rfl ?_)
                  refine c0 rfl (w_call (BO (sumB ([(cross (nrm q) (nrm r)).c, (cross (nrm r) (nrm p)).c, (cross (nrm p) (nrm q)).c]) ([p.d, q.d, r.d]))) (l6Sum_fn ([(cross (nrm q) (nrm r)).c, (cross (nrm r) (nrm p)).c, (cross (nrm p) (nrm q)).c]) ([p.d, q.d, r.d]) (by unfold sm at x1 x2 x3; simp; omega) (by simp; omega) (by simp) (by simp)) rfl (.cons _ _ _ _ _ _ _ [] _ (.one _ _ _ _ _ (passOs (xs := ([(cross (nrm q) (nrm r)).c, (cross (nrm r) (nrm p)).c, (cross (nrm p) (nrm q)).c]).map iP) rfl rfl)) (.cons _ _ _ _ _ _ _ [] _ (.one _ _ _ _ _ (passOs (xs := ([p.d, q.d, r.d]).map iP) rfl rfl)) (.nil _))) rfl (.one _ _ _ _ (.p _ _)) ?_)
                  refine c0 rfl (w_v (BO (sumB ([(cross (nrm q) (nrm r)).c, (cross (nrm r) (nrm p)).c, (cross (nrm p) (nrm q)).c]) ([p.d, q.d, r.d]))) rfl ?_)
                  refine cn ⟨by kernel_rfl, ?_⟩
                  refine cw_ret ?_
                  exact fin1 (bP (sumB ([(cross (nrm q) (nrm r)).c, (cross (nrm r) (nrm p)).c, (cross (nrm p) (nrm q)).c]) ([p.d, q.d, r.d]))) (bP (clash3 p q r)) rfl (congrArg bP (by exact c3_c (by assumption) (by omega) (by omega) (by omega) : (sumB ([(cross (nrm q) (nrm r)).c, (cross (nrm r) (nrm p)).c, (cross (nrm p) (nrm q)).c]) ([p.d, q.d, r.d])) = (clash3 p q r))) rfl
                ·
                  replace c8 := of_decide_eq_false c8
                  refine cgT rfl rfl rfl (w_v (I64 2) rfl ?_)
                  refine cgT rfl rfl rfl (w_v (.pt 8 0 2) rfl ?_)
                  refine cgT rfl rfl rfl (w_v (I64 ((cross (nrm r) (nrm p)).c)) rfl ?_)
                  refine cgT rfl rfl rfl (w_nei ((cross (nrm r) (nrm p)).c) (0) rfl rfl ?_)
                  refine c0 rfl (w_v (BO (decide ((cross (nrm r) (nrm p)).c ≠ 0))) rfl ?_)
                  refine c0 rfl (w_v (BO (decide ((cross (nrm r) (nrm p)).c ≠ 0))) rfl ?_)
                  refine cgS (b := decide ((cross (nrm r) (nrm p)).c ≠ 0)) rfl rfl rfl (fun c9 => ?_) (fun c9 => ?_)
                  ·
                    replace c9 := of_decide_eq_true c9
                    refine cgF (v := .bool true) rfl rfl rfl rfl ?_
                    refine cgF (v := .bool true) rfl rfl rfl rfl ?_
                    refine cgF (v := .bool true) rfl rfl rfl rfl ?_
                    refine cgF (v := .bool true) rfl rfl rfl rfl ?_
                    refine c0 rfl (w_v (BO true) rfl ?_)
                    refine cn ?_
                    refine cw_cond (t := true) rfl (fun _ => ?_) (fun h => nomatch h)
                    refine cw_seq ?_
                    refine cw_reg1 tok mixed rfl rfl ?_
                    refine c0 rfl (w_v (I64 2) rfl ?_)
                    refine c0 rfl (w_v (.pt 7 0 2) rfl ?_)
                    refine c0 rfl (w_v (I64 ((cross (nrm q) (nrm r)).c)) rfl ?_)
                    refine c0 rfl (w_v (I64 2) rfl ?_)
                    refine c0 rfl (w_v (.pt 8 0 2) rfl ?_)
                    refine c0 rfl (w_v (I64 ((cross (nrm r) (nrm p)).c)) rfl ?_)
                    refine c0 rfl (w_v (I64 2) rfl ?_)
                    refine c0 rfl (w_v (.pt 9 0 2) rfl ?_)
                    refine c0 rfl (w_v (I64 ((cross (nrm p) (nrm q)).c)) rfl ?_)
                    refine c0 rfl (w_bsl (g := 0) [iP ((cross (nrm q) (nrm r)).c), iP ((cross (nrm r) (nrm p)).c), iP ((cross (nrm p) (nrm q)).c)] rfl rfl rfl rfl (Nat.le_of_ble_eq_true rfl) (Nat.le_of_ble_eq_true rfl) (Nat.le_of_ble_eq_true rfl) (.cons _ _ _ _ _ _ _ [] [] (.one _ _ _ _ _ (.p _ _)) (.cons _ _ _ _ _ _ _ [] [] (.one _ _ _ _ _ (.p _ _)) (.cons _ _ _ _ _ _ _ [] [] (.one _ _ _ _ _ (.p _ _)) (.nil _)))) rfl rfl ?_)
                    refine c0 rfl (w_v (.pt 3 0 3) rfl ?_)
                    refine c0 rfl (w_v (I64 p.d) rfl ?_)
                    refine c0 rfl (w_v (.pt 4 0 3) rfl ?_)
                    refine c0 rfl (w_v (I64 q.d) rfl ?_)
                    refine c0 rfl (w_v (.pt 5 0 3) rfl ?_)
                    refine c0 rfl (w_v (I64 r.d) rfl ?_)
                    refine c0 rfl (w_bsl (g := 0) [iP p.d, iP q.d, iP r.d] rfl rfl rfl rfl (Nat.le_of_ble_eq_true rfl) (Nat.le_of_ble_eq_true rfl) (Nat.le_of_ble_eq_true rfl) (.cons _ _ _ _ _ _ _ [] [] (.one _ _ _ _ _ (.p _ _)) (.cons _ _ _ _ _ _ _ [] [] (.one _ _ _ _ _ (.p _ _)) (.cons _ _ _ _ _ _ _ [] [] (.one _ _ _ _ _ (.p _ _)) (.nil _)))) rfl rfl ?_)
                    refine c0 rfl (w_call (BO (sumB ([(cross (nrm q) (nrm r)).c, (cross (nrm r) (nrm p)).c, (cross (nrm p) (nrm q)).c]) ([p.d, q.d, r.d]))) (l6Sum_fn ([(cross (nrm q) (nrm r)).c, (cross (nrm r) (nrm p)).c, (cross (nrm p) (nrm q)).c]) ([p.d, q.d, r.d]) (by unfold sm at x1 x2 x3; simp; omega) (by simp; omega) (by simp) (by simp)) rfl (.cons _ _ _ _ _ _ _ [] _ (.one _ _ _ _ _ (passOs (xs := ([(cross (nrm q) (nrm r)).c, (cross (nrm r) (nrm p)).c, (cross (nrm p) (nrm q)).c]).map iP) rfl rfl)) (.cons _ _ _ _ _ _ _ [] _ (.one _ _ _ _ _ (passOs (xs := ([p.d, q.d, r.d]).map iP) rfl rfl)) (.nil _))) rfl (.one _ _ _ _ (.p _ _)) ?_)
                    refine c0 rfl (w_v (BO (sumB ([(cross (nrm q) (nrm r)).c, (cross (nrm r) (nrm p)).c, (cross (nrm p) (nrm q)).c]) ([p.d, q.d, r.d]))) rfl ?_)
                    refine cn ⟨by kernel_rfl, ?_⟩
                    refine cw_ret ?_
                    exact fin1 (bP (sumB ([(cross (nrm q) (nrm r)).c, (cross (nrm r) (nrm p)).c, (cross (nrm p) (nrm q)).c]) ([p.d, q.d, r.d]))) (bP (clash3 p q r)) rfl (congrArg bP (by exact c3_c (by assumption) (by omega) (by omega) (by omega) : (sumB ([(cross (nrm q) (nrm r)).c, (cross (nrm r) (nrm p)).c, (cross (nrm p) (nrm q)).c]) ([p.d, q.d, r.d])) = (clash3 p q r))) rfl
                  ·
                    replace c9 := of_decide_eq_false c9
                    refine cgT rfl rfl rfl (w_v (I64 2) rfl ?_)
                    refine cgT rfl rfl rfl (w_v (.pt 9 0 2) rfl ?_)
                    refine cgT rfl rfl rfl (w_v (I64 ((cross (nrm p) (nrm q)).c)) rfl ?_)
                    refine cgT rfl rfl rfl (w_nei ((cross (nrm p) (nrm q)).c) (0) rfl rfl ?_)
                    refine c0 rfl (w_v (BO (decide ((cross (nrm p) (nrm q)).c ≠ 0))) rfl ?_)
                    refine cn ?_
                    refine cw_cond (t := decide ((cross (nrm p) (nrm q)).c ≠ 0)) rfl (fun c10 => ?_) (fun c10 => ?_)
                    ·
                      replace c10 := of_decide_eq_true c10
                      refine cw_seq ?_
                      refine cw_reg1 tok mixed rfl rfl ?_
                      refine c0 rfl (w_v (I64 2) rfl ?_)
                      refine c0 rfl (w_v (.pt 7 0 2) rfl ?_)
                      refine c0 rfl (w_v (I64 ((cross (nrm q) (nrm r)).c)) rfl ?_)
                      refine c0 rfl (w_v (I64 2) rfl ?_)
                      refine c0 rfl (w_v (.pt 8 0 2) rfl ?_)
                      refine c0 rfl (w_v (I64 ((cross (nrm r) (nrm p)).c)) rfl ?_)
                      refine c0 rfl (w_v (I64 2) rfl ?_)
                      refine c0 rfl (w_v (.pt 9 0 2) rfl ?_)
                      refine c0 rfl (w_v (I64 ((cross (nrm p) (nrm q)).c)) rfl ?_)
                      refine c0 rfl (w_bsl (g := 0) [iP ((cross (nrm q) (nrm r)).c), iP ((cross (nrm r) (nrm p)).c), iP ((cross (nrm p) (nrm q)).c)] rfl rfl rfl rfl (Nat.le_of_ble_eq_true rfl) (Nat.le_of_ble_eq_true rfl) (Nat.le_of_ble_eq_true rfl) (.cons _ _ _ _ _ _ _ [] [] (.one _ _ _ _ _ (.p _ _)) (.cons _ _ _ _ _ _ _ [] [] (.one _ _ _ _ _ (.p _ _)) (.cons _ _ _ _ _ _ _ [] [] (.one _ _ _ _ _ (.p _ _)) (.nil _)))) rfl rfl ?_)
                      refine c0 rfl (w_v (.pt 3 0 3) rfl ?_)
                      refine c0 rfl (w_v (I64 p.d) rfl ?_)
                      refine c0 rfl (w_v (.pt 4 0 3) rfl ?_)
                      refine c0 rfl (w_v (I64 q.d) rfl ?_)
                      refine c0 rfl (w_v (.pt 5 0 3) rfl ?_)
                      refine c0 rfl (w_v (I64 r.d) rfl ?_)
                      refine c0 rfl (w_bsl (g := 0) [iP p.d, iP q.d, iP r.d] rfl rfl rfl rfl (Nat.le_of_ble_eq_true rfl) (Nat.le_of_ble_eq_true rfl) (Nat.le_of_ble_eq_true rfl) (.cons _ _ _ _ _ _ _ [] [] (.one _ _ _ _ _ (.p _ _)) (.cons _ _ _ _ _ _ _ [] [] (.one _ _ _ _ _ (.p _ _)) (.cons _ _ _ _ _ _ _ [] [] (.one _ _ _ _ _ (.p _ _)) (.nil _)))) rfl rfl ?_)
                      refine c0 rfl (w_call (BO (sumB ([(cross (nrm q) (nrm r)).c, (cross (nrm r) (nrm p)).c, (cross (nrm p) (nrm q)).c]) ([p.d, q.d, r.d]))) (l6Sum_fn ([(cross (nrm q) (nrm r)).c, (cross (nrm r) (nrm p)).c, (cross (nrm p) (nrm q)).c]) ([p.d, q.d, r.d]) (by unfold sm at x1 x2 x3; simp; omega) (by simp; omega) (by simp) (by simp)) rfl (.cons _ _ _ _ _ _ _ [] _ (.one _ _ _ _ _ (passOs (xs := ([(cross (nrm q) (nrm r)).c, (cross (nrm r) (nrm p)).c, (cross (nrm p) (nrm q)).c]).map iP) rfl rfl)) (.cons _ _ _ _ _ _ _ [] _ (.one _ _ _ _ _ (passOs (xs := ([p.d, q.d, r.d]).map iP) rfl rfl)) (.nil _))) rfl (.one _ _ _ _ (.p _ _)) ?_)
                      refine c0 rfl (w_v (BO (sumB ([(cross (nrm q) (nrm r)).c, (cross (nrm r) (nrm p)).c, (cross (nrm p) (nrm q)).c]) ([p.d, q.d, r.d]))) rfl ?_)
                      refine cn ⟨by kernel_rfl, ?_⟩
                      refine cw_ret ?_
                      exact fin1 (bP (sumB ([(cross (nrm q) (nrm r)).c, (cross (nrm r) (nrm p)).c, (cross (nrm p) (nrm q)).c]) ([p.d, q.d, r.d]))) (bP (clash3 p q r)) rfl (congrArg bP (by exact c3_c (by assumption) (by omega) (by omega) (by omega) : (sumB ([(cross (nrm q) (nrm r)).c, (cross (nrm r) (nrm p)).c, (cross (nrm p) (nrm q)).c]) ([p.d, q.d, r.d])) = (clash3 p q r))) rfl
                    ·
                      replace c10 := of_decide_eq_false c10
                      refine cw_skip ?_
                      refine cw_reg0 tok rfl rfl ?_
                      refine c0 rfl (w_v (I64 2) rfl ?_)
                      refine c0 rfl (w_i (3) rfl (by unfold inI; omega) ?_)
                      refine c0 rfl (w_v (I64 3) rfl ?_)
                      refine cn ?_
                      refine cwl_step ?_
                      refine cw_seq ?_
                      refine cw_seq ?_
                      refine cw_reg0 tok rfl rfl ?_
                      refine c0 rfl (w_v (I64 3) rfl ?_)
                      refine c0 rfl (w_v (BO false) rfl ?_)
                      refine cn ?_
                      refine cw_cond (t := false) rfl (fun h => nomatch h) (fun _ => ?_)
                      refine cw_exit ?_
                      refine cw_seq ?_
                      refine cw_reg0 tok rfl rfl ?_
                      refine c0 rfl (w_v (BO false) rfl ?_)
                      refine cn ?_
                      refine cw_ret ?_
                      exact fin1 (bP false) (bP (clash3 p q r)) rfl (congrArg bP (by first | exact clash3_no (by assumption) | exact c3_n (by assumption) (by omega) (by omega) (by omega) : false = (clash3 p q r))) rfl
theorem iclash3_fn (p : Pl) (q : Pl) (r : Pl) (hp : okc p) (hq : okc q) (hr : okc r) : Fn PP 197 [.p (encP p), .p (encP q), .p (encP r)] (.p (bP (clash3 p q r))) [] := by
  have x1 := smCross (smN hq) (smN hr); have x2 := smCross (smN hr) (smN hp); have x3 := smCross (smN hp) (smN hq)
  have k1 := hp.2.2.2; have k2 := hq.2.2.2; have k3 := hr.2.2.2
  have y1 := dotB x1 x3; have y2 := dotB x2 x3; have y3 := dotB x3 x3
  refine fn_intro tok Go.Proofs.Try.func197 (c := _) rfl rfl (Nat.le_of_ble_eq_true rfl) ?_
  refine cw_seq ?_
  refine cw_reg0 tok rfl rfl ?_
  refine c0 rfl (w_box (g := 0) [I64 p.a, I64 p.b, I64 p.c, I64 p.d] rfl rfl rfl ?_)
  refine c0 rfl (w_box (g := 0) [I64 q.a, I64 q.b, I64 q.c, I64 q.d] rfl rfl rfl ?_)
  refine c0 rfl (w_box (g := 0) [I64 r.a, I64 r.b, I64 r.c, I64 r.d] rfl rfl rfl ?_)
  refine c0 rfl (w_v (BO false) rfl ?_)
  refine cn ?_
  refine cw_seq ?_
  refine cw_reg1 tok mixed rfl rfl ?_
  refine c0 rfl (w_v (.p (encP p)) rfl ?_)
  refine c0 rfl (w_call_1 (normal_fn p) rfl rfl ?_)
  refine c0 rfl (w_v (.p (encP q)) rfl ?_)
  refine c0 rfl (w_call_1 (normal_fn q) rfl rfl ?_)
  refine c0 rfl (w_v (.p (encP r)) rfl ?_)
  refine c0 rfl (w_call_1 (normal_fn r) rfl rfl ?_)
  refine c0 rfl (w_alloc (g := 0) [I64 0, I64 0, I64 0] rfl rfl rfl ?_)
  refine c0 rfl (w_alloc (g := 0) [I64 0, I64 0, I64 0] rfl rfl rfl ?_)
  refine c0 rfl (w_alloc (g := 0) [I64 0, I64 0, I64 0] rfl rfl rfl ?_)
  refine c0 rfl (w_st [I64 ((nrm p).a), I64 ((nrm p).b), I64 ((nrm p).c)] rfl rfl rfl rfl rfl (Nat.le_of_ble_eq_true rfl) rfl ?_)
  refine c0 rfl (w_st [I64 ((nrm q).a), I64 ((nrm q).b), I64 ((nrm q).c)] rfl rfl rfl rfl rfl (Nat.le_of_ble_eq_true rfl) rfl ?_)
  refine c0 rfl (w_st [I64 ((nrm r).a), I64 ((nrm r).b), I64 ((nrm r).c)] rfl rfl rfl rfl rfl (Nat.le_of_ble_eq_true rfl) rfl ?_)
  refine cn ⟨by kernel_rfl, ?_⟩
  refine cw_seq ?_
  refine cw_seq ?_
  refine cw_reg0 tok rfl rfl ?_
  refine c0 rfl (w_v (.p (encV (nrm p))) rfl ?_)
  refine c0 rfl (w_v (.p (encV (nrm q))) rfl ?_)
  refine c0 rfl (w_v (.p (encV (nrm r))) rfl ?_)
  refine c0 rfl (w_call_3 (det_fn (nrm p) (nrm q) (nrm r) (smN hp) (smN hq) (smN hr)) rfl rfl rfl rfl ?_)
  refine c0 rfl (w_nei (dot (nrm p) (cross (nrm q) (nrm r))) (0) rfl rfl ?_)
  refine cn ?_
  refine cw_cond (t := decide (dot (nrm p) (cross (nrm q) (nrm r)) ≠ 0)) rfl (fun c1 => ?_) (fun c1 => ?_)
  ·
    replace c1 := of_decide_eq_true c1
    refine cw_seq ?_
    refine cw_reg0 tok rfl rfl ?_
    refine c0 rfl (w_v (BO false) rfl ?_)
    refine cn ?_
    refine cw_ret ?_
    exact fin1 (bP false) (bP (clash3 p q r)) rfl (congrArg bP (by exact clash3_no (by assumption) : false = (clash3 p q r))) rfl
  ·
    replace c1 := of_decide_eq_false c1
    refine cw_skip ?_
    refine cw_seq ?_
    refine cw_reg0 tok rfl rfl ?_
    refine c0 rfl (w_v (.p (encV (nrm p))) rfl ?_)
    refine c0 rfl (w_v (.p (encV (nrm q))) rfl ?_)
    refine c0 rfl (w_call_2 (crossOf_fn (nrm p) (nrm q) 500 500 (smN hp) (smN hq) (by omega)) rfl rfl rfl ?_)
    refine c0 rfl (w_alloc (g := 0) [I64 0, I64 0, I64 0] rfl rfl rfl ?_)
    refine c0 rfl (w_st [I64 ((cross (nrm p) (nrm q)).a), I64 ((cross (nrm p) (nrm q)).b), I64 ((cross (nrm p) (nrm q)).c)] rfl rfl rfl rfl rfl (Nat.le_of_ble_eq_true rfl) rfl ?_)
    refine cn ?_
    refine cw_seq ?_
    refine cw_reg1 tok mixed rfl rfl ?_
    refine c0 rfl (w_v (.p (encV (nrm q))) rfl ?_)
    refine c0 rfl (w_v (.p (encV (nrm r))) rfl ?_)
    refine c0 rfl (w_call_2 (crossOf_fn (nrm q) (nrm r) 500 500 (smN hq) (smN hr) (by omega)) rfl rfl rfl ?_)
    refine c0 rfl (w_v (.p (encV (cross (nrm p) (nrm q)))) rfl ?_)
    refine c0 rfl (w_call_2 (dot_fn (cross (nrm q) (nrm r)) (cross (nrm p) (nrm q)) (2 * (500 * 500)) (2 * (500 * 500)) x1 x3 (by omega)) rfl rfl rfl ?_)
    refine c0 rfl (w_v (.p (encV (nrm r))) rfl ?_)
    refine c0 rfl (w_v (.p (encV (nrm p))) rfl ?_)
    refine c0 rfl (w_call_2 (crossOf_fn (nrm r) (nrm p) 500 500 (smN hr) (smN hp) (by omega)) rfl rfl rfl ?_)
    refine c0 rfl (w_v (.p (encV (cross (nrm p) (nrm q)))) rfl ?_)
    refine c0 rfl (w_call_2 (dot_fn (cross (nrm r) (nrm p)) (cross (nrm p) (nrm q)) (2 * (500 * 500)) (2 * (500 * 500)) x2 x3 (by omega)) rfl rfl rfl ?_)
    refine c0 rfl (w_v (.p (encV (cross (nrm p) (nrm q)))) rfl ?_)
    refine c0 rfl (w_v (.p (encV (cross (nrm p) (nrm q)))) rfl ?_)
    refine c0 rfl (w_call_2 (dot_fn (cross (nrm p) (nrm q)) (cross (nrm p) (nrm q)) (2 * (500 * 500)) (2 * (500 * 500)) x3 x3 (by omega)) rfl rfl rfl ?_)
    refine c0 rfl (w_bsl (g := 0) [iP (dot (cross (nrm q) (nrm r)) (cross (nrm p) (nrm q))), iP (dot (cross (nrm r) (nrm p)) (cross (nrm p) (nrm q))), iP (dot (cross (nrm p) (nrm q)) (cross (nrm p) (nrm q)))] rfl rfl rfl rfl (Nat.le_of_ble_eq_true rfl) (Nat.le_of_ble_eq_true rfl) (Nat.le_of_ble_eq_true rfl) (.cons _ _ _ _ _ _ _ [] [] (.one _ _ _ _ _ (.p _ _)) (.cons _ _ _ _ _ _ _ [] [] (.one _ _ _ _ _ (.p _ _)) (.cons _ _ _ _ _ _ _ [] [] (.one _ _ _ _ _ (.p _ _)) (.nil _)))) rfl rfl ?_)
    refine c0 rfl (w_v (.pt 3 0 3) rfl ?_)
    refine c0 rfl (w_v (I64 p.d) rfl ?_)
    refine c0 rfl (w_v (.pt 4 0 3) rfl ?_)
    refine c0 rfl (w_v (I64 q.d) rfl ?_)
    refine c0 rfl (w_v (.pt 5 0 3) rfl ?_)
    refine c0 rfl (w_v (I64 r.d) rfl ?_)
    refine c0 rfl (w_bsl (g := 0) [iP p.d, iP q.d, iP r.d] rfl rfl rfl rfl (Nat.le_of_ble_eq_true rfl) (Nat.le_of_ble_eq_true rfl) (Nat.le_of_ble_eq_true rfl) (.cons _ _ _ _ _ _ _ [] [] (.one _ _ _ _ _ (.p _ _)) (.cons _ _ _ _ _ _ _ [] [] (.one _ _ _ _ _ (.p _ _)) (.cons _ _ _ _ _ _ _ [] [] (.one _ _ _ _ _ (.p _ _)) (.nil _)))) rfl rfl ?_)
    refine c0 rfl (w_call (BO (wgh ([dot (cross (nrm q) (nrm r)) (cross (nrm p) (nrm q)), dot (cross (nrm r) (nrm p)) (cross (nrm p) (nrm q)), dot (cross (nrm p) (nrm q)) (cross (nrm p) (nrm q))]) ([p.d, q.d, r.d]))) (weighs_fn ([dot (cross (nrm q) (nrm r)) (cross (nrm p) (nrm q)), dot (cross (nrm r) (nrm p)) (cross (nrm p) (nrm q)), dot (cross (nrm p) (nrm q)) (cross (nrm p) (nrm q))]) ([p.d, q.d, r.d]) (by simp; omega) (by simp; omega) (by simp) (by simp) (by simp)) rfl (.cons _ _ _ _ _ _ _ [] _ (.one _ _ _ _ _ (passOs (xs := ([dot (cross (nrm q) (nrm r)) (cross (nrm p) (nrm q)), dot (cross (nrm r) (nrm p)) (cross (nrm p) (nrm q)), dot (cross (nrm p) (nrm q)) (cross (nrm p) (nrm q))]).map iP) rfl rfl)) (.cons _ _ _ _ _ _ _ [] _ (.one _ _ _ _ _ (passOs (xs := ([p.d, q.d, r.d]).map iP) rfl rfl)) (.nil _))) rfl (.one _ _ _ _ (.p _ _)) ?_)
    refine c0 rfl (w_v (BO (wgh ([dot (cross (nrm q) (nrm r)) (cross (nrm p) (nrm q)), dot (cross (nrm r) (nrm p)) (cross (nrm p) (nrm q)), dot (cross (nrm p) (nrm q)) (cross (nrm p) (nrm q))]) ([p.d, q.d, r.d]))) rfl ?_)
    refine cn ⟨by kernel_rfl, ?_⟩
    refine cw_ret ?_
    exact fin1 (bP (wgh ([dot (cross (nrm q) (nrm r)) (cross (nrm p) (nrm q)), dot (cross (nrm r) (nrm p)) (cross (nrm p) (nrm q)), dot (cross (nrm p) (nrm q)) (cross (nrm p) (nrm q))]) ([p.d, q.d, r.d]))) (bP (clash3 p q r)) rfl (congrArg bP (by exact clash3_i (by assumption) : (wgh ([dot (cross (nrm q) (nrm r)) (cross (nrm p) (nrm q)), dot (cross (nrm r) (nrm p)) (cross (nrm p) (nrm q)), dot (cross (nrm p) (nrm q)) (cross (nrm p) (nrm q))]) ([p.d, q.d, r.d])) = (clash3 p q r))) rfl
end Go.Proofs.Ytablmbhnimnccaa.Pw
