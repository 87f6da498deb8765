/- A part of that proof: contracts of the functions that are called, one theorem a function. No condition. -/
import Derived.Test.YtablmbhnimnccaaZqF1b
set_option maxRecDepth 20000
namespace Go.Proofs.Ytablmbhnimnccaa.Pw
theorem isNaN_fn (x : Int) : Fn PP 202 [.p (iP x)] (.p (bP false)) [] := by
  refine fn_intro tok Go.Proofs.Try.func202 (c := _) rfl rfl (Nat.le_of_ble_eq_true rfl) ?_
  refine cw_seq ?_
  refine cw_reg0 tok rfl rfl ?_
  refine c0 rfl (w_v (BO false) rfl ?_)
  refine cn ?_
  refine cw_seq ?_
  refine cw_reg0 tok rfl rfl ?_
  refine c0 rfl (w_v (I64 x) rfl ?_)
  refine c0 rfl (w_v (I64 x) rfl ?_)
  refine c0 rfl (w_nei (x) (x) rfl rfl ?_)
  refine c0 rfl (w_v (BO (decide (x ≠ x))) rfl ?_)
  refine cn ?_
  refine cw_ret ?_
  exact fin1 (bP (decide (x ≠ x))) (bP false) rfl (congrArg bP (by simp : (decide (x ≠ x)) = false)) rfl
theorem cmp_fn (x : Int) (y : Int) : Fn PP 165 [.p (iP x), .p (iP y)] (.p (iP (cmpI x y))) [] := by
  refine fn_intro tok Go.Proofs.Try.func165 (c := _) rfl rfl (Nat.le_of_ble_eq_true rfl) ?_
  refine cw_seq ?_
  refine cw_reg0 tok rfl rfl ?_
  refine c0 rfl (w_v (I64 0) rfl ?_)
  refine cn ?_
  refine cw_seq ?_
  refine cw_reg0 tok rfl rfl ?_
  refine c0 rfl (w_v (I64 x) rfl ?_)
  refine c0 rfl (w_call_1 (isNaN_fn x) rfl rfl ?_)
  refine c0 rfl (w_v (BO false) rfl ?_)
  refine cn ?_
  refine cw_seq ?_
  refine cw_reg0 tok rfl rfl ?_
  refine c0 rfl (w_v (I64 y) rfl ?_)
  refine c0 rfl (w_call_1 (isNaN_fn y) rfl rfl ?_)
  refine c0 rfl (w_v (BO false) rfl ?_)
  refine cn ?_
  refine cw_seq ?_
  refine cw_seq ?_
  refine cw_reg0 tok rfl rfl ?_
  refine c0 rfl (w_v (BO false) rfl ?_)
  refine cn ?_
  refine cw_cond (t := false) rfl (fun h => nomatch h) (fun _ => ?_)
  refine cw_skip ?_
  refine cw_seq ?_
  refine cw_seq ?_
  refine cw_reg0 tok rfl rfl ?_
  refine c0 rfl (w_v (BO false) rfl ?_)
  refine cn ?_
  refine cw_cond (t := false) rfl (fun h => nomatch h) (fun _ => ?_)
  refine cw_skip ?_
  refine cw_seq ?_
  refine cw_seq ?_
  refine cw_reg0 tok rfl rfl ?_
  refine c0 rfl (w_v (I64 x) rfl ?_)
  refine c0 rfl (w_v (I64 y) rfl ?_)
  refine c0 rfl (w_v (BO (decide (x < y))) rfl ?_)
  refine cn ?_
  refine cw_cond (t := decide (x < y)) rfl (fun c1 => ?_) (fun c1 => ?_)
  ·
    replace c1 := of_decide_eq_true c1
    refine cw_seq ?_
    refine cw_reg0 tok rfl rfl ?_
    refine c0 rfl (w_v (I64 (-1)) rfl ?_)
    refine cn ?_
    refine cw_ret ?_
    exact fin1 (iP (-1)) (iP (cmpI x y)) rfl (congrArg iP (by unfold cmpI; repeat split <;> omega : (-1) = (cmpI x y))) rfl
  ·
    replace c1 := of_decide_eq_false c1
    refine cw_skip ?_
    refine cw_seq ?_
    refine cw_seq ?_
    refine cw_reg0 tok rfl rfl ?_
    refine c0 rfl (w_v (I64 x) rfl ?_)
    refine c0 rfl (w_v (I64 y) rfl ?_)
    refine c0 rfl (w_v (BO (decide (x > y))) rfl ?_)
    refine cn ?_
    refine cw_cond (t := decide (x > y)) rfl (fun c2 => ?_) (fun c2 => ?_)
    ·
      replace c2 := of_decide_eq_true c2
      refine cw_seq ?_
      refine cw_reg0 tok rfl rfl ?_
      refine c0 rfl (w_v (I64 1) rfl ?_)
      refine cn ?_
      refine cw_ret ?_
      exact fin1 (iP 1) (iP (cmpI x y)) rfl (congrArg iP (by unfold cmpI; repeat split <;> omega : 1 = (cmpI x y))) rfl
    ·
      replace c2 := of_decide_eq_false c2
      refine cw_skip ?_
      refine cw_seq ?_
      refine cw_reg0 tok rfl rfl ?_
      refine c0 rfl (w_v (I64 0) rfl ?_)
      refine cn ?_
      refine cw_ret ?_
      exact fin1 (iP 0) (iP (cmpI x y)) rfl (congrArg iP (by unfold cmpI; repeat split <;> omega : 0 = (cmpI x y))) rfl
theorem isign_fn (n : Int) : Fn PP 103 [.p (iP n)] (.p (iP (sgn n))) [] := by
  refine fn_intro tok Go.Proofs.Try.func103 (c := _) rfl rfl (Nat.le_of_ble_eq_true rfl) ?_
  refine cw_seq ?_
  refine cw_reg0 tok rfl rfl ?_
  refine c0 rfl (w_v (I64 0) rfl ?_)
  refine cn ?_
  refine cw_seq ?_
  refine cw_reg0 tok rfl rfl ?_
  refine c0 rfl (w_v (I64 n) rfl ?_)
  refine c0 rfl (w_call_2 (cmp_fn n 0) rfl rfl rfl ?_)
  refine c0 rfl (w_v (I64 (cmpI n 0)) rfl ?_)
  refine cn ?_
  refine cw_ret ?_
  exact fin1 (iP (cmpI n 0)) (iP (sgn n)) rfl (congrArg iP (by exact cmpI0 n : (cmpI n 0) = (sgn n))) rfl
theorem ssign_fn (n : Int) : Fn PP 208 [.p (iP n)] (.p (iP (sgn n))) [] := by
  refine fn_intro tok Go.Proofs.Try.func208 (c := _) rfl rfl (Nat.le_of_ble_eq_true rfl) ?_
  refine cw_seq ?_
  refine cw_reg0 tok rfl rfl ?_
  refine c0 rfl (w_v (I64 0) rfl ?_)
  refine cn ?_
  refine cw_seq ?_
  refine cw_block ?_
  refine cw_seq ?_
  refine cw_reg0 tok rfl rfl ?_
  refine c0 rfl (w_v (I64 n) rfl ?_)
  refine c0 rfl (w_v (BO (decide (n > 0))) rfl ?_)
  refine c0 rfl (w_v (BO (decide (n > 0))) rfl ?_)
  refine cn ?_
  refine cw_cond (t := decide (n > 0)) rfl (fun c1 => ?_) (fun c1 => ?_)
  ·
    replace c1 := of_decide_eq_true c1
    refine cw_seq ?_
    refine cw_reg0 tok rfl rfl ?_
    refine c0 rfl (w_v (I64 1) rfl ?_)
    refine cn ?_
    refine cw_ret ?_
    exact fin1 (iP 1) (iP (sgn n)) rfl (congrArg iP (by unfold sgn; repeat split <;> omega : 1 = (sgn n))) rfl
  ·
    replace c1 := of_decide_eq_false c1
    refine cw_seq ?_
    refine cw_reg0 tok rfl rfl ?_
    refine c0 rfl (w_v (I64 n) rfl ?_)
    refine c0 rfl (w_v (BO (decide (n < 0))) rfl ?_)
    refine c0 rfl (w_v (BO (decide (n < 0))) rfl ?_)
    refine cn ?_
    refine cw_cond (t := decide (n < 0)) rfl (fun c2 => ?_) (fun c2 => ?_)
    ·
      replace c2 := of_decide_eq_true c2
      refine cw_seq ?_
      refine cw_reg0 tok rfl rfl ?_
      refine c0 rfl (w_v (I64 (-1)) rfl ?_)
      refine cn ?_
      refine cw_ret ?_
      exact fin1 (iP (-1)) (iP (sgn n)) rfl (congrArg iP (by unfold sgn; repeat split <;> omega : (-1) = (sgn n))) rfl
    ·
      replace c2 := of_decide_eq_false c2
      refine cw_skip ?_
      refine cw_seq ?_
      refine cw_reg0 tok rfl rfl ?_
      refine c0 rfl (w_v (I64 0) rfl ?_)
      refine cn ?_
      refine cw_ret ?_
      exact fin1 (iP 0) (iP (sgn n)) rfl (congrArg iP (by unfold sgn; repeat split <;> omega : 0 = (sgn n))) rfl
theorem normal_fn (p : Pl) : Fn PP 223 [.p (encP p)] (.p (encV (nrm p))) [] := by
  refine fn_intro tok Go.Proofs.Try.func223 (c := _) rfl rfl (Nat.le_of_ble_eq_true rfl) ?_
  refine cw_seq ?_
  refine cw_reg0 tok rfl rfl ?_
  refine c0 rfl (w_box (g := 0) [I64 p.a, I64 p.b, I64 p.c, I64 p.d] rfl rfl rfl ?_)
  refine c0 rfl (w_alloc (g := 0) [I64 0, I64 0, I64 0] rfl rfl rfl ?_)
  refine cn ?_
  refine cw_seq ?_
  refine cw_reg0 tok rfl rfl ?_
  refine c0 rfl (w_v (.pt 1 0 0) rfl ?_)
  refine c0 rfl (w_v (I64 p.a) rfl ?_)
  refine c0 rfl (w_v (.pt 1 0 1) rfl ?_)
  refine c0 rfl (w_v (I64 p.b) rfl ?_)
  refine c0 rfl (w_v (.pt 1 0 2) rfl ?_)
  refine c0 rfl (w_v (I64 p.c) rfl ?_)
  refine c0 rfl (w_build (.p (encV (V3.mk p.a p.b p.c))) rfl rfl rfl rfl ?_)
  refine c0 rfl (w_st [I64 p.a, I64 p.b, I64 p.c] rfl rfl rfl rfl rfl (Nat.le_of_ble_eq_true rfl) rfl ?_)
  refine cn ?_
  refine cw_ret ?_
  exact fin1 (encV (V3.mk p.a p.b p.c)) (encV (nrm p)) rfl (congrArg encV (by first | rfl | simp_all : (V3.mk p.a p.b p.c) = (nrm p))) rfl
theorem crossOf_fn (u : V3) (v : V3) (B : Int) (C : Int) (hu : sm B u) (hv : sm C v) (h : B * C ≤ 1000000000000000000) : Fn PP 224 [.p (encV u), .p (encV v)] (.p (encV (cross u v))) [] := by
  have m1 := mulB hu.1 hv.1; have m2 := mulB hu.1 hv.2.1; have m3 := mulB hu.1 hv.2.2; have m4 := mulB hu.2.1 hv.1; have m5 := mulB hu.2.1 hv.2.1; have m6 := mulB hu.2.1 hv.2.2; have m7 := mulB hu.2.2 hv.1; have m8 := mulB hu.2.2 hv.2.1; have m9 := mulB hu.2.2 hv.2.2
  refine fn_intro tok Go.Proofs.Try.func224 (c := _) rfl rfl (Nat.le_of_ble_eq_true rfl) ?_
  refine cw_seq ?_
  refine cw_reg0 tok rfl rfl ?_
  refine c0 rfl (w_box (g := 0) [I64 u.a, I64 u.b, I64 u.c] rfl rfl rfl ?_)
  refine c0 rfl (w_box (g := 0) [I64 v.a, I64 v.b, I64 v.c] rfl rfl rfl ?_)
  refine c0 rfl (w_alloc (g := 0) [I64 0, I64 0, I64 0] rfl rfl rfl ?_)
  refine cn ?_
  refine cw_seq ?_
  refine cw_reg0 tok rfl rfl ?_
  refine c0 rfl (w_v (.pt 2 0 1) rfl ?_)
  refine c0 rfl (w_v (I64 u.b) rfl ?_)
  refine c0 rfl (w_v (.pt 3 0 2) rfl ?_)
  refine c0 rfl (w_v (I64 v.c) rfl ?_)
  refine c0 rfl (w_i (u.b * v.c) rfl (by unfold inI; omega) ?_)
  refine c0 rfl (w_v (.pt 2 0 2) rfl ?_)
  refine c0 rfl (w_v (I64 u.c) rfl ?_)
  refine c0 rfl (w_v (.pt 3 0 1) rfl ?_)
  refine c0 rfl (w_v (I64 v.b) rfl ?_)
  refine c0 rfl (w_i (u.c * v.b) rfl (by unfold inI; omega) ?_)
  refine c0 rfl (w_i ((u.b * v.c) - (u.c * v.b)) rfl (by unfold inI; omega) ?_)
  refine c0 rfl (w_v (.pt 2 0 2) rfl ?_)
  refine c0 rfl (w_v (I64 u.c) rfl ?_)
  refine c0 rfl (w_v (.pt 3 0 0) rfl ?_)
  refine c0 rfl (w_v (I64 v.a) rfl ?_)
  refine c0 rfl (w_i (u.c * v.a) rfl (by unfold inI; omega) ?_)
  refine c0 rfl (w_v (.pt 2 0 0) rfl ?_)
  refine c0 rfl (w_v (I64 u.a) rfl ?_)
  refine c0 rfl (w_v (.pt 3 0 2) rfl ?_)
  refine c0 rfl (w_v (I64 v.c) rfl ?_)
  refine c0 rfl (w_i (u.a * v.c) rfl (by unfold inI; omega) ?_)
  refine c0 rfl (w_i ((u.c * v.a) - (u.a * v.c)) rfl (by unfold inI; omega) ?_)
  refine c0 rfl (w_v (.pt 2 0 0) rfl ?_)
  refine c0 rfl (w_v (I64 u.a) rfl ?_)
  refine c0 rfl (w_v (.pt 3 0 1) rfl ?_)
  refine c0 rfl (w_v (I64 v.b) rfl ?_)
  refine c0 rfl (w_i (u.a * v.b) rfl (by unfold inI; omega) ?_)
  refine c0 rfl (w_v (.pt 2 0 1) rfl ?_)
  refine c0 rfl (w_v (I64 u.b) rfl ?_)
  refine c0 rfl (w_v (.pt 3 0 0) rfl ?_)
  refine c0 rfl (w_v (I64 v.a) rfl ?_)
  refine c0 rfl (w_i (u.b * v.a) rfl (by unfold inI; omega) ?_)
  refine c0 rfl (w_i ((u.a * v.b) - (u.b * v.a)) rfl (by unfold inI; omega) ?_)
  refine c0 rfl (w_build (.p (encV (V3.mk ((u.b * v.c) - (u.c * v.b)) ((u.c * v.a) - (u.a * v.c)) ((u.a * v.b) - (u.b * v.a))))) rfl rfl rfl rfl ?_)
  refine c0 rfl (w_st [I64 ((u.b * v.c) - (u.c * v.b)), I64 ((u.c * v.a) - (u.a * v.c)), I64 ((u.a * v.b) - (u.b * v.a))] rfl rfl rfl rfl rfl (Nat.le_of_ble_eq_true rfl) rfl ?_)
  refine cn ?_
  refine cw_ret ?_
  exact fin1 (encV (V3.mk ((u.b * v.c) - (u.c * v.b)) ((u.c * v.a) - (u.a * v.c)) ((u.a * v.b) - (u.b * v.a)))) (encV (cross u v)) rfl (congrArg encV (by first | rfl | simp_all : (V3.mk ((u.b * v.c) - (u.c * v.b)) ((u.c * v.a) - (u.a * v.c)) ((u.a * v.b) - (u.b * v.a))) = (cross u v))) rfl
theorem dot_fn (u : V3) (v : V3) (B : Int) (C : Int) (hu : sm B u) (hv : sm C v) (h : B * C ≤ 1000000000000000000) : Fn PP 226 [.p (encV u), .p (encV v)] (.p (iP (dot u v))) [] := by
  have m1 := mulB hu.1 hv.1; have m2 := mulB hu.1 hv.2.1; have m3 := mulB hu.1 hv.2.2; have m4 := mulB hu.2.1 hv.1; have m5 := mulB hu.2.1 hv.2.1; have m6 := mulB hu.2.1 hv.2.2; have m7 := mulB hu.2.2 hv.1; have m8 := mulB hu.2.2 hv.2.1; have m9 := mulB hu.2.2 hv.2.2
  refine fn_intro tok Go.Proofs.Try.func226 (c := _) rfl rfl (Nat.le_of_ble_eq_true rfl) ?_
  refine cw_seq ?_
  refine cw_reg0 tok rfl rfl ?_
  refine c0 rfl (w_box (g := 0) [I64 u.a, I64 u.b, I64 u.c] rfl rfl rfl ?_)
  refine c0 rfl (w_box (g := 0) [I64 v.a, I64 v.b, I64 v.c] rfl rfl rfl ?_)
  refine c0 rfl (w_v (I64 0) rfl ?_)
  refine cn ?_
  refine cw_seq ?_
  refine cw_reg0 tok rfl rfl ?_
  refine c0 rfl (w_v (.pt 2 0 0) rfl ?_)
  refine c0 rfl (w_v (I64 u.a) rfl ?_)
  refine c0 rfl (w_v (.pt 3 0 0) rfl ?_)
  refine c0 rfl (w_v (I64 v.a) rfl ?_)
  refine c0 rfl (w_i (u.a * v.a) rfl (by unfold inI; omega) ?_)
  refine c0 rfl (w_v (.pt 2 0 1) rfl ?_)
  refine c0 rfl (w_v (I64 u.b) rfl ?_)
  refine c0 rfl (w_v (.pt 3 0 1) rfl ?_)
  refine c0 rfl (w_v (I64 v.b) rfl ?_)
  refine c0 rfl (w_i (u.b * v.b) rfl (by unfold inI; omega) ?_)
  refine c0 rfl (w_i ((u.a * v.a) + (u.b * v.b)) rfl (by unfold inI; omega) ?_)
  refine c0 rfl (w_v (.pt 2 0 2) rfl ?_)
  refine c0 rfl (w_v (I64 u.c) rfl ?_)
  refine c0 rfl (w_v (.pt 3 0 2) rfl ?_)
  refine c0 rfl (w_v (I64 v.c) rfl ?_)
  refine c0 rfl (w_i (u.c * v.c) rfl (by unfold inI; omega) ?_)
  refine c0 rfl (w_i (((u.a * v.a) + (u.b * v.b)) + (u.c * v.c)) rfl (by unfold inI; omega) ?_)
  refine c0 rfl (w_v (I64 (((u.a * v.a) + (u.b * v.b)) + (u.c * v.c))) rfl ?_)
  refine cn ?_
  refine cw_ret ?_
  exact fin1 (iP (((u.a * v.a) + (u.b * v.b)) + (u.c * v.c))) (iP (dot u v)) rfl (congrArg iP (by first | rfl | simp_all : (((u.a * v.a) + (u.b * v.b)) + (u.c * v.c)) = (dot u v))) rfl
theorem l4Cross_fn (p : Pl) (q : Pl) (hp : okc p) (hq : okc q) : Fn PP 217 [.p (encP p), .p (encP q)] (.p (encV (cross (nrm p) (nrm q)))) [] := by
  obtain ⟨p1, p2, p3, p4⟩ := hp
  obtain ⟨q1, q2, q3, q4⟩ := hq
  have m1 := mulB p1 q1; have m2 := mulB p1 q2; have m3 := mulB p1 q3; have m4 := mulB p2 q1; have m5 := mulB p2 q2; have m6 := mulB p2 q3; have m7 := mulB p3 q1; have m8 := mulB p3 q2; have m9 := mulB p3 q3
  refine fn_intro tok Go.Proofs.Try.func217 (c := _) rfl rfl (Nat.le_of_ble_eq_true rfl) ?_
  refine cw_seq ?_
  refine cw_reg0 tok rfl rfl ?_
  refine c0 rfl (w_box (g := 0) [I64 p.a, I64 p.b, I64 p.c, I64 p.d] rfl rfl rfl ?_)
  refine c0 rfl (w_box (g := 0) [I64 q.a, I64 q.b, I64 q.c, I64 q.d] rfl rfl rfl ?_)
  refine c0 rfl (w_alloc (g := 0) [I64 0, I64 0, I64 0] rfl rfl rfl ?_)
  refine cn ?_
  refine cw_seq ?_
  refine cw_reg0 tok rfl rfl ?_
  refine c0 rfl (w_v (.pt 2 0 1) rfl ?_)
  refine c0 rfl (w_v (I64 p.b) rfl ?_)
  refine c0 rfl (w_v (.pt 3 0 2) rfl ?_)
  refine c0 rfl (w_v (I64 q.c) rfl ?_)
  refine c0 rfl (w_i (p.b * q.c) rfl (by unfold inI; omega) ?_)
  refine c0 rfl (w_v (.pt 2 0 2) rfl ?_)
  refine c0 rfl (w_v (I64 p.c) rfl ?_)
  refine c0 rfl (w_v (.pt 3 0 1) rfl ?_)
  refine c0 rfl (w_v (I64 q.b) rfl ?_)
  refine c0 rfl (w_i (p.c * q.b) rfl (by unfold inI; omega) ?_)
  refine c0 rfl (w_i ((p.b * q.c) - (p.c * q.b)) rfl (by unfold inI; omega) ?_)
  refine c0 rfl (w_v (.pt 2 0 2) rfl ?_)
  refine c0 rfl (w_v (I64 p.c) rfl ?_)
  refine c0 rfl (w_v (.pt 3 0 0) rfl ?_)
  refine c0 rfl (w_v (I64 q.a) rfl ?_)
  refine c0 rfl (w_i (p.c * q.a) rfl (by unfold inI; omega) ?_)
  refine c0 rfl (w_v (.pt 2 0 0) rfl ?_)
  refine c0 rfl (w_v (I64 p.a) rfl ?_)
  refine c0 rfl (w_v (.pt 3 0 2) rfl ?_)
  refine c0 rfl (w_v (I64 q.c) rfl ?_)
  refine c0 rfl (w_i (p.a * q.c) rfl (by unfold inI; omega) ?_)
  refine c0 rfl (w_i ((p.c * q.a) - (p.a * q.c)) rfl (by unfold inI; omega) ?_)
  refine c0 rfl (w_v (.pt 2 0 0) rfl ?_)
  refine c0 rfl (w_v (I64 p.a) rfl ?_)
  refine c0 rfl (w_v (.pt 3 0 1) rfl ?_)
  refine c0 rfl (w_v (I64 q.b) rfl ?_)
  refine c0 rfl (w_i (p.a * q.b) rfl (by unfold inI; omega) ?_)
  refine c0 rfl (w_v (.pt 2 0 1) rfl ?_)
  refine c0 rfl (w_v (I64 p.b) rfl ?_)
  refine c0 rfl (w_v (.pt 3 0 0) rfl ?_)
  refine c0 rfl (w_v (I64 q.a) rfl ?_)
  refine c0 rfl (w_i (p.b * q.a) rfl (by unfold inI; omega) ?_)
  refine c0 rfl (w_i ((p.a * q.b) - (p.b * q.a)) rfl (by unfold inI; omega) ?_)
  refine c0 rfl (w_build (.p (encV (V3.mk ((p.b * q.c) - (p.c * q.b)) ((p.c * q.a) - (p.a * q.c)) ((p.a * q.b) - (p.b * q.a))))) rfl rfl rfl rfl ?_)
  refine c0 rfl (w_st [I64 ((p.b * q.c) - (p.c * q.b)), I64 ((p.c * q.a) - (p.a * q.c)), I64 ((p.a * q.b) - (p.b * q.a))] rfl rfl rfl rfl rfl (Nat.le_of_ble_eq_true rfl) rfl ?_)
  refine cn ?_
  refine cw_ret ?_
  exact fin1 (encV (V3.mk ((p.b * q.c) - (p.c * q.b)) ((p.c * q.a) - (p.a * q.c)) ((p.a * q.b) - (p.b * q.a)))) (encV (cross (nrm p) (nrm q))) rfl (congrArg encV (by first | rfl | simp_all : (V3.mk ((p.b * q.c) - (p.c * q.b)) ((p.c * q.a) - (p.a * q.c)) ((p.a * q.b) - (p.b * q.a))) = (cross (nrm p) (nrm q)))) rfl
theorem l4Par_fn (p : Pl) (q : Pl) (hp : okc p) (hq : okc q) : Fn PP 216 [.p (encP p), .p (encP q)] (.p (iP (par p q))) [] := by
  have hp0 := hp; have hq0 := hq
  obtain ⟨p1, p2, p3, p4⟩ := hp
  obtain ⟨q1, q2, q3, q4⟩ := hq
  have m1 := mulB p1 q1; have m2 := mulB p1 q2; have m3 := mulB p1 q3; have m4 := mulB p2 q1; have m5 := mulB p2 q2; have m6 := mulB p2 q3; have m7 := mulB p3 q1; have m8 := mulB p3 q2; have m9 := mulB p3 q3
  refine fn_intro tok Go.Proofs.Try.func216 (c := _) rfl rfl (Nat.le_of_ble_eq_true rfl) ?_
  refine cw_seq ?_
  refine cw_reg0 tok rfl rfl ?_
  refine c0 rfl (w_box (g := 0) [I64 p.a, I64 p.b, I64 p.c, I64 p.d] rfl rfl rfl ?_)
  refine c0 rfl (w_box (g := 0) [I64 q.a, I64 q.b, I64 q.c, I64 q.d] rfl rfl rfl ?_)
  refine c0 rfl (w_v (I64 0) rfl ?_)
  refine cn ?_
  refine cw_seq ?_
  refine cw_seq ?_
  refine cw_reg0 tok rfl rfl ?_
  refine c0 rfl (w_v (.p (encP p)) rfl ?_)
  refine c0 rfl (w_v (.p (encP q)) rfl ?_)
  refine c0 rfl (w_call_2 (l4Cross_fn p q hp0 hq0) rfl rfl rfl ?_)
  refine c0 rfl (w_build (.p (encV (V3.mk 0 0 0))) rfl rfl rfl rfl ?_)
  refine c0 rfl (w_eqag (decide ((cross (nrm p) (nrm q)) ≠ (V3.mk 0 0 0))) rfl rfl rfl eqV3 (dnV3 (cross (nrm p) (nrm q)) (V3.mk 0 0 0)) ?_)
  refine cn ?_
  refine cw_cond (t := decide ((cross (nrm p) (nrm q)) ≠ (V3.mk 0 0 0))) rfl (fun c1 => ?_) (fun c1 => ?_)
  ·
    replace c1 := of_decide_eq_true c1
    refine cw_seq ?_
    refine cw_reg0 tok rfl rfl ?_
    refine c0 rfl (w_v (I64 0) rfl ?_)
    refine cn ?_
    refine cw_ret ?_
    exact fin1 (iP 0) (iP (par p q)) rfl (congrArg iP (by first | exact (par_n (by assumption)).symm | exact (par_z (by assumption)).symm : 0 = (par p q))) rfl
  ·
    replace c1 := of_decide_eq_false c1
    refine cw_skip ?_
    refine cw_seq ?_
    refine cw_reg0 tok rfl rfl ?_
    refine c0 rfl (w_v (.pt 2 0 0) rfl ?_)
    refine c0 rfl (w_v (I64 p.a) rfl ?_)
    refine c0 rfl (w_v (.pt 3 0 0) rfl ?_)
    refine c0 rfl (w_v (I64 q.a) rfl ?_)
    refine c0 rfl (w_i (p.a * q.a) rfl (by unfold inI; omega) ?_)
    refine c0 rfl (w_v (.pt 2 0 1) rfl ?_)
    refine c0 rfl (w_v (I64 p.b) rfl ?_)
    refine c0 rfl (w_v (.pt 3 0 1) rfl ?_)
    refine c0 rfl (w_v (I64 q.b) rfl ?_)
    refine c0 rfl (w_i (p.b * q.b) rfl (by unfold inI; omega) ?_)
    refine c0 rfl (w_i ((p.a * q.a) + (p.b * q.b)) rfl (by unfold inI; omega) ?_)
    refine c0 rfl (w_v (.pt 2 0 2) rfl ?_)
    refine c0 rfl (w_v (I64 p.c) rfl ?_)
    refine c0 rfl (w_v (.pt 3 0 2) rfl ?_)
    refine c0 rfl (w_v (I64 q.c) rfl ?_)
    refine c0 rfl (w_i (p.c * q.c) rfl (by unfold inI; omega) ?_)
    refine c0 rfl (w_i (((p.a * q.a) + (p.b * q.b)) + (p.c * q.c)) rfl (by unfold inI; omega) ?_)
    refine c0 rfl (w_call_1 (ssign_fn (((p.a * q.a) + (p.b * q.b)) + (p.c * q.c))) rfl rfl ?_)
    refine c0 rfl (w_v (I64 (sgn (((p.a * q.a) + (p.b * q.b)) + (p.c * q.c)))) rfl ?_)
    refine cn ?_
    refine cw_ret ?_
    exact fin1 (iP (sgn (((p.a * q.a) + (p.b * q.b)) + (p.c * q.c)))) (iP (par p q)) rfl (congrArg iP (by first | exact (par_n (by assumption)).symm | exact (par_z (by assumption)).symm : (sgn (((p.a * q.a) + (p.b * q.b)) + (p.c * q.c))) = (par p q))) rfl
theorem par_fn (p : Pl) (q : Pl) (hp : okc p) (hq : okc q) : Fn PP 222 [.p (encP p), .p (encP q)] (.p (iP (par p q))) [] := by
  refine fn_intro tok Go.Proofs.Try.func222 (c := _) rfl rfl (Nat.le_of_ble_eq_true rfl) ?_
  refine cw_seq ?_
  refine cw_reg0 tok rfl rfl ?_
  refine c0 rfl (w_box (g := 0) [I64 p.a, I64 p.b, I64 p.c, I64 p.d] rfl rfl rfl ?_)
  refine c0 rfl (w_box (g := 0) [I64 q.a, I64 q.b, I64 q.c, I64 q.d] rfl rfl rfl ?_)
  refine c0 rfl (w_v (I64 0) rfl ?_)
  refine cn ?_
  refine cw_seq ?_
  refine cw_seq ?_
  refine cw_reg1 tok mixed rfl rfl ?_
  refine c0 rfl (w_v (.p (encP p)) rfl ?_)
  refine c0 rfl (w_call_1 (normal_fn p) rfl rfl ?_)
  refine c0 rfl (w_v (.p (encP q)) rfl ?_)
  refine c0 rfl (w_call_1 (normal_fn q) rfl rfl ?_)
  refine c0 rfl (w_call_2 (crossOf_fn (nrm p) (nrm q) 500 500 (smN hp) (smN hq) (by omega)) rfl rfl rfl ?_)
  refine c0 rfl (w_build (.p (encV (V3.mk 0 0 0))) rfl rfl rfl rfl ?_)
  refine c0 rfl (w_eqag (decide ((cross (nrm p) (nrm q)) ≠ (V3.mk 0 0 0))) rfl rfl rfl eqV3 (dnV3 (cross (nrm p) (nrm q)) (V3.mk 0 0 0)) ?_)
  refine cn ⟨by kernel_rfl, ?_⟩
  refine cw_cond (t := decide ((cross (nrm p) (nrm q)) ≠ (V3.mk 0 0 0))) rfl (fun c1 => ?_) (fun c1 => ?_)
  ·
    replace c1 := of_decide_eq_true c1
    refine cw_seq ?_
    refine cw_reg0 tok rfl rfl ?_
    refine c0 rfl (w_v (I64 0) rfl ?_)
    refine cn ?_
    refine cw_ret ?_
    exact fin1 (iP 0) (iP (par p q)) rfl (congrArg iP (by first | exact (par_n (by assumption)).symm | exact (par_z (by assumption)).symm : 0 = (par p q))) rfl
  ·
    replace c1 := of_decide_eq_false c1
    refine cw_skip ?_
    refine cw_seq ?_
    refine cw_reg1 tok mixed rfl rfl ?_
    refine c0 rfl (w_v (.p (encP p)) rfl ?_)
    refine c0 rfl (w_call_1 (normal_fn p) rfl rfl ?_)
    refine c0 rfl (w_v (.p (encP q)) rfl ?_)
    refine c0 rfl (w_call_1 (normal_fn q) rfl rfl ?_)
    refine c0 rfl (w_call_2 (dot_fn (nrm p) (nrm q) 500 500 (smN hp) (smN hq) (by omega)) rfl rfl rfl ?_)
    refine c0 rfl (w_call_1 (isign_fn (dot (nrm p) (nrm q))) rfl rfl ?_)
    refine c0 rfl (w_v (I64 (sgn (dot (nrm p) (nrm q)))) rfl ?_)
    refine cn ⟨by kernel_rfl, ?_⟩
    refine cw_ret ?_
    exact fin1 (iP (sgn (dot (nrm p) (nrm q)))) (iP (par p q)) rfl (congrArg iP (by first | exact (par_n (by assumption)).symm | exact (par_z (by assumption)).symm : (sgn (dot (nrm p) (nrm q))) = (par p q))) rfl
theorem det_fn (u : V3) (v : V3) (w : V3) (hu : sm 500 u) (hv : sm 500 v) (hw : sm 500 w) : Fn PP 210 [.p (encV u), .p (encV v), .p (encV w)] (.p (iP (dot u (cross v w)))) [] := by
  refine fn_intro tok Go.Proofs.Try.func210 (c := _) rfl rfl (Nat.le_of_ble_eq_true rfl) ?_
  refine cw_seq ?_
  refine cw_reg0 tok rfl rfl ?_
  refine c0 rfl (w_box (g := 0) [I64 u.a, I64 u.b, I64 u.c] rfl rfl rfl ?_)
  refine c0 rfl (w_box (g := 0) [I64 v.a, I64 v.b, I64 v.c] rfl rfl rfl ?_)
  refine c0 rfl (w_box (g := 0) [I64 w.a, I64 w.b, I64 w.c] rfl rfl rfl ?_)
  refine c0 rfl (w_v (I64 0) rfl ?_)
  refine cn ?_
  refine cw_seq ?_
  refine cw_reg1 tok mixed rfl rfl ?_
  refine c0 rfl (w_v (.p (encV u)) rfl ?_)
  refine c0 rfl (w_v (.p (encV v)) rfl ?_)
  refine c0 rfl (w_v (.p (encV w)) rfl ?_)
  refine c0 rfl (w_call_2 (crossOf_fn v w 500 500 hv hw (by omega)) rfl rfl rfl ?_)
  refine c0 rfl (w_call_2 (dot_fn u (cross v w) 500 (2 * (500 * 500)) hu (smCross hv hw) (by omega)) rfl rfl rfl ?_)
  refine c0 rfl (w_v (I64 (dot u (cross v w))) rfl ?_)
  refine cn ⟨by kernel_rfl, ?_⟩
  refine cw_ret ?_
  exact fin1 (iP (dot u (cross v w))) (iP (dot u (cross v w))) rfl (congrArg iP (by first | rfl | simp_all : (dot u (cross v w)) = (dot u (cross v w)))) rfl
theorem idet3_fn (p : Pl) (q : Pl) (r : Pl) (hp : okc p) (hq : okc q) (hr : okc r) : Fn PP 209 [.p (encP p), .p (encP q), .p (encP r)] (.p (iP (det3 p q r))) [] := by
  refine fn_intro tok Go.Proofs.Try.func209 (c := _) rfl rfl (Nat.le_of_ble_eq_true rfl) ?_
  refine cw_seq ?_
  refine cw_reg0 tok rfl rfl ?_
  refine c0 rfl (w_box (g := 0) [I64 p.a, I64 p.b, I64 p.c, I64 p.d] rfl rfl rfl ?_)
  refine c0 rfl (w_box (g := 0) [I64 q.a, I64 q.b, I64 q.c, I64 q.d] rfl rfl rfl ?_)
  refine c0 rfl (w_box (g := 0) [I64 r.a, I64 r.b, I64 r.c, I64 r.d] rfl rfl rfl ?_)
  refine c0 rfl (w_v (I64 0) rfl ?_)
  refine cn ?_
  refine cw_seq ?_
  refine cw_reg1 tok mixed rfl rfl ?_
  refine c0 rfl (w_v (.p (encP p)) rfl ?_)
  refine c0 rfl (w_call_1 (normal_fn p) rfl rfl ?_)
  refine c0 rfl (w_v (.p (encP q)) rfl ?_)
  refine c0 rfl (w_call_1 (normal_fn q) rfl rfl ?_)
  refine c0 rfl (w_v (.p (encP r)) rfl ?_)
  refine c0 rfl (w_call_1 (normal_fn r) rfl rfl ?_)
  refine c0 rfl (w_call_3 (det_fn (nrm p) (nrm q) (nrm r) (smN hp) (smN hq) (smN hr)) rfl rfl rfl rfl ?_)
  refine c0 rfl (w_v (I64 (dot (nrm p) (cross (nrm q) (nrm r)))) rfl ?_)
  refine cn ⟨by kernel_rfl, ?_⟩
  refine cw_ret ?_
  exact fin1 (iP (dot (nrm p) (cross (nrm q) (nrm r)))) (iP (det3 p q r)) rfl (congrArg iP (by first | rfl | simp_all : (dot (nrm p) (cross (nrm q) (nrm r))) = (det3 p q r))) rfl
theorem sdet3_fn (p : Pl) (q : Pl) (r : Pl) (hp : okc p) (hq : okc q) (hr : okc r) : Fn PP 201 [.p (encP p), .p (encP q), .p (encP r)] (.p (iP (det3 p q r))) [] := by
  have k := smCross (smN hq) (smN hr); have m1 := mulB hp.1 k.1; have m2 := mulB hp.2.1 k.2.1; have m3 := mulB hp.2.2.1 k.2.2
  refine fn_intro tok Go.Proofs.Try.func201 (c := _) rfl rfl (Nat.le_of_ble_eq_true rfl) ?_
  refine cw_seq ?_
  refine cw_reg0 tok rfl rfl ?_
  refine c0 rfl (w_box (g := 0) [I64 p.a, I64 p.b, I64 p.c, I64 p.d] rfl rfl rfl ?_)
  refine c0 rfl (w_box (g := 0) [I64 q.a, I64 q.b, I64 q.c, I64 q.d] rfl rfl rfl ?_)
  refine c0 rfl (w_box (g := 0) [I64 r.a, I64 r.b, I64 r.c, I64 r.d] rfl rfl rfl ?_)
  refine c0 rfl (w_v (I64 0) rfl ?_)
  refine cn ?_
  refine cw_seq ?_
  refine cw_reg0 tok rfl rfl ?_
  refine c0 rfl (w_v (.p (encP q)) rfl ?_)
  refine c0 rfl (w_v (.p (encP r)) rfl ?_)
  refine c0 rfl (w_call_2 (l4Cross_fn q r hq hr) rfl rfl rfl ?_)
  refine c0 rfl (w_alloc (g := 0) [I64 0, I64 0, I64 0] rfl rfl rfl ?_)
  refine c0 rfl (w_st [I64 ((cross (nrm q) (nrm r)).a), I64 ((cross (nrm q) (nrm r)).b), I64 ((cross (nrm q) (nrm r)).c)] rfl rfl rfl rfl rfl (Nat.le_of_ble_eq_true rfl) rfl ?_)
  refine cn ?_
  refine cw_seq ?_
  refine cw_reg0 tok rfl rfl ?_
  refine c0 rfl (w_v (.pt 3 0 0) rfl ?_)
  refine c0 rfl (w_v (I64 p.a) rfl ?_)
  refine c0 rfl (w_v (.pt 7 0 0) rfl ?_)
  refine c0 rfl (w_v (I64 ((cross (nrm q) (nrm r)).a)) rfl ?_)
  refine c0 rfl (w_i (p.a * ((cross (nrm q) (nrm r)).a)) rfl (by unfold inI; omega) ?_)
  refine c0 rfl (w_v (.pt 3 0 1) rfl ?_)
  refine c0 rfl (w_v (I64 p.b) rfl ?_)
  refine c0 rfl (w_v (.pt 7 0 1) rfl ?_)
  refine c0 rfl (w_v (I64 ((cross (nrm q) (nrm r)).b)) rfl ?_)
  refine c0 rfl (w_i (p.b * ((cross (nrm q) (nrm r)).b)) rfl (by unfold inI; omega) ?_)
  refine c0 rfl (w_i ((p.a * ((cross (nrm q) (nrm r)).a)) + (p.b * ((cross (nrm q) (nrm r)).b))) rfl (by unfold inI; omega) ?_)
  refine c0 rfl (w_v (.pt 3 0 2) rfl ?_)
  refine c0 rfl (w_v (I64 p.c) rfl ?_)
  refine c0 rfl (w_v (.pt 7 0 2) rfl ?_)
  refine c0 rfl (w_v (I64 ((cross (nrm q) (nrm r)).c)) rfl ?_)
  refine c0 rfl (w_i (p.c * ((cross (nrm q) (nrm r)).c)) rfl (by unfold inI; omega) ?_)
  refine c0 rfl (w_i (((p.a * ((cross (nrm q) (nrm r)).a)) + (p.b * ((cross (nrm q) (nrm r)).b))) + (p.c * ((cross (nrm q) (nrm r)).c))) rfl (by unfold inI; omega) ?_)
  refine c0 rfl (w_v (I64 (((p.a * ((cross (nrm q) (nrm r)).a)) + (p.b * ((cross (nrm q) (nrm r)).b))) + (p.c * ((cross (nrm q) (nrm r)).c)))) rfl ?_)
  refine cn ?_
  refine cw_ret ?_
  exact fin1 (iP (((p.a * ((cross (nrm q) (nrm r)).a)) + (p.b * ((cross (nrm q) (nrm r)).b))) + (p.c * ((cross (nrm q) (nrm r)).c)))) (iP (det3 p q r)) rfl (congrArg iP (by first | rfl | simp_all : (((p.a * ((cross (nrm q) (nrm r)).a)) + (p.b * ((cross (nrm q) (nrm r)).b))) + (p.c * ((cross (nrm q) (nrm r)).c))) = (det3 p q r))) rfl
end Go.Proofs.Ytablmbhnimnccaa.Pw
