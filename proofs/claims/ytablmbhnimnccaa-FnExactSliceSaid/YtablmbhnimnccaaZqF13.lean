/- A part of that proof: contracts of the functions that are called, one theorem a function. No condition. -/
import Derived.Test.YtablmbhnimnccaaZqF10
import Derived.Test.YtablmbhnimnccaaZqPure8
import Derived.Test.YtablmbhnimnccaaZqGen2
set_option maxRecDepth 20000
set_option maxHeartbeats 4000000
namespace Go.Proofs.Ytablmbhnimnccaa.Pw
theorem isideAt_fn (p : Pl) (s : Spot) (hp : okc p) (hs : spB s) : Fn PP 130 [.p (encP p), .p (encSp s)] (.p (iP (sgn (val p s)))) [] := by
  have hvb := valB hp hs; unfold bIn at hvb
  refine fn_intro tok Go.Proofs.Try.func130 (c := _) rfl rfl (Nat.le_of_ble_eq_true rfl) ?_
  refine cw_seq ?_
  refine cw_reg0 tok rfl rfl ?_
  refine c0 rfl (w_box (g := 0) [I64 p.a, I64 p.b, I64 p.c, I64 p.d] rfl rfl rfl ?_)
  refine c0 rfl (w_box (g := 0) [I64 s.x, I64 s.y, I64 s.z, I64 s.w] rfl rfl rfl ?_)
  refine c0 rfl (w_v (I64 0) rfl ?_)
  refine cn ?_
  refine cw_seq ?_
  refine cw_reg0 tok rfl rfl ?_
  refine c0 rfl (w_v (.pt 2 0 0) rfl ?_)
  refine c0 rfl (w_v (I64 p.a) rfl ?_)
  refine c0 rfl (w_v (.pt 3 0 0) rfl ?_)
  refine c0 rfl (w_v (I64 s.x) rfl ?_)
  refine c0 rfl (w_i (p.a * s.x) rfl (by unfold inI; omega) ?_)
  refine c0 rfl (w_v (.pt 2 0 1) rfl ?_)
  refine c0 rfl (w_v (I64 p.b) rfl ?_)
  refine c0 rfl (w_v (.pt 3 0 1) rfl ?_)
  refine c0 rfl (w_v (I64 s.y) rfl ?_)
  refine c0 rfl (w_i (p.b * s.y) rfl (by unfold inI; omega) ?_)
  refine c0 rfl (w_i ((p.a * s.x) + (p.b * s.y)) rfl (by unfold inI; omega) ?_)
  refine c0 rfl (w_v (.pt 2 0 2) rfl ?_)
  refine c0 rfl (w_v (I64 p.c) rfl ?_)
  refine c0 rfl (w_v (.pt 3 0 2) rfl ?_)
  refine c0 rfl (w_v (I64 s.z) rfl ?_)
  refine c0 rfl (w_i (p.c * s.z) rfl (by unfold inI; omega) ?_)
  refine c0 rfl (w_i (((p.a * s.x) + (p.b * s.y)) + (p.c * s.z)) rfl (by unfold inI; omega) ?_)
  refine c0 rfl (w_v (.pt 2 0 3) rfl ?_)
  refine c0 rfl (w_v (I64 p.d) rfl ?_)
  refine c0 rfl (w_v (.pt 3 0 3) rfl ?_)
  refine c0 rfl (w_v (I64 s.w) rfl ?_)
  refine c0 rfl (w_i (p.d * s.w) rfl (by unfold inI; omega) ?_)
  refine c0 rfl (w_i ((((p.a * s.x) + (p.b * s.y)) + (p.c * s.z)) + (p.d * s.w)) rfl (by unfold inI; omega) ?_)
  refine c0 rfl (w_call_1 (isign_fn ((((p.a * s.x) + (p.b * s.y)) + (p.c * s.z)) + (p.d * s.w))) rfl rfl ?_)
  refine c0 rfl (w_v (I64 (sgn ((((p.a * s.x) + (p.b * s.y)) + (p.c * s.z)) + (p.d * s.w)))) rfl ?_)
  refine cn ?_
  refine cw_ret ?_
  exact fin1 (iP (sgn ((((p.a * s.x) + (p.b * s.y)) + (p.c * s.z)) + (p.d * s.w)))) (iP (sgn (val p s))) rfl (congrArg iP (by rfl : (sgn ((((p.a * s.x) + (p.b * s.y)) + (p.c * s.z)) + (p.d * s.w))) = (sgn (val p s)))) rfl
theorem sl5Side_fn (p : Pl) (s : Spot) (hp : okc p) (hs : spB s) : Fn PP 177 [.p (encP p), .p (encSp s)] (.p (iP (sgn (val p s)))) [] := by
  have hvb := valB hp hs; unfold bIn at hvb
  refine fn_intro tok Go.Proofs.Try.func177 (c := _) rfl rfl (Nat.le_of_ble_eq_true rfl) ?_
  refine cw_seq ?_
  refine cw_reg0 tok rfl rfl ?_
  refine c0 rfl (w_box (g := 0) [I64 p.a, I64 p.b, I64 p.c, I64 p.d] rfl rfl rfl ?_)
  refine c0 rfl (w_box (g := 0) [I64 s.x, I64 s.y, I64 s.z, I64 s.w] rfl rfl rfl ?_)
  refine c0 rfl (w_v (I64 0) rfl ?_)
  refine cn ?_
  refine cw_seq ?_
  refine cw_reg0 tok rfl rfl ?_
  refine c0 rfl (w_v (.pt 2 0 0) rfl ?_)
  refine c0 rfl (w_v (I64 p.a) rfl ?_)
  refine c0 rfl (w_v (.pt 3 0 0) rfl ?_)
  refine c0 rfl (w_v (I64 s.x) rfl ?_)
  refine c0 rfl (w_i (p.a * s.x) rfl (by unfold inI; omega) ?_)
  refine c0 rfl (w_v (.pt 2 0 1) rfl ?_)
  refine c0 rfl (w_v (I64 p.b) rfl ?_)
  refine c0 rfl (w_v (.pt 3 0 1) rfl ?_)
  refine c0 rfl (w_v (I64 s.y) rfl ?_)
  refine c0 rfl (w_i (p.b * s.y) rfl (by unfold inI; omega) ?_)
  refine c0 rfl (w_i ((p.a * s.x) + (p.b * s.y)) rfl (by unfold inI; omega) ?_)
  refine c0 rfl (w_v (.pt 2 0 2) rfl ?_)
  refine c0 rfl (w_v (I64 p.c) rfl ?_)
  refine c0 rfl (w_v (.pt 3 0 2) rfl ?_)
  refine c0 rfl (w_v (I64 s.z) rfl ?_)
  refine c0 rfl (w_i (p.c * s.z) rfl (by unfold inI; omega) ?_)
  refine c0 rfl (w_i (((p.a * s.x) + (p.b * s.y)) + (p.c * s.z)) rfl (by unfold inI; omega) ?_)
  refine c0 rfl (w_v (.pt 2 0 3) rfl ?_)
  refine c0 rfl (w_v (I64 p.d) rfl ?_)
  refine c0 rfl (w_v (.pt 3 0 3) rfl ?_)
  refine c0 rfl (w_v (I64 s.w) rfl ?_)
  refine c0 rfl (w_i (p.d * s.w) rfl (by unfold inI; omega) ?_)
  refine c0 rfl (w_i ((((p.a * s.x) + (p.b * s.y)) + (p.c * s.z)) + (p.d * s.w)) rfl (by unfold inI; omega) ?_)
  refine c0 rfl (w_call_1 (ssign_fn ((((p.a * s.x) + (p.b * s.y)) + (p.c * s.z)) + (p.d * s.w))) rfl rfl ?_)
  refine c0 rfl (w_v (I64 (sgn ((((p.a * s.x) + (p.b * s.y)) + (p.c * s.z)) + (p.d * s.w)))) rfl ?_)
  refine cn ?_
  refine cw_ret ?_
  exact fin1 (iP (sgn ((((p.a * s.x) + (p.b * s.y)) + (p.c * s.z)) + (p.d * s.w)))) (iP (sgn (val p s))) rfl (congrArg iP (by rfl : (sgn ((((p.a * s.x) + (p.b * s.y)) + (p.c * s.z)) + (p.d * s.w))) = (sgn (val p s)))) rfl
theorem iwhere_fn (ins : Int) (outs : Int) : Fn PP 107 [.p (iP ins), .p (iP outs)] (.p (iP (whr ins outs))) [] := by
  refine fn_intro tok Go.Proofs.Try.func107 (c := _) rfl rfl (Nat.le_of_ble_eq_true rfl) ?_
  refine cw_seq ?_
  refine cw_reg0 tok rfl rfl ?_
  refine c0 rfl (w_v (I64 0) rfl ?_)
  refine cn ?_
  refine cw_seq ?_
  refine cw_block ?_
  refine cw_seq ?_
  refine cw_reg0 tok rfl rfl ?_
  refine c0 rfl (w_v (I64 ins) rfl ?_)
  refine c0 rfl (w_eqi (ins) (0) rfl rfl ?_)
  refine c0 rfl (w_v (BO (decide (ins = 0))) rfl ?_)
  refine cn ?_
  refine cw_cond (t := decide (ins = 0)) rfl (fun c1 => ?_) (fun c1 => ?_)
  ·
    replace c1 := of_decide_eq_true c1
    refine cw_seq ?_
    refine cw_reg0 tok rfl rfl ?_
    refine c0 rfl (w_v (I64 (-1)) rfl ?_)
    refine cn ?_
    refine cw_ret ?_
    exact fin1 (iP (-1)) (iP (whr ins outs)) rfl (congrArg iP (by unfold whr; simp_all : (-1) = (whr ins outs))) rfl
  ·
    replace c1 := of_decide_eq_false c1
    refine cw_seq ?_
    refine cw_reg0 tok rfl rfl ?_
    refine c0 rfl (w_v (I64 outs) rfl ?_)
    refine c0 rfl (w_eqi (outs) (0) rfl rfl ?_)
    refine c0 rfl (w_v (BO (decide (outs = 0))) rfl ?_)
    refine cn ?_
    refine cw_cond (t := decide (outs = 0)) rfl (fun c2 => ?_) (fun c2 => ?_)
    ·
      replace c2 := of_decide_eq_true c2
      refine cw_seq ?_
      refine cw_reg0 tok rfl rfl ?_
      refine c0 rfl (w_v (I64 1) rfl ?_)
      refine cn ?_
      refine cw_ret ?_
      exact fin1 (iP 1) (iP (whr ins outs)) rfl (congrArg iP (by unfold whr; simp_all : 1 = (whr ins outs))) rfl
    ·
      replace c2 := of_decide_eq_false c2
      refine cw_skip ?_
      refine cw_seq ?_
      refine cw_reg0 tok rfl rfl ?_
      refine c0 rfl (w_v (I64 0) rfl ?_)
      refine cn ?_
      refine cw_ret ?_
      exact fin1 (iP 0) (iP (whr ins outs)) rfl (congrArg iP (by unfold whr; simp_all : 0 = (whr ins outs))) rfl
theorem swhere_fn (ins : Int) (outs : Int) : Fn PP 135 [.p (iP ins), .p (iP outs)] (.p (iP (whr ins outs))) [] := by
  refine fn_intro tok Go.Proofs.Try.func135 (c := _) rfl rfl (Nat.le_of_ble_eq_true rfl) ?_
  refine cw_seq ?_
  refine cw_reg0 tok rfl rfl ?_
  refine c0 rfl (w_v (I64 0) rfl ?_)
  refine cn ?_
  refine cw_seq ?_
  refine cw_block ?_
  refine cw_seq ?_
  refine cw_reg0 tok rfl rfl ?_
  refine c0 rfl (w_v (I64 ins) rfl ?_)
  refine c0 rfl (w_eqi (ins) (0) rfl rfl ?_)
  refine c0 rfl (w_v (BO (decide (ins = 0))) rfl ?_)
  refine cn ?_
  refine cw_cond (t := decide (ins = 0)) rfl (fun c1 => ?_) (fun c1 => ?_)
  ·
    replace c1 := of_decide_eq_true c1
    refine cw_seq ?_
    refine cw_reg0 tok rfl rfl ?_
    refine c0 rfl (w_v (I64 (-1)) rfl ?_)
    refine cn ?_
    refine cw_ret ?_
    exact fin1 (iP (-1)) (iP (whr ins outs)) rfl (congrArg iP (by unfold whr; simp_all : (-1) = (whr ins outs))) rfl
  ·
    replace c1 := of_decide_eq_false c1
    refine cw_seq ?_
    refine cw_reg0 tok rfl rfl ?_
    refine c0 rfl (w_v (I64 outs) rfl ?_)
    refine c0 rfl (w_eqi (outs) (0) rfl rfl ?_)
    refine c0 rfl (w_v (BO (decide (outs = 0))) rfl ?_)
    refine cn ?_
    refine cw_cond (t := decide (outs = 0)) rfl (fun c2 => ?_) (fun c2 => ?_)
    ·
      replace c2 := of_decide_eq_true c2
      refine cw_seq ?_
      refine cw_reg0 tok rfl rfl ?_
      refine c0 rfl (w_v (I64 1) rfl ?_)
      refine cn ?_
      refine cw_ret ?_
      exact fin1 (iP 1) (iP (whr ins outs)) rfl (congrArg iP (by unfold whr; simp_all : 1 = (whr ins outs))) rfl
    ·
      replace c2 := of_decide_eq_false c2
      refine cw_skip ?_
      refine cw_seq ?_
      refine cw_reg0 tok rfl rfl ?_
      refine c0 rfl (w_v (I64 0) rfl ?_)
      refine cn ?_
      refine cw_ret ?_
      exact fin1 (iP 0) (iP (whr ins outs)) rfl (congrArg iP (by unfold whr; simp_all : 0 = (whr ins outs))) rfl
theorem spotAt_fn (p : Pt) : Fn PP 101 [.p (encPt p)] (.p (encSp (spotA p))) [] := by
  refine fn_intro tok Go.Proofs.Try.func101 (c := _) rfl rfl (Nat.le_of_ble_eq_true rfl) ?_
  refine cw_seq ?_
  refine cw_reg0 tok rfl rfl ?_
  refine c0 rfl (w_box (g := 0) [I64 p.x, I64 p.y, I64 p.z] rfl rfl rfl ?_)
  refine c0 rfl (w_alloc (g := 0) [I64 0, I64 0, I64 0, I64 0] rfl rfl rfl ?_)
  refine cn ?_
  refine cw_seq ?_
  refine cw_reg0 tok rfl rfl ?_
  refine c0 rfl (w_v (.pt 1 0 0) rfl ?_)
  refine c0 rfl (w_v (I64 p.x) rfl ?_)
  refine c0 rfl (w_v (.pt 1 0 1) rfl ?_)
  refine c0 rfl (w_v (I64 p.y) rfl ?_)
  refine c0 rfl (w_v (.pt 1 0 2) rfl ?_)
  refine c0 rfl (w_v (I64 p.z) rfl ?_)
  refine c0 rfl (w_build (.p (encSp (Spot.mk p.x p.y p.z 1))) rfl rfl rfl rfl ?_)
  refine c0 rfl (w_st [I64 p.x, I64 p.y, I64 p.z, I64 1] rfl rfl rfl rfl rfl (Nat.le_of_ble_eq_true rfl) rfl ?_)
  refine cn ?_
  refine cw_ret ?_
  exact fin1 (encSp (Spot.mk p.x p.y p.z 1)) (encSp (spotA p)) rfl (congrArg encSp (by rfl : (Spot.mk p.x p.y p.z 1) = (spotA p))) rfl
theorem iPtOk_fn (p : Pt) : Fn PP 100 [.p (encPt p)] (.p (bP (decide (ptok p)))) [] := by
  refine fn_intro tok Go.Proofs.Try.func100 (c := _) rfl rfl (Nat.le_of_ble_eq_true rfl) ?_
  refine cw_seq ?_
  refine cw_reg0 tok rfl rfl ?_
  refine c0 rfl (w_box (g := 0) [I64 p.x, I64 p.y, I64 p.z] rfl rfl rfl ?_)
  refine c0 rfl (w_v (BO false) rfl ?_)
  refine cn ?_
  refine cw_seq ?_
  refine cw_reg0 tok rfl rfl ?_
  refine c0 rfl (w_v (.pt 1 0 0) rfl ?_)
  refine c0 rfl (w_v (I64 p.x) rfl ?_)
  refine c0 rfl (w_call_3 (inRange_fn p.x (-1000000) 1000000) rfl rfl rfl rfl ?_)
  refine c0 rfl (w_v (BO (inR p.x (-1000000) 1000000)) rfl ?_)
  refine cgS (b := inR p.x (-1000000) 1000000) rfl rfl rfl (fun c1 => ?_) (fun c1 => ?_)
  ·
    refine cgT rfl rfl rfl (w_v (.pt 1 0 1) rfl ?_)
    refine cgT rfl rfl rfl (w_v (I64 p.y) rfl ?_)
    refine cgT rfl rfl rfl (w_call_3 (inRange_fn p.y (-1000000) 1000000) rfl rfl rfl rfl ?_)
    refine c0 rfl (w_v (BO (inR p.y (-1000000) 1000000)) rfl ?_)
    refine c0 rfl (w_v (BO (inR p.y (-1000000) 1000000)) rfl ?_)
    refine cgS (b := inR p.y (-1000000) 1000000) rfl rfl rfl (fun c2 => ?_) (fun c2 => ?_)
    ·
      refine cgT rfl rfl rfl (w_v (.pt 1 0 2) rfl ?_)
      refine cgT rfl rfl rfl (w_v (I64 p.z) rfl ?_)
      refine cgT rfl rfl rfl (w_call_3 (inRange_fn p.z (-1000000) 1000000) rfl rfl rfl rfl ?_)
      refine c0 rfl (w_v (BO (inR p.z (-1000000) 1000000)) rfl ?_)
      refine c0 rfl (w_v (BO (inR p.z (-1000000) 1000000)) rfl ?_)
      refine cn ?_
      refine cw_ret ?_
      exact fin1 (bP (inR p.z (-1000000) 1000000)) (bP (decide (ptok p))) rfl (congrArg bP (by first | rfl | (show _ = decide _; refine dd ?_; (try simp only [Bool.false_eq_true, decide_eq_true_eq, false_iff, true_iff]); (try simp only [ptok, inR, Bool.false_eq_true, decide_eq_true_eq, decide_eq_false_iff_not, false_iff, true_iff] at *); omega) : (inR p.z (-1000000) 1000000) = (decide (ptok p)))) rfl
    ·
      refine cgF (v := .bool false) rfl rfl rfl rfl ?_
      refine cgF (v := .bool false) rfl rfl rfl rfl ?_
      refine cgF (v := .bool false) rfl rfl rfl rfl ?_
      refine c0 rfl (w_v (BO false) rfl ?_)
      refine c0 rfl (w_v (BO false) rfl ?_)
      refine cn ?_
      refine cw_ret ?_
      exact fin1 (bP false) (bP (decide (ptok p))) rfl (congrArg bP (by first | rfl | (show _ = decide _; refine dd ?_; (try simp only [Bool.false_eq_true, decide_eq_true_eq, false_iff, true_iff]); (try simp only [ptok, inR, Bool.false_eq_true, decide_eq_true_eq, decide_eq_false_iff_not, false_iff, true_iff] at *); omega) : false = (decide (ptok p)))) rfl
  ·
    refine cgF (v := .bool false) rfl rfl rfl rfl ?_
    refine cgF (v := .bool false) rfl rfl rfl rfl ?_
    refine cgF (v := .bool false) rfl rfl rfl rfl ?_
    refine c0 rfl (w_v (BO false) rfl ?_)
    refine c0 rfl (w_v (BO false) rfl ?_)
    refine cgF (v := .bool false) rfl rfl rfl rfl ?_
    refine cgF (v := .bool false) rfl rfl rfl rfl ?_
    refine cgF (v := .bool false) rfl rfl rfl rfl ?_
    refine c0 rfl (w_v (BO false) rfl ?_)
    refine c0 rfl (w_v (BO false) rfl ?_)
    refine cn ?_
    refine cw_ret ?_
    exact fin1 (bP false) (bP (decide (ptok p))) rfl (congrArg bP (by first | rfl | (show _ = decide _; refine dd ?_; (try simp only [Bool.false_eq_true, decide_eq_true_eq, false_iff, true_iff]); (try simp only [ptok, inR, Bool.false_eq_true, decide_eq_true_eq, decide_eq_false_iff_not, false_iff, true_iff] at *); omega) : false = (decide (ptok p)))) rfl
theorem sPtOk_fn (p : Pt) : Fn PP 35 [.p (encPt p)] (.p (bP (decide (ptok p)))) [] := by
  refine fn_intro tok Go.Proofs.Try.func35 (c := _) rfl rfl (Nat.le_of_ble_eq_true rfl) ?_
  refine cw_seq ?_
  refine cw_reg0 tok rfl rfl ?_
  refine c0 rfl (w_box (g := 0) [I64 p.x, I64 p.y, I64 p.z] rfl rfl rfl ?_)
  refine c0 rfl (w_v (BO false) rfl ?_)
  refine cn ?_
  refine cw_seq ?_
  refine cw_reg0 tok rfl rfl ?_
  refine c0 rfl (w_v (.pt 1 0 0) rfl ?_)
  refine c0 rfl (w_v (I64 p.x) rfl ?_)
  refine c0 rfl (w_call_3 (l1In_fn p.x (-1000000) 1000000) rfl rfl rfl rfl ?_)
  refine c0 rfl (w_v (BO (inR p.x (-1000000) 1000000)) rfl ?_)
  refine cgS (b := inR p.x (-1000000) 1000000) rfl rfl rfl (fun c1 => ?_) (fun c1 => ?_)
  ·
    refine cgT rfl rfl rfl (w_v (.pt 1 0 1) rfl ?_)
    refine cgT rfl rfl rfl (w_v (I64 p.y) rfl ?_)
    refine cgT rfl rfl rfl (w_call_3 (l1In_fn p.y (-1000000) 1000000) rfl rfl rfl rfl ?_)
    refine c0 rfl (w_v (BO (inR p.y (-1000000) 1000000)) rfl ?_)
    refine c0 rfl (w_v (BO (inR p.y (-1000000) 1000000)) rfl ?_)
    refine cgS (b := inR p.y (-1000000) 1000000) rfl rfl rfl (fun c2 => ?_) (fun c2 => ?_)
    ·
      refine cgT rfl rfl rfl (w_v (.pt 1 0 2) rfl ?_)
      refine cgT rfl rfl rfl (w_v (I64 p.z) rfl ?_)
      refine cgT rfl rfl rfl (w_call_3 (l1In_fn p.z (-1000000) 1000000) rfl rfl rfl rfl ?_)
      refine c0 rfl (w_v (BO (inR p.z (-1000000) 1000000)) rfl ?_)
      refine c0 rfl (w_v (BO (inR p.z (-1000000) 1000000)) rfl ?_)
      refine cn ?_
      refine cw_ret ?_
      exact fin1 (bP (inR p.z (-1000000) 1000000)) (bP (decide (ptok p))) rfl (congrArg bP (by first | rfl | (show _ = decide _; refine dd ?_; (try simp only [Bool.false_eq_true, decide_eq_true_eq, false_iff, true_iff]); (try simp only [ptok, inR, Bool.false_eq_true, decide_eq_true_eq, decide_eq_false_iff_not, false_iff, true_iff] at *); omega) : (inR p.z (-1000000) 1000000) = (decide (ptok p)))) rfl
    ·
      refine cgF (v := .bool false) rfl rfl rfl rfl ?_
      refine cgF (v := .bool false) rfl rfl rfl rfl ?_
      refine cgF (v := .bool false) rfl rfl rfl rfl ?_
      refine c0 rfl (w_v (BO false) rfl ?_)
      refine c0 rfl (w_v (BO false) rfl ?_)
      refine cn ?_
      refine cw_ret ?_
      exact fin1 (bP false) (bP (decide (ptok p))) rfl (congrArg bP (by first | rfl | (show _ = decide _; refine dd ?_; (try simp only [Bool.false_eq_true, decide_eq_true_eq, false_iff, true_iff]); (try simp only [ptok, inR, Bool.false_eq_true, decide_eq_true_eq, decide_eq_false_iff_not, false_iff, true_iff] at *); omega) : false = (decide (ptok p)))) rfl
  ·
    refine cgF (v := .bool false) rfl rfl rfl rfl ?_
    refine cgF (v := .bool false) rfl rfl rfl rfl ?_
    refine cgF (v := .bool false) rfl rfl rfl rfl ?_
    refine c0 rfl (w_v (BO false) rfl ?_)
    refine c0 rfl (w_v (BO false) rfl ?_)
    refine cgF (v := .bool false) rfl rfl rfl rfl ?_
    refine cgF (v := .bool false) rfl rfl rfl rfl ?_
    refine cgF (v := .bool false) rfl rfl rfl rfl ?_
    refine c0 rfl (w_v (BO false) rfl ?_)
    refine c0 rfl (w_v (BO false) rfl ?_)
    refine cn ?_
    refine cw_ret ?_
    exact fin1 (bP false) (bP (decide (ptok p))) rfl (congrArg bP (by first | rfl | (show _ = decide _; refine dd ?_; (try simp only [Bool.false_eq_true, decide_eq_true_eq, false_iff, true_iff]); (try simp only [ptok, inR, Bool.false_eq_true, decide_eq_true_eq, decide_eq_false_iff_not, false_iff, true_iff] at *); omega) : false = (decide (ptok p)))) rfl
theorem gridWay_fn (lo : Int) (hi : Int) (h1 : -1000000 ≤ lo ∧ lo ≤ 1000000) (h2 : -1000000 ≤ hi ∧ hi ≤ 1000000) : Fn PP 136 [.p (iP lo), .p (iP hi)] (.p (bP (gridW lo hi))) [] := by
  refine fn_intro tok Go.Proofs.Try.func136 (c := _) rfl rfl (Nat.le_of_ble_eq_true rfl) ?_
  refine cw_seq ?_
  refine cw_reg0 tok rfl rfl ?_
  refine c0 rfl (w_v (BO false) rfl ?_)
  refine cn ?_
  refine cw_seq ?_
  refine cw_reg0 tok rfl rfl ?_
  refine c0 rfl (w_v (I64 hi) rfl ?_)
  refine c0 rfl (w_v (I64 lo) rfl ?_)
  refine c0 rfl (w_i (hi - lo) rfl (by unfold inI; omega) ?_)
  refine c0 rfl (w_call_3 (inRange_fn (hi - lo) 0 15) rfl rfl rfl rfl ?_)
  refine c0 rfl (w_v (BO (inR (hi - lo) 0 15)) rfl ?_)
  refine cn ?_
  refine cw_ret ?_
  exact fin1 (bP (inR (hi - lo) 0 15)) (bP (gridW lo hi)) rfl (congrArg bP (by unfold gridW inR; rfl : (inR (hi - lo) 0 15) = (gridW lo hi))) rfl
theorem l17Way_fn (lo : Int) (hi : Int) (h1 : -1000000 ≤ lo ∧ lo ≤ 1000000) (h2 : -1000000 ≤ hi ∧ hi ≤ 1000000) : Fn PP 55 [.p (iP lo), .p (iP hi)] (.p (bP (gridW lo hi))) [] := by
  refine fn_intro tok Go.Proofs.Try.func55 (c := _) rfl rfl (Nat.le_of_ble_eq_true rfl) ?_
  refine cw_seq ?_
  refine cw_reg0 tok rfl rfl ?_
  refine c0 rfl (w_v (BO false) rfl ?_)
  refine cn ?_
  refine cw_seq ?_
  refine cw_reg0 tok rfl rfl ?_
  refine c0 rfl (w_v (I64 lo) rfl ?_)
  refine c0 rfl (w_v (I64 hi) rfl ?_)
  refine c0 rfl (w_v (BO (decide (lo ≤ hi))) rfl ?_)
  refine c0 rfl (w_v (BO (decide (lo ≤ hi))) rfl ?_)
  refine cgS (b := decide (lo ≤ hi)) rfl rfl rfl (fun c1 => ?_) (fun c1 => ?_)
  ·
    replace c1 := of_decide_eq_true c1
    refine cgT rfl rfl rfl (w_v (I64 hi) rfl ?_)
    refine cgT rfl rfl rfl (w_v (I64 lo) rfl ?_)
    refine cgT rfl rfl rfl (w_i (hi - lo) rfl (by unfold inI; omega) ?_)
    refine cgT rfl rfl rfl (w_v (BO (decide (hi - lo < 16))) rfl ?_)
    refine c0 rfl (w_v (BO (decide (hi - lo < 16))) rfl ?_)
    refine c0 rfl (w_v (BO (decide (hi - lo < 16))) rfl ?_)
    refine cn ?_
    refine cw_ret ?_
    exact fin1 (bP (decide (hi - lo < 16))) (bP (gridW lo hi)) rfl (congrArg bP (by first | rfl | (show _ = decide _; refine dd ?_; (try simp only [Bool.false_eq_true, decide_eq_true_eq, false_iff, true_iff]); (try simp only [gridW, inR, Bool.false_eq_true, decide_eq_true_eq, decide_eq_false_iff_not, false_iff, true_iff] at *); omega) : (decide (hi - lo < 16)) = (gridW lo hi))) rfl
  ·
    replace c1 := of_decide_eq_false c1
    refine cgF (v := .bool false) rfl rfl rfl rfl ?_
    refine cgF (v := .bool false) rfl rfl rfl rfl ?_
    refine cgF (v := .bool false) rfl rfl rfl rfl ?_
    refine cgF (v := .bool false) rfl rfl rfl rfl ?_
    refine c0 rfl (w_v (BO false) rfl ?_)
    refine c0 rfl (w_v (BO false) rfl ?_)
    refine cn ?_
    refine cw_ret ?_
    exact fin1 (bP false) (bP (gridW lo hi)) rfl (congrArg bP (by first | rfl | (show _ = decide _; refine dd ?_; (try simp only [Bool.false_eq_true, decide_eq_true_eq, false_iff, true_iff]); (try simp only [gridW, inR, Bool.false_eq_true, decide_eq_true_eq, decide_eq_false_iff_not, false_iff, true_iff] at *); omega) : false = (gridW lo hi))) rfl
theorem isGrid_fn (lo : Pt) (hi : Pt) : Fn PP 59 [.p (encPt lo), .p (encPt hi)] (.p (bP (gridB lo hi))) [] := by
  refine fn_intro tok Go.Proofs.Try.func59 (c := _) rfl rfl (Nat.le_of_ble_eq_true rfl) ?_
  refine cw_seq ?_
  refine cw_reg0 tok rfl rfl ?_
  refine c0 rfl (w_box (g := 0) [I64 lo.x, I64 lo.y, I64 lo.z] rfl rfl rfl ?_)
  refine c0 rfl (w_box (g := 0) [I64 hi.x, I64 hi.y, I64 hi.z] rfl rfl rfl ?_)
  refine c0 rfl (w_v (BO false) rfl ?_)
  refine cn ?_
  refine cw_seq ?_
  refine cw_reg0 tok rfl rfl ?_
  refine c0 rfl (w_v (.p (encPt lo)) rfl ?_)
  refine c0 rfl (w_call_1 (iPtOk_fn lo) rfl rfl ?_)
  refine c0 rfl (w_v (BO (decide (ptok lo))) rfl ?_)
  refine cgS (b := decide (ptok lo)) rfl rfl rfl (fun c1 => ?_) (fun c1 => ?_)
  ·
    replace c1 := of_decide_eq_true c1
    refine cgT rfl rfl rfl (w_v (.p (encPt hi)) rfl ?_)
    refine cgT rfl rfl rfl (w_call_1 (iPtOk_fn hi) rfl rfl ?_)
    refine c0 rfl (w_v (BO (decide (ptok hi))) rfl ?_)
    refine c0 rfl (w_v (BO (decide (ptok hi))) rfl ?_)
    refine cgS (b := decide (ptok hi)) rfl rfl rfl (fun c2 => ?_) (fun c2 => ?_)
    ·
      replace c2 := of_decide_eq_true c2
      refine cgT rfl rfl rfl (w_v (.pt 2 0 0) rfl ?_)
      refine cgT rfl rfl rfl (w_v (I64 lo.x) rfl ?_)
      refine cgT rfl rfl rfl (w_v (.pt 3 0 0) rfl ?_)
      refine cgT rfl rfl rfl (w_v (I64 hi.x) rfl ?_)
      refine cgT rfl rfl rfl (w_call_2 (gridWay_fn lo.x hi.x (by have h := c1; unfold ptok at h; omega) (by have h := c2; unfold ptok at h; omega)) rfl rfl rfl ?_)
      refine c0 rfl (w_v (BO (gridW lo.x hi.x)) rfl ?_)
      refine c0 rfl (w_v (BO (gridW lo.x hi.x)) rfl ?_)
      refine cgS (b := gridW lo.x hi.x) rfl rfl rfl (fun c3 => ?_) (fun c3 => ?_)
      ·
        refine cgT rfl rfl rfl (w_v (.pt 2 0 1) rfl ?_)
        refine cgT rfl rfl rfl (w_v (I64 lo.y) rfl ?_)
        refine cgT rfl rfl rfl (w_v (.pt 3 0 1) rfl ?_)
        refine cgT rfl rfl rfl (w_v (I64 hi.y) rfl ?_)
        refine cgT rfl rfl rfl (w_call_2 (gridWay_fn lo.y hi.y (by have h := c1; unfold ptok at h; omega) (by have h := c2; unfold ptok at h; omega)) rfl rfl rfl ?_)
        refine c0 rfl (w_v (BO (gridW lo.y hi.y)) rfl ?_)
        refine c0 rfl (w_v (BO (gridW lo.y hi.y)) rfl ?_)
        refine cgS (b := gridW lo.y hi.y) rfl rfl rfl (fun c4 => ?_) (fun c4 => ?_)
        ·
          refine cgT rfl rfl rfl (w_v (.pt 2 0 2) rfl ?_)
          refine cgT rfl rfl rfl (w_v (I64 lo.z) rfl ?_)
          refine cgT rfl rfl rfl (w_v (.pt 3 0 2) rfl ?_)
          refine cgT rfl rfl rfl (w_v (I64 hi.z) rfl ?_)
          refine cgT rfl rfl rfl (w_call_2 (gridWay_fn lo.z hi.z (by have h := c1; unfold ptok at h; omega) (by have h := c2; unfold ptok at h; omega)) rfl rfl rfl ?_)
          refine c0 rfl (w_v (BO (gridW lo.z hi.z)) rfl ?_)
          refine c0 rfl (w_v (BO (gridW lo.z hi.z)) rfl ?_)
          refine cn ?_
          refine cw_ret ?_
          exact fin1 (bP (gridW lo.z hi.z)) (bP (gridB lo hi)) rfl (congrArg bP (by simp [gridB, *] : (gridW lo.z hi.z) = (gridB lo hi))) rfl
        ·
          refine cgF (v := .bool false) rfl rfl rfl rfl ?_
          refine cgF (v := .bool false) rfl rfl rfl rfl ?_
          refine cgF (v := .bool false) rfl rfl rfl rfl ?_
          refine cgF (v := .bool false) rfl rfl rfl rfl ?_
          refine cgF (v := .bool false) rfl rfl rfl rfl ?_
          refine c0 rfl (w_v (BO false) rfl ?_)
          refine c0 rfl (w_v (BO false) rfl ?_)
          refine cn ?_
          refine cw_ret ?_
          exact fin1 (bP false) (bP (gridB lo hi)) rfl (congrArg bP (by simp [gridB, *] : false = (gridB lo hi))) rfl
      ·
        refine cgF (v := .bool false) rfl rfl rfl rfl ?_
        refine cgF (v := .bool false) rfl rfl rfl rfl ?_
        refine cgF (v := .bool false) rfl rfl rfl rfl ?_
        refine cgF (v := .bool false) rfl rfl rfl rfl ?_
        refine cgF (v := .bool false) rfl rfl rfl rfl ?_
        refine c0 rfl (w_v (BO false) rfl ?_)
        refine c0 rfl (w_v (BO false) rfl ?_)
        refine cgF (v := .bool false) rfl rfl rfl rfl ?_
        refine cgF (v := .bool false) rfl rfl rfl rfl ?_
        refine cgF (v := .bool false) rfl rfl rfl rfl ?_
        refine cgF (v := .bool false) rfl rfl rfl rfl ?_
        refine cgF (v := .bool false) rfl rfl rfl rfl ?_
        refine c0 rfl (w_v (BO false) rfl ?_)
        refine c0 rfl (w_v (BO false) rfl ?_)
        refine cn ?_
        refine cw_ret ?_
        exact fin1 (bP false) (bP (gridB lo hi)) rfl (congrArg bP (by simp [gridB, *] : false = (gridB lo hi))) rfl
    ·
      replace c2 := of_decide_eq_false c2
      refine cgF (v := .bool false) rfl rfl rfl rfl ?_
      refine cgF (v := .bool false) rfl rfl rfl rfl ?_
      refine cgF (v := .bool false) rfl rfl rfl rfl ?_
      refine cgF (v := .bool false) rfl rfl rfl rfl ?_
      refine cgF (v := .bool false) rfl rfl rfl rfl ?_
      refine c0 rfl (w_v (BO false) rfl ?_)
      refine c0 rfl (w_v (BO false) rfl ?_)
      refine cgF (v := .bool false) rfl rfl rfl rfl ?_
      refine cgF (v := .bool false) rfl rfl rfl rfl ?_
      refine cgF (v := .bool false) rfl rfl rfl rfl ?_
      refine cgF (v := .bool false) rfl rfl rfl rfl ?_
      refine cgF (v := .bool false) rfl rfl rfl rfl ?_
      refine c0 rfl (w_v (BO false) rfl ?_)
      refine c0 rfl (w_v (BO false) rfl ?_)
      refine cgF (v := .bool false) rfl rfl rfl rfl ?_
      refine cgF (v := .bool false) rfl rfl rfl rfl ?_
      refine cgF (v := .bool false) rfl rfl rfl rfl ?_
      refine cgF (v := .bool false) rfl rfl rfl rfl ?_
      refine cgF (v := .bool false) rfl rfl rfl rfl ?_
      refine c0 rfl (w_v (BO false) rfl ?_)
      refine c0 rfl (w_v (BO false) rfl ?_)
      refine cn ?_
      refine cw_ret ?_
      exact fin1 (bP false) (bP (gridB lo hi)) rfl (congrArg bP (by simp [gridB, *] : false = (gridB lo hi))) rfl
  ·
    replace c1 := of_decide_eq_false c1
    refine cgF (v := .bool false) rfl rfl rfl rfl ?_
    refine cgF (v := .bool false) rfl rfl rfl rfl ?_
    refine c0 rfl (w_v (BO false) rfl ?_)
    refine c0 rfl (w_v (BO false) rfl ?_)
    refine cgF (v := .bool false) rfl rfl rfl rfl ?_
    refine cgF (v := .bool false) rfl rfl rfl rfl ?_
    refine cgF (v := .bool false) rfl rfl rfl rfl ?_
    refine cgF (v := .bool false) rfl rfl rfl rfl ?_
    refine cgF (v := .bool false) rfl rfl rfl rfl ?_
    refine c0 rfl (w_v (BO false) rfl ?_)
    refine c0 rfl (w_v (BO false) rfl ?_)
    refine cgF (v := .bool false) rfl rfl rfl rfl ?_
    refine cgF (v := .bool false) rfl rfl rfl rfl ?_
    refine cgF (v := .bool false) rfl rfl rfl rfl ?_
    refine cgF (v := .bool false) rfl rfl rfl rfl ?_
    refine cgF (v := .bool false) rfl rfl rfl rfl ?_
    refine c0 rfl (w_v (BO false) rfl ?_)
    refine c0 rfl (w_v (BO false) rfl ?_)
    refine cgF (v := .bool false) rfl rfl rfl rfl ?_
    refine cgF (v := .bool false) rfl rfl rfl rfl ?_
    refine cgF (v := .bool false) rfl rfl rfl rfl ?_
    refine cgF (v := .bool false) rfl rfl rfl rfl ?_
    refine cgF (v := .bool false) rfl rfl rfl rfl ?_
    refine c0 rfl (w_v (BO false) rfl ?_)
    refine c0 rfl (w_v (BO false) rfl ?_)
    refine cn ?_
    refine cw_ret ?_
    exact fin1 (bP false) (bP (gridB lo hi)) rfl (congrArg bP (by simp [gridB, *] : false = (gridB lo hi))) rfl
theorem l5Spot_fn (x : Int) (y : Int) (z : Int) (w : Int) (hx : -9223372036854775807 ≤ x ∧ x ≤ 9223372036854775807) (hy : -9223372036854775807 ≤ y ∧ y ≤ 9223372036854775807) (hz : -9223372036854775807 ≤ z ∧ z ≤ 9223372036854775807) (hw : -9223372036854775807 ≤ w ∧ w ≤ 9223372036854775807) (hw0 : w ≠ 0) : Fn PP 134 [.p (iP x), .p (iP y), .p (iP z), .p (iP w)] (.p (encSp (spotN x y z w))) [] := by
  have g1 := gcdB3 hx hy
  have g2 := gcdB2 (a := z) hw0 hw
  have g3 := gcdB2 (a := (Int.gcd x y : Int)) (b := (Int.gcd z w : Int)) (by omega) (by omega)
  refine fn_intro tok Go.Proofs.Try.func134 (c := _) rfl rfl (Nat.le_of_ble_eq_true rfl) ?_
  refine cw_seq ?_
  refine cw_reg0 tok rfl rfl ?_
  refine c0 rfl (w_alloc (g := 0) [I64 0, I64 0, I64 0, I64 0] rfl rfl rfl ?_)
  refine cn ?_
  refine cw_seq ?_
  refine cw_reg0 tok rfl rfl ?_
  refine c0 rfl (w_v (I64 x) rfl ?_)
  refine c0 rfl (w_v (I64 y) rfl ?_)
  refine c0 rfl (w_call_2 (l3Gcd_fn x y hx hy) rfl rfl rfl ?_)
  refine c0 rfl (w_v (I64 z) rfl ?_)
  refine c0 rfl (w_v (I64 w) rfl ?_)
  refine c0 rfl (w_call_2 (l3Gcd_fn z w hz hw) rfl rfl rfl ?_)
  refine c0 rfl (w_call_2 (l3Gcd_fn (Int.gcd x y : Int) (Int.gcd z w : Int) (by omega) (by omega)) rfl rfl rfl ?_)
  refine c0 rfl (w_v (I64 (Int.gcd (Int.gcd x y : Int) (Int.gcd z w : Int) : Int)) rfl ?_)
  refine cn ?_
  refine cw_seq ?_
  refine cw_seq ?_
  refine cw_reg0 tok rfl rfl ?_
  refine c0 rfl (w_v (I64 w) rfl ?_)
  refine c0 rfl (w_v (BO (decide (w < 0))) rfl ?_)
  refine cn ?_
  refine cw_cond (t := decide (w < 0)) rfl (fun c1 => ?_) (fun c1 => ?_)
  ·
    replace c1 := of_decide_eq_true c1
    refine cw_reg0 tok rfl rfl ?_
    refine c0 rfl (w_v (I64 (Int.gcd (Int.gcd x y : Int) (Int.gcd z w : Int) : Int)) rfl ?_)
    refine c0 rfl (w_i (0 - (Int.gcd (Int.gcd x y : Int) (Int.gcd z w : Int) : Int)) rfl (by unfold inI; omega) ?_)
    refine c0 rfl (w_v (I64 (0 - (Int.gcd (Int.gcd x y : Int) (Int.gcd z w : Int) : Int))) rfl ?_)
    refine cn ?_
    refine cw_seq ?_
    refine cw_reg1 tok mixed rfl rfl ?_
    refine c0 rfl (w_v (I64 x) rfl ?_)
    refine c0 rfl (w_v (I64 (0 - (Int.gcd (Int.gcd x y : Int) (Int.gcd z w : Int) : Int))) rfl ?_)
    refine c0 rfl (w_quo (x) (0 - (Int.gcd (Int.gcd x y : Int) (Int.gcd z w : Int) : Int)) rfl rfl (by omega) (tdivI hx (by omega)) ?_)
    refine c0 rfl (w_v (I64 y) rfl ?_)
    refine c0 rfl (w_v (I64 (0 - (Int.gcd (Int.gcd x y : Int) (Int.gcd z w : Int) : Int))) rfl ?_)
    refine c0 rfl (w_quo (y) (0 - (Int.gcd (Int.gcd x y : Int) (Int.gcd z w : Int) : Int)) rfl rfl (by omega) (tdivI hy (by omega)) ?_)
    refine c0 rfl (w_v (I64 z) rfl ?_)
    refine c0 rfl (w_v (I64 (0 - (Int.gcd (Int.gcd x y : Int) (Int.gcd z w : Int) : Int))) rfl ?_)
    refine c0 rfl (w_quo (z) (0 - (Int.gcd (Int.gcd x y : Int) (Int.gcd z w : Int) : Int)) rfl rfl (by omega) (tdivI hz (by omega)) ?_)
    refine c0 rfl (w_v (I64 w) rfl ?_)
    refine c0 rfl (w_v (I64 (0 - (Int.gcd (Int.gcd x y : Int) (Int.gcd z w : Int) : Int))) rfl ?_)
    refine c0 rfl (w_quo (w) (0 - (Int.gcd (Int.gcd x y : Int) (Int.gcd z w : Int) : Int)) rfl rfl (by omega) (tdivI hw (by omega)) ?_)
    refine c0 rfl (w_build (.p (encSp (Spot.mk (x.tdiv (0 - (Int.gcd (Int.gcd x y : Int) (Int.gcd z w : Int) : Int))) (y.tdiv (0 - (Int.gcd (Int.gcd x y : Int) (Int.gcd z w : Int) : Int))) (z.tdiv (0 - (Int.gcd (Int.gcd x y : Int) (Int.gcd z w : Int) : Int))) (w.tdiv (0 - (Int.gcd (Int.gcd x y : Int) (Int.gcd z w : Int) : Int)))))) rfl rfl rfl rfl ?_)
    refine c0 rfl (w_st [I64 (x.tdiv (0 - (Int.gcd (Int.gcd x y : Int) (Int.gcd z w : Int) : Int))), I64 (y.tdiv (0 - (Int.gcd (Int.gcd x y : Int) (Int.gcd z w : Int) : Int))), I64 (z.tdiv (0 - (Int.gcd (Int.gcd x y : Int) (Int.gcd z w : Int) : Int))), I64 (w.tdiv (0 - (Int.gcd (Int.gcd x y : Int) (Int.gcd z w : Int) : Int)))] rfl rfl rfl rfl rfl (Nat.le_of_ble_eq_true rfl) rfl ?_)
    refine cn ⟨by kernel_rfl, ?_⟩
    refine cw_ret ?_
    exact fin1 (encSp (Spot.mk (x.tdiv (0 - (Int.gcd (Int.gcd x y : Int) (Int.gcd z w : Int) : Int))) (y.tdiv (0 - (Int.gcd (Int.gcd x y : Int) (Int.gcd z w : Int) : Int))) (z.tdiv (0 - (Int.gcd (Int.gcd x y : Int) (Int.gcd z w : Int) : Int))) (w.tdiv (0 - (Int.gcd (Int.gcd x y : Int) (Int.gcd z w : Int) : Int))))) (encSp (spotN x y z w)) rfl (congrArg encSp (by simp [spotN, spotG, *] : (Spot.mk (x.tdiv (0 - (Int.gcd (Int.gcd x y : Int) (Int.gcd z w : Int) : Int))) (y.tdiv (0 - (Int.gcd (Int.gcd x y : Int) (Int.gcd z w : Int) : Int))) (z.tdiv (0 - (Int.gcd (Int.gcd x y : Int) (Int.gcd z w : Int) : Int))) (w.tdiv (0 - (Int.gcd (Int.gcd x y : Int) (Int.gcd z w : Int) : Int)))) = (spotN x y z w))) rfl
  ·
    replace c1 := of_decide_eq_false c1
    refine cw_skip ?_
    refine cw_seq ?_
    refine cw_reg1 tok mixed rfl rfl ?_
    refine c0 rfl (w_v (I64 x) rfl ?_)
    refine c0 rfl (w_v (I64 (Int.gcd (Int.gcd x y : Int) (Int.gcd z w : Int) : Int)) rfl ?_)
    refine c0 rfl (w_quo (x) ((Int.gcd (Int.gcd x y : Int) (Int.gcd z w : Int) : Int)) rfl rfl (by omega) (tdivI hx (by omega)) ?_)
    refine c0 rfl (w_v (I64 y) rfl ?_)
    refine c0 rfl (w_v (I64 (Int.gcd (Int.gcd x y : Int) (Int.gcd z w : Int) : Int)) rfl ?_)
    refine c0 rfl (w_quo (y) ((Int.gcd (Int.gcd x y : Int) (Int.gcd z w : Int) : Int)) rfl rfl (by omega) (tdivI hy (by omega)) ?_)
    refine c0 rfl (w_v (I64 z) rfl ?_)
    refine c0 rfl (w_v (I64 (Int.gcd (Int.gcd x y : Int) (Int.gcd z w : Int) : Int)) rfl ?_)
    refine c0 rfl (w_quo (z) ((Int.gcd (Int.gcd x y : Int) (Int.gcd z w : Int) : Int)) rfl rfl (by omega) (tdivI hz (by omega)) ?_)
    refine c0 rfl (w_v (I64 w) rfl ?_)
    refine c0 rfl (w_v (I64 (Int.gcd (Int.gcd x y : Int) (Int.gcd z w : Int) : Int)) rfl ?_)
    refine c0 rfl (w_quo (w) ((Int.gcd (Int.gcd x y : Int) (Int.gcd z w : Int) : Int)) rfl rfl (by omega) (tdivI hw (by omega)) ?_)
    refine c0 rfl (w_build (.p (encSp (Spot.mk (x.tdiv (Int.gcd (Int.gcd x y : Int) (Int.gcd z w : Int) : Int)) (y.tdiv (Int.gcd (Int.gcd x y : Int) (Int.gcd z w : Int) : Int)) (z.tdiv (Int.gcd (Int.gcd x y : Int) (Int.gcd z w : Int) : Int)) (w.tdiv (Int.gcd (Int.gcd x y : Int) (Int.gcd z w : Int) : Int))))) rfl rfl rfl rfl ?_)
    refine c0 rfl (w_st [I64 (x.tdiv (Int.gcd (Int.gcd x y : Int) (Int.gcd z w : Int) : Int)), I64 (y.tdiv (Int.gcd (Int.gcd x y : Int) (Int.gcd z w : Int) : Int)), I64 (z.tdiv (Int.gcd (Int.gcd x y : Int) (Int.gcd z w : Int) : Int)), I64 (w.tdiv (Int.gcd (Int.gcd x y : Int) (Int.gcd z w : Int) : Int))] rfl rfl rfl rfl rfl (Nat.le_of_ble_eq_true rfl) rfl ?_)
    refine cn ⟨by kernel_rfl, ?_⟩
    refine cw_ret ?_
    exact fin1 (encSp (Spot.mk (x.tdiv (Int.gcd (Int.gcd x y : Int) (Int.gcd z w : Int) : Int)) (y.tdiv (Int.gcd (Int.gcd x y : Int) (Int.gcd z w : Int) : Int)) (z.tdiv (Int.gcd (Int.gcd x y : Int) (Int.gcd z w : Int) : Int)) (w.tdiv (Int.gcd (Int.gcd x y : Int) (Int.gcd z w : Int) : Int)))) (encSp (spotN x y z w)) rfl (congrArg encSp (by simp [spotN, spotG, *] : (Spot.mk (x.tdiv (Int.gcd (Int.gcd x y : Int) (Int.gcd z w : Int) : Int)) (y.tdiv (Int.gcd (Int.gcd x y : Int) (Int.gcd z w : Int) : Int)) (z.tdiv (Int.gcd (Int.gcd x y : Int) (Int.gcd z w : Int) : Int)) (w.tdiv (Int.gcd (Int.gcd x y : Int) (Int.gcd z w : Int) : Int))) = (spotN x y z w))) rfl
theorem sl10Around_fn (si : Bool) (sp : Pl) (sk : List Sol) (p : Spot) (path : List Pl) (hlk : look (Sol.mk si sp sk) path = true) (hnn : nodesN (Sol.mk si sp sk) ≤ 300) (hs : spB p) (H : ∀ q ∈ sk, ∀ m : List Pl, look q m = true → nodesN q ≤ 300 → Fn PP 133 [.p (encS q), .p (encSp p)] (.tu [.p (iP (arnd q p).1), .p (iP (arnd q p).2)]) []) : Fn PP 133 [.p (encS (Sol.mk si sp sk)), .p (encSp p)] (.tu [.p (iP ((arnd (Sol.mk si sp sk) p).1)), .p (iP ((arnd (Sol.mk si sp sk) p).2))]) [] := by
  refine fn_intro tok Go.Proofs.Try.func133 (c := _) rfl rfl (Nat.le_of_ble_eq_true rfl) ?_
  refine cw_seq ?_
  refine cw_reg0 tok rfl rfl ?_
  refine c0 rfl (w_box (g := 0) [BO si, I64 sp.a, I64 sp.b, I64 sp.c, I64 sp.d, .p (.sl 6 (encSs sk))] rfl rfl rfl ?_)
  refine c0 rfl (w_box (g := 0) [I64 p.x, I64 p.y, I64 p.z, I64 p.w] rfl rfl rfl ?_)
  refine c0 rfl (w_v (I64 0) rfl ?_)
  refine c0 rfl (w_v (I64 0) rfl ?_)
  refine cn ?_
  refine cw_seq ?_
  refine cw_seq ?_
  refine cw_reg0 tok rfl rfl ?_
  refine c0 rfl (w_v (.p (encS (Sol.mk si sp sk))) rfl ?_)
  refine c0 rfl (w_call_1 (l8Leaf_fn si sp sk) rfl rfl ?_)
  refine cn ?_
  refine cw_cond (t := decide ((sk.length : Int) = 0)) rfl (fun c1 => ?_) (fun c1 => ?_)
  ·
    replace c1 := of_decide_eq_true c1
    refine cw_seq ?_
    refine cw_seq ?_
    refine cw_reg0 tok rfl rfl ?_
    refine c0 rfl (w_v (.pt 2 0 0) rfl ?_)
    refine c0 rfl (w_v (BO si) rfl ?_)
    refine cn ?_
    refine cw_cond (t := si) rfl (fun c2 => ?_) (fun c2 => ?_)
    ·
      refine cw_seq ?_
      refine cw_reg0 tok rfl rfl ?_
      refine c0 rfl (w_v (I64 1) rfl ?_)
      refine c0 rfl (w_v (I64 0) rfl ?_)
      refine cn ?_
      refine cw_ret ?_
      exact finT2 (iP 1) (iP 0) (iP ((arnd (Sol.mk si sp sk) p).1)) (iP ((arnd (Sol.mk si sp sk) p).2)) rfl (congrArg iP (by first | (exfalso; omega) | (rw [arnd_0 (by assumption)]; simp_all) : 1 = ((arnd (Sol.mk si sp sk) p).1))) (congrArg iP (by first | (exfalso; omega) | (rw [arnd_0 (by assumption)]; simp_all) : 0 = ((arnd (Sol.mk si sp sk) p).2))) rfl
    ·
      refine cw_skip ?_
      refine cw_seq ?_
      refine cw_reg0 tok rfl rfl ?_
      refine c0 rfl (w_v (I64 0) rfl ?_)
      refine c0 rfl (w_v (I64 1) rfl ?_)
      refine cn ?_
      refine cw_ret ?_
      exact finT2 (iP 0) (iP 1) (iP ((arnd (Sol.mk si sp sk) p).1)) (iP ((arnd (Sol.mk si sp sk) p).2)) rfl (congrArg iP (by first | (exfalso; omega) | (rw [arnd_0 (by assumption)]; simp_all) : 0 = ((arnd (Sol.mk si sp sk) p).1))) (congrArg iP (by first | (exfalso; omega) | (rw [arnd_0 (by assumption)]; simp_all) : 1 = ((arnd (Sol.mk si sp sk) p).2))) rfl
  ·
    replace c1 := of_decide_eq_false c1
    refine cw_skip ?_
    refine cw_seq ?_
    refine cw_reg0 tok rfl rfl ?_
    refine c0 rfl (w_v (.pt 2 0 1) rfl ?_)
    refine c0 rfl (w_v (.p (encP sp)) rfl ?_)
    refine c0 rfl (w_v (.p (encSp p)) rfl ?_)
    refine c0 rfl (w_call_2 (sl5Side_fn sp p (look_okc hlk (by assumption)) hs) rfl rfl rfl ?_)
    refine c0 rfl (w_v (I64 (sgn (val sp p))) rfl ?_)
    refine cn ?_
    refine cw_seq ?_
    refine cw_reg0 tok rfl rfl ?_
    refine c0 rfl (w_v (I64 0) rfl ?_)
    refine cn ?_
    refine cw_seq ?_
    refine cw_reg0 tok rfl rfl ?_
    refine c0 rfl (w_v (I64 0) rfl ?_)
    refine cn ?_
    refine cw_seq ?_
    refine cw_seq ?_
    refine cw_reg0 tok rfl rfl ?_
    refine c0 rfl (w_v (I64 (sgn (val sp p))) rfl ?_)
    refine c0 rfl (w_v (BO (decide (sgn (val sp p) ≥ 0))) rfl ?_)
    refine cn ?_
    refine cw_cond (t := decide (sgn (val sp p) ≥ 0)) rfl (fun c3 => ?_) (fun c3 => ?_)
    ·
      replace c3 := of_decide_eq_true c3
      refine cw_reg1 tok mixed rfl rfl ?_
      refine c0 rfl (w_v (.pt 2 0 5) rfl ?_)
      refine c0 rfl (w_v (.p (.sl 6 (encSs sk))) rfl ?_)
      obtain ⟨qa, hqa⟩ := getE (l := sk) (i := 0) (by have := look_two hlk (by assumption); omega)
      obtain ⟨qai, qap, qak⟩ := qa
      refine c0 rfl (w_ix (0) (encS (Sol.mk qai qap qak)) rfl rfl rfl (by omega) (getSs hqa) ?_)
      refine c0 rfl (w_v (.p (encS (Sol.mk qai qap qak))) rfl ?_)
      refine c0 rfl (w_v (.p (encSp p)) rfl ?_)
      refine c0 rfl (w_call (.tu [I64 ((arnd (Sol.mk qai qap qak) p).1), I64 ((arnd (Sol.mk qai qap qak) p).2)]) (H _ (List.mem_of_getElem? hqa) _ (look_a hlk hqa) (by have := nodes_a hlk hqa; omega)) rfl (.cons _ _ _ _ _ _ _ [] _ (.one _ _ _ _ _ (.p _ _)) (.cons _ _ _ _ _ _ _ [] _ (.one _ _ _ _ _ (.p _ _)) (.nil _))) rfl (.tu _ _ _ _ (.cons _ _ _ _ _ _ _ (.p _ _) (.cons _ _ _ _ _ _ _ (.p _ _) (.nil _)))) ?_)
      refine c0 rfl (w_v (.tu [I64 ((arnd (Sol.mk qai qap qak) p).1), I64 ((arnd (Sol.mk qai qap qak) p).2)]) rfl ?_)
      refine c0 rfl (w_v (I64 ((arnd (Sol.mk qai qap qak) p).1)) rfl ?_)
      refine c0 rfl (w_v (I64 ((arnd (Sol.mk qai qap qak) p).2)) rfl ?_)
      refine c0 rfl (w_v (I64 ((arnd (Sol.mk qai qap qak) p).1)) rfl ?_)
      refine c0 rfl (w_v (I64 ((arnd (Sol.mk qai qap qak) p).2)) rfl ?_)
      refine cn ⟨by kernel_rfl, ?_⟩
      refine cw_seq ?_
      refine cw_seq ?_
      refine cw_reg0 tok rfl rfl ?_
      refine c0 rfl (w_v (I64 (sgn (val sp p))) rfl ?_)
      refine c0 rfl (w_v (BO (decide (sgn (val sp p) ≤ 0))) rfl ?_)
      refine cn ?_
      refine cw_cond (t := decide (sgn (val sp p) ≤ 0)) rfl (fun c4 => ?_) (fun c4 => ?_)
      ·
        replace c4 := of_decide_eq_true c4
        refine cw_seq ?_
        refine cw_reg1 tok mixed rfl rfl ?_
        refine c0 rfl (w_v (.pt 2 0 5) rfl ?_)
        refine c0 rfl (w_v (.p (.sl 6 (encSs sk))) rfl ?_)
        obtain ⟨qb, hqb⟩ := getE (l := sk) (i := 1) (by have := look_two hlk (by assumption); omega)
        obtain ⟨qbi, qbp, qbk⟩ := qb
        refine c0 rfl (w_ix (1) (encS (Sol.mk qbi qbp qbk)) rfl rfl rfl (by omega) (getSs hqb) ?_)
        refine c0 rfl (w_v (.p (encS (Sol.mk qbi qbp qbk))) rfl ?_)
        refine c0 rfl (w_v (.p (encSp p)) rfl ?_)
        refine c0 rfl (w_call (.tu [I64 ((arnd (Sol.mk qbi qbp qbk) p).1), I64 ((arnd (Sol.mk qbi qbp qbk) p).2)]) (H _ (List.mem_of_getElem? hqb) _ (look_b hlk hqb) (by have := nodes_b hlk hqb; omega)) rfl (.cons _ _ _ _ _ _ _ [] _ (.one _ _ _ _ _ (.p _ _)) (.cons _ _ _ _ _ _ _ [] _ (.one _ _ _ _ _ (.p _ _)) (.nil _))) rfl (.tu _ _ _ _ (.cons _ _ _ _ _ _ _ (.p _ _) (.cons _ _ _ _ _ _ _ (.p _ _) (.nil _)))) ?_)
        refine c0 rfl (w_v (.tu [I64 ((arnd (Sol.mk qbi qbp qbk) p).1), I64 ((arnd (Sol.mk qbi qbp qbk) p).2)]) rfl ?_)
        refine c0 rfl (w_v (I64 ((arnd (Sol.mk qbi qbp qbk) p).1)) rfl ?_)
        refine c0 rfl (w_v (I64 ((arnd (Sol.mk qbi qbp qbk) p).2)) rfl ?_)
        refine c0 rfl (w_v (I64 ((arnd (Sol.mk qbi qbp qbk) p).1)) rfl ?_)
        refine c0 rfl (w_v (I64 ((arnd (Sol.mk qbi qbp qbk) p).2)) rfl ?_)
        refine cn ⟨by kernel_rfl, ?_⟩
        refine cw_seq ?_
        refine cw_reg0 tok rfl rfl ?_
        try have hca := arnd_B _ p _ (look_a hlk hqa)
        try have hna := nodes_a hlk hqa
        have hcb := arnd_B _ p _ (look_b hlk hqb)
        have hnb := nodes_b hlk hqb
        refine c0 rfl (w_v (I64 ((arnd (Sol.mk qai qap qak) p).1)) rfl ?_)
        refine c0 rfl (w_v (I64 ((arnd (Sol.mk qbi qbp qbk) p).1)) rfl ?_)
        refine c0 rfl (w_i (((arnd (Sol.mk qai qap qak) p).1) + ((arnd (Sol.mk qbi qbp qbk) p).1)) rfl (by unfold inI; omega) ?_)
        refine c0 rfl (w_v (I64 (((arnd (Sol.mk qai qap qak) p).1) + ((arnd (Sol.mk qbi qbp qbk) p).1))) rfl ?_)
        refine cn ?_
        refine cw_reg0 tok rfl rfl ?_
        refine c0 rfl (w_v (I64 ((arnd (Sol.mk qai qap qak) p).2)) rfl ?_)
        refine c0 rfl (w_v (I64 ((arnd (Sol.mk qbi qbp qbk) p).2)) rfl ?_)
        refine c0 rfl (w_i (((arnd (Sol.mk qai qap qak) p).2) + ((arnd (Sol.mk qbi qbp qbk) p).2)) rfl (by unfold inI; omega) ?_)
        refine c0 rfl (w_v (I64 (((arnd (Sol.mk qai qap qak) p).2) + ((arnd (Sol.mk qbi qbp qbk) p).2))) rfl ?_)
        refine cn ?_
        refine cw_seq ?_
        refine cw_reg0 tok rfl rfl ?_
        refine c0 rfl (w_v (I64 (((arnd (Sol.mk qai qap qak) p).1) + ((arnd (Sol.mk qbi qbp qbk) p).1))) rfl ?_)
        refine c0 rfl (w_v (I64 (((arnd (Sol.mk qai qap qak) p).2) + ((arnd (Sol.mk qbi qbp qbk) p).2))) rfl ?_)
        refine c0 rfl (w_v (I64 (((arnd (Sol.mk qai qap qak) p).1) + ((arnd (Sol.mk qbi qbp qbk) p).1))) rfl ?_)
        refine c0 rfl (w_v (I64 (((arnd (Sol.mk qai qap qak) p).2) + ((arnd (Sol.mk qbi qbp qbk) p).2))) rfl ?_)
        refine cn ?_
        refine cw_ret ?_
        exact finT2 (iP (((arnd (Sol.mk qai qap qak) p).1) + ((arnd (Sol.mk qbi qbp qbk) p).1))) (iP (((arnd (Sol.mk qai qap qak) p).2) + ((arnd (Sol.mk qbi qbp qbk) p).2))) (iP ((arnd (Sol.mk si sp sk) p).1)) (iP ((arnd (Sol.mk si sp sk) p).2)) rfl (congrArg iP (by have hh2 := look_two hlk (by assumption); first | (simp only [arnd_n hlk hqa hqb]; (try split) <;> (try split) <;> omega) | (obtain ⟨qb, hqb⟩ := getE (l := sk) (i := 1) (by omega); simp only [arnd_n hlk hqa hqb]; (try split) <;> (try split) <;> omega) | (obtain ⟨qa, hqa⟩ := getE (l := sk) (i := 0) (by omega); simp only [arnd_n hlk hqa hqb]; (try split) <;> (try split) <;> omega) : (((arnd (Sol.mk qai qap qak) p).1) + ((arnd (Sol.mk qbi qbp qbk) p).1)) = ((arnd (Sol.mk si sp sk) p).1))) (congrArg iP (by have hh2 := look_two hlk (by assumption); first | (simp only [arnd_n hlk hqa hqb]; (try split) <;> (try split) <;> omega) | (obtain ⟨qb, hqb⟩ := getE (l := sk) (i := 1) (by omega); simp only [arnd_n hlk hqa hqb]; (try split) <;> (try split) <;> omega) | (obtain ⟨qa, hqa⟩ := getE (l := sk) (i := 0) (by omega); simp only [arnd_n hlk hqa hqb]; (try split) <;> (try split) <;> omega) : (((arnd (Sol.mk qai qap qak) p).2) + ((arnd (Sol.mk qbi qbp qbk) p).2)) = ((arnd (Sol.mk si sp sk) p).2))) rfl
      ·
        replace c4 := of_decide_eq_false c4
        refine cw_skip ?_
        refine cw_seq ?_
        refine cw_reg0 tok rfl rfl ?_
        refine c0 rfl (w_v (I64 ((arnd (Sol.mk qai qap qak) p).1)) rfl ?_)
        refine c0 rfl (w_v (I64 ((arnd (Sol.mk qai qap qak) p).2)) rfl ?_)
        refine c0 rfl (w_v (I64 ((arnd (Sol.mk qai qap qak) p).1)) rfl ?_)
        refine c0 rfl (w_v (I64 ((arnd (Sol.mk qai qap qak) p).2)) rfl ?_)
        refine cn ?_
        refine cw_ret ?_
        exact finT2 (iP ((arnd (Sol.mk qai qap qak) p).1)) (iP ((arnd (Sol.mk qai qap qak) p).2)) (iP ((arnd (Sol.mk si sp sk) p).1)) (iP ((arnd (Sol.mk si sp sk) p).2)) rfl (congrArg iP (by have hh2 := look_two hlk (by assumption); first | (simp only [arnd_n hlk hqa hqb]; (try split) <;> (try split) <;> omega) | (obtain ⟨qb, hqb⟩ := getE (l := sk) (i := 1) (by omega); simp only [arnd_n hlk hqa hqb]; (try split) <;> (try split) <;> omega) | (obtain ⟨qa, hqa⟩ := getE (l := sk) (i := 0) (by omega); simp only [arnd_n hlk hqa hqb]; (try split) <;> (try split) <;> omega) : ((arnd (Sol.mk qai qap qak) p).1) = ((arnd (Sol.mk si sp sk) p).1))) (congrArg iP (by have hh2 := look_two hlk (by assumption); first | (simp only [arnd_n hlk hqa hqb]; (try split) <;> (try split) <;> omega) | (obtain ⟨qb, hqb⟩ := getE (l := sk) (i := 1) (by omega); simp only [arnd_n hlk hqa hqb]; (try split) <;> (try split) <;> omega) | (obtain ⟨qa, hqa⟩ := getE (l := sk) (i := 0) (by omega); simp only [arnd_n hlk hqa hqb]; (try split) <;> (try split) <;> omega) : ((arnd (Sol.mk qai qap qak) p).2) = ((arnd (Sol.mk si sp sk) p).2))) rfl
    ·
      replace c3 := of_decide_eq_false c3
      refine cw_skip ?_
      refine cw_seq ?_
      refine cw_seq ?_
      refine cw_reg0 tok rfl rfl ?_
      refine c0 rfl (w_v (I64 (sgn (val sp p))) rfl ?_)
      refine c0 rfl (w_v (BO (decide (sgn (val sp p) ≤ 0))) rfl ?_)
      refine cn ?_
      refine cw_cond (t := decide (sgn (val sp p) ≤ 0)) rfl (fun c5 => ?_) (fun c5 => ?_)
      ·
        replace c5 := of_decide_eq_true c5
        refine cw_seq ?_
        refine cw_reg1 tok mixed rfl rfl ?_
        refine c0 rfl (w_v (.pt 2 0 5) rfl ?_)
        refine c0 rfl (w_v (.p (.sl 6 (encSs sk))) rfl ?_)
        obtain ⟨qb, hqb⟩ := getE (l := sk) (i := 1) (by have := look_two hlk (by assumption); omega)
        obtain ⟨qbi, qbp, qbk⟩ := qb
        refine c0 rfl (w_ix (1) (encS (Sol.mk qbi qbp qbk)) rfl rfl rfl (by omega) (getSs hqb) ?_)
        refine c0 rfl (w_v (.p (encS (Sol.mk qbi qbp qbk))) rfl ?_)
        refine c0 rfl (w_v (.p (encSp p)) rfl ?_)
        refine c0 rfl (w_call (.tu [I64 ((arnd (Sol.mk qbi qbp qbk) p).1), I64 ((arnd (Sol.mk qbi qbp qbk) p).2)]) (H _ (List.mem_of_getElem? hqb) _ (look_b hlk hqb) (by have := nodes_b hlk hqb; omega)) rfl (.cons _ _ _ _ _ _ _ [] _ (.one _ _ _ _ _ (.p _ _)) (.cons _ _ _ _ _ _ _ [] _ (.one _ _ _ _ _ (.p _ _)) (.nil _))) rfl (.tu _ _ _ _ (.cons _ _ _ _ _ _ _ (.p _ _) (.cons _ _ _ _ _ _ _ (.p _ _) (.nil _)))) ?_)
        refine c0 rfl (w_v (.tu [I64 ((arnd (Sol.mk qbi qbp qbk) p).1), I64 ((arnd (Sol.mk qbi qbp qbk) p).2)]) rfl ?_)
        refine c0 rfl (w_v (I64 ((arnd (Sol.mk qbi qbp qbk) p).1)) rfl ?_)
        refine c0 rfl (w_v (I64 ((arnd (Sol.mk qbi qbp qbk) p).2)) rfl ?_)
        refine c0 rfl (w_v (I64 ((arnd (Sol.mk qbi qbp qbk) p).1)) rfl ?_)
        refine c0 rfl (w_v (I64 ((arnd (Sol.mk qbi qbp qbk) p).2)) rfl ?_)
        refine cn ⟨by kernel_rfl, ?_⟩
        refine cw_seq ?_
        refine cw_reg0 tok rfl rfl ?_
        try have hca := arnd_B _ p _ (look_a hlk hqa)
        try have hna := nodes_a hlk hqa
        have hcb := arnd_B _ p _ (look_b hlk hqb)
        have hnb := nodes_b hlk hqb
        refine c0 rfl (w_v (I64 0) rfl ?_)
        refine c0 rfl (w_v (I64 ((arnd (Sol.mk qbi qbp qbk) p).1)) rfl ?_)
        refine c0 rfl (w_i (0 + ((arnd (Sol.mk qbi qbp qbk) p).1)) rfl (by unfold inI; omega) ?_)
        refine c0 rfl (w_v (I64 (0 + ((arnd (Sol.mk qbi qbp qbk) p).1))) rfl ?_)
        refine cn ?_
        refine cw_reg0 tok rfl rfl ?_
        refine c0 rfl (w_v (I64 0) rfl ?_)
        refine c0 rfl (w_v (I64 ((arnd (Sol.mk qbi qbp qbk) p).2)) rfl ?_)
        refine c0 rfl (w_i (0 + ((arnd (Sol.mk qbi qbp qbk) p).2)) rfl (by unfold inI; omega) ?_)
        refine c0 rfl (w_v (I64 (0 + ((arnd (Sol.mk qbi qbp qbk) p).2))) rfl ?_)
        refine cn ?_
        refine cw_seq ?_
        refine cw_reg0 tok rfl rfl ?_
        refine c0 rfl (w_v (I64 (0 + ((arnd (Sol.mk qbi qbp qbk) p).1))) rfl ?_)
        refine c0 rfl (w_v (I64 (0 + ((arnd (Sol.mk qbi qbp qbk) p).2))) rfl ?_)
        refine c0 rfl (w_v (I64 (0 + ((arnd (Sol.mk qbi qbp qbk) p).1))) rfl ?_)
        refine c0 rfl (w_v (I64 (0 + ((arnd (Sol.mk qbi qbp qbk) p).2))) rfl ?_)
        refine cn ?_
        refine cw_ret ?_
        exact finT2 (iP (0 + ((arnd (Sol.mk qbi qbp qbk) p).1))) (iP (0 + ((arnd (Sol.mk qbi qbp qbk) p).2))) (iP ((arnd (Sol.mk si sp sk) p).1)) (iP ((arnd (Sol.mk si sp sk) p).2)) rfl (congrArg iP (by have hh2 := look_two hlk (by assumption); first | (simp only [arnd_n hlk hqa hqb]; (try split) <;> (try split) <;> omega) | (obtain ⟨qb, hqb⟩ := getE (l := sk) (i := 1) (by omega); simp only [arnd_n hlk hqa hqb]; (try split) <;> (try split) <;> omega) | (obtain ⟨qa, hqa⟩ := getE (l := sk) (i := 0) (by omega); simp only [arnd_n hlk hqa hqb]; (try split) <;> (try split) <;> omega) : (0 + ((arnd (Sol.mk qbi qbp qbk) p).1)) = ((arnd (Sol.mk si sp sk) p).1))) (congrArg iP (by have hh2 := look_two hlk (by assumption); first | (simp only [arnd_n hlk hqa hqb]; (try split) <;> (try split) <;> omega) | (obtain ⟨qb, hqb⟩ := getE (l := sk) (i := 1) (by omega); simp only [arnd_n hlk hqa hqb]; (try split) <;> (try split) <;> omega) | (obtain ⟨qa, hqa⟩ := getE (l := sk) (i := 0) (by omega); simp only [arnd_n hlk hqa hqb]; (try split) <;> (try split) <;> omega) : (0 + ((arnd (Sol.mk qbi qbp qbk) p).2)) = ((arnd (Sol.mk si sp sk) p).2))) rfl
      ·
        replace c5 := of_decide_eq_false c5
        refine cw_skip ?_
        refine cw_seq ?_
        refine cw_reg0 tok rfl rfl ?_
        refine c0 rfl (w_v (I64 0) rfl ?_)
        refine c0 rfl (w_v (I64 0) rfl ?_)
        refine c0 rfl (w_v (I64 0) rfl ?_)
        refine c0 rfl (w_v (I64 0) rfl ?_)
        refine cn ?_
        refine cw_ret ?_
        exact finT2 (iP 0) (iP 0) (iP ((arnd (Sol.mk si sp sk) p).1)) (iP ((arnd (Sol.mk si sp sk) p).2)) rfl (congrArg iP (by first | (exfalso; omega) | (rw [arnd_0 (by assumption)]; simp_all) : 0 = ((arnd (Sol.mk si sp sk) p).1))) (congrArg iP (by first | (exfalso; omega) | (rw [arnd_0 (by assumption)]; simp_all) : 0 = ((arnd (Sol.mk si sp sk) p).2))) rfl
theorem sarnd_rec : ∀ (s : Sol) (p : Spot) {path : List Pl}, look s path = true → nodesN s ≤ 300 → spB p → Fn PP 133 [.p (encS s), .p (encSp p)] (.tu [.p (iP (arnd s p).1), .p (iP (arnd s p).2)]) []
  | .mk i q k, p, path, h, hn, hs => sl10Around_fn i q k p path h hn hs fun x hx m hl hn => sarnd_rec x p hl hn hs
  termination_by s => SizeOf.sizeOf s
  decreasing_by exact sz_kid hx
theorem iaround_fn (si : Bool) (sp : Pl) (sk : List Sol) (p : Spot) (path : List Pl) (hlk : look (Sol.mk si sp sk) path = true) (hnn : nodesN (Sol.mk si sp sk) ≤ 300) (hs : spB p) (H : ∀ q ∈ sk, ∀ m : List Pl, look q m = true → nodesN q ≤ 300 → Fn PP 137 [.p (.ro (encS q) 0), .p (encSp p)] (.tu [.p (iP (arnd q p).1), .p (iP (arnd q p).2)]) []) : Fn PP 137 [.p (.ro (encS (Sol.mk si sp sk)) 0), .p (encSp p)] (.tu [.p (iP ((arnd (Sol.mk si sp sk) p).1)), .p (iP ((arnd (Sol.mk si sp sk) p).2))]) [] := by
  refine fn_intro tok Go.Proofs.Try.func137 (c := _) rfl rfl (Nat.le_of_ble_eq_true rfl) ?_
  refine cw_seq ?_
  refine cw_reg0 tok rfl rfl ?_
  refine c0 rfl (w_box (g := 0) [I64 p.x, I64 p.y, I64 p.z, I64 p.w] rfl rfl rfl ?_)
  refine c0 rfl (w_v (I64 0) rfl ?_)
  refine c0 rfl (w_v (I64 0) rfl ?_)
  refine cn ?_
  refine cw_seq ?_
  refine cw_seq ?_
  refine cw_reg0 tok rfl rfl ?_
  refine c0 rfl (w_v (.p (.ro (encS (Sol.mk si sp sk)) 0)) rfl ?_)
  refine c0 rfl (w_call_1 (isLeaf_fn si sp sk) rfl rfl ?_)
  refine cn ?_
  refine cw_cond (t := decide ((sk.length : Int) = 0)) rfl (fun c1 => ?_) (fun c1 => ?_)
  ·
    replace c1 := of_decide_eq_true c1
    refine cw_seq ?_
    refine cw_seq ?_
    refine cw_reg0 tok rfl rfl ?_
    refine c0 rfl (w_v (.p (.ro (encS (Sol.mk si sp sk)) 0)) rfl ?_)
    refine c0 rfl (w_v (.p (.ro (encS (Sol.mk si sp sk)) 0)) rfl ?_)
    refine c0 rfl (w_v (.p (.ro (encS (Sol.mk si sp sk)) 0)) rfl ?_)
    refine c0 rfl (w_v (BO si) rfl ?_)
    refine cn ?_
    refine cw_cond (t := si) rfl (fun c2 => ?_) (fun c2 => ?_)
    ·
      refine cw_seq ?_
      refine cw_reg0 tok rfl rfl ?_
      refine c0 rfl (w_v (I64 1) rfl ?_)
      refine c0 rfl (w_v (I64 0) rfl ?_)
      refine cn ?_
      refine cw_ret ?_
      exact finT2 (iP 1) (iP 0) (iP ((arnd (Sol.mk si sp sk) p).1)) (iP ((arnd (Sol.mk si sp sk) p).2)) rfl (congrArg iP (by first | (exfalso; omega) | (rw [arnd_0 (by assumption)]; simp_all) : 1 = ((arnd (Sol.mk si sp sk) p).1))) (congrArg iP (by first | (exfalso; omega) | (rw [arnd_0 (by assumption)]; simp_all) : 0 = ((arnd (Sol.mk si sp sk) p).2))) rfl
    ·
      refine cw_skip ?_
      refine cw_seq ?_
      refine cw_reg0 tok rfl rfl ?_
      refine c0 rfl (w_v (I64 0) rfl ?_)
      refine c0 rfl (w_v (I64 1) rfl ?_)
      refine cn ?_
      refine cw_ret ?_
      exact finT2 (iP 0) (iP 1) (iP ((arnd (Sol.mk si sp sk) p).1)) (iP ((arnd (Sol.mk si sp sk) p).2)) rfl (congrArg iP (by first | (exfalso; omega) | (rw [arnd_0 (by assumption)]; simp_all) : 0 = ((arnd (Sol.mk si sp sk) p).1))) (congrArg iP (by first | (exfalso; omega) | (rw [arnd_0 (by assumption)]; simp_all) : 1 = ((arnd (Sol.mk si sp sk) p).2))) rfl
  ·
    replace c1 := of_decide_eq_false c1
    refine cw_skip ?_
    refine cw_seq ?_
    refine cw_reg1 tok mixed rfl rfl ?_
    refine c0 rfl (w_v (.p (.ro (encS (Sol.mk si sp sk)) 0)) rfl ?_)
    refine c0 rfl (w_v (.p (.ro (encS (Sol.mk si sp sk)) 0)) rfl ?_)
    refine c0 rfl (w_v (.p (.ro (encS (Sol.mk si sp sk)) 1)) rfl ?_)
    refine c0 rfl (w_v (.p (encP sp)) rfl ?_)
    refine c0 rfl (w_v (.p (encSp p)) rfl ?_)
    refine c0 rfl (w_call_2 (isideAt_fn sp p (look_okc hlk (by assumption)) hs) rfl rfl rfl ?_)
    refine c0 rfl (w_v (I64 (sgn (val sp p))) rfl ?_)
    refine cn ⟨by kernel_rfl, ?_⟩
    refine cw_seq ?_
    refine cw_reg0 tok rfl rfl ?_
    refine c0 rfl (w_v (I64 0) rfl ?_)
    refine c0 rfl (w_v (I64 0) rfl ?_)
    refine cn ?_
    refine cw_seq ?_
    refine cw_seq ?_
    refine cw_reg0 tok rfl rfl ?_
    refine c0 rfl (w_v (I64 (sgn (val sp p))) rfl ?_)
    refine c0 rfl (w_v (BO (decide (sgn (val sp p) ≥ 0))) rfl ?_)
    refine cn ?_
    refine cw_cond (t := decide (sgn (val sp p) ≥ 0)) rfl (fun c3 => ?_) (fun c3 => ?_)
    ·
      replace c3 := of_decide_eq_true c3
      refine cw_reg1 tok mixed rfl rfl ?_
      refine c0 rfl (w_v (.p (.ro (encS (Sol.mk si sp sk)) 0)) rfl ?_)
      refine c0 rfl (w_v (.p (.ro (encS (Sol.mk si sp sk)) 0)) rfl ?_)
      refine c0 rfl (w_v (.p (.ro (encS (Sol.mk si sp sk)) 5)) rfl ?_)
      refine c0 rfl (w_v (.p (.sl 6 (encSs sk))) rfl ?_)
      obtain ⟨qa, hqa⟩ := getE (l := sk) (i := 0) (by have := look_two hlk (by assumption); omega)
      obtain ⟨qai, qap, qak⟩ := qa
      refine c0 rfl (w_ix (0) (encS (Sol.mk qai qap qak)) rfl rfl rfl (by omega) (getSs hqa) ?_)
      refine c0 rfl (w_v (.p (encSp p)) rfl ?_)
      refine c0 rfl (w_call (.tu [I64 ((arnd (Sol.mk qai qap qak) p).1), I64 ((arnd (Sol.mk qai qap qak) p).2)]) (H _ (List.mem_of_getElem? hqa) _ (look_a hlk hqa) (by have := nodes_a hlk hqa; omega)) rfl (.cons _ _ _ _ _ _ _ [] _ (.one _ _ _ _ _ (.p _ _)) (.cons _ _ _ _ _ _ _ [] _ (.one _ _ _ _ _ (.p _ _)) (.nil _))) rfl (.tu _ _ _ _ (.cons _ _ _ _ _ _ _ (.p _ _) (.cons _ _ _ _ _ _ _ (.p _ _) (.nil _)))) ?_)
      refine c0 rfl (w_v (.tu [I64 ((arnd (Sol.mk qai qap qak) p).1), I64 ((arnd (Sol.mk qai qap qak) p).2)]) rfl ?_)
      refine c0 rfl (w_v (I64 ((arnd (Sol.mk qai qap qak) p).1)) rfl ?_)
      refine c0 rfl (w_v (I64 ((arnd (Sol.mk qai qap qak) p).2)) rfl ?_)
      refine c0 rfl (w_v (I64 ((arnd (Sol.mk qai qap qak) p).1)) rfl ?_)
      refine c0 rfl (w_v (I64 ((arnd (Sol.mk qai qap qak) p).2)) rfl ?_)
      refine cn ⟨by kernel_rfl, ?_⟩
      refine cw_seq ?_
      refine cw_seq ?_
      refine cw_reg0 tok rfl rfl ?_
      refine c0 rfl (w_v (I64 (sgn (val sp p))) rfl ?_)
      refine c0 rfl (w_v (BO (decide (sgn (val sp p) ≤ 0))) rfl ?_)
      refine cn ?_
      refine cw_cond (t := decide (sgn (val sp p) ≤ 0)) rfl (fun c4 => ?_) (fun c4 => ?_)
      ·
        replace c4 := of_decide_eq_true c4
        refine cw_seq ?_
        refine cw_reg1 tok mixed rfl rfl ?_
        refine c0 rfl (w_v (.p (.ro (encS (Sol.mk si sp sk)) 0)) rfl ?_)
        refine c0 rfl (w_v (.p (.ro (encS (Sol.mk si sp sk)) 0)) rfl ?_)
        refine c0 rfl (w_v (.p (.ro (encS (Sol.mk si sp sk)) 5)) rfl ?_)
        refine c0 rfl (w_v (.p (.sl 6 (encSs sk))) rfl ?_)
        obtain ⟨qb, hqb⟩ := getE (l := sk) (i := 1) (by have := look_two hlk (by assumption); omega)
        obtain ⟨qbi, qbp, qbk⟩ := qb
        refine c0 rfl (w_ix (1) (encS (Sol.mk qbi qbp qbk)) rfl rfl rfl (by omega) (getSs hqb) ?_)
        refine c0 rfl (w_v (.p (encSp p)) rfl ?_)
        refine c0 rfl (w_call (.tu [I64 ((arnd (Sol.mk qbi qbp qbk) p).1), I64 ((arnd (Sol.mk qbi qbp qbk) p).2)]) (H _ (List.mem_of_getElem? hqb) _ (look_b hlk hqb) (by have := nodes_b hlk hqb; omega)) rfl (.cons _ _ _ _ _ _ _ [] _ (.one _ _ _ _ _ (.p _ _)) (.cons _ _ _ _ _ _ _ [] _ (.one _ _ _ _ _ (.p _ _)) (.nil _))) rfl (.tu _ _ _ _ (.cons _ _ _ _ _ _ _ (.p _ _) (.cons _ _ _ _ _ _ _ (.p _ _) (.nil _)))) ?_)
        refine c0 rfl (w_v (.tu [I64 ((arnd (Sol.mk qbi qbp qbk) p).1), I64 ((arnd (Sol.mk qbi qbp qbk) p).2)]) rfl ?_)
        refine c0 rfl (w_v (I64 ((arnd (Sol.mk qbi qbp qbk) p).1)) rfl ?_)
        refine c0 rfl (w_v (I64 ((arnd (Sol.mk qbi qbp qbk) p).2)) rfl ?_)
        refine c0 rfl (w_v (I64 ((arnd (Sol.mk qbi qbp qbk) p).1)) rfl ?_)
        refine c0 rfl (w_v (I64 ((arnd (Sol.mk qbi qbp qbk) p).2)) rfl ?_)
        refine cn ⟨by kernel_rfl, ?_⟩
        refine cw_seq ?_
        refine cw_reg0 tok rfl rfl ?_
        try have hca := arnd_B _ p _ (look_a hlk hqa)
        try have hna := nodes_a hlk hqa
        have hcb := arnd_B _ p _ (look_b hlk hqb)
        have hnb := nodes_b hlk hqb
        refine c0 rfl (w_v (I64 ((arnd (Sol.mk qai qap qak) p).1)) rfl ?_)
        refine c0 rfl (w_v (I64 ((arnd (Sol.mk qbi qbp qbk) p).1)) rfl ?_)
        refine c0 rfl (w_i (((arnd (Sol.mk qai qap qak) p).1) + ((arnd (Sol.mk qbi qbp qbk) p).1)) rfl (by unfold inI; omega) ?_)
        refine c0 rfl (w_v (I64 (((arnd (Sol.mk qai qap qak) p).1) + ((arnd (Sol.mk qbi qbp qbk) p).1))) rfl ?_)
        refine cn ?_
        refine cw_reg0 tok rfl rfl ?_
        refine c0 rfl (w_v (I64 ((arnd (Sol.mk qai qap qak) p).2)) rfl ?_)
        refine c0 rfl (w_v (I64 ((arnd (Sol.mk qbi qbp qbk) p).2)) rfl ?_)
        refine c0 rfl (w_i (((arnd (Sol.mk qai qap qak) p).2) + ((arnd (Sol.mk qbi qbp qbk) p).2)) rfl (by unfold inI; omega) ?_)
        refine c0 rfl (w_v (I64 (((arnd (Sol.mk qai qap qak) p).2) + ((arnd (Sol.mk qbi qbp qbk) p).2))) rfl ?_)
        refine cn ?_
        refine cw_seq ?_
        refine cw_reg0 tok rfl rfl ?_
        refine c0 rfl (w_v (I64 (((arnd (Sol.mk qai qap qak) p).1) + ((arnd (Sol.mk qbi qbp qbk) p).1))) rfl ?_)
        refine c0 rfl (w_v (I64 (((arnd (Sol.mk qai qap qak) p).2) + ((arnd (Sol.mk qbi qbp qbk) p).2))) rfl ?_)
        refine c0 rfl (w_v (I64 (((arnd (Sol.mk qai qap qak) p).1) + ((arnd (Sol.mk qbi qbp qbk) p).1))) rfl ?_)
        refine c0 rfl (w_v (I64 (((arnd (Sol.mk qai qap qak) p).2) + ((arnd (Sol.mk qbi qbp qbk) p).2))) rfl ?_)
        refine cn ?_
        refine cw_ret ?_
        exact finT2 (iP (((arnd (Sol.mk qai qap qak) p).1) + ((arnd (Sol.mk qbi qbp qbk) p).1))) (iP (((arnd (Sol.mk qai qap qak) p).2) + ((arnd (Sol.mk qbi qbp qbk) p).2))) (iP ((arnd (Sol.mk si sp sk) p).1)) (iP ((arnd (Sol.mk si sp sk) p).2)) rfl (congrArg iP (by have hh2 := look_two hlk (by assumption); first | (simp only [arnd_n hlk hqa hqb]; (try split) <;> (try split) <;> omega) | (obtain ⟨qb, hqb⟩ := getE (l := sk) (i := 1) (by omega); simp only [arnd_n hlk hqa hqb]; (try split) <;> (try split) <;> omega) | (obtain ⟨qa, hqa⟩ := getE (l := sk) (i := 0) (by omega); simp only [arnd_n hlk hqa hqb]; (try split) <;> (try split) <;> omega) : (((arnd (Sol.mk qai qap qak) p).1) + ((arnd (Sol.mk qbi qbp qbk) p).1)) = ((arnd (Sol.mk si sp sk) p).1))) (congrArg iP (by have hh2 := look_two hlk (by assumption); first | (simp only [arnd_n hlk hqa hqb]; (try split) <;> (try split) <;> omega) | (obtain ⟨qb, hqb⟩ := getE (l := sk) (i := 1) (by omega); simp only [arnd_n hlk hqa hqb]; (try split) <;> (try split) <;> omega) | (obtain ⟨qa, hqa⟩ := getE (l := sk) (i := 0) (by omega); simp only [arnd_n hlk hqa hqb]; (try split) <;> (try split) <;> omega) : (((arnd (Sol.mk qai qap qak) p).2) + ((arnd (Sol.mk qbi qbp qbk) p).2)) = ((arnd (Sol.mk si sp sk) p).2))) rfl
      ·
        replace c4 := of_decide_eq_false c4
        refine cw_skip ?_
        refine cw_seq ?_
        refine cw_reg0 tok rfl rfl ?_
        refine c0 rfl (w_v (I64 ((arnd (Sol.mk qai qap qak) p).1)) rfl ?_)
        refine c0 rfl (w_v (I64 ((arnd (Sol.mk qai qap qak) p).2)) rfl ?_)
        refine c0 rfl (w_v (I64 ((arnd (Sol.mk qai qap qak) p).1)) rfl ?_)
        refine c0 rfl (w_v (I64 ((arnd (Sol.mk qai qap qak) p).2)) rfl ?_)
        refine cn ?_
        refine cw_ret ?_
        exact finT2 (iP ((arnd (Sol.mk qai qap qak) p).1)) (iP ((arnd (Sol.mk qai qap qak) p).2)) (iP ((arnd (Sol.mk si sp sk) p).1)) (iP ((arnd (Sol.mk si sp sk) p).2)) rfl (congrArg iP (by have hh2 := look_two hlk (by assumption); first | (simp only [arnd_n hlk hqa hqb]; (try split) <;> (try split) <;> omega) | (obtain ⟨qb, hqb⟩ := getE (l := sk) (i := 1) (by omega); simp only [arnd_n hlk hqa hqb]; (try split) <;> (try split) <;> omega) | (obtain ⟨qa, hqa⟩ := getE (l := sk) (i := 0) (by omega); simp only [arnd_n hlk hqa hqb]; (try split) <;> (try split) <;> omega) : ((arnd (Sol.mk qai qap qak) p).1) = ((arnd (Sol.mk si sp sk) p).1))) (congrArg iP (by have hh2 := look_two hlk (by assumption); first | (simp only [arnd_n hlk hqa hqb]; (try split) <;> (try split) <;> omega) | (obtain ⟨qb, hqb⟩ := getE (l := sk) (i := 1) (by omega); simp only [arnd_n hlk hqa hqb]; (try split) <;> (try split) <;> omega) | (obtain ⟨qa, hqa⟩ := getE (l := sk) (i := 0) (by omega); simp only [arnd_n hlk hqa hqb]; (try split) <;> (try split) <;> omega) : ((arnd (Sol.mk qai qap qak) p).2) = ((arnd (Sol.mk si sp sk) p).2))) rfl
    ·
      replace c3 := of_decide_eq_false c3
      refine cw_skip ?_
      refine cw_seq ?_
      refine cw_seq ?_
      refine cw_reg0 tok rfl rfl ?_
      refine c0 rfl (w_v (I64 (sgn (val sp p))) rfl ?_)
      refine c0 rfl (w_v (BO (decide (sgn (val sp p) ≤ 0))) rfl ?_)
      refine cn ?_
      refine cw_cond (t := decide (sgn (val sp p) ≤ 0)) rfl (fun c5 => ?_) (fun c5 => ?_)
      ·
        replace c5 := of_decide_eq_true c5
        refine cw_seq ?_
        refine cw_reg1 tok mixed rfl rfl ?_
        refine c0 rfl (w_v (.p (.ro (encS (Sol.mk si sp sk)) 0)) rfl ?_)
        refine c0 rfl (w_v (.p (.ro (encS (Sol.mk si sp sk)) 0)) rfl ?_)
        refine c0 rfl (w_v (.p (.ro (encS (Sol.mk si sp sk)) 5)) rfl ?_)
        refine c0 rfl (w_v (.p (.sl 6 (encSs sk))) rfl ?_)
        obtain ⟨qb, hqb⟩ := getE (l := sk) (i := 1) (by have := look_two hlk (by assumption); omega)
        obtain ⟨qbi, qbp, qbk⟩ := qb
        refine c0 rfl (w_ix (1) (encS (Sol.mk qbi qbp qbk)) rfl rfl rfl (by omega) (getSs hqb) ?_)
        refine c0 rfl (w_v (.p (encSp p)) rfl ?_)
        refine c0 rfl (w_call (.tu [I64 ((arnd (Sol.mk qbi qbp qbk) p).1), I64 ((arnd (Sol.mk qbi qbp qbk) p).2)]) (H _ (List.mem_of_getElem? hqb) _ (look_b hlk hqb) (by have := nodes_b hlk hqb; omega)) rfl (.cons _ _ _ _ _ _ _ [] _ (.one _ _ _ _ _ (.p _ _)) (.cons _ _ _ _ _ _ _ [] _ (.one _ _ _ _ _ (.p _ _)) (.nil _))) rfl (.tu _ _ _ _ (.cons _ _ _ _ _ _ _ (.p _ _) (.cons _ _ _ _ _ _ _ (.p _ _) (.nil _)))) ?_)
        refine c0 rfl (w_v (.tu [I64 ((arnd (Sol.mk qbi qbp qbk) p).1), I64 ((arnd (Sol.mk qbi qbp qbk) p).2)]) rfl ?_)
        refine c0 rfl (w_v (I64 ((arnd (Sol.mk qbi qbp qbk) p).1)) rfl ?_)
        refine c0 rfl (w_v (I64 ((arnd (Sol.mk qbi qbp qbk) p).2)) rfl ?_)
        refine c0 rfl (w_v (I64 ((arnd (Sol.mk qbi qbp qbk) p).1)) rfl ?_)
        refine c0 rfl (w_v (I64 ((arnd (Sol.mk qbi qbp qbk) p).2)) rfl ?_)
        refine cn ⟨by kernel_rfl, ?_⟩
        refine cw_seq ?_
        refine cw_reg0 tok rfl rfl ?_
        try have hca := arnd_B _ p _ (look_a hlk hqa)
        try have hna := nodes_a hlk hqa
        have hcb := arnd_B _ p _ (look_b hlk hqb)
        have hnb := nodes_b hlk hqb
        refine c0 rfl (w_v (I64 0) rfl ?_)
        refine c0 rfl (w_v (I64 ((arnd (Sol.mk qbi qbp qbk) p).1)) rfl ?_)
        refine c0 rfl (w_i (0 + ((arnd (Sol.mk qbi qbp qbk) p).1)) rfl (by unfold inI; omega) ?_)
        refine c0 rfl (w_v (I64 (0 + ((arnd (Sol.mk qbi qbp qbk) p).1))) rfl ?_)
        refine cn ?_
        refine cw_reg0 tok rfl rfl ?_
        refine c0 rfl (w_v (I64 0) rfl ?_)
        refine c0 rfl (w_v (I64 ((arnd (Sol.mk qbi qbp qbk) p).2)) rfl ?_)
        refine c0 rfl (w_i (0 + ((arnd (Sol.mk qbi qbp qbk) p).2)) rfl (by unfold inI; omega) ?_)
        refine c0 rfl (w_v (I64 (0 + ((arnd (Sol.mk qbi qbp qbk) p).2))) rfl ?_)
        refine cn ?_
        refine cw_seq ?_
        refine cw_reg0 tok rfl rfl ?_
        refine c0 rfl (w_v (I64 (0 + ((arnd (Sol.mk qbi qbp qbk) p).1))) rfl ?_)
        refine c0 rfl (w_v (I64 (0 + ((arnd (Sol.mk qbi qbp qbk) p).2))) rfl ?_)
        refine c0 rfl (w_v (I64 (0 + ((arnd (Sol.mk qbi qbp qbk) p).1))) rfl ?_)
        refine c0 rfl (w_v (I64 (0 + ((arnd (Sol.mk qbi qbp qbk) p).2))) rfl ?_)
        refine cn ?_
        refine cw_ret ?_
        exact finT2 (iP (0 + ((arnd (Sol.mk qbi qbp qbk) p).1))) (iP (0 + ((arnd (Sol.mk qbi qbp qbk) p).2))) (iP ((arnd (Sol.mk si sp sk) p).1)) (iP ((arnd (Sol.mk si sp sk) p).2)) rfl (congrArg iP (by have hh2 := look_two hlk (by assumption); first | (simp only [arnd_n hlk hqa hqb]; (try split) <;> (try split) <;> omega) | (obtain ⟨qb, hqb⟩ := getE (l := sk) (i := 1) (by omega); simp only [arnd_n hlk hqa hqb]; (try split) <;> (try split) <;> omega) | (obtain ⟨qa, hqa⟩ := getE (l := sk) (i := 0) (by omega); simp only [arnd_n hlk hqa hqb]; (try split) <;> (try split) <;> omega) : (0 + ((arnd (Sol.mk qbi qbp qbk) p).1)) = ((arnd (Sol.mk si sp sk) p).1))) (congrArg iP (by have hh2 := look_two hlk (by assumption); first | (simp only [arnd_n hlk hqa hqb]; (try split) <;> (try split) <;> omega) | (obtain ⟨qb, hqb⟩ := getE (l := sk) (i := 1) (by omega); simp only [arnd_n hlk hqa hqb]; (try split) <;> (try split) <;> omega) | (obtain ⟨qa, hqa⟩ := getE (l := sk) (i := 0) (by omega); simp only [arnd_n hlk hqa hqb]; (try split) <;> (try split) <;> omega) : (0 + ((arnd (Sol.mk qbi qbp qbk) p).2)) = ((arnd (Sol.mk si sp sk) p).2))) rfl
      ·
        replace c5 := of_decide_eq_false c5
        refine cw_skip ?_
        refine cw_seq ?_
        refine cw_reg0 tok rfl rfl ?_
        refine c0 rfl (w_v (I64 0) rfl ?_)
        refine c0 rfl (w_v (I64 0) rfl ?_)
        refine c0 rfl (w_v (I64 0) rfl ?_)
        refine c0 rfl (w_v (I64 0) rfl ?_)
        refine cn ?_
        refine cw_ret ?_
        exact finT2 (iP 0) (iP 0) (iP ((arnd (Sol.mk si sp sk) p).1)) (iP ((arnd (Sol.mk si sp sk) p).2)) rfl (congrArg iP (by first | (exfalso; omega) | (rw [arnd_0 (by assumption)]; simp_all) : 0 = ((arnd (Sol.mk si sp sk) p).1))) (congrArg iP (by first | (exfalso; omega) | (rw [arnd_0 (by assumption)]; simp_all) : 0 = ((arnd (Sol.mk si sp sk) p).2))) rfl
theorem iarnd_rec : ∀ (s : Sol) (p : Spot) {path : List Pl}, look s path = true → nodesN s ≤ 300 → spB p → Fn PP 137 [.p (.ro (encS s) 0), .p (encSp p)] (.tu [.p (iP (arnd s p).1), .p (iP (arnd s p).2)]) []
  | .mk i q k, p, path, h, hn, hs => iaround_fn i q k p path h hn hs fun x hx m hl hn => iarnd_rec x p hl hn hs
  termination_by s => SizeOf.sizeOf s
  decreasing_by exact sz_kid hx
theorem whereOf_fn (si : Bool) (sp : Pl) (sk : List Sol) (p : Pt) (hs : sok (Sol.mk si sp sk) = true) (hp : ptok p) : Fn PP 60 [.p (.ro (encS (Sol.mk si sp sk)) 0), .p (encPt p)] (.p (iP (whrP (Sol.mk si sp sk) p))) [] := by
  refine fn_intro tok Go.Proofs.Try.func60 (c := _) rfl rfl (Nat.le_of_ble_eq_true rfl) ?_
  refine cw_seq ?_
  refine cw_reg0 tok rfl rfl ?_
  refine c0 rfl (w_box (g := 0) [I64 p.x, I64 p.y, I64 p.z] rfl rfl rfl ?_)
  refine c0 rfl (w_v (I64 0) rfl ?_)
  refine cn ?_
  refine cw_seq ?_
  refine cw_reg0 tok rfl rfl ?_
  refine c0 rfl (w_v (.p (.ro (encS (Sol.mk si sp sk)) 0)) rfl ?_)
  refine c0 rfl (w_v (.p (encPt p)) rfl ?_)
  refine c0 rfl (w_call_1 (spotAt_fn p) rfl rfl ?_)
  refine c0 rfl (w_call (.tu [I64 ((arnd (Sol.mk si sp sk) (spotA p)).1), I64 ((arnd (Sol.mk si sp sk) (spotA p)).2)]) (iarnd_rec (Sol.mk si sp sk) (spotA p) (sok_look hs) (sok_nodes hs) (spB_pt hp)) rfl (.cons _ _ _ _ _ _ _ [] _ (.one _ _ _ _ _ (.p _ _)) (.cons _ _ _ _ _ _ _ [] _ (.one _ _ _ _ _ (.p _ _)) (.nil _))) rfl (.tu _ _ _ _ (.cons _ _ _ _ _ _ _ (.p _ _) (.cons _ _ _ _ _ _ _ (.p _ _) (.nil _)))) ?_)
  refine c0 rfl (w_v (I64 ((arnd (Sol.mk si sp sk) (spotA p)).1)) rfl ?_)
  refine c0 rfl (w_v (I64 ((arnd (Sol.mk si sp sk) (spotA p)).2)) rfl ?_)
  refine c0 rfl (w_call_2 (iwhere_fn ((arnd (Sol.mk si sp sk) (spotA p)).1) ((arnd (Sol.mk si sp sk) (spotA p)).2)) rfl rfl rfl ?_)
  refine c0 rfl (w_v (I64 (whr ((arnd (Sol.mk si sp sk) (spotA p)).1) ((arnd (Sol.mk si sp sk) (spotA p)).2))) rfl ?_)
  refine cn ?_
  refine cw_ret ?_
  exact fin1 (iP (whr ((arnd (Sol.mk si sp sk) (spotA p)).1) ((arnd (Sol.mk si sp sk) (spotA p)).2))) (iP (whrP (Sol.mk si sp sk) p)) rfl (congrArg iP (by rfl : (whr ((arnd (Sol.mk si sp sk) (spotA p)).1) ((arnd (Sol.mk si sp sk) (spotA p)).2)) = (whrP (Sol.mk si sp sk) p))) rfl
theorem l17At_fn (si : Bool) (sp : Pl) (sk : List Sol) (x : Int) (y : Int) (z : Int) (hs : sok (Sol.mk si sp sk) = true) (hp : ptok ⟨x, y, z⟩) : Fn PP 56 [.p (encS (Sol.mk si sp sk)), .p (iP x), .p (iP y), .p (iP z)] (.p (iP (whrP (Sol.mk si sp sk) ⟨x, y, z⟩))) [] := by
  have hq := hp; unfold ptok at hq; simp only at hq
  refine fn_intro tok Go.Proofs.Try.func56 (c := _) rfl rfl (Nat.le_of_ble_eq_true rfl) ?_
  refine cw_seq ?_
  refine cw_reg0 tok rfl rfl ?_
  refine c0 rfl (w_box (g := 0) [BO si, I64 sp.a, I64 sp.b, I64 sp.c, I64 sp.d, .p (.sl 6 (encSs sk))] rfl rfl rfl ?_)
  refine c0 rfl (w_v (I64 0) rfl ?_)
  refine cn ?_
  refine cw_seq ?_
  refine cw_reg1 tok mixed rfl rfl ?_
  refine c0 rfl (w_v (.p (encS (Sol.mk si sp sk))) rfl ?_)
  refine c0 rfl (w_v (I64 x) rfl ?_)
  refine c0 rfl (w_v (I64 y) rfl ?_)
  refine c0 rfl (w_v (I64 z) rfl ?_)
  refine c0 rfl (w_call_4 (l5Spot_fn x y z 1 (by first | assumption | omega) (by first | assumption | omega) (by first | assumption | omega) (by first | assumption | omega) (by first | assumption | omega)) rfl rfl rfl rfl rfl ?_)
  refine c0 rfl (w_call (.tu [I64 ((arnd (Sol.mk si sp sk) (spotN x y z 1)).1), I64 ((arnd (Sol.mk si sp sk) (spotN x y z 1)).2)]) (sarnd_rec (Sol.mk si sp sk) (spotN x y z 1) (sok_look hs) (sok_nodes hs) (by rw [spotN_1]; exact spB_pt (p := ⟨x, y, z⟩) hp)) rfl (.cons _ _ _ _ _ _ _ [] _ (.one _ _ _ _ _ (.p _ _)) (.cons _ _ _ _ _ _ _ [] _ (.one _ _ _ _ _ (.p _ _)) (.nil _))) rfl (.tu _ _ _ _ (.cons _ _ _ _ _ _ _ (.p _ _) (.cons _ _ _ _ _ _ _ (.p _ _) (.nil _)))) ?_)
  refine c0 rfl (w_v (.tu [I64 ((arnd (Sol.mk si sp sk) (spotN x y z 1)).1), I64 ((arnd (Sol.mk si sp sk) (spotN x y z 1)).2)]) rfl ?_)
  refine c0 rfl (w_v (I64 ((arnd (Sol.mk si sp sk) (spotN x y z 1)).1)) rfl ?_)
  refine c0 rfl (w_v (I64 ((arnd (Sol.mk si sp sk) (spotN x y z 1)).2)) rfl ?_)
  refine c0 rfl (w_v (I64 ((arnd (Sol.mk si sp sk) (spotN x y z 1)).1)) rfl ?_)
  refine c0 rfl (w_v (I64 ((arnd (Sol.mk si sp sk) (spotN x y z 1)).2)) rfl ?_)
  refine cn ⟨by kernel_rfl, ?_⟩
  refine cw_seq ?_
  refine cw_reg0 tok rfl rfl ?_
  refine c0 rfl (w_v (I64 ((arnd (Sol.mk si sp sk) (spotN x y z 1)).1)) rfl ?_)
  refine c0 rfl (w_v (I64 ((arnd (Sol.mk si sp sk) (spotN x y z 1)).2)) rfl ?_)
  refine c0 rfl (w_call_2 (swhere_fn ((arnd (Sol.mk si sp sk) (spotN x y z 1)).1) ((arnd (Sol.mk si sp sk) (spotN x y z 1)).2)) rfl rfl rfl ?_)
  refine c0 rfl (w_v (I64 (whr ((arnd (Sol.mk si sp sk) (spotN x y z 1)).1) ((arnd (Sol.mk si sp sk) (spotN x y z 1)).2))) rfl ?_)
  refine cn ?_
  refine cw_ret ?_
  exact fin1 (iP (whr ((arnd (Sol.mk si sp sk) (spotN x y z 1)).1) ((arnd (Sol.mk si sp sk) (spotN x y z 1)).2))) (iP (whrP (Sol.mk si sp sk) ⟨x, y, z⟩)) rfl (congrArg iP (by rw [spotN_1]; rfl : (whr ((arnd (Sol.mk si sp sk) (spotN x y z 1)).1) ((arnd (Sol.mk si sp sk) (spotN x y z 1)).2)) = (whrP (Sol.mk si sp sk) ⟨x, y, z⟩))) rfl
end Go.Proofs.Ytablmbhnimnccaa.Pw
