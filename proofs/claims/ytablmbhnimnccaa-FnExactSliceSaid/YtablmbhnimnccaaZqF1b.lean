/- A part of that proof: contracts of the functions that are called, one theorem a function. No condition. -/
import Derived.Test.YtablmbhnimnccaaZqF1
set_option maxRecDepth 20000
namespace Go.Proofs.Ytablmbhnimnccaa.Pw
theorem iPlaneOk_fn (p : Pl) : Fn PP 102 [.p (encP p)] (.p (bP (plok p))) [] := by
  refine fn_intro tok Go.Proofs.Try.func102 (c := _) rfl rfl (Nat.le_of_ble_eq_true rfl) ?_
  refine cw_seq ?_
  refine cw_reg0 tok rfl rfl ?_
  refine c0 rfl (w_box (g := 0) [I64 p.a, I64 p.b, I64 p.c, I64 p.d] rfl rfl rfl ?_)
  refine c0 rfl (w_v (BO false) rfl ?_)
  refine cn ?_
  refine cw_seq ?_
  refine cw_seq ?_
  refine cw_reg0 tok rfl rfl ?_
  refine c0 rfl (w_v (.pt 1 0 0) rfl ?_)
  refine c0 rfl (w_v (I64 p.a) rfl ?_)
  refine c0 rfl (w_call_1 (isCoef_fn p.a) rfl rfl ?_)
  refine c0 rfl (w_v (BO (!(inR p.a (-500) 500))) rfl ?_)
  refine c0 rfl (w_v (BO (!(inR p.a (-500) 500))) rfl ?_)
  refine cgS (b := !(inR p.a (-500) 500)) rfl rfl rfl (fun c1 => ?_) (fun c1 => ?_)
  ·
    replace c1 := nt c1
    refine cgF (v := .bool true) rfl rfl rfl rfl ?_
    refine cgF (v := .bool true) rfl rfl rfl rfl ?_
    refine cgF (v := .bool true) rfl rfl rfl rfl ?_
    refine cgF (v := .bool true) rfl rfl rfl rfl ?_
    refine c0 rfl (w_v (BO true) rfl ?_)
    refine c0 rfl (w_v (BO true) rfl ?_)
    refine cgF (v := .bool true) rfl rfl rfl rfl ?_
    refine cgF (v := .bool true) rfl rfl rfl rfl ?_
    refine cgF (v := .bool true) rfl rfl rfl rfl ?_
    refine cgF (v := .bool true) rfl rfl rfl rfl ?_
    refine c0 rfl (w_v (BO true) rfl ?_)
    refine c0 rfl (w_v (BO true) rfl ?_)
    refine cgF (v := .bool true) rfl rfl rfl rfl ?_
    refine cgF (v := .bool true) rfl rfl rfl rfl ?_
    refine cgF (v := .bool true) rfl rfl rfl rfl ?_
    refine cgF (v := .bool true) rfl rfl rfl rfl ?_
    refine c0 rfl (w_v (BO true) rfl ?_)
    refine cn ?_
    refine cw_cond (t := true) rfl (fun _ => ?_) (fun h => nomatch h)
    refine cw_seq ?_
    refine cw_reg0 tok rfl rfl ?_
    refine c0 rfl (w_v (BO false) rfl ?_)
    refine cn ?_
    refine cw_ret ?_
    exact fin1 (bP false) (bP (plok p)) rfl (congrArg bP (by first | rfl | (show _ = decide _; refine dd ?_; (try simp only [Bool.false_eq_true, decide_eq_true_eq, false_iff, true_iff]); (try simp only [plok, okc, inR, gcdL4, gcd4, Int.gcd, Int.natAbs_natCast, Bool.false_eq_true, decide_eq_true_eq, decide_eq_false_iff_not, false_iff, true_iff] at *); omega) : false = (plok p))) rfl
  ·
    replace c1 := nf c1
    refine cgT rfl rfl rfl (w_v (.pt 1 0 1) rfl ?_)
    refine cgT rfl rfl rfl (w_v (I64 p.b) rfl ?_)
    refine cgT rfl rfl rfl (w_call_1 (isCoef_fn p.b) rfl rfl ?_)
    refine cgT rfl rfl rfl (w_v (BO (!(inR p.b (-500) 500))) rfl ?_)
    refine c0 rfl (w_v (BO (!(inR p.b (-500) 500))) rfl ?_)
    refine c0 rfl (w_v (BO (!(inR p.b (-500) 500))) rfl ?_)
    refine cgS (b := !(inR p.b (-500) 500)) rfl rfl rfl (fun c2 => ?_) (fun c2 => ?_)
    ·
      replace c2 := nt c2
      refine cgF (v := .bool true) rfl rfl rfl rfl ?_
      refine cgF (v := .bool true) rfl rfl rfl rfl ?_
      refine cgF (v := .bool true) rfl rfl rfl rfl ?_
      refine cgF (v := .bool true) rfl rfl rfl rfl ?_
      refine c0 rfl (w_v (BO true) rfl ?_)
      refine c0 rfl (w_v (BO true) rfl ?_)
      refine cgF (v := .bool true) rfl rfl rfl rfl ?_
      refine cgF (v := .bool true) rfl rfl rfl rfl ?_
      refine cgF (v := .bool true) rfl rfl rfl rfl ?_
      refine cgF (v := .bool true) rfl rfl rfl rfl ?_
      refine c0 rfl (w_v (BO true) rfl ?_)
      refine cn ?_
      refine cw_cond (t := true) rfl (fun _ => ?_) (fun h => nomatch h)
      refine cw_seq ?_
      refine cw_reg0 tok rfl rfl ?_
      refine c0 rfl (w_v (BO false) rfl ?_)
      refine cn ?_
      refine cw_ret ?_
      exact fin1 (bP false) (bP (plok p)) rfl (congrArg bP (by first | rfl | (show _ = decide _; refine dd ?_; (try simp only [Bool.false_eq_true, decide_eq_true_eq, false_iff, true_iff]); (try simp only [plok, okc, inR, gcdL4, gcd4, Int.gcd, Int.natAbs_natCast, Bool.false_eq_true, decide_eq_true_eq, decide_eq_false_iff_not, false_iff, true_iff] at *); omega) : false = (plok p))) rfl
    ·
      replace c2 := nf c2
      refine cgT rfl rfl rfl (w_v (.pt 1 0 2) rfl ?_)
      refine cgT rfl rfl rfl (w_v (I64 p.c) rfl ?_)
      refine cgT rfl rfl rfl (w_call_1 (isCoef_fn p.c) rfl rfl ?_)
      refine cgT rfl rfl rfl (w_v (BO (!(inR p.c (-500) 500))) rfl ?_)
      refine c0 rfl (w_v (BO (!(inR p.c (-500) 500))) rfl ?_)
      refine c0 rfl (w_v (BO (!(inR p.c (-500) 500))) rfl ?_)
      refine cgS (b := !(inR p.c (-500) 500)) rfl rfl rfl (fun c3 => ?_) (fun c3 => ?_)
      ·
        replace c3 := nt c3
        refine cgF (v := .bool true) rfl rfl rfl rfl ?_
        refine cgF (v := .bool true) rfl rfl rfl rfl ?_
        refine cgF (v := .bool true) rfl rfl rfl rfl ?_
        refine cgF (v := .bool true) rfl rfl rfl rfl ?_
        refine c0 rfl (w_v (BO true) rfl ?_)
        refine cn ?_
        refine cw_cond (t := true) rfl (fun _ => ?_) (fun h => nomatch h)
        refine cw_seq ?_
        refine cw_reg0 tok rfl rfl ?_
        refine c0 rfl (w_v (BO false) rfl ?_)
        refine cn ?_
        refine cw_ret ?_
        exact fin1 (bP false) (bP (plok p)) rfl (congrArg bP (by first | rfl | (show _ = decide _; refine dd ?_; (try simp only [Bool.false_eq_true, decide_eq_true_eq, false_iff, true_iff]); (try simp only [plok, okc, inR, gcdL4, gcd4, Int.gcd, Int.natAbs_natCast, Bool.false_eq_true, decide_eq_true_eq, decide_eq_false_iff_not, false_iff, true_iff] at *); omega) : false = (plok p))) rfl
      ·
        replace c3 := nf c3
        refine cgT rfl rfl rfl (w_v (.pt 1 0 3) rfl ?_)
        refine cgT rfl rfl rfl (w_v (I64 p.d) rfl ?_)
        refine cgT rfl rfl rfl (w_call_1 (isCoef_fn p.d) rfl rfl ?_)
        refine cgT rfl rfl rfl (w_v (BO (!(inR p.d (-500) 500))) rfl ?_)
        refine c0 rfl (w_v (BO (!(inR p.d (-500) 500))) rfl ?_)
        refine cn ?_
        refine cw_cond (t := !(inR p.d (-500) 500)) rfl (fun c4 => ?_) (fun c4 => ?_)
        ·
          replace c4 := nt c4
          refine cw_seq ?_
          refine cw_reg0 tok rfl rfl ?_
          refine c0 rfl (w_v (BO false) rfl ?_)
          refine cn ?_
          refine cw_ret ?_
          exact fin1 (bP false) (bP (plok p)) rfl (congrArg bP (by first | rfl | (show _ = decide _; refine dd ?_; (try simp only [Bool.false_eq_true, decide_eq_true_eq, false_iff, true_iff]); (try simp only [plok, okc, inR, gcdL4, gcd4, Int.gcd, Int.natAbs_natCast, Bool.false_eq_true, decide_eq_true_eq, decide_eq_false_iff_not, false_iff, true_iff] at *); omega) : false = (plok p))) rfl
        ·
          replace c4 := nf c4
          refine cw_skip ?_
          refine cw_seq ?_
          refine cw_reg0 tok rfl rfl ?_
          refine c0 rfl (w_v (.pt 1 0 0) rfl ?_)
          refine c0 rfl (w_v (I64 p.a) rfl ?_)
          refine c0 rfl (w_nei (p.a) (0) rfl rfl ?_)
          refine c0 rfl (w_v (BO (decide (p.a ≠ 0))) rfl ?_)
          refine cgS (b := decide (p.a ≠ 0)) rfl rfl rfl (fun c5 => ?_) (fun c5 => ?_)
          ·
            replace c5 := of_decide_eq_true c5
            refine cgF (v := .bool true) rfl rfl rfl rfl ?_
            refine cgF (v := .bool true) rfl rfl rfl rfl ?_
            refine cgF (v := .bool true) rfl rfl rfl rfl ?_
            refine c0 rfl (w_v (BO true) rfl ?_)
            refine c0 rfl (w_v (BO true) rfl ?_)
            refine cgF (v := .bool true) rfl rfl rfl rfl ?_
            refine cgF (v := .bool true) rfl rfl rfl rfl ?_
            refine cgF (v := .bool true) rfl rfl rfl rfl ?_
            refine c0 rfl (w_v (BO true) rfl ?_)
            refine c0 rfl (w_v (BO true) rfl ?_)
            refine cgT rfl rfl rfl (w_v (.pt 1 0 0) rfl ?_)
            refine cgT rfl rfl rfl (w_v (I64 p.a) rfl ?_)
            refine cgT rfl rfl rfl (w_v (.pt 1 0 1) rfl ?_)
            refine cgT rfl rfl rfl (w_v (I64 p.b) rfl ?_)
            refine cgT rfl rfl rfl (w_v (.pt 1 0 2) rfl ?_)
            refine cgT rfl rfl rfl (w_v (I64 p.c) rfl ?_)
            refine cgT rfl rfl rfl (w_v (.pt 1 0 3) rfl ?_)
            refine cgT rfl rfl rfl (w_v (I64 p.d) rfl ?_)
            refine cgT rfl rfl rfl (w_bsl (g := 0) [iP p.a, iP p.b, iP p.c, iP p.d] rfl rfl rfl rfl (Nat.le_of_ble_eq_true rfl) (Nat.le_of_ble_eq_true rfl) (Nat.le_of_ble_eq_true rfl) (.cons _ _ _ _ _ _ _ [] [] (.one _ _ _ _ _ (.p _ _)) (.cons _ _ _ _ _ _ _ [] [] (.one _ _ _ _ _ (.p _ _)) (.cons _ _ _ _ _ _ _ [] [] (.one _ _ _ _ _ (.p _ _)) (.cons _ _ _ _ _ _ _ [] [] (.one _ _ _ _ _ (.p _ _)) (.nil _))))) rfl rfl ?_)
            refine cgT rfl rfl rfl (w_call (I64 ((gcdL ([p.a, p.b, p.c, p.d]) : Int))) (divisor_fn ([p.a, p.b, p.c, p.d]) (by simp [inR] at *; omega) (by simp)) rfl (.cons _ _ _ _ _ _ _ [] _ (.one _ _ _ _ _ (passOs (xs := ([p.a, p.b, p.c, p.d]).map iP) rfl rfl)) (.nil _)) rfl (.one _ _ _ _ (.p _ _)) ?_)
            refine cgT rfl rfl rfl (w_eqi ((gcdL ([p.a, p.b, p.c, p.d]) : Int)) (1) rfl rfl ?_)
            refine c0 rfl (w_v (BO (decide ((gcdL ([p.a, p.b, p.c, p.d]) : Int) = 1))) rfl ?_)
            refine c0 rfl (w_v (BO (decide ((gcdL ([p.a, p.b, p.c, p.d]) : Int) = 1))) rfl ?_)
            refine cn ?_
            refine cw_ret ?_
            exact fin1 (bP (decide ((gcdL ([p.a, p.b, p.c, p.d]) : Int) = 1))) (bP (plok p)) rfl (congrArg bP (by first | rfl | (show _ = decide _; refine dd ?_; (try simp only [Bool.false_eq_true, decide_eq_true_eq, false_iff, true_iff]); (try simp only [plok, okc, inR, gcdL4, gcd4, Int.gcd, Int.natAbs_natCast, Bool.false_eq_true, decide_eq_true_eq, decide_eq_false_iff_not, false_iff, true_iff] at *); omega) : (decide ((gcdL ([p.a, p.b, p.c, p.d]) : Int) = 1)) = (plok p))) rfl
          ·
            replace c5 := of_decide_eq_false c5
            refine cgT rfl rfl rfl (w_v (.pt 1 0 1) rfl ?_)
            refine cgT rfl rfl rfl (w_v (I64 p.b) rfl ?_)
            refine cgT rfl rfl rfl (w_nei (p.b) (0) rfl rfl ?_)
            refine c0 rfl (w_v (BO (decide (p.b ≠ 0))) rfl ?_)
            refine c0 rfl (w_v (BO (decide (p.b ≠ 0))) rfl ?_)
            refine cgS (b := decide (p.b ≠ 0)) rfl rfl rfl (fun c6 => ?_) (fun c6 => ?_)
            ·
              replace c6 := of_decide_eq_true c6
              refine cgF (v := .bool true) rfl rfl rfl rfl ?_
              refine cgF (v := .bool true) rfl rfl rfl rfl ?_
              refine cgF (v := .bool true) rfl rfl rfl rfl ?_
              refine c0 rfl (w_v (BO true) rfl ?_)
              refine c0 rfl (w_v (BO true) rfl ?_)
              refine cgT rfl rfl rfl (w_v (.pt 1 0 0) rfl ?_)
              refine cgT rfl rfl rfl (w_v (I64 p.a) rfl ?_)
              refine cgT rfl rfl rfl (w_v (.pt 1 0 1) rfl ?_)
              refine cgT rfl rfl rfl (w_v (I64 p.b) rfl ?_)
              refine cgT rfl rfl rfl (w_v (.pt 1 0 2) rfl ?_)
              refine cgT rfl rfl rfl (w_v (I64 p.c) rfl ?_)
              refine cgT rfl rfl rfl (w_v (.pt 1 0 3) rfl ?_)
              refine cgT rfl rfl rfl (w_v (I64 p.d) rfl ?_)
              refine cgT rfl rfl rfl (w_bsl (g := 0) [iP p.a, iP p.b, iP p.c, iP p.d] rfl rfl rfl rfl (Nat.le_of_ble_eq_true rfl) (Nat.le_of_ble_eq_true rfl) (Nat.le_of_ble_eq_true rfl) (.cons _ _ _ _ _ _ _ [] [] (.one _ _ _ _ _ (.p _ _)) (.cons _ _ _ _ _ _ _ [] [] (.one _ _ _ _ _ (.p _ _)) (.cons _ _ _ _ _ _ _ [] [] (.one _ _ _ _ _ (.p _ _)) (.cons _ _ _ _ _ _ _ [] [] (.one _ _ _ _ _ (.p _ _)) (.nil _))))) rfl rfl ?_)
              refine cgT rfl rfl rfl (w_call (I64 ((gcdL ([p.a, p.b, p.c, p.d]) : Int))) (divisor_fn ([p.a, p.b, p.c, p.d]) (by simp [inR] at *; omega) (by simp)) rfl (.cons _ _ _ _ _ _ _ [] _ (.one _ _ _ _ _ (passOs (xs := ([p.a, p.b, p.c, p.d]).map iP) rfl rfl)) (.nil _)) rfl (.one _ _ _ _ (.p _ _)) ?_)
              refine cgT rfl rfl rfl (w_eqi ((gcdL ([p.a, p.b, p.c, p.d]) : Int)) (1) rfl rfl ?_)
              refine c0 rfl (w_v (BO (decide ((gcdL ([p.a, p.b, p.c, p.d]) : Int) = 1))) rfl ?_)
              refine c0 rfl (w_v (BO (decide ((gcdL ([p.a, p.b, p.c, p.d]) : Int) = 1))) rfl ?_)
              refine cn ?_
              refine cw_ret ?_
              exact fin1 (bP (decide ((gcdL ([p.a, p.b, p.c, p.d]) : Int) = 1))) (bP (plok p)) rfl (congrArg bP (by first | rfl | (show _ = decide _; refine dd ?_; (try simp only [Bool.false_eq_true, decide_eq_true_eq, false_iff, true_iff]); (try simp only [plok, okc, inR, gcdL4, gcd4, Int.gcd, Int.natAbs_natCast, Bool.false_eq_true, decide_eq_true_eq, decide_eq_false_iff_not, false_iff, true_iff] at *); omega) : (decide ((gcdL ([p.a, p.b, p.c, p.d]) : Int) = 1)) = (plok p))) rfl
            ·
              replace c6 := of_decide_eq_false c6
              refine cgT rfl rfl rfl (w_v (.pt 1 0 2) rfl ?_)
              refine cgT rfl rfl rfl (w_v (I64 p.c) rfl ?_)
              refine cgT rfl rfl rfl (w_nei (p.c) (0) rfl rfl ?_)
              refine c0 rfl (w_v (BO (decide (p.c ≠ 0))) rfl ?_)
              refine c0 rfl (w_v (BO (decide (p.c ≠ 0))) rfl ?_)
              refine cgS (b := decide (p.c ≠ 0)) rfl rfl rfl (fun c7 => ?_) (fun c7 => ?_)
              ·
                replace c7 := of_decide_eq_true c7
                refine cgT rfl rfl rfl (w_v (.pt 1 0 0) rfl ?_)
                refine cgT rfl rfl rfl (w_v (I64 p.a) rfl ?_)
                refine cgT rfl rfl rfl (w_v (.pt 1 0 1) rfl ?_)
                refine cgT rfl rfl rfl (w_v (I64 p.b) rfl ?_)
                refine cgT rfl rfl rfl (w_v (.pt 1 0 2) rfl ?_)
                refine cgT rfl rfl rfl (w_v (I64 p.c) rfl ?_)
                refine cgT rfl rfl rfl (w_v (.pt 1 0 3) rfl ?_)
                refine cgT rfl rfl rfl (w_v (I64 p.d) rfl ?_)
                refine cgT rfl rfl rfl (w_bsl (g := 0) [iP p.a, iP p.b, iP p.c, iP p.d] rfl rfl rfl rfl (Nat.le_of_ble_eq_true rfl) (Nat.le_of_ble_eq_true rfl) (Nat.le_of_ble_eq_true rfl) (.cons _ _ _ _ _ _ _ [] [] (.one _ _ _ _ _ (.p _ _)) (.cons _ _ _ _ _ _ _ [] [] (.one _ _ _ _ _ (.p _ _)) (.cons _ _ _ _ _ _ _ [] [] (.one _ _ _ _ _ (.p _ _)) (.cons _ _ _ _ _ _ _ [] [] (.one _ _ _ _ _ (.p _ _)) (.nil _))))) rfl rfl ?_)
                refine cgT rfl rfl rfl (w_call (I64 ((gcdL ([p.a, p.b, p.c, p.d]) : Int))) (divisor_fn ([p.a, p.b, p.c, p.d]) (by simp [inR] at *; omega) (by simp)) rfl (.cons _ _ _ _ _ _ _ [] _ (.one _ _ _ _ _ (passOs (xs := ([p.a, p.b, p.c, p.d]).map iP) rfl rfl)) (.nil _)) rfl (.one _ _ _ _ (.p _ _)) ?_)
                refine cgT rfl rfl rfl (w_eqi ((gcdL ([p.a, p.b, p.c, p.d]) : Int)) (1) rfl rfl ?_)
                refine c0 rfl (w_v (BO (decide ((gcdL ([p.a, p.b, p.c, p.d]) : Int) = 1))) rfl ?_)
                refine c0 rfl (w_v (BO (decide ((gcdL ([p.a, p.b, p.c, p.d]) : Int) = 1))) rfl ?_)
                refine cn ?_
                refine cw_ret ?_
                exact fin1 (bP (decide ((gcdL ([p.a, p.b, p.c, p.d]) : Int) = 1))) (bP (plok p)) rfl (congrArg bP (by first | rfl | (show _ = decide _; refine dd ?_; (try simp only [Bool.false_eq_true, decide_eq_true_eq, false_iff, true_iff]); (try simp only [plok, okc, inR, gcdL4, gcd4, Int.gcd, Int.natAbs_natCast, Bool.false_eq_true, decide_eq_true_eq, decide_eq_false_iff_not, false_iff, true_iff] at *); omega) : (decide ((gcdL ([p.a, p.b, p.c, p.d]) : Int) = 1)) = (plok p))) rfl
              ·
                replace c7 := of_decide_eq_false c7
                refine cgF (v := .bool false) rfl rfl rfl rfl ?_
                refine cgF (v := .bool false) rfl rfl rfl rfl ?_
                refine cgF (v := .bool false) rfl rfl rfl rfl ?_
                refine cgF (v := .bool false) rfl rfl rfl rfl ?_
                refine cgF (v := .bool false) rfl rfl rfl rfl ?_
                refine cgF (v := .bool false) rfl rfl rfl rfl ?_
                refine cgF (v := .bool false) rfl rfl rfl rfl ?_
                refine cgF (v := .bool false) rfl rfl rfl rfl ?_
                refine cgF (v := .bool false) rfl rfl rfl rfl ?_
                refine cgF (v := .bool false) rfl rfl rfl rfl ?_
                refine cgF (v := .bool false) rfl rfl rfl rfl ?_
                refine c0 rfl (w_v (BO false) rfl ?_)
                refine c0 rfl (w_v (BO false) rfl ?_)
                refine cn ?_
                refine cw_ret ?_
                exact fin1 (bP false) (bP (plok p)) rfl (congrArg bP (by first | rfl | (show _ = decide _; refine dd ?_; (try simp only [Bool.false_eq_true, decide_eq_true_eq, false_iff, true_iff]); (try simp only [plok, okc, inR, gcdL4, gcd4, Int.gcd, Int.natAbs_natCast, Bool.false_eq_true, decide_eq_true_eq, decide_eq_false_iff_not, false_iff, true_iff] at *); omega) : false = (plok p))) rfl
theorem toPlane_fn (p : Pl) : Fn PP 57 [.p (encP p)] (.p (encP p)) [] := by
  refine fn_intro tok Go.Proofs.Try.func57 (c := _) rfl rfl (Nat.le_of_ble_eq_true rfl) ?_
  refine cw_seq ?_
  refine cw_reg0 tok rfl rfl ?_
  refine c0 rfl (w_box (g := 0) [I64 p.a, I64 p.b, I64 p.c, I64 p.d] rfl rfl rfl ?_)
  refine c0 rfl (w_alloc (g := 0) [I64 0, I64 0, I64 0, I64 0] rfl rfl rfl ?_)
  refine cn ?_
  refine cw_seq ?_
  refine cw_reg0 tok rfl rfl ?_
  refine c0 rfl (w_alloc (g := 0) [I64 0, I64 0, I64 0, I64 0] rfl rfl rfl ?_)
  refine cn ?_
  refine cw_seq ?_
  refine cw_reg0 tok rfl rfl ?_
  refine c0 rfl (w_v (.pt 1 0 0) rfl ?_)
  refine c0 rfl (w_v (I64 p.a) rfl ?_)
  refine c0 rfl (w_v (.pt 3 0 0) rfl ?_)
  refine c0 rfl (w_st [I64 p.a, I64 0, I64 0, I64 0] rfl rfl rfl rfl rfl (Nat.le_of_ble_eq_true rfl) rfl ?_)
  refine cn ?_
  refine cw_seq ?_
  refine cw_reg0 tok rfl rfl ?_
  refine c0 rfl (w_v (.pt 1 0 1) rfl ?_)
  refine c0 rfl (w_v (I64 p.b) rfl ?_)
  refine c0 rfl (w_v (.pt 3 0 1) rfl ?_)
  refine c0 rfl (w_st [I64 p.a, I64 p.b, I64 0, I64 0] rfl rfl rfl rfl rfl (Nat.le_of_ble_eq_true rfl) rfl ?_)
  refine cn ?_
  refine cw_seq ?_
  refine cw_reg0 tok rfl rfl ?_
  refine c0 rfl (w_v (.pt 1 0 2) rfl ?_)
  refine c0 rfl (w_v (I64 p.c) rfl ?_)
  refine c0 rfl (w_v (.pt 3 0 2) rfl ?_)
  refine c0 rfl (w_st [I64 p.a, I64 p.b, I64 p.c, I64 0] rfl rfl rfl rfl rfl (Nat.le_of_ble_eq_true rfl) rfl ?_)
  refine cn ?_
  refine cw_seq ?_
  refine cw_reg0 tok rfl rfl ?_
  refine c0 rfl (w_v (.pt 1 0 3) rfl ?_)
  refine c0 rfl (w_v (I64 p.d) rfl ?_)
  refine c0 rfl (w_v (.pt 3 0 3) rfl ?_)
  refine c0 rfl (w_st [I64 p.a, I64 p.b, I64 p.c, I64 p.d] rfl rfl rfl rfl rfl (Nat.le_of_ble_eq_true rfl) rfl ?_)
  refine cn ?_
  refine cw_seq ?_
  refine cw_reg0 tok rfl rfl ?_
  refine c0 rfl (w_v (.p (encP p)) rfl ?_)
  refine c0 rfl (w_st [I64 p.a, I64 p.b, I64 p.c, I64 p.d] rfl rfl rfl rfl rfl (Nat.le_of_ble_eq_true rfl) rfl ?_)
  refine cn ?_
  refine cw_ret ?_
  exact fin1 (encP p) (encP p) rfl (congrArg encP (by first | rfl | simp_all : p = p)) rfl
theorem flip_fn (p : Pl) (h1 : okc p) : Fn PP 146 [.p (encP p)] (.p (encP (flip p))) [] := by
  obtain ⟨⟨h1, h2⟩, ⟨h3, h4⟩, ⟨h5, h6⟩, h7, h8⟩ := h1
  refine fn_intro tok Go.Proofs.Try.func146 (c := _) rfl rfl (Nat.le_of_ble_eq_true rfl) ?_
  refine cw_seq ?_
  refine cw_reg0 tok rfl rfl ?_
  refine c0 rfl (w_box (g := 0) [I64 p.a, I64 p.b, I64 p.c, I64 p.d] rfl rfl rfl ?_)
  refine c0 rfl (w_alloc (g := 0) [I64 0, I64 0, I64 0, I64 0] rfl rfl rfl ?_)
  refine cn ?_
  refine cw_seq ?_
  refine cw_reg0 tok rfl rfl ?_
  refine c0 rfl (w_v (.pt 1 0 0) rfl ?_)
  refine c0 rfl (w_v (I64 p.a) rfl ?_)
  refine c0 rfl (w_i (0 - p.a) rfl (by unfold inI; omega) ?_)
  refine c0 rfl (w_v (.pt 1 0 1) rfl ?_)
  refine c0 rfl (w_v (I64 p.b) rfl ?_)
  refine c0 rfl (w_i (0 - p.b) rfl (by unfold inI; omega) ?_)
  refine c0 rfl (w_v (.pt 1 0 2) rfl ?_)
  refine c0 rfl (w_v (I64 p.c) rfl ?_)
  refine c0 rfl (w_i (0 - p.c) rfl (by unfold inI; omega) ?_)
  refine c0 rfl (w_v (.pt 1 0 3) rfl ?_)
  refine c0 rfl (w_v (I64 p.d) rfl ?_)
  refine c0 rfl (w_i (0 - p.d) rfl (by unfold inI; omega) ?_)
  refine c0 rfl (w_build (.p (encP (Pl.mk (0 - p.a) (0 - p.b) (0 - p.c) (0 - p.d)))) rfl rfl rfl rfl ?_)
  refine c0 rfl (w_st [I64 (0 - p.a), I64 (0 - p.b), I64 (0 - p.c), I64 (0 - p.d)] rfl rfl rfl rfl rfl (Nat.le_of_ble_eq_true rfl) rfl ?_)
  refine cn ?_
  refine cw_ret ?_
  exact fin1 (encP (Pl.mk (0 - p.a) (0 - p.b) (0 - p.c) (0 - p.d))) (encP (flip p)) rfl (congrArg encP (by simp [flip] : (Pl.mk (0 - p.a) (0 - p.b) (0 - p.c) (0 - p.d)) = (flip p))) rfl
theorem l3Flip_fn (p : Pl) (h1 : okc p) : Fn PP 141 [.p (encP p)] (.p (encP (flip p))) [] := by
  obtain ⟨⟨h1, h2⟩, ⟨h3, h4⟩, ⟨h5, h6⟩, h7, h8⟩ := h1
  refine fn_intro tok Go.Proofs.Try.func141 (c := _) rfl rfl (Nat.le_of_ble_eq_true rfl) ?_
  refine cw_seq ?_
  refine cw_reg0 tok rfl rfl ?_
  refine c0 rfl (w_box (g := 0) [I64 p.a, I64 p.b, I64 p.c, I64 p.d] rfl rfl rfl ?_)
  refine c0 rfl (w_alloc (g := 0) [I64 0, I64 0, I64 0, I64 0] rfl rfl rfl ?_)
  refine cn ?_
  refine cw_seq ?_
  refine cw_reg0 tok rfl rfl ?_
  refine c0 rfl (w_v (.pt 1 0 0) rfl ?_)
  refine c0 rfl (w_v (I64 p.a) rfl ?_)
  refine c0 rfl (w_i (0 - p.a) rfl (by unfold inI; omega) ?_)
  refine c0 rfl (w_v (.pt 1 0 1) rfl ?_)
  refine c0 rfl (w_v (I64 p.b) rfl ?_)
  refine c0 rfl (w_i (0 - p.b) rfl (by unfold inI; omega) ?_)
  refine c0 rfl (w_v (.pt 1 0 2) rfl ?_)
  refine c0 rfl (w_v (I64 p.c) rfl ?_)
  refine c0 rfl (w_i (0 - p.c) rfl (by unfold inI; omega) ?_)
  refine c0 rfl (w_v (.pt 1 0 3) rfl ?_)
  refine c0 rfl (w_v (I64 p.d) rfl ?_)
  refine c0 rfl (w_i (0 - p.d) rfl (by unfold inI; omega) ?_)
  refine c0 rfl (w_build (.p (encP (Pl.mk (0 - p.a) (0 - p.b) (0 - p.c) (0 - p.d)))) rfl rfl rfl rfl ?_)
  refine c0 rfl (w_st [I64 (0 - p.a), I64 (0 - p.b), I64 (0 - p.c), I64 (0 - p.d)] rfl rfl rfl rfl rfl (Nat.le_of_ble_eq_true rfl) rfl ?_)
  refine cn ?_
  refine cw_ret ?_
  exact fin1 (encP (Pl.mk (0 - p.a) (0 - p.b) (0 - p.c) (0 - p.d))) (encP (flip p)) rfl (congrArg encP (by simp [flip] : (Pl.mk (0 - p.a) (0 - p.b) (0 - p.c) (0 - p.d)) = (flip p))) rfl
end Go.Proofs.Ytablmbhnimnccaa.Pw
