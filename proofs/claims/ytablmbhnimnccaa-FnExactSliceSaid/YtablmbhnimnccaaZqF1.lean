/- A part of that proof: contracts of the functions that are called, one theorem a function. No condition. -/
import Derived.Test.YtablmbhnimnccaaZqB
import Derived.Test.YtablmbhnimnccaaZqPure
set_option maxRecDepth 20000
namespace Go.Proofs.Ytablmbhnimnccaa.Pw
theorem l1In_fn (x : Int) (least : Int) (most : Int) : Fn PP 99 [.p (iP x), .p (iP least), .p (iP most)] (.p (bP (inR x least most))) [] := by
  refine fn_intro tok Go.Proofs.Try.func99 (c := _) rfl rfl (Nat.le_of_ble_eq_true rfl) ?_
  refine cw_seq ?_
  refine cw_reg0 tok rfl rfl ?_
  refine c0 rfl (w_v (BO false) rfl ?_)
  refine cn ?_
  refine cw_seq ?_
  refine cw_reg0 tok rfl rfl ?_
  refine c0 rfl (w_v (I64 x) rfl ?_)
  refine c0 rfl (w_v (I64 least) rfl ?_)
  refine c0 rfl (w_v (BO (decide (x ≥ least))) rfl ?_)
  refine c0 rfl (w_v (BO (decide (x ≥ least))) rfl ?_)
  refine cgS (b := decide (x ≥ least)) rfl rfl rfl (fun c1 => ?_) (fun c1 => ?_)
  ·
    replace c1 := of_decide_eq_true c1
    refine cgT rfl rfl rfl (w_v (I64 x) rfl ?_)
    refine cgT rfl rfl rfl (w_v (I64 most) rfl ?_)
    refine cgT rfl rfl rfl (w_v (BO (decide (x ≤ most))) rfl ?_)
    refine c0 rfl (w_v (BO (decide (x ≤ most))) rfl ?_)
    refine c0 rfl (w_v (BO (decide (x ≤ most))) rfl ?_)
    refine cn ?_
    refine cw_ret ?_
    exact fin1 (bP (decide (x ≤ most))) (bP (inR x least most)) rfl (congrArg bP (by first | rfl | (show _ = decide _; refine dd ?_; (try simp only [Bool.false_eq_true, decide_eq_true_eq, false_iff, true_iff]); (try simp only [inR, Bool.false_eq_true, decide_eq_true_eq, decide_eq_false_iff_not, false_iff, true_iff] at *); omega) : (decide (x ≤ most)) = (inR x least most))) rfl
  ·
    replace c1 := of_decide_eq_false c1
    refine cgF (v := .bool false) rfl rfl rfl rfl ?_
    refine cgF (v := .bool false) rfl rfl rfl rfl ?_
    refine cgF (v := .bool false) rfl rfl rfl rfl ?_
    refine c0 rfl (w_v (BO false) rfl ?_)
    refine c0 rfl (w_v (BO false) rfl ?_)
    refine cn ?_
    refine cw_ret ?_
    exact fin1 (bP false) (bP (inR x least most)) rfl (congrArg bP (by first | rfl | (show _ = decide _; refine dd ?_; (try simp only [Bool.false_eq_true, decide_eq_true_eq, false_iff, true_iff]); (try simp only [inR, Bool.false_eq_true, decide_eq_true_eq, decide_eq_false_iff_not, false_iff, true_iff] at *); omega) : false = (inR x least most))) rfl
theorem inRange_fn (x : Int) (least : Int) (most : Int) : Fn PP 162 [.p (iP x), .p (iP least), .p (iP most)] (.p (bP (inR x least most))) [] := by
  refine fn_intro tok Go.Proofs.Try.func162 (c := _) rfl rfl (Nat.le_of_ble_eq_true rfl) ?_
  refine cw_seq ?_
  refine cw_reg0 tok rfl rfl ?_
  refine c0 rfl (w_v (BO false) rfl ?_)
  refine cn ?_
  refine cw_seq ?_
  refine cw_reg0 tok rfl rfl ?_
  refine c0 rfl (w_v (I64 x) rfl ?_)
  refine c0 rfl (w_v (I64 least) rfl ?_)
  refine c0 rfl (w_v (BO (decide (x ≥ least))) rfl ?_)
  refine c0 rfl (w_v (BO (decide (x ≥ least))) rfl ?_)
  refine cgS (b := decide (x ≥ least)) rfl rfl rfl (fun c1 => ?_) (fun c1 => ?_)
  ·
    replace c1 := of_decide_eq_true c1
    refine cgT rfl rfl rfl (w_v (I64 x) rfl ?_)
    refine cgT rfl rfl rfl (w_v (I64 most) rfl ?_)
    refine cgT rfl rfl rfl (w_v (BO (decide (x ≤ most))) rfl ?_)
    refine c0 rfl (w_v (BO (decide (x ≤ most))) rfl ?_)
    refine c0 rfl (w_v (BO (decide (x ≤ most))) rfl ?_)
    refine cn ?_
    refine cw_ret ?_
    exact fin1 (bP (decide (x ≤ most))) (bP (inR x least most)) rfl (congrArg bP (by first | rfl | (show _ = decide _; refine dd ?_; (try simp only [Bool.false_eq_true, decide_eq_true_eq, false_iff, true_iff]); (try simp only [inR, Bool.false_eq_true, decide_eq_true_eq, decide_eq_false_iff_not, false_iff, true_iff] at *); omega) : (decide (x ≤ most)) = (inR x least most))) rfl
  ·
    replace c1 := of_decide_eq_false c1
    refine cgF (v := .bool false) rfl rfl rfl rfl ?_
    refine cgF (v := .bool false) rfl rfl rfl rfl ?_
    refine cgF (v := .bool false) rfl rfl rfl rfl ?_
    refine c0 rfl (w_v (BO false) rfl ?_)
    refine c0 rfl (w_v (BO false) rfl ?_)
    refine cn ?_
    refine cw_ret ?_
    exact fin1 (bP false) (bP (inR x least most)) rfl (congrArg bP (by first | rfl | (show _ = decide _; refine dd ?_; (try simp only [Bool.false_eq_true, decide_eq_true_eq, false_iff, true_iff]); (try simp only [inR, Bool.false_eq_true, decide_eq_true_eq, decide_eq_false_iff_not, false_iff, true_iff] at *); omega) : false = (inR x least most))) rfl
theorem isCoef_fn (n : Int) : Fn PP 163 [.p (iP n)] (.p (bP (inR n (-500) 500))) [] := by
  refine fn_intro tok Go.Proofs.Try.func163 (c := _) rfl rfl (Nat.le_of_ble_eq_true rfl) ?_
  refine cw_seq ?_
  refine cw_reg0 tok rfl rfl ?_
  refine c0 rfl (w_v (BO false) rfl ?_)
  refine cn ?_
  refine cw_seq ?_
  refine cw_reg0 tok rfl rfl ?_
  refine c0 rfl (w_v (I64 n) rfl ?_)
  refine c0 rfl (w_call_3 (inRange_fn n (-500) 500) rfl rfl rfl rfl ?_)
  refine c0 rfl (w_v (BO (inR n (-500) 500)) rfl ?_)
  refine cn ?_
  refine cw_ret ?_
  exact fin1 (bP (inR n (-500) 500)) (bP (inR n (-500) 500)) rfl (congrArg bP (by first | rfl | simp_all : (inR n (-500) 500) = (inR n (-500) 500))) rfl
theorem l3Abs_fn (n : Int) (h : -9223372036854775807 ≤ n ∧ n ≤ 9223372036854775807) : Fn PP 214 [.p (iP n)] (.p (iP ((n.natAbs : Int)))) [] := by
  refine fn_intro tok Go.Proofs.Try.func214 (c := _) rfl rfl (Nat.le_of_ble_eq_true rfl) ?_
  refine cw_seq ?_
  refine cw_reg0 tok rfl rfl ?_
  refine c0 rfl (w_v (I64 0) rfl ?_)
  refine cn ?_
  refine cw_seq ?_
  refine cw_seq ?_
  refine cw_reg0 tok rfl rfl ?_
  refine c0 rfl (w_v (I64 n) rfl ?_)
  refine c0 rfl (w_v (BO (decide (n < 0))) rfl ?_)
  refine cn ?_
  refine cw_cond (t := decide (n < 0)) rfl (fun c1 => ?_) (fun c1 => ?_)
  ·
    replace c1 := of_decide_eq_true c1
    refine cw_seq ?_
    refine cw_reg0 tok rfl rfl ?_
    refine c0 rfl (w_v (I64 n) rfl ?_)
    refine c0 rfl (w_i (0 - n) rfl (by unfold inI; omega) ?_)
    refine c0 rfl (w_v (I64 (0 - n)) rfl ?_)
    refine cn ?_
    refine cw_ret ?_
    exact fin1 (iP (0 - n)) (iP ((n.natAbs : Int))) rfl (congrArg iP (by omega : (0 - n) = ((n.natAbs : Int)))) rfl
  ·
    replace c1 := of_decide_eq_false c1
    refine cw_skip ?_
    refine cw_seq ?_
    refine cw_reg0 tok rfl rfl ?_
    refine c0 rfl (w_v (I64 n) rfl ?_)
    refine c0 rfl (w_v (I64 n) rfl ?_)
    refine cn ?_
    refine cw_ret ?_
    exact fin1 (iP n) (iP ((n.natAbs : Int))) rfl (congrArg iP (by omega : n = ((n.natAbs : Int)))) rfl
theorem l3Gcd_fn (a : Int) (b : Int) (ha : -9223372036854775807 ≤ a ∧ a ≤ 9223372036854775807) (hb : -9223372036854775807 ≤ b ∧ b ≤ 9223372036854775807) : Fn PP 184 [.p (iP a), .p (iP b)] (.p (iP ((Int.gcd a b : Int)))) [] := by
  refine fn_intro tok Go.Proofs.Try.func184 (c := _) rfl rfl (Nat.le_of_ble_eq_true rfl) ?_
  refine cw_seq ?_
  refine cw_reg0 tok rfl rfl ?_
  refine c0 rfl (w_v (I64 0) rfl ?_)
  refine cn ?_
  refine cw_seq ?_
  refine cw_reg0 tok rfl rfl ?_
  refine c0 rfl (w_v (I64 a) rfl ?_)
  refine c0 rfl (w_call_1 (l3Abs_fn a (by first | assumption | omega)) rfl rfl ?_)
  refine c0 rfl (w_v (I64 ((a.natAbs : Int))) rfl ?_)
  refine cn ?_
  refine cw_seq ?_
  refine cw_reg0 tok rfl rfl ?_
  refine c0 rfl (w_v (I64 b) rfl ?_)
  refine c0 rfl (w_call_1 (l3Abs_fn b (by first | assumption | omega)) rfl rfl ?_)
  refine c0 rfl (w_v (I64 ((b.natAbs : Int))) rfl ?_)
  refine cn ?_
  refine cw_seq ?_
  refine cw_block ?_
  refine cw_loopI (fun n S => ∃ x : Nat, ∃ y : Nat, (Nat.gcd x y = Int.gcd a b) ∧ n = y ∧ S = mkS [(0, I64 ((x : Int))), (1, I64 ((y : Int)))] [] []) (b.natAbs) ?_ ?_
  · exact ⟨_, wk_of (tms := [(0, I64 ((a.natAbs : Int))), (1, I64 ((b.natAbs : Int)))]) (bls := []) (gens := []) ⟨rfl, rfl, trivial⟩ trivial trivial rfl, a.natAbs, b.natAbs, rfl, rfl, rfl⟩
  · rintro n _ ⟨x, y, hi, hn1, rfl⟩
    refine cw_seq ?_
    refine cw_seq ?_
    refine cw_reg0 tok rfl rfl ?_
    refine c0 rfl (w_v (I64 ((y : Int))) rfl ?_)
    refine c0 rfl (w_v (BO (decide ((y : Int) > 0))) rfl ?_)
    refine cn ?_
    refine cw_cond (t := decide ((y : Int) > 0)) rfl (fun c1 => ?_) (fun c1 => ?_)
    ·
      replace c1 := of_decide_eq_true c1
      refine cw_skip ?_
      refine cw_block ?_
      refine cw_seq ?_
      refine cw_reg0 tok rfl rfl ?_
      refine c0 rfl (w_v (I64 ((x : Int))) rfl ?_)
      refine c0 rfl (w_v (I64 ((y : Int))) rfl ?_)
      refine c0 rfl (w_rem ((x : Int)) ((y : Int)) rfl rfl (by omega) ?_)
      refine c0 rfl (w_v (I64 (((x : Int)).tmod ((y : Int)))) rfl ?_)
      refine cn ?_
      refine cw_seq ?_
      refine cw_reg0 tok rfl rfl ?_
      refine c0 rfl (w_v (I64 ((y : Int))) rfl ?_)
      refine c0 rfl (w_v (I64 ((y : Int))) rfl ?_)
      refine cn ?_
      refine cw_reg0 tok rfl rfl ?_
      refine c0 rfl (w_v (I64 (((x : Int)).tmod ((y : Int)))) rfl ?_)
      refine c0 rfl (w_v (I64 (((x : Int)).tmod ((y : Int)))) rfl ?_)
      refine cn ?_
      exact ⟨_, _, (by rw [hn1]; exact Nat.mod_lt _ (by omega)), wk_of (tms := [(0, I64 ((y : Int))), (1, I64 (((x % y) : Int)))]) (bls := []) (gens := []) ⟨rfl, rfl, trivial⟩ trivial trivial rfl, y, (x % y), (gcd_step x y (by omega)).trans hi, rfl, rfl⟩
    ·
      replace c1 := of_decide_eq_false c1
      refine cw_exit ?_
      refine cw_seq ?_
      refine cw_reg0 tok rfl rfl ?_
      refine c0 rfl (w_v (I64 ((x : Int))) rfl ?_)
      refine c0 rfl (w_v (I64 ((x : Int))) rfl ?_)
      refine cn ?_
      refine cw_ret ?_
      exact fin1 (iP ((x : Int))) (iP ((Int.gcd a b : Int))) rfl (congrArg iP (by have : y = 0 := (by omega); subst this; simp at hi; omega : ((x : Int)) = ((Int.gcd a b : Int)))) rfl
theorem divisor_fn (list : List Int) (hb : ∀ x ∈ list, -9223372036854775807 ≤ x ∧ x ≤ 9223372036854775807) (hn : list.length ≤ 1048576) : Fn PP 164 [.p (.sl 1 (list.map iP))] (.p (iP ((gcdL list : Int)))) [] := by
  refine fn_intro tok Go.Proofs.Try.func164 (c := _) rfl rfl (Nat.le_of_ble_eq_true rfl) ?_
  refine cw_seq ?_
  refine cw_reg0 tok rfl rfl ?_
  refine c0 rfl (w_v (I64 0) rfl ?_)
  refine cn ?_
  refine cw_seq ?_
  refine cw_reg0 tok rfl rfl ?_
  refine c0 rfl (w_v (I64 0) rfl ?_)
  refine cn ?_
  refine cw_seq ?_
  refine cw_seq ?_
  refine cw_reg0 tok rfl rfl ?_
  refine c0 rfl (w_v (.p (.sl 1 (list.map iP))) rfl ?_)
  refine c0 rfl (w_len (list.length) rfl rfl (by simp) ?_)
  refine c0 rfl (w_v (I64 0) rfl ?_)
  refine cn ?_
  refine cw_block ?_
  refine cw_loopI (fun n S => ∃ i : Nat, ∃ g : Nat, (i ≤ list.length ∧ g = gcdL (list.take i)) ∧ n = list.length - i ∧ S = mkS [(3, I64 ((g : Int))), (6, .p (.sl 1 (list.map iP))), (7, I64 ((list.length : Int))), (8, I64 ((i : Int)))] [] []) (list.length - 0) ?_ ?_
  · exact ⟨_, wk_of (tms := [(3, I64 ((0 : Int))), (6, .p (.sl 1 (list.map iP))), (7, I64 ((list.length : Int))), (8, I64 ((0 : Int)))]) (bls := []) (gens := []) ⟨rfl, rfl, rfl, rfl, trivial⟩ trivial trivial rfl, 0, 0, ⟨by omega, rfl⟩, rfl, rfl⟩
  · rintro n _ ⟨i, g, ⟨hi, hg⟩, hn1, rfl⟩
    refine cw_seq ?_
    refine cw_reg0 tok rfl rfl ?_
    refine c0 rfl (w_v (BO (decide ((i : Int) < (list.length : Int)))) rfl ?_)
    refine cn ?_
    refine cw_seq ?_
    refine cw_cond (t := decide ((i : Int) < (list.length : Int))) rfl (fun c1 => ?_) (fun c1 => ?_)
    ·
      replace c1 := of_decide_eq_true c1
      refine cw_skip ?_
      refine cw_seq ?_
      refine cw_block ?_
      refine cw_seq ?_
      refine cw_reg0 tok rfl rfl ?_
      obtain ⟨q, hq⟩ := getE (l := list) (i := i) (by first | omega | (simp; omega))
      refine c0 rfl (w_ix ((i : Int)) (iP q) rfl rfl rfl (by omega) (getM hq) ?_)
      refine c0 rfl (w_v (I64 q) rfl ?_)
      refine c0 rfl (w_v (I64 q) rfl ?_)
      refine cn ?_
      refine cw_seq ?_
      refine cw_reg0 tok rfl rfl ?_
      refine c0 rfl (w_v (I64 q) rfl ?_)
      refine c0 rfl (w_v (I64 q) rfl ?_)
      refine c0 rfl (w_i (0 - q) rfl (by have := hb q (List.mem_of_getElem? hq); unfold inI; omega) ?_)
      refine c0 rfl (w_max2 (q) (0 - q) rfl rfl (cv (by have := hb q (List.mem_of_getElem? hq); exact congrArg I64 (by omega) : (I64 (max q (0 - q)) : AV) = I64 ((q.natAbs : Int))) ?_))
      refine c0 rfl (w_v (I64 ((q.natAbs : Int))) rfl ?_)
      refine cn ?_
      refine cw_block ?_
      refine cw_loopI (fun n S => ∃ g1 : Nat, ∃ n1 : Nat, (Nat.gcd g1 n1 = gcdL (list.take (i + 1))) ∧ n = n1 ∧ S = mkS [(3, I64 ((g1 : Int))), (5, I64 ((n1 : Int))), (6, .p (.sl 1 (list.map iP))), (7, I64 ((list.length : Int))), (8, I64 ((i : Int)))] [] []) (q.natAbs) ?_ ?_
      · exact ⟨_, wk_of (tms := [(3, I64 ((g : Int))), (5, I64 ((q.natAbs : Int))), (6, .p (.sl 1 (list.map iP))), (7, I64 ((list.length : Int))), (8, I64 ((i : Int)))]) (bls := []) (gens := []) ⟨rfl, rfl, rfl, rfl, rfl, trivial⟩ trivial trivial rfl, g, q.natAbs, by rw [hg, gcdL_take hq], rfl, rfl⟩
      · rintro n _ ⟨g1, n1, hj, hn2, rfl⟩
        refine cw_seq ?_
        refine cw_seq ?_
        refine cw_reg0 tok rfl rfl ?_
        refine c0 rfl (w_v (I64 ((n1 : Int))) rfl ?_)
        refine c0 rfl (w_nei ((n1 : Int)) (0) rfl rfl ?_)
        refine cn ?_
        refine cw_cond (t := decide ((n1 : Int) ≠ 0)) rfl (fun c2 => ?_) (fun c2 => ?_)
        ·
          replace c2 := of_decide_eq_true c2
          refine cw_skip ?_
          refine cw_block ?_
          refine cw_reg1 tok mixed rfl rfl ?_
          refine c0 rfl (w_v (I64 ((n1 : Int))) rfl ?_)
          refine c0 rfl (w_v (I64 ((g1 : Int))) rfl ?_)
          refine c0 rfl (w_v (I64 ((n1 : Int))) rfl ?_)
          refine c0 rfl (w_rem ((g1 : Int)) ((n1 : Int)) rfl rfl (by omega) ?_)
          refine c0 rfl (w_v (I64 ((n1 : Int))) rfl ?_)
          refine c0 rfl (w_v (I64 (((g1 : Int)).tmod ((n1 : Int)))) rfl ?_)
          refine cn ⟨by kernel_rfl, ?_⟩
          exact ⟨_, _, (by rw [hn2]; exact Nat.mod_lt _ (by omega)), wk_of (tms := [(3, I64 ((n1 : Int))), (5, I64 (((g1 % n1) : Int))), (6, .p (.sl 1 (list.map iP))), (7, I64 ((list.length : Int))), (8, I64 ((i : Int)))]) (bls := []) (gens := []) ⟨rfl, rfl, rfl, rfl, rfl, trivial⟩ trivial trivial rfl, n1, (g1 % n1), (gcd_step g1 n1 (by omega)).trans hj, rfl, rfl⟩
        ·
          replace c2 := of_decide_eq_false c2
          refine cw_exit ?_
          refine cw_reg0 tok rfl rfl ?_
          refine c0 rfl (w_i (((i + 1 : Nat) : Int)) rfl (by unfold inI; omega) ?_)
          refine c0 rfl (w_v (I64 (((i + 1 : Nat) : Int))) rfl ?_)
          refine cn ?_
          exact ⟨_, _, by omega, wk_of (tms := [(3, I64 ((g1 : Int))), (6, .p (.sl 1 (list.map iP))), (7, I64 ((list.length : Int))), (8, I64 (((i + 1) : Int)))]) (bls := []) (gens := []) ⟨rfl, rfl, rfl, rfl, trivial⟩ trivial trivial rfl, (i + 1), g1, ⟨by omega, by have : n1 = 0 := (by omega); subst this; simpa using hj⟩, rfl, rfl⟩
    ·
      replace c1 := of_decide_eq_false c1
      refine cw_exit ?_
      refine cw_seq ?_
      refine cw_reg0 tok rfl rfl ?_
      refine c0 rfl (w_v (I64 ((g : Int))) rfl ?_)
      refine c0 rfl (w_v (I64 ((g : Int))) rfl ?_)
      refine cn ?_
      refine cw_ret ?_
      exact fin1 (iP ((g : Int))) (iP ((gcdL list : Int))) rfl (congrArg iP (by rw [hg, gcdL_all (by omega)] : ((g : Int)) = ((gcdL list : Int)))) rfl
theorem l3In_fn (p : Pl) : Fn PP 204 [.p (encP p)] (.p (bP (decide (okc p)))) [] := by
  refine fn_intro tok Go.Proofs.Try.func204 (c := _) rfl rfl (Nat.le_of_ble_eq_true rfl) ?_
  refine cw_seq ?_
  refine cw_reg0 tok rfl rfl ?_
  refine c0 rfl (w_box (g := 0) [I64 p.a, I64 p.b, I64 p.c, I64 p.d] rfl rfl rfl ?_)
  refine c0 rfl (w_v (BO false) rfl ?_)
  refine cn ?_
  refine cw_seq ?_
  refine cw_reg0 tok rfl rfl ?_
  refine c0 rfl (w_v (I64 500) rfl ?_)
  refine cn ?_
  refine cw_seq ?_
  refine cw_reg0 tok rfl rfl ?_
  refine c0 rfl (w_v (.pt 1 0 0) rfl ?_)
  refine c0 rfl (w_v (I64 p.a) rfl ?_)
  refine c0 rfl (w_v (I64 500) rfl ?_)
  refine c0 rfl (w_i (0 - 500) rfl (by unfold inI; omega) ?_)
  refine c0 rfl (w_v (I64 500) rfl ?_)
  refine c0 rfl (w_call_3 (l1In_fn p.a (0 - 500) 500) rfl rfl rfl rfl ?_)
  refine c0 rfl (w_v (BO (inR p.a (0 - 500) 500)) rfl ?_)
  refine cgS (b := inR p.a (0 - 500) 500) rfl rfl rfl (fun c1 => ?_) (fun c1 => ?_)
  ·
    refine cgT rfl rfl rfl (w_v (.pt 1 0 1) rfl ?_)
    refine cgT rfl rfl rfl (w_v (I64 p.b) rfl ?_)
    refine cgT rfl rfl rfl (w_v (I64 500) rfl ?_)
    refine cgT rfl rfl rfl (w_i (0 - 500) rfl (by unfold inI; omega) ?_)
    refine cgT rfl rfl rfl (w_v (I64 500) rfl ?_)
    refine cgT rfl rfl rfl (w_call_3 (l1In_fn p.b (0 - 500) 500) rfl rfl rfl rfl ?_)
    refine c0 rfl (w_v (BO (inR p.b (0 - 500) 500)) rfl ?_)
    refine c0 rfl (w_v (BO (inR p.b (0 - 500) 500)) rfl ?_)
    refine cgS (b := inR p.b (0 - 500) 500) rfl rfl rfl (fun c2 => ?_) (fun c2 => ?_)
    ·
      refine cgT rfl rfl rfl (w_v (.pt 1 0 2) rfl ?_)
      refine cgT rfl rfl rfl (w_v (I64 p.c) rfl ?_)
      refine cgT rfl rfl rfl (w_v (I64 500) rfl ?_)
      refine cgT rfl rfl rfl (w_i (0 - 500) rfl (by unfold inI; omega) ?_)
      refine cgT rfl rfl rfl (w_v (I64 500) rfl ?_)
      refine cgT rfl rfl rfl (w_call_3 (l1In_fn p.c (0 - 500) 500) rfl rfl rfl rfl ?_)
      refine c0 rfl (w_v (BO (inR p.c (0 - 500) 500)) rfl ?_)
      refine c0 rfl (w_v (BO (inR p.c (0 - 500) 500)) rfl ?_)
      refine cgS (b := inR p.c (0 - 500) 500) rfl rfl rfl (fun c3 => ?_) (fun c3 => ?_)
      ·
        refine cgT rfl rfl rfl (w_v (.pt 1 0 3) rfl ?_)
        refine cgT rfl rfl rfl (w_v (I64 p.d) rfl ?_)
        refine cgT rfl rfl rfl (w_v (I64 500) rfl ?_)
        refine cgT rfl rfl rfl (w_i (0 - 500) rfl (by unfold inI; omega) ?_)
        refine cgT rfl rfl rfl (w_v (I64 500) rfl ?_)
        refine cgT rfl rfl rfl (w_call_3 (l1In_fn p.d (0 - 500) 500) rfl rfl rfl rfl ?_)
        refine c0 rfl (w_v (BO (inR p.d (0 - 500) 500)) rfl ?_)
        refine c0 rfl (w_v (BO (inR p.d (0 - 500) 500)) rfl ?_)
        refine cn ?_
        refine cw_ret ?_
        exact fin1 (bP (inR p.d (0 - 500) 500)) (bP (decide (okc p))) rfl (congrArg bP (by first | rfl | (show _ = decide _; refine dd ?_; (try simp only [Bool.false_eq_true, decide_eq_true_eq, false_iff, true_iff]); (try simp only [okc, inR, Bool.false_eq_true, decide_eq_true_eq, decide_eq_false_iff_not, false_iff, true_iff] at *); omega) : (inR p.d (0 - 500) 500) = (decide (okc p)))) rfl
      ·
        refine cgF (v := .bool false) rfl rfl rfl rfl ?_
        refine cgF (v := .bool false) rfl rfl rfl rfl ?_
        refine cgF (v := .bool false) rfl rfl rfl rfl ?_
        refine cgF (v := .bool false) rfl rfl rfl rfl ?_
        refine cgF (v := .bool false) rfl rfl rfl rfl ?_
        refine cgF (v := .bool false) rfl rfl rfl rfl ?_
        refine c0 rfl (w_v (BO false) rfl ?_)
        refine c0 rfl (w_v (BO false) rfl ?_)
        refine cn ?_
        refine cw_ret ?_
        exact fin1 (bP false) (bP (decide (okc p))) rfl (congrArg bP (by first | rfl | (show _ = decide _; refine dd ?_; (try simp only [Bool.false_eq_true, decide_eq_true_eq, false_iff, true_iff]); (try simp only [okc, inR, Bool.false_eq_true, decide_eq_true_eq, decide_eq_false_iff_not, false_iff, true_iff] at *); omega) : false = (decide (okc p)))) rfl
    ·
      refine cgF (v := .bool false) rfl rfl rfl rfl ?_
      refine cgF (v := .bool false) rfl rfl rfl rfl ?_
      refine cgF (v := .bool false) rfl rfl rfl rfl ?_
      refine cgF (v := .bool false) rfl rfl rfl rfl ?_
      refine cgF (v := .bool false) rfl rfl rfl rfl ?_
      refine cgF (v := .bool false) rfl rfl rfl rfl ?_
      refine c0 rfl (w_v (BO false) rfl ?_)
      refine c0 rfl (w_v (BO false) rfl ?_)
      refine cgF (v := .bool false) rfl rfl rfl rfl ?_
      refine cgF (v := .bool false) rfl rfl rfl rfl ?_
      refine cgF (v := .bool false) rfl rfl rfl rfl ?_
      refine cgF (v := .bool false) rfl rfl rfl rfl ?_
      refine cgF (v := .bool false) rfl rfl rfl rfl ?_
      refine cgF (v := .bool false) rfl rfl rfl rfl ?_
      refine c0 rfl (w_v (BO false) rfl ?_)
      refine c0 rfl (w_v (BO false) rfl ?_)
      refine cn ?_
      refine cw_ret ?_
      exact fin1 (bP false) (bP (decide (okc p))) rfl (congrArg bP (by first | rfl | (show _ = decide _; refine dd ?_; (try simp only [Bool.false_eq_true, decide_eq_true_eq, false_iff, true_iff]); (try simp only [okc, inR, Bool.false_eq_true, decide_eq_true_eq, decide_eq_false_iff_not, false_iff, true_iff] at *); omega) : false = (decide (okc p)))) rfl
  ·
    refine cgF (v := .bool false) rfl rfl rfl rfl ?_
    refine cgF (v := .bool false) rfl rfl rfl rfl ?_
    refine cgF (v := .bool false) rfl rfl rfl rfl ?_
    refine cgF (v := .bool false) rfl rfl rfl rfl ?_
    refine cgF (v := .bool false) rfl rfl rfl rfl ?_
    refine cgF (v := .bool false) rfl rfl rfl rfl ?_
    refine c0 rfl (w_v (BO false) rfl ?_)
    refine c0 rfl (w_v (BO false) rfl ?_)
    refine cgF (v := .bool false) rfl rfl rfl rfl ?_
    refine cgF (v := .bool false) rfl rfl rfl rfl ?_
    refine cgF (v := .bool false) rfl rfl rfl rfl ?_
    refine cgF (v := .bool false) rfl rfl rfl rfl ?_
    refine cgF (v := .bool false) rfl rfl rfl rfl ?_
    refine cgF (v := .bool false) rfl rfl rfl rfl ?_
    refine c0 rfl (w_v (BO false) rfl ?_)
    refine c0 rfl (w_v (BO false) rfl ?_)
    refine cgF (v := .bool false) rfl rfl rfl rfl ?_
    refine cgF (v := .bool false) rfl rfl rfl rfl ?_
    refine cgF (v := .bool false) rfl rfl rfl rfl ?_
    refine cgF (v := .bool false) rfl rfl rfl rfl ?_
    refine cgF (v := .bool false) rfl rfl rfl rfl ?_
    refine cgF (v := .bool false) rfl rfl rfl rfl ?_
    refine c0 rfl (w_v (BO false) rfl ?_)
    refine c0 rfl (w_v (BO false) rfl ?_)
    refine cn ?_
    refine cw_ret ?_
    exact fin1 (bP false) (bP (decide (okc p))) rfl (congrArg bP (by first | rfl | (show _ = decide _; refine dd ?_; (try simp only [Bool.false_eq_true, decide_eq_true_eq, false_iff, true_iff]); (try simp only [okc, inR, Bool.false_eq_true, decide_eq_true_eq, decide_eq_false_iff_not, false_iff, true_iff] at *); omega) : false = (decide (okc p)))) rfl
theorem sPlaneOk_fn (p : Pl) : Fn PP 167 [.p (encP p)] (.p (bP (plok p))) [] := by
  refine fn_intro tok Go.Proofs.Try.func167 (c := _) rfl rfl (Nat.le_of_ble_eq_true rfl) ?_
  refine cw_seq ?_
  refine cw_reg0 tok rfl rfl ?_
  refine c0 rfl (w_box (g := 0) [I64 p.a, I64 p.b, I64 p.c, I64 p.d] rfl rfl rfl ?_)
  refine c0 rfl (w_v (BO false) rfl ?_)
  refine cn ?_
  refine cw_seq ?_
  refine cw_reg1 tok mixed rfl rfl ?_
  refine c0 rfl (w_v (.p (encP p)) rfl ?_)
  refine c0 rfl (w_call_1 (l3In_fn p) rfl rfl ?_)
  refine c0 rfl (w_v (BO (decide (okc p))) rfl ?_)
  refine cgS (b := decide (okc p)) rfl rfl rfl (fun c1 => ?_) (fun c1 => ?_)
  ·
    replace c1 := of_decide_eq_true c1
    refine cgT rfl rfl rfl (w_v (.pt 1 0 0) rfl ?_)
    refine cgT rfl rfl rfl (w_v (I64 p.a) rfl ?_)
    refine cgT rfl rfl rfl (w_nei (p.a) (0) rfl rfl ?_)
    refine cgT rfl rfl rfl (w_v (BO (decide (p.a ≠ 0))) rfl ?_)
    refine cgS (b := decide (p.a ≠ 0)) rfl rfl rfl (fun c2 => ?_) (fun c2 => ?_)
    ·
      replace c2 := of_decide_eq_true c2
      refine cgF (v := .bool true) rfl rfl rfl rfl ?_
      refine cgF (v := .bool true) rfl rfl rfl rfl ?_
      refine cgF (v := .bool true) rfl rfl rfl rfl ?_
      refine cgT rfl rfl rfl (w_v (BO true) rfl ?_)
      refine cgT rfl rfl rfl (w_v (BO true) rfl ?_)
      refine cgF (v := .bool true) rfl rfl rfl rfl ?_
      refine cgF (v := .bool true) rfl rfl rfl rfl ?_
      refine cgF (v := .bool true) rfl rfl rfl rfl ?_
      refine cgT rfl rfl rfl (w_v (BO true) rfl ?_)
      refine c0 rfl (w_v (BO true) rfl ?_)
      refine c0 rfl (w_v (BO true) rfl ?_)
      refine cgT rfl rfl rfl (w_v (.pt 1 0 0) rfl ?_)
      refine cgT rfl rfl rfl (w_v (I64 p.a) rfl ?_)
      refine cgT rfl rfl rfl (w_v (.pt 1 0 1) rfl ?_)
      refine cgT rfl rfl rfl (w_v (I64 p.b) rfl ?_)
      refine cgT rfl rfl rfl (w_call_2 (l3Gcd_fn p.a p.b (by have h := c1; unfold okc at h; omega) (by have h := c1; unfold okc at h; omega)) rfl rfl rfl ?_)
      refine cgT rfl rfl rfl (w_v (.pt 1 0 2) rfl ?_)
      refine cgT rfl rfl rfl (w_v (I64 p.c) rfl ?_)
      refine cgT rfl rfl rfl (w_v (.pt 1 0 3) rfl ?_)
      refine cgT rfl rfl rfl (w_v (I64 p.d) rfl ?_)
      refine cgT rfl rfl rfl (w_call_2 (l3Gcd_fn p.c p.d (by have h := c1; unfold okc at h; omega) (by have h := c1; unfold okc at h; omega)) rfl rfl rfl ?_)
      refine cgT rfl rfl rfl (w_call_2 (l3Gcd_fn ((Int.gcd p.a p.b : Int)) ((Int.gcd p.c p.d : Int)) (by have h := c1; unfold okc at h; exact gcdB h.1 h.2.1) (by have h := c1; unfold okc at h; exact gcdB h.2.2.1 h.2.2.2)) rfl rfl rfl ?_)
      refine cgT rfl rfl rfl (w_eqi ((Int.gcd ((Int.gcd p.a p.b : Int)) ((Int.gcd p.c p.d : Int)) : Int)) (1) rfl rfl ?_)
      refine c0 rfl (w_v (BO (decide ((Int.gcd ((Int.gcd p.a p.b : Int)) ((Int.gcd p.c p.d : Int)) : Int) = 1))) rfl ?_)
      refine c0 rfl (w_v (BO (decide ((Int.gcd ((Int.gcd p.a p.b : Int)) ((Int.gcd p.c p.d : Int)) : Int) = 1))) rfl ?_)
      refine cn ⟨by kernel_rfl, ?_⟩
      refine cw_ret ?_
      exact fin1 (bP (decide ((Int.gcd ((Int.gcd p.a p.b : Int)) ((Int.gcd p.c p.d : Int)) : Int) = 1))) (bP (plok p)) rfl (congrArg bP (by first | rfl | (show _ = decide _; refine dd ?_; (try simp only [Bool.false_eq_true, decide_eq_true_eq, false_iff, true_iff]); (try simp only [plok, okc, inR, gcdL4, gcd4, Int.gcd, Int.natAbs_natCast, Bool.false_eq_true, decide_eq_true_eq, decide_eq_false_iff_not, false_iff, true_iff] at *); omega) : (decide ((Int.gcd ((Int.gcd p.a p.b : Int)) ((Int.gcd p.c p.d : Int)) : Int) = 1)) = (plok p))) rfl
    ·
      replace c2 := of_decide_eq_false c2
      refine cgT rfl rfl rfl (w_v (.pt 1 0 1) rfl ?_)
      refine cgT rfl rfl rfl (w_v (I64 p.b) rfl ?_)
      refine cgT rfl rfl rfl (w_nei (p.b) (0) rfl rfl ?_)
      refine cgT rfl rfl rfl (w_v (BO (decide (p.b ≠ 0))) rfl ?_)
      refine cgT rfl rfl rfl (w_v (BO (decide (p.b ≠ 0))) rfl ?_)
      refine cgS (b := decide (p.b ≠ 0)) rfl rfl rfl (fun c3 => ?_) (fun c3 => ?_)
      ·
        replace c3 := of_decide_eq_true c3
        refine cgF (v := .bool true) rfl rfl rfl rfl ?_
        refine cgF (v := .bool true) rfl rfl rfl rfl ?_
        refine cgF (v := .bool true) rfl rfl rfl rfl ?_
        refine cgT rfl rfl rfl (w_v (BO true) rfl ?_)
        refine c0 rfl (w_v (BO true) rfl ?_)
        refine c0 rfl (w_v (BO true) rfl ?_)
        refine cgT rfl rfl rfl (w_v (.pt 1 0 0) rfl ?_)
        refine cgT rfl rfl rfl (w_v (I64 p.a) rfl ?_)
        refine cgT rfl rfl rfl (w_v (.pt 1 0 1) rfl ?_)
        refine cgT rfl rfl rfl (w_v (I64 p.b) rfl ?_)
        refine cgT rfl rfl rfl (w_call_2 (l3Gcd_fn p.a p.b (by have h := c1; unfold okc at h; omega) (by have h := c1; unfold okc at h; omega)) rfl rfl rfl ?_)
        refine cgT rfl rfl rfl (w_v (.pt 1 0 2) rfl ?_)
        refine cgT rfl rfl rfl (w_v (I64 p.c) rfl ?_)
        refine cgT rfl rfl rfl (w_v (.pt 1 0 3) rfl ?_)
        refine cgT rfl rfl rfl (w_v (I64 p.d) rfl ?_)
        refine cgT rfl rfl rfl (w_call_2 (l3Gcd_fn p.c p.d (by have h := c1; unfold okc at h; omega) (by have h := c1; unfold okc at h; omega)) rfl rfl rfl ?_)
        refine cgT rfl rfl rfl (w_call_2 (l3Gcd_fn ((Int.gcd p.a p.b : Int)) ((Int.gcd p.c p.d : Int)) (by have h := c1; unfold okc at h; exact gcdB h.1 h.2.1) (by have h := c1; unfold okc at h; exact gcdB h.2.2.1 h.2.2.2)) rfl rfl rfl ?_)
        refine cgT rfl rfl rfl (w_eqi ((Int.gcd ((Int.gcd p.a p.b : Int)) ((Int.gcd p.c p.d : Int)) : Int)) (1) rfl rfl ?_)
        refine c0 rfl (w_v (BO (decide ((Int.gcd ((Int.gcd p.a p.b : Int)) ((Int.gcd p.c p.d : Int)) : Int) = 1))) rfl ?_)
        refine c0 rfl (w_v (BO (decide ((Int.gcd ((Int.gcd p.a p.b : Int)) ((Int.gcd p.c p.d : Int)) : Int) = 1))) rfl ?_)
        refine cn ⟨by kernel_rfl, ?_⟩
        refine cw_ret ?_
        exact fin1 (bP (decide ((Int.gcd ((Int.gcd p.a p.b : Int)) ((Int.gcd p.c p.d : Int)) : Int) = 1))) (bP (plok p)) rfl (congrArg bP (by first | rfl | (show _ = decide _; refine dd ?_; (try simp only [Bool.false_eq_true, decide_eq_true_eq, false_iff, true_iff]); (try simp only [plok, okc, inR, gcdL4, gcd4, Int.gcd, Int.natAbs_natCast, Bool.false_eq_true, decide_eq_true_eq, decide_eq_false_iff_not, false_iff, true_iff] at *); omega) : (decide ((Int.gcd ((Int.gcd p.a p.b : Int)) ((Int.gcd p.c p.d : Int)) : Int) = 1)) = (plok p))) rfl
      ·
        replace c3 := of_decide_eq_false c3
        refine cgT rfl rfl rfl (w_v (.pt 1 0 2) rfl ?_)
        refine cgT rfl rfl rfl (w_v (I64 p.c) rfl ?_)
        refine cgT rfl rfl rfl (w_nei (p.c) (0) rfl rfl ?_)
        refine cgT rfl rfl rfl (w_v (BO (decide (p.c ≠ 0))) rfl ?_)
        refine c0 rfl (w_v (BO (decide (p.c ≠ 0))) rfl ?_)
        refine c0 rfl (w_v (BO (decide (p.c ≠ 0))) rfl ?_)
        refine cgS (b := decide (p.c ≠ 0)) rfl rfl rfl (fun c4 => ?_) (fun c4 => ?_)
        ·
          replace c4 := of_decide_eq_true c4
          refine cgT rfl rfl rfl (w_v (.pt 1 0 0) rfl ?_)
          refine cgT rfl rfl rfl (w_v (I64 p.a) rfl ?_)
          refine cgT rfl rfl rfl (w_v (.pt 1 0 1) rfl ?_)
          refine cgT rfl rfl rfl (w_v (I64 p.b) rfl ?_)
          refine cgT rfl rfl rfl (w_call_2 (l3Gcd_fn p.a p.b (by have h := c1; unfold okc at h; omega) (by have h := c1; unfold okc at h; omega)) rfl rfl rfl ?_)
          refine cgT rfl rfl rfl (w_v (.pt 1 0 2) rfl ?_)
          refine cgT rfl rfl rfl (w_v (I64 p.c) rfl ?_)
          refine cgT rfl rfl rfl (w_v (.pt 1 0 3) rfl ?_)
          refine cgT rfl rfl rfl (w_v (I64 p.d) rfl ?_)
          refine cgT rfl rfl rfl (w_call_2 (l3Gcd_fn p.c p.d (by have h := c1; unfold okc at h; omega) (by have h := c1; unfold okc at h; omega)) rfl rfl rfl ?_)
          refine cgT rfl rfl rfl (w_call_2 (l3Gcd_fn ((Int.gcd p.a p.b : Int)) ((Int.gcd p.c p.d : Int)) (by have h := c1; unfold okc at h; exact gcdB h.1 h.2.1) (by have h := c1; unfold okc at h; exact gcdB h.2.2.1 h.2.2.2)) rfl rfl rfl ?_)
          refine cgT rfl rfl rfl (w_eqi ((Int.gcd ((Int.gcd p.a p.b : Int)) ((Int.gcd p.c p.d : Int)) : Int)) (1) rfl rfl ?_)
          refine c0 rfl (w_v (BO (decide ((Int.gcd ((Int.gcd p.a p.b : Int)) ((Int.gcd p.c p.d : Int)) : Int) = 1))) rfl ?_)
          refine c0 rfl (w_v (BO (decide ((Int.gcd ((Int.gcd p.a p.b : Int)) ((Int.gcd p.c p.d : Int)) : Int) = 1))) rfl ?_)
          refine cn ⟨by kernel_rfl, ?_⟩
          refine cw_ret ?_
          exact fin1 (bP (decide ((Int.gcd ((Int.gcd p.a p.b : Int)) ((Int.gcd p.c p.d : Int)) : Int) = 1))) (bP (plok p)) rfl (congrArg bP (by first | rfl | (show _ = decide _; refine dd ?_; (try simp only [Bool.false_eq_true, decide_eq_true_eq, false_iff, true_iff]); (try simp only [plok, okc, inR, gcdL4, gcd4, Int.gcd, Int.natAbs_natCast, Bool.false_eq_true, decide_eq_true_eq, decide_eq_false_iff_not, false_iff, true_iff] at *); omega) : (decide ((Int.gcd ((Int.gcd p.a p.b : Int)) ((Int.gcd p.c p.d : Int)) : Int) = 1)) = (plok p))) rfl
        ·
          replace c4 := of_decide_eq_false c4
          refine cgF (v := .bool false) rfl rfl rfl rfl ?_
          refine cgF (v := .bool false) rfl rfl rfl rfl ?_
          refine cgF (v := .bool false) rfl rfl rfl rfl ?_
          refine cgF (v := .bool false) rfl rfl rfl rfl ?_
          refine cgF (v := .bool false) rfl rfl rfl rfl ?_
          refine cgF (v := .bool false) rfl rfl rfl rfl ?_
          refine cgF (v := .bool false) rfl rfl rfl rfl ?_
          refine cgF (v := .bool false) rfl rfl rfl rfl ?_
          refine cgF (v := .bool false) rfl rfl rfl rfl ?_
          refine cgF (v := .bool false) rfl rfl rfl rfl ?_
          refine cgF (v := .bool false) rfl rfl rfl rfl ?_
          refine cgF (v := .bool false) rfl rfl rfl rfl ?_
          refine c0 rfl (w_v (BO false) rfl ?_)
          refine c0 rfl (w_v (BO false) rfl ?_)
          refine cn ⟨by kernel_rfl, ?_⟩
          refine cw_ret ?_
          exact fin1 (bP false) (bP (plok p)) rfl (congrArg bP (by first | rfl | (show _ = decide _; refine dd ?_; (try simp only [Bool.false_eq_true, decide_eq_true_eq, false_iff, true_iff]); (try simp only [plok, okc, inR, gcdL4, gcd4, Int.gcd, Int.natAbs_natCast, Bool.false_eq_true, decide_eq_true_eq, decide_eq_false_iff_not, false_iff, true_iff] at *); omega) : false = (plok p))) rfl
  ·
    replace c1 := of_decide_eq_false c1
    refine cgF (v := .bool false) rfl rfl rfl rfl ?_
    refine cgF (v := .bool false) rfl rfl rfl rfl ?_
    refine cgF (v := .bool false) rfl rfl rfl rfl ?_
    refine cgF (v := .bool false) rfl rfl rfl rfl ?_
    refine cgF (v := undef) rfl rfl rfl rfl ?_
    refine cgF (v := undef) rfl rfl rfl rfl ?_
    refine cgF (v := undef) rfl rfl rfl rfl ?_
    refine cgF (v := .bool false) rfl rfl rfl rfl ?_
    refine cgF (v := .bool false) rfl rfl rfl rfl ?_
    refine cgF (v := undef) rfl rfl rfl rfl ?_
    refine cgF (v := undef) rfl rfl rfl rfl ?_
    refine cgF (v := undef) rfl rfl rfl rfl ?_
    refine cgF (v := .bool false) rfl rfl rfl rfl ?_
    refine c0 rfl (w_v (BO false) rfl ?_)
    refine c0 rfl (w_v (BO false) rfl ?_)
    refine cgF (v := .bool false) rfl rfl rfl rfl ?_
    refine cgF (v := .bool false) rfl rfl rfl rfl ?_
    refine cgF (v := .bool false) rfl rfl rfl rfl ?_
    refine cgF (v := .bool false) rfl rfl rfl rfl ?_
    refine cgF (v := .bool false) rfl rfl rfl rfl ?_
    refine cgF (v := .bool false) rfl rfl rfl rfl ?_
    refine cgF (v := .bool false) rfl rfl rfl rfl ?_
    refine cgF (v := .bool false) rfl rfl rfl rfl ?_
    refine cgF (v := .bool false) rfl rfl rfl rfl ?_
    refine cgF (v := .bool false) rfl rfl rfl rfl ?_
    refine cgF (v := .bool false) rfl rfl rfl rfl ?_
    refine cgF (v := .bool false) rfl rfl rfl rfl ?_
    refine c0 rfl (w_v (BO false) rfl ?_)
    refine c0 rfl (w_v (BO false) rfl ?_)
    refine cn ⟨by kernel_rfl, ?_⟩
    refine cw_ret ?_
    exact fin1 (bP false) (bP (plok p)) rfl (congrArg bP (by first | rfl | (show _ = decide _; refine dd ?_; (try simp only [Bool.false_eq_true, decide_eq_true_eq, false_iff, true_iff]); (try simp only [plok, okc, inR, gcdL4, gcd4, Int.gcd, Int.natAbs_natCast, Bool.false_eq_true, decide_eq_true_eq, decide_eq_false_iff_not, false_iff, true_iff] at *); omega) : false = (plok p))) rfl
end Go.Proofs.Ytablmbhnimnccaa.Pw
