/- A part of that proof: contracts of the functions that are called, one theorem a function. No condition. -/
import Derived.Test.YtablmbhnimnccaaZqF7
import Derived.Test.YtablmbhnimnccaaZqPure3
import Derived.Test.YtablmbhnimnccaaZqGen
set_option maxRecDepth 20000
set_option maxHeartbeats 4000000
namespace Go.Proofs.Ytablmbhnimnccaa.Pw
theorem clone_fn (s : List Pl) (hne : s.map encP ≠ []) (hn : s.length ≤ 1048576) : Fn PP 145 [.p (.sl 4 (s.map encP))] (.p (.sl 4 (s.map encP))) [] := by
  refine fn_intro tok Go.Proofs.Try.func145 (c := _) rfl rfl (Nat.le_of_ble_eq_true rfl) ?_
  refine cw_seq ?_
  refine cw_reg0 tok rfl rfl ?_
  refine c0 rfl (w_v (.p (.lit nilSl)) rfl ?_)
  refine cn ?_
  refine cw_seq ?_
  refine cw_seq ?_
  refine cw_reg0 tok rfl rfl ?_
  refine c0 rfl (w_v (.p (.sl 4 (s.map encP))) rfl ?_)
  refine c0 rfl (w_eqnil tok rfl rfl (by assumption) ?_)
  refine cn ?_
  refine cw_cond (t := false) rfl (fun h => nomatch h) (fun _ => ?_)
  refine cw_skip ?_
  refine cw_seq ?_
  refine cw_reg0 tok rfl rfl ?_
  refine c0 rfl (w_bsl (g := 0) [] rfl rfl rfl rfl (Nat.le_of_ble_eq_true rfl) (Nat.le_of_ble_eq_true rfl) (Nat.le_of_ble_eq_true rfl) (.nil _) rfl rfl ?_)
  refine c0 rfl (w_v (.p (.sl 4 (s.map encP))) rfl ?_)
  refine c0 rfl (w_appo (s.map encP) (s.map encP) (s.length) rfl rfl rfl rfl rfl rfl (Nat.le_of_ble_eq_true rfl) (sz_map fun _ => rfl) rfl rfl rfl (by show (_ + _) * 32 ≤ _; (try simp) <;> omega) (by (try simp) <;> omega) rfl (by simp) ?_)
  refine c0 rfl (w_v (.os 5 0 s.length) rfl ?_)
  refine cn ?_
  refine cw_ret ?_
  exact finO _ rfl rfl (by simp) (show PV.sl 4 (s.map encP) = PV.sl 4 (s.map encP) from (congrArg (fun z => PV.sl 4 (z.map encP)) (by rfl : s = s))) rfl
theorem cloneE_fn (sa : Option Addr) (sc : Nat) : Fn PP 145 [.p (.lit (.slice sa 0 sc))] (.p (.sl 4 (([]).map encP))) [] := by
  refine fn_intro tok Go.Proofs.Try.func145 (c := _) rfl rfl (Nat.le_of_ble_eq_true rfl) ?_
  refine cw_seq ?_
  refine cw_reg0 tok rfl rfl ?_
  refine c0 rfl (w_v (.p (.lit nilSl)) rfl ?_)
  refine cn ?_
  refine cw_seq ?_
  refine cw_seq ?_
  refine cw_reg0 tok rfl rfl ?_
  refine c0 rfl (w_v (.p (.lit (.slice sa 0 sc))) rfl ?_)
  refine c0 rfl (w_eqnil0 Go.Proofs.Try.underlying66 rfl ?_)
  refine cn ?_
  refine cw_cond (t := sa.isNone) rfl (fun c1 => ?_) (fun c1 => ?_)
  ·
    refine cw_seq ?_
    refine cw_reg0 tok rfl rfl ?_
    refine c0 rfl (w_v (.p (.lit nilSl)) rfl ?_)
    refine cn ?_
    refine cw_ret ?_
    exact finN 4 _ rfl (congrArg (fun z => PV.sl 4 (z.map encP)) (by rfl : ([]) = ([]))) rfl
  ·
    refine cw_skip ?_
    refine cw_seq ?_
    refine cw_reg0 tok rfl rfl ?_
    refine c0 rfl (w_bsl (g := 0) [] rfl rfl rfl rfl (Nat.le_of_ble_eq_true rfl) (Nat.le_of_ble_eq_true rfl) (Nat.le_of_ble_eq_true rfl) (.nil _) rfl rfl ?_)
    refine c0 rfl (w_v (.p (.lit (.slice sa 0 sc))) rfl ?_)
    refine c0 rfl (w_appo ((([] : List Pl)).map encP) ((([] : List Pl)).map encP) ((([] : List Pl)).length) rfl rfl rfl rfl rfl rfl (Nat.le_of_ble_eq_true rfl) (sz_map fun _ => rfl) rfl rfl rfl (by show (_ + _) * 32 ≤ _; (try simp) <;> omega) (by (try simp) <;> omega) rfl (by simp) ?_)
    refine c0 rfl (w_v (.os 5 0 ((([] : List Pl)).length)) rfl ?_)
    refine cn ?_
    refine cw_ret ?_
    exact finO _ rfl rfl (by simp) (show PV.sl 4 ((([] : List Pl)).map encP) = PV.sl 4 (([]).map encP) from (congrArg (fun z => PV.sl 4 (z.map encP)) (by rfl : (([] : List Pl)) = ([])))) rfl
theorem clone_all (s : List Pl) (hn : s.length ≤ 1048576) : Fn PP 145 [.p (.sl 4 (s.map encP))] (.p (.sl 4 (s.map encP))) [] := by
  cases s with
  | nil => exact Fn.emp1 fun a c => cloneE_fn a c
  | cons x s => exact clone_fn (x :: s) (by simp) hn
theorem index_fn (l : List Pl) (p : Pl) (hn : l.length ≤ 1048576) : Fn PP 183 [.p (.sl 4 (l.map encP)), .p (encP p)] (.p (iP (idxP l p))) [] := by
  refine fn_intro tok Go.Proofs.Try.func183 (c := _) rfl rfl (Nat.le_of_ble_eq_true rfl) ?_
  refine cw_seq ?_
  refine cw_reg0 tok rfl rfl ?_
  refine c0 rfl (w_box (g := 0) [I64 p.a, I64 p.b, I64 p.c, I64 p.d] rfl rfl rfl ?_)
  refine c0 rfl (w_v (I64 0) rfl ?_)
  refine cn ?_
  refine cw_seq ?_
  refine cw_seq ?_
  refine cw_reg0 tok rfl rfl ?_
  refine c0 rfl (w_v (.p (.sl 4 (l.map encP))) rfl ?_)
  refine c0 rfl (w_len (l.length) rfl rfl (by simp) ?_)
  refine c0 rfl (w_v (I64 0) rfl ?_)
  refine cn ?_
  refine cw_block ?_
  refine cw_loopI (fun nn S => ∃ i : Nat, (i ≤ l.length ∧ idxA (l.drop i) p i = idxP l p) ∧ nn = l.length - i ∧ S = mkS [(0, .p (.sl 4 (l.map encP))), (3, .pt 3 0 0), (7, I64 ((l.length : Int))), (8, I64 ((i : Int)))] [(3, 0, .var [I64 p.a, I64 p.b, I64 p.c, I64 p.d] false)] [(3, 1)]) (l.length - 0) ?_ ?_
  · exact ⟨_, wk_of (tms := [(0, .p (.sl 4 (l.map encP))), (3, .pt 3 0 0), (7, I64 ((l.length : Int))), (8, I64 ((0 : Int)))]) (bls := [(3, 0, .var [I64 p.a, I64 p.b, I64 p.c, I64 p.d] false)]) (gens := [(3, 1)]) ⟨rfl, rfl, rfl, rfl, trivial⟩ ⟨rfl, trivial⟩ ⟨rfl, trivial⟩ rfl, 0, ⟨by omega, rfl⟩, rfl, rfl⟩
  · rintro nn _ ⟨i, ⟨hi, hx⟩, hn1, rfl⟩
    refine cw_seq ?_
    refine cw_reg0 tok rfl rfl ?_
    refine c0 rfl (w_v (BO (decide ((i : Int) < (l.length : Int)))) rfl ?_)
    refine cn ?_
    refine cw_seq ?_
    refine cw_cond (t := decide ((i : Int) < (l.length : Int))) rfl (fun c1 => ?_) (fun c1 => ?_)
    ·
      replace c1 := of_decide_eq_true c1
      refine cw_skip ?_
      refine cw_seq ?_
      refine cw_block ?_
      refine cw_seq ?_
      refine cw_reg0 tok rfl rfl ?_
      refine c0 rfl (w_v (I64 ((i : Int))) rfl ?_)
      refine c0 rfl (w_v (I64 ((i : Int))) rfl ?_)
      refine cn ?_
      refine cw_seq ?_
      refine cw_reg1 tok mixed rfl rfl ?_
      refine c0 rfl (w_v (.p (encP p)) rfl ?_)
      refine c0 rfl (w_v (.p (.sl 4 (l.map encP))) rfl ?_)
      refine c0 rfl (w_v (I64 ((i : Int))) rfl ?_)
      obtain ⟨q, hq⟩ := getE (l := l) (i := i) (by first | omega | (simp; omega))
      refine c0 rfl (w_ix ((i : Int)) (encP q) rfl rfl rfl (by omega) (getM hq) ?_)
      refine c0 rfl (w_v (.p (encP q)) rfl ?_)
      refine c0 rfl (w_eqag (decide (p = q)) rfl rfl rfl eqPl (dqPl p q) ?_)
      refine cn ⟨by kernel_rfl, ?_⟩
      refine cw_cond (t := decide (p = q)) rfl (fun c2 => ?_) (fun c2 => ?_)
      ·
        replace c2 := of_decide_eq_true c2
        refine cw_seq ?_
        refine cw_reg0 tok rfl rfl ?_
        refine c0 rfl (w_v (I64 ((i : Int))) rfl ?_)
        refine c0 rfl (w_v (I64 ((i : Int))) rfl ?_)
        refine cn ?_
        refine cw_ret ?_
        exact fin1 (iP ((i : Int))) (iP (idxP l p)) rfl (congrArg iP (by rw [← hx, drop_of hq, idxA, if_pos (by assumption)] : ((i : Int)) = (idxP l p))) rfl
      ·
        replace c2 := of_decide_eq_false c2
        refine cw_skip ?_
        refine cw_reg0 tok rfl rfl ?_
        refine c0 rfl (w_i (((i + 1 : Nat) : Int)) rfl (by unfold inI; omega) ?_)
        refine c0 rfl (w_v (I64 (((i + 1 : Nat) : Int))) rfl ?_)
        refine cn ?_
        exact ⟨_, _, by omega, wk_of (tms := [(0, .p (.sl 4 (l.map encP))), (3, .pt 3 0 0), (7, I64 ((l.length : Int))), (8, I64 (((i + 1) : Int)))]) (bls := [(3, 0, .var [I64 p.a, I64 p.b, I64 p.c, I64 p.d] false)]) (gens := [(3, 1)]) ⟨rfl, rfl, rfl, rfl, trivial⟩ ⟨rfl, trivial⟩ ⟨rfl, trivial⟩ rfl, (i + 1), ⟨by omega, by rw [← hx, drop_of hq, idxA, if_neg (by assumption)]⟩, rfl, rfl⟩
    ·
      replace c1 := of_decide_eq_false c1
      refine cw_exit ?_
      refine cw_seq ?_
      refine cw_reg0 tok rfl rfl ?_
      refine c0 rfl (w_v (I64 (-1)) rfl ?_)
      refine cn ?_
      refine cw_ret ?_
      exact fin1 (iP (-1)) (iP (idxP l p)) rfl (congrArg iP (by rw [← hx, List.drop_eq_nil_of_le (by omega)]; rfl : (-1) = (idxP l p))) rfl
theorem contains_fn (l : List Pl) (p : Pl) (hn : l.length ≤ 1048576) : Fn PP 147 [.p (.sl 4 (l.map encP)), .p (encP p)] (.p (bP (decide (p ∈ l)))) [] := by
  refine fn_intro tok Go.Proofs.Try.func147 (c := _) rfl rfl (Nat.le_of_ble_eq_true rfl) ?_
  refine cw_seq ?_
  refine cw_reg0 tok rfl rfl ?_
  refine c0 rfl (w_box (g := 0) [I64 p.a, I64 p.b, I64 p.c, I64 p.d] rfl rfl rfl ?_)
  refine c0 rfl (w_v (BO false) rfl ?_)
  refine cn ?_
  refine cw_seq ?_
  refine cw_reg0 tok rfl rfl ?_
  refine c0 rfl (w_v (.p (.sl 4 (l.map encP))) rfl ?_)
  refine c0 rfl (w_v (.p (encP p)) rfl ?_)
  refine c0 rfl (w_call_2 (index_fn l p (by first | assumption | omega)) rfl rfl rfl ?_)
  refine c0 rfl (w_v (BO (decide (idxP l p ≥ 0))) rfl ?_)
  refine c0 rfl (w_v (BO (decide (idxP l p ≥ 0))) rfl ?_)
  refine cn ?_
  refine cw_ret ?_
  exact fin1 (bP (decide (idxP l p ≥ 0))) (bP (decide (p ∈ l))) rfl (congrArg bP (by exact contains_eq _ _ : (decide (idxP l p ≥ 0)) = (decide (p ∈ l)))) rfl
theorem among_fn (l : List Pl) (p : Pl) (hn : l.length ≤ 1048576) : Fn PP 140 [.p (.sl 4 (l.map encP)), .p (encP p)] (.p (bP (decide (p ∈ l)))) [] := by
  refine fn_intro tok Go.Proofs.Try.func140 (c := _) rfl rfl (Nat.le_of_ble_eq_true rfl) ?_
  refine cw_seq ?_
  refine cw_reg0 tok rfl rfl ?_
  refine c0 rfl (w_box (g := 0) [I64 p.a, I64 p.b, I64 p.c, I64 p.d] rfl rfl rfl ?_)
  refine c0 rfl (w_v (BO false) rfl ?_)
  refine cn ?_
  refine cw_seq ?_
  refine cw_seq ?_
  refine cw_reg0 tok rfl rfl ?_
  refine c0 rfl (w_v (I64 0) rfl ?_)
  refine cn ?_
  refine cw_block ?_
  refine cw_loopI (fun nn S => ∃ i : Nat, (i ≤ l.length ∧ (p ∈ l.drop i ↔ p ∈ l)) ∧ nn = l.length - i ∧ S = mkS [(0, .p (.sl 4 (l.map encP))), (3, .pt 3 0 0), (5, I64 ((i : Int)))] [(3, 0, .var [I64 p.a, I64 p.b, I64 p.c, I64 p.d] false)] [(3, 1)]) (l.length - 0) ?_ ?_
  · exact ⟨_, wk_of (tms := [(0, .p (.sl 4 (l.map encP))), (3, .pt 3 0 0), (5, I64 ((0 : Int)))]) (bls := [(3, 0, .var [I64 p.a, I64 p.b, I64 p.c, I64 p.d] false)]) (gens := [(3, 1)]) ⟨rfl, rfl, rfl, trivial⟩ ⟨rfl, trivial⟩ ⟨rfl, trivial⟩ rfl, 0, ⟨by omega, by simp⟩, rfl, rfl⟩
  · rintro nn _ ⟨i, ⟨hi, hx⟩, hn1, rfl⟩
    refine cw_seq ?_
    refine cw_seq ?_
    refine cw_reg0 tok rfl rfl ?_
    refine c0 rfl (w_v (I64 ((i : Int))) rfl ?_)
    refine c0 rfl (w_v (.p (.sl 4 (l.map encP))) rfl ?_)
    refine c0 rfl (w_len (l.length) rfl rfl (by simp) ?_)
    refine c0 rfl (w_v (BO (decide ((i : Int) < (l.length : Int)))) rfl ?_)
    refine cn ?_
    refine cw_cond (t := decide ((i : Int) < (l.length : Int))) rfl (fun c1 => ?_) (fun c1 => ?_)
    ·
      replace c1 := of_decide_eq_true c1
      refine cw_skip ?_
      refine cw_seq ?_
      refine cw_block ?_
      refine cw_seq ?_
      refine cw_reg1 tok mixed rfl rfl ?_
      refine c0 rfl (w_v (.p (.sl 4 (l.map encP))) rfl ?_)
      refine c0 rfl (w_v (I64 ((i : Int))) rfl ?_)
      obtain ⟨q, hq⟩ := getE (l := l) (i := i) (by first | omega | (simp; omega))
      refine c0 rfl (w_ix ((i : Int)) (encP q) rfl rfl rfl (by omega) (getM hq) ?_)
      refine c0 rfl (w_v (.p (encP q)) rfl ?_)
      refine c0 rfl (w_v (.p (encP p)) rfl ?_)
      refine c0 rfl (w_eqag (decide (q = p)) rfl rfl rfl eqPl (dqPl q p) ?_)
      refine cn ⟨by kernel_rfl, ?_⟩
      refine cw_cond (t := decide (q = p)) rfl (fun c2 => ?_) (fun c2 => ?_)
      ·
        replace c2 := of_decide_eq_true c2
        refine cw_seq ?_
        refine cw_reg0 tok rfl rfl ?_
        refine c0 rfl (w_v (BO true) rfl ?_)
        refine cn ?_
        refine cw_ret ?_
        exact fin1 (bP true) (bP (decide (p ∈ l))) rfl (congrArg bP (by refine (decide_eq_true (hx.1 ?_)).symm; rw [drop_of hq]; simp_all : true = (decide (p ∈ l)))) rfl
      ·
        replace c2 := of_decide_eq_false c2
        refine cw_skip ?_
        refine cw_reg0 tok rfl rfl ?_
        refine c0 rfl (w_v (I64 ((i : Int))) rfl ?_)
        refine c0 rfl (w_i (((i + 1 : Nat) : Int)) rfl (by unfold inI; omega) ?_)
        refine c0 rfl (w_v (I64 (((i + 1 : Nat) : Int))) rfl ?_)
        refine cn ?_
        exact ⟨_, _, by omega, wk_of (tms := [(0, .p (.sl 4 (l.map encP))), (3, .pt 3 0 0), (5, I64 (((i + 1) : Int)))]) (bls := [(3, 0, .var [I64 p.a, I64 p.b, I64 p.c, I64 p.d] false)]) (gens := [(3, 1)]) ⟨rfl, rfl, rfl, trivial⟩ ⟨rfl, trivial⟩ ⟨rfl, trivial⟩ rfl, (i + 1), ⟨by omega, by rw [← hx, drop_of hq, List.mem_cons]; exact ⟨.inr, fun h => h.resolve_left fun e => absurd e.symm (by assumption)⟩⟩, rfl, rfl⟩
    ·
      replace c1 := of_decide_eq_false c1
      refine cw_exit ?_
      refine cw_seq ?_
      refine cw_reg0 tok rfl rfl ?_
      refine c0 rfl (w_v (BO false) rfl ?_)
      refine cn ?_
      refine cw_ret ?_
      exact fin1 (bP false) (bP (decide (p ∈ l))) rfl (congrArg bP (by refine (decide_eq_false fun h => ?_).symm; rw [← hx, List.drop_eq_nil_of_le (by omega)] at h; simp at h : false = (decide (p ∈ l)))) rfl
theorem rest_fn (l : List Pl) (p : Pl) (hp : okc p) (hn : l.length ≤ 1048576) : Fn PP 142 [.p (.sl 4 (l.map encP)), .p (encP p)] (.ow 31 4 ((rest l p).map encP) 0) [] := by
  refine fn_intro tok Go.Proofs.Try.func142 (c := _) rfl rfl (Nat.le_of_ble_eq_true rfl) ?_
  refine cw_seq ?_
  refine cw_reg0 tok rfl rfl ?_
  refine c0 rfl (w_box (g := 0) [I64 p.a, I64 p.b, I64 p.c, I64 p.d] rfl rfl rfl ?_)
  refine c0 rfl (w_v (.p (.lit nilSl)) rfl ?_)
  refine cn ?_
  refine cw_seq ?_
  refine cw_reg0 tok rfl rfl ?_
  refine c0 rfl (w_bsl (g := 0) [] rfl rfl rfl rfl (Nat.le_of_ble_eq_true rfl) (Nat.le_of_ble_eq_true rfl) (Nat.le_of_ble_eq_true rfl) (.nil _) rfl rfl ?_)
  refine c0 rfl (w_v (.os 7 0 0) rfl ?_)
  refine cn ?_
  refine cw_seq ?_
  refine cw_seq ?_
  refine cw_reg0 tok rfl rfl ?_
  refine c0 rfl (w_v (I64 0) rfl ?_)
  refine cn ?_
  refine cw_block ?_
  refine cw_loopI (fun nn S => ∃ i : Nat, ∃ out : List Pl, ((i ≤ l.length ∧ out.length ≤ i) ∧ out ++ rest (l.drop i) p = rest l p) ∧ nn = l.length - i ∧ S = mkS [(0, .p (.sl 4 (l.map encP))), (3, .pt 3 0 0), (5, .os 7 0 out.length), (6, I64 ((i : Int)))] [(3, 0, .var [I64 p.a, I64 p.b, I64 p.c, I64 p.d] false), (7, 0, .arr 31 4 (out.map encP) 0)] [(3, 1), (7, 1)]) (l.length - 0) ?_ ?_
  · exact ⟨_, wk_of (tms := [(0, .p (.sl 4 (l.map encP))), (3, .pt 3 0 0), (5, .os 7 0 (([]).length)), (6, I64 ((0 : Int)))]) (bls := [(3, 0, .var [I64 p.a, I64 p.b, I64 p.c, I64 p.d] false), (7, 0, .arr 31 4 ((([])).map encP) 0)]) (gens := [(3, 1), (7, 1)]) ⟨rfl, rfl, rfl, rfl, trivial⟩ ⟨rfl, rfl, trivial⟩ ⟨rfl, rfl, trivial⟩ rfl, 0, [], ⟨⟨by omega, by simp⟩, rfl⟩, rfl, rfl⟩
  · rintro nn _ ⟨i, out, ⟨⟨hi, ho⟩, hx⟩, hn1, rfl⟩
    refine cw_seq ?_
    refine cw_seq ?_
    refine cw_reg0 tok rfl rfl ?_
    refine c0 rfl (w_v (I64 ((i : Int))) rfl ?_)
    refine c0 rfl (w_v (.p (.sl 4 (l.map encP))) rfl ?_)
    refine c0 rfl (w_len (l.length) rfl rfl (by simp) ?_)
    refine c0 rfl (w_v (BO (decide ((i : Int) < (l.length : Int)))) rfl ?_)
    refine cn ?_
    refine cw_cond (t := decide ((i : Int) < (l.length : Int))) rfl (fun c1 => ?_) (fun c1 => ?_)
    ·
      replace c1 := of_decide_eq_true c1
      refine cw_skip ?_
      refine cw_seq ?_
      refine cw_block ?_
      refine cw_seq ?_
      refine cw_reg1 tok mixed rfl rfl ?_
      refine c0 rfl (w_v (.p (.sl 4 (l.map encP))) rfl ?_)
      refine c0 rfl (w_v (I64 ((i : Int))) rfl ?_)
      obtain ⟨q, hq⟩ := getE (l := l) (i := i) (by first | omega | (simp; omega))
      refine c0 rfl (w_ix ((i : Int)) (encP q) rfl rfl rfl (by omega) (getM hq) ?_)
      refine c0 rfl (w_v (.p (encP q)) rfl ?_)
      refine c0 rfl (w_v (.p (encP p)) rfl ?_)
      refine c0 rfl (w_eqag (decide (q ≠ p)) rfl rfl rfl eqPl (dnPl q p) ?_)
      refine c0 rfl (w_v (BO (decide (q ≠ p))) rfl ?_)
      refine cgS (b := decide (q ≠ p)) rfl rfl rfl (fun c2 => ?_) (fun c2 => ?_)
      ·
        replace c2 := of_decide_eq_true c2
        refine cgT rfl rfl rfl (w_v (.p (.sl 4 (l.map encP))) rfl ?_)
        refine cgT rfl rfl rfl (w_v (I64 ((i : Int))) rfl ?_)
        refine cgT rfl rfl rfl (w_ix ((i : Int)) (encP q) rfl rfl rfl (by omega) (getM hq) ?_)
        refine cgT rfl rfl rfl (w_v (.p (encP q)) rfl ?_)
        refine cgT rfl rfl rfl (w_v (.p (encP p)) rfl ?_)
        refine cgT rfl rfl rfl (w_call_1 (l3Flip_fn p hp) rfl rfl ?_)
        refine cgT rfl rfl rfl (w_eqag (decide (q ≠ (flip p))) rfl rfl rfl eqPl (dnPl q (flip p)) ?_)
        refine c0 rfl (w_v (BO (decide (q ≠ (flip p)))) rfl ?_)
        refine cn ⟨by kernel_rfl, ?_⟩
        refine cw_cond (t := decide (q ≠ (flip p))) rfl (fun c3 => ?_) (fun c3 => ?_)
        ·
          replace c3 := of_decide_eq_true c3
          refine cw_reg0 tok rfl rfl ?_
          refine c0 rfl (w_v (.os 7 0 out.length) rfl ?_)
          refine c0 rfl (w_v (.p (.sl 4 (l.map encP))) rfl ?_)
          refine c0 rfl (w_v (I64 ((i : Int))) rfl ?_)
          refine c0 rfl (w_ix ((i : Int)) (encP q) rfl rfl rfl (by omega) (getM hq) ?_)
          refine c0 rfl (w_v (.p (encP q)) rfl ?_)
          refine c0 rfl (w_bsl (g := 1) [encP q] rfl rfl rfl rfl (Nat.le_of_ble_eq_true rfl) (Nat.le_of_ble_eq_true rfl) (Nat.le_of_ble_eq_true rfl) (.cons _ _ _ _ _ _ _ [] [] (.one _ _ _ _ _ (.p _ _)) (.nil _)) rfl rfl ?_)
          refine c0 rfl (w_appo (([q]).map encP) ((out ++ ([q])).map encP) ((out ++ ([q])).length) rfl rfl rfl rfl rfl (list_os rfl rfl) (Nat.le_of_ble_eq_true rfl) (sz_map fun _ => rfl) (by simp) rfl rfl (by show (_ + _) * 32 ≤ _; (try simp) <;> omega) (by (try simp) <;> omega) List.map_append.symm (by simp) ?_)
          refine c0 rfl (w_v (.os 7 0 ((out ++ ([q])).length)) rfl ?_)
          refine cn ?_
          refine cw_reg0 tok rfl rfl ?_
          refine c0 rfl (w_v (I64 ((i : Int))) rfl ?_)
          refine c0 rfl (w_i (((i + 1 : Nat) : Int)) rfl (by unfold inI; omega) ?_)
          refine c0 rfl (w_v (I64 (((i + 1 : Nat) : Int))) rfl ?_)
          refine cn ?_
          exact ⟨_, _, by omega, wk_of (tms := [(0, .p (.sl 4 (l.map encP))), (3, .pt 3 0 0), (5, .os 7 0 ((out ++ ([q])).length)), (6, I64 (((i + 1) : Int)))]) (bls := [(3, 0, .var [I64 p.a, I64 p.b, I64 p.c, I64 p.d] false), (7, 0, .arr 31 4 (((out ++ ([q]))).map encP) 0)]) (gens := [(3, 1), (7, 1)]) ⟨rfl, rfl, rfl, rfl, trivial⟩ ⟨rfl, rfl, trivial⟩ ⟨rfl, rfl, trivial⟩ rfl, (i + 1), (out ++ ([q])), ⟨⟨by omega, by first | omega | (simp; omega)⟩, by rw [← hx, drop_of hq]; simp_all [rest]⟩, rfl, rfl⟩
        ·
          replace c3 := of_decide_eq_false c3
          refine cw_skip ?_
          refine cw_reg0 tok rfl rfl ?_
          refine c0 rfl (w_v (I64 ((i : Int))) rfl ?_)
          refine c0 rfl (w_i (((i + 1 : Nat) : Int)) rfl (by unfold inI; omega) ?_)
          refine c0 rfl (w_v (I64 (((i + 1 : Nat) : Int))) rfl ?_)
          refine cn ?_
          exact ⟨_, _, by omega, wk_of (tms := [(0, .p (.sl 4 (l.map encP))), (3, .pt 3 0 0), (5, .os 7 0 out.length), (6, I64 (((i + 1) : Int)))]) (bls := [(3, 0, .var [I64 p.a, I64 p.b, I64 p.c, I64 p.d] false), (7, 0, .arr 31 4 (out.map encP) 0)]) (gens := [(3, 1), (7, 1)]) ⟨rfl, rfl, rfl, rfl, trivial⟩ ⟨rfl, rfl, trivial⟩ ⟨rfl, rfl, trivial⟩ rfl, (i + 1), out, ⟨⟨by omega, by first | omega | (simp; omega)⟩, by rw [← hx, drop_of hq]; simp_all [rest]⟩, rfl, rfl⟩
      ·
        replace c2 := of_decide_eq_false c2
        refine cgF (v := .bool false) rfl rfl rfl rfl ?_
        refine cgF (v := .bool false) rfl rfl rfl rfl ?_
        refine cgF (v := .bool false) rfl rfl rfl rfl ?_
        refine cgF (v := .bool false) rfl rfl rfl rfl ?_
        refine cgF (v := .bool false) rfl rfl rfl rfl ?_
        refine cgF (v := .bool false) rfl rfl rfl rfl ?_
        refine cgF (v := .bool false) rfl rfl rfl rfl ?_
        refine c0 rfl (w_v (BO false) rfl ?_)
        refine cn ⟨by kernel_rfl, ?_⟩
        refine cw_cond (t := false) rfl (fun h => nomatch h) (fun _ => ?_)
        refine cw_skip ?_
        refine cw_reg0 tok rfl rfl ?_
        refine c0 rfl (w_v (I64 ((i : Int))) rfl ?_)
        refine c0 rfl (w_i (((i + 1 : Nat) : Int)) rfl (by unfold inI; omega) ?_)
        refine c0 rfl (w_v (I64 (((i + 1 : Nat) : Int))) rfl ?_)
        refine cn ?_
        exact ⟨_, _, by omega, wk_of (tms := [(0, .p (.sl 4 (l.map encP))), (3, .pt 3 0 0), (5, .os 7 0 out.length), (6, I64 (((i + 1) : Int)))]) (bls := [(3, 0, .var [I64 p.a, I64 p.b, I64 p.c, I64 p.d] false), (7, 0, .arr 31 4 (out.map encP) 0)]) (gens := [(3, 1), (7, 1)]) ⟨rfl, rfl, rfl, rfl, trivial⟩ ⟨rfl, rfl, trivial⟩ ⟨rfl, rfl, trivial⟩ rfl, (i + 1), out, ⟨⟨by omega, by first | omega | (simp; omega)⟩, by rw [← hx, drop_of hq]; simp_all [rest]⟩, rfl, rfl⟩
    ·
      replace c1 := of_decide_eq_false c1
      refine cw_exit ?_
      refine cw_seq ?_
      refine cw_reg0 tok rfl rfl ?_
      refine c0 rfl (w_v (.os 7 0 out.length) rfl ?_)
      refine c0 rfl (w_v (.os 7 0 out.length) rfl ?_)
      refine cn ?_
      refine cw_ret ?_
      exact finOw rfl rfl (by simp) (congrArg (fun z => z.map encP) (by rw [← hx, List.drop_eq_nil_of_le (by omega)]; simp [rest] : out = (rest l p))) rfl
theorem sopen_fn (list : List Pl) (hl : ∀ q ∈ list, okc q) (hn : list.length ≤ 1048576) : Fn PP 113 [.p (.sl 4 (list.map encP))] (.p (bP (opn list))) [] := by
  refine fn_intro tok Go.Proofs.Try.func113 (c := _) rfl rfl (Nat.le_of_ble_eq_true rfl) ?_
  refine cw_seq ?_
  refine cw_reg0 tok rfl rfl ?_
  refine c0 rfl (w_v (BO false) rfl ?_)
  refine cn ?_
  refine cw_seq ?_
  refine cw_seq ?_
  refine cw_reg0 tok rfl rfl ?_
  refine c0 rfl (w_v (I64 1) rfl ?_)
  refine cn ?_
  refine cw_block ?_
  refine cw_loopI (fun nn S => ∃ i : Nat, ((1 ≤ i ∧ (i ≤ list.length ∨ i = 1)) ∧ opnA (list.take i) (list.drop i) = opn list) ∧ nn = list.length - i ∧ S = mkS [(0, .p (.sl 4 (list.map encP))), (3, I64 ((i : Int)))] [] []) (list.length - 1) ?_ ?_
  · exact ⟨_, wk_of (tms := [(0, .p (.sl 4 (list.map encP))), (3, I64 ((1 : Int)))]) (bls := []) (gens := []) ⟨rfl, rfl, trivial⟩ trivial trivial rfl, 1, ⟨by omega, opn_1 list⟩, rfl, rfl⟩
  · rintro nn _ ⟨i, ⟨hi, hx⟩, hn1, rfl⟩
    refine cw_seq ?_
    refine cw_seq ?_
    refine cw_reg0 tok rfl rfl ?_
    refine c0 rfl (w_v (I64 ((i : Int))) rfl ?_)
    refine c0 rfl (w_v (.p (.sl 4 (list.map encP))) rfl ?_)
    refine c0 rfl (w_len (list.length) rfl rfl (by simp) ?_)
    refine c0 rfl (w_v (BO (decide ((i : Int) < (list.length : Int)))) rfl ?_)
    refine cn ?_
    refine cw_cond (t := decide ((i : Int) < (list.length : Int))) rfl (fun c1 => ?_) (fun c1 => ?_)
    ·
      replace c1 := of_decide_eq_true c1
      refine cw_skip ?_
      refine cw_seq ?_
      refine cw_block ?_
      refine cw_seq ?_
      refine cw_reg1 tok mixed rfl rfl ?_
      refine c0 rfl (w_v (.p (.sl 4 (list.map encP))) rfl ?_)
      refine c0 rfl (w_v (I64 ((i : Int))) rfl ?_)
      refine c0 rfl (w_sub (0) (i) ((list.take i).map encP) rfl rfl rfl rfl rfl rfl rfl (by omega) (by (try simp) <;> omega) mapT ?_)
      refine c0 rfl (w_v (.p (.sl 4 (list.map encP))) rfl ?_)
      refine c0 rfl (w_v (I64 ((i : Int))) rfl ?_)
      obtain ⟨q, hq⟩ := getE (l := list) (i := i) (by first | omega | (simp; omega))
      refine c0 rfl (w_ix ((i : Int)) (encP q) rfl rfl rfl (by omega) (getM hq) ?_)
      refine c0 rfl (w_v (.p (encP q)) rfl ?_)
      refine c0 rfl (w_call_2 (l6With_fn (list.take i) q (fun x hx => hl x (List.mem_of_mem_take hx)) (hl _ (List.mem_of_getElem? hq)) (by simp; omega)) rfl rfl rfl ?_)
      refine cn ⟨by kernel_rfl, ?_⟩
      refine cw_cond (t := !room (list.take i) q) rfl (fun c2 => ?_) (fun c2 => ?_)
      ·
        replace c2 := nt c2
        refine cw_seq ?_
        refine cw_reg0 tok rfl rfl ?_
        refine c0 rfl (w_v (BO false) rfl ?_)
        refine cn ?_
        refine cw_ret ?_
        exact fin1 (bP false) (bP (opn list)) rfl (congrArg bP (by rw [← hx, drop_of hq, opnA]; simp_all : false = (opn list))) rfl
      ·
        replace c2 := nf c2
        refine cw_skip ?_
        refine cw_reg0 tok rfl rfl ?_
        refine c0 rfl (w_v (I64 ((i : Int))) rfl ?_)
        refine c0 rfl (w_i (((i + 1 : Nat) : Int)) rfl (by unfold inI; omega) ?_)
        refine c0 rfl (w_v (I64 (((i + 1 : Nat) : Int))) rfl ?_)
        refine cn ?_
        exact ⟨_, _, by omega, wk_of (tms := [(0, .p (.sl 4 (list.map encP))), (3, I64 (((i + 1) : Int)))]) (bls := []) (gens := []) ⟨rfl, rfl, trivial⟩ trivial trivial rfl, (i + 1), ⟨by omega, by rw [← hx, drop_of hq, opnA, take_su hq]; simp_all⟩, rfl, rfl⟩
    ·
      replace c1 := of_decide_eq_false c1
      refine cw_exit ?_
      refine cw_seq ?_
      refine cw_reg0 tok rfl rfl ?_
      refine c0 rfl (w_v (BO true) rfl ?_)
      refine cn ?_
      refine cw_ret ?_
      exact fin1 (bP true) (bP (opn list)) rfl (congrArg bP (by rw [← hx, List.drop_eq_nil_of_le (by omega)]; rfl : true = (opn list))) rfl
theorem meet_fn (a : List Pl) (b : List Pl) (p : Pl) (ha : ∀ q ∈ a, okc q) (hb : ∀ q ∈ b, okc q) (hp : okc p) (hna : a.length ≤ 1000) (hnb : b.length ≤ 1000) : Fn PP 67 [.p (.sl 4 (a.map encP)), .p (.sl 4 (b.map encP)), .p (encP p)] (.p (bP (meetS a b p))) [] := by
  refine fn_intro tok Go.Proofs.Try.func67 (c := _) rfl rfl (Nat.le_of_ble_eq_true rfl) ?_
  refine cw_seq ?_
  refine cw_reg0 tok rfl rfl ?_
  refine c0 rfl (w_box (g := 0) [I64 p.a, I64 p.b, I64 p.c, I64 p.d] rfl rfl rfl ?_)
  refine c0 rfl (w_v (BO false) rfl ?_)
  refine cn ?_
  refine cw_seq ?_
  refine cw_seq ?_
  refine cw_reg0 tok rfl rfl ?_
  refine c0 rfl (w_v (.p (.sl 4 (a.map encP))) rfl ?_)
  refine c0 rfl (w_v (.p (encP p)) rfl ?_)
  refine c0 rfl (w_call_2 (among_fn a p (by first | assumption | omega)) rfl rfl rfl ?_)
  refine c0 rfl (w_v (BO (decide (p ∈ a))) rfl ?_)
  refine cgS (b := decide (p ∈ a)) rfl rfl rfl (fun c1 => ?_) (fun c1 => ?_)
  ·
    replace c1 := of_decide_eq_true c1
    refine cgT rfl rfl rfl (w_v (.p (.sl 4 (b.map encP))) rfl ?_)
    refine cgT rfl rfl rfl (w_v (.p (encP p)) rfl ?_)
    refine cgT rfl rfl rfl (w_call_1 (l3Flip_fn p hp) rfl rfl ?_)
    refine cgT rfl rfl rfl (w_call_2 (among_fn b (flip p) (by first | assumption | omega)) rfl rfl rfl ?_)
    refine c0 rfl (w_v (BO (decide ((flip p) ∈ b))) rfl ?_)
    refine c0 rfl (w_v (BO (decide ((flip p) ∈ b))) rfl ?_)
    refine cgS (b := decide ((flip p) ∈ b)) rfl rfl rfl (fun c2 => ?_) (fun c2 => ?_)
    ·
      replace c2 := of_decide_eq_true c2
      refine cgF (v := .bool true) rfl rfl rfl rfl ?_
      refine cgF (v := .bool true) rfl rfl rfl rfl ?_
      refine cgF (v := .bool true) rfl rfl rfl rfl ?_
      refine cgF (v := .bool true) rfl rfl rfl rfl ?_
      refine cgF (v := undef) rfl rfl rfl rfl ?_
      refine cgF (v := undef) rfl rfl rfl rfl ?_
      refine cgF (v := undef) rfl rfl rfl rfl ?_
      refine cgF (v := undef) rfl rfl rfl rfl ?_
      refine cgF (v := .bool true) rfl rfl rfl rfl ?_
      refine c0 rfl (w_v (BO true) rfl ?_)
      refine c0 rfl (w_v (BO false) rfl ?_)
      refine cn ?_
      refine cw_cond (t := false) rfl (fun h => nomatch h) (fun _ => ?_)
      refine cw_skip ?_
      refine cw_seq ?_
      refine cw_reg1 tok mixed rfl rfl ?_
      refine c0 rfl (w_v (.p (.sl 4 (a.map encP))) rfl ?_)
      refine c0 rfl (w_v (.p (encP p)) rfl ?_)
      refine c0 rfl (w_call (.os 31 0 ((rest a p).length)) (rest_fn a p hp (by omega)) rfl (.cons _ _ _ _ _ _ _ [] _ (.one _ _ _ _ _ (.p _ _)) (.cons _ _ _ _ _ _ _ [] _ (.one _ _ _ _ _ (.p _ _)) (.nil _))) rfl (.one _ _ _ _ (recvOw (n := (rest a p).length) (g := 0) (by simp) rfl)) ?_)
      refine c0 rfl (w_v (.p (.sl 4 (b.map encP))) rfl ?_)
      refine c0 rfl (w_v (.p (encP p)) rfl ?_)
      refine c0 rfl (w_call (.os 34 0 ((rest b p).length)) (rest_fn b p hp (by omega)) rfl (.cons _ _ _ _ _ _ _ [] _ (.one _ _ _ _ _ (.p _ _)) (.cons _ _ _ _ _ _ _ [] _ (.one _ _ _ _ _ (.p _ _)) (.nil _))) rfl (.one _ _ _ _ (recvOw (n := (rest b p).length) (g := 0) (by simp) rfl)) ?_)
      have hr1 := rest_le a p
      have hr2 := rest_le b p
      refine c0 rfl (w_appo ((rest b p).map encP) (((rest a p) ++ (rest b p)).map encP) (((rest a p) ++ (rest b p)).length) rfl rfl rfl rfl rfl (list_os rfl (by simp)) (Nat.le_of_ble_eq_true rfl) (sz_map fun _ => rfl) (by simp) rfl rfl (by show (_ + _) * 32 ≤ _; (try simp) <;> omega) (by (try simp) <;> omega) List.map_append.symm (by simp) ?_)
      refine c0 rfl (w_v (.os 31 0 (((rest a p) ++ (rest b p)).length)) rfl ?_)
      refine cn ⟨by kernel_rfl, ?_⟩
      refine cw_seq ?_
      refine cw_reg0 tok rfl rfl ?_
      refine c0 rfl (w_v (.os 31 0 (((rest a p) ++ (rest b p)).length)) rfl ?_)
      refine c0 rfl (w_call (BO (opn ((rest a p) ++ (rest b p)))) (sopen_fn ((rest a p) ++ (rest b p)) (rest_ok ha hb) (by have := rest_le a p; have := rest_le b p; simp; omega)) rfl (.cons _ _ _ _ _ _ _ [] _ (.one _ _ _ _ _ (passOs (xs := ((rest a p) ++ (rest b p)).map encP) rfl (by simp))) (.nil _)) rfl (.one _ _ _ _ (.p _ _)) ?_)
      refine c0 rfl (w_v (BO (opn ((rest a p) ++ (rest b p)))) rfl ?_)
      refine cgS (b := opn ((rest a p) ++ (rest b p))) rfl rfl rfl (fun c3 => ?_) (fun c3 => ?_)
      ·
        refine cgT rfl rfl rfl (w_v (.os 31 0 (((rest a p) ++ (rest b p)).length)) rfl ?_)
        refine cgT rfl rfl rfl (w_v (.p (encP p)) rfl ?_)
        refine cgT rfl rfl rfl (w_call (BO (!room ((rest a p) ++ (rest b p)) p)) (l6With_fn ((rest a p) ++ (rest b p)) p (rest_ok ha hb) hp (by have := rest_le a p; have := rest_le b p; simp; omega)) rfl (.cons _ _ _ _ _ _ _ [] _ (.one _ _ _ _ _ (passOs (xs := ((rest a p) ++ (rest b p)).map encP) rfl (by simp))) (.cons _ _ _ _ _ _ _ [] _ (.one _ _ _ _ _ (.p _ _)) (.nil _))) rfl (.one _ _ _ _ (.p _ _)) ?_)
        refine cgT rfl rfl rfl (w_v (BO (!(!room ((rest a p) ++ (rest b p)) p))) rfl ?_)
        refine c0 rfl (w_v (BO (!(!room ((rest a p) ++ (rest b p)) p))) rfl ?_)
        refine c0 rfl (w_v (BO (!(!room ((rest a p) ++ (rest b p)) p))) rfl ?_)
        refine cgS (b := !(!room ((rest a p) ++ (rest b p)) p)) rfl rfl rfl (fun c4 => ?_) (fun c4 => ?_)
        ·
          replace c4 := nt c4
          replace c4 := nf c4
          refine cgT rfl rfl rfl (w_v (.os 31 0 (((rest a p) ++ (rest b p)).length)) rfl ?_)
          refine cgT rfl rfl rfl (w_v (.p (encP p)) rfl ?_)
          refine cgT rfl rfl rfl (w_call_1 (l3Flip_fn p hp) rfl rfl ?_)
          refine cgT rfl rfl rfl (w_call (BO (!room ((rest a p) ++ (rest b p)) (flip p))) (l6With_fn ((rest a p) ++ (rest b p)) (flip p) (rest_ok ha hb) (okc_flip hp) (by have := rest_le a p; have := rest_le b p; simp; omega)) rfl (.cons _ _ _ _ _ _ _ [] _ (.one _ _ _ _ _ (passOs (xs := ((rest a p) ++ (rest b p)).map encP) rfl (by simp))) (.cons _ _ _ _ _ _ _ [] _ (.one _ _ _ _ _ (.p _ _)) (.nil _))) rfl (.one _ _ _ _ (.p _ _)) ?_)
          refine cgT rfl rfl rfl (w_v (BO (!(!room ((rest a p) ++ (rest b p)) (flip p)))) rfl ?_)
          refine c0 rfl (w_v (BO (!(!room ((rest a p) ++ (rest b p)) (flip p)))) rfl ?_)
          refine c0 rfl (w_v (BO (!(!room ((rest a p) ++ (rest b p)) (flip p)))) rfl ?_)
          refine cn ?_
          refine cw_ret ?_
          exact fin1 (bP (!(!room ((rest a p) ++ (rest b p)) (flip p)))) (bP (meetS a b p)) rfl (congrArg bP (by unfold meetS; simp_all : (!(!room ((rest a p) ++ (rest b p)) (flip p))) = (meetS a b p))) rfl
        ·
          replace c4 := nf c4
          replace c4 := nt c4
          refine cgF (v := .bool false) rfl rfl rfl rfl ?_
          refine cgF (v := .bool false) rfl rfl rfl rfl ?_
          refine cgF (v := .bool false) rfl rfl rfl rfl ?_
          refine cgF (v := .bool false) rfl rfl rfl rfl ?_
          refine cgF (v := .bool false) rfl rfl rfl rfl ?_
          refine c0 rfl (w_v (BO false) rfl ?_)
          refine c0 rfl (w_v (BO false) rfl ?_)
          refine cn ?_
          refine cw_ret ?_
          exact fin1 (bP false) (bP (meetS a b p)) rfl (congrArg bP (by unfold meetS; simp_all : false = (meetS a b p))) rfl
      ·
        refine cgF (v := .bool false) rfl rfl rfl rfl ?_
        refine cgF (v := .bool false) rfl rfl rfl rfl ?_
        refine cgF (v := .bool false) rfl rfl rfl rfl ?_
        refine cgF (v := .bool false) rfl rfl rfl rfl ?_
        refine c0 rfl (w_v (BO false) rfl ?_)
        refine c0 rfl (w_v (BO false) rfl ?_)
        refine cgF (v := .bool false) rfl rfl rfl rfl ?_
        refine cgF (v := .bool false) rfl rfl rfl rfl ?_
        refine cgF (v := .bool false) rfl rfl rfl rfl ?_
        refine cgF (v := .bool false) rfl rfl rfl rfl ?_
        refine cgF (v := .bool false) rfl rfl rfl rfl ?_
        refine c0 rfl (w_v (BO false) rfl ?_)
        refine c0 rfl (w_v (BO false) rfl ?_)
        refine cn ?_
        refine cw_ret ?_
        exact fin1 (bP false) (bP (meetS a b p)) rfl (congrArg bP (by unfold meetS; simp_all : false = (meetS a b p))) rfl
    ·
      replace c2 := of_decide_eq_false c2
      refine cgT rfl rfl rfl (w_v (.p (.sl 4 (b.map encP))) rfl ?_)
      refine cgT rfl rfl rfl (w_v (.p (encP p)) rfl ?_)
      refine cgT rfl rfl rfl (w_call_2 (among_fn b p (by first | assumption | omega)) rfl rfl rfl ?_)
      refine cgT rfl rfl rfl (w_v (BO (decide (p ∈ b))) rfl ?_)
      refine cgS (b := decide (p ∈ b)) rfl rfl rfl (fun c5 => ?_) (fun c5 => ?_)
      ·
        replace c5 := of_decide_eq_true c5
        refine cgT rfl rfl rfl (w_v (.p (.sl 4 (a.map encP))) rfl ?_)
        refine cgT rfl rfl rfl (w_v (.p (encP p)) rfl ?_)
        refine cgT rfl rfl rfl (w_call_1 (l3Flip_fn p hp) rfl rfl ?_)
        refine cgT rfl rfl rfl (w_call_2 (among_fn a (flip p) (by first | assumption | omega)) rfl rfl rfl ?_)
        refine cgT rfl rfl rfl (w_v (BO (decide ((flip p) ∈ a))) rfl ?_)
        refine c0 rfl (w_v (BO (decide ((flip p) ∈ a))) rfl ?_)
        refine c0 rfl (w_v (BO (!(decide ((flip p) ∈ a)))) rfl ?_)
        refine cn ?_
        refine cw_cond (t := !(decide ((flip p) ∈ a))) rfl (fun c6 => ?_) (fun c6 => ?_)
        ·
          replace c6 := nt c6
          replace c6 := of_decide_eq_false c6
          refine cw_seq ?_
          refine cw_reg0 tok rfl rfl ?_
          refine c0 rfl (w_v (BO false) rfl ?_)
          refine cn ?_
          refine cw_ret ?_
          exact fin1 (bP false) (bP (meetS a b p)) rfl (congrArg bP (by unfold meetS; simp_all : false = (meetS a b p))) rfl
        ·
          replace c6 := nf c6
          replace c6 := of_decide_eq_true c6
          refine cw_skip ?_
          refine cw_seq ?_
          refine cw_reg1 tok mixed rfl rfl ?_
          refine c0 rfl (w_v (.p (.sl 4 (a.map encP))) rfl ?_)
          refine c0 rfl (w_v (.p (encP p)) rfl ?_)
          refine c0 rfl (w_call (.os 31 0 ((rest a p).length)) (rest_fn a p hp (by omega)) rfl (.cons _ _ _ _ _ _ _ [] _ (.one _ _ _ _ _ (.p _ _)) (.cons _ _ _ _ _ _ _ [] _ (.one _ _ _ _ _ (.p _ _)) (.nil _))) rfl (.one _ _ _ _ (recvOw (n := (rest a p).length) (g := 0) (by simp) rfl)) ?_)
          refine c0 rfl (w_v (.p (.sl 4 (b.map encP))) rfl ?_)
          refine c0 rfl (w_v (.p (encP p)) rfl ?_)
          refine c0 rfl (w_call (.os 34 0 ((rest b p).length)) (rest_fn b p hp (by omega)) rfl (.cons _ _ _ _ _ _ _ [] _ (.one _ _ _ _ _ (.p _ _)) (.cons _ _ _ _ _ _ _ [] _ (.one _ _ _ _ _ (.p _ _)) (.nil _))) rfl (.one _ _ _ _ (recvOw (n := (rest b p).length) (g := 0) (by simp) rfl)) ?_)
          have hr1 := rest_le a p
          have hr2 := rest_le b p
          refine c0 rfl (w_appo ((rest b p).map encP) (((rest a p) ++ (rest b p)).map encP) (((rest a p) ++ (rest b p)).length) rfl rfl rfl rfl rfl (list_os rfl (by simp)) (Nat.le_of_ble_eq_true rfl) (sz_map fun _ => rfl) (by simp) rfl rfl (by show (_ + _) * 32 ≤ _; (try simp) <;> omega) (by (try simp) <;> omega) List.map_append.symm (by simp) ?_)
          refine c0 rfl (w_v (.os 31 0 (((rest a p) ++ (rest b p)).length)) rfl ?_)
          refine cn ⟨by kernel_rfl, ?_⟩
          refine cw_seq ?_
          refine cw_reg0 tok rfl rfl ?_
          refine c0 rfl (w_v (.os 31 0 (((rest a p) ++ (rest b p)).length)) rfl ?_)
          refine c0 rfl (w_call (BO (opn ((rest a p) ++ (rest b p)))) (sopen_fn ((rest a p) ++ (rest b p)) (rest_ok ha hb) (by have := rest_le a p; have := rest_le b p; simp; omega)) rfl (.cons _ _ _ _ _ _ _ [] _ (.one _ _ _ _ _ (passOs (xs := ((rest a p) ++ (rest b p)).map encP) rfl (by simp))) (.nil _)) rfl (.one _ _ _ _ (.p _ _)) ?_)
          refine c0 rfl (w_v (BO (opn ((rest a p) ++ (rest b p)))) rfl ?_)
          refine cgS (b := opn ((rest a p) ++ (rest b p))) rfl rfl rfl (fun c7 => ?_) (fun c7 => ?_)
          ·
            refine cgT rfl rfl rfl (w_v (.os 31 0 (((rest a p) ++ (rest b p)).length)) rfl ?_)
            refine cgT rfl rfl rfl (w_v (.p (encP p)) rfl ?_)
            refine cgT rfl rfl rfl (w_call (BO (!room ((rest a p) ++ (rest b p)) p)) (l6With_fn ((rest a p) ++ (rest b p)) p (rest_ok ha hb) hp (by have := rest_le a p; have := rest_le b p; simp; omega)) rfl (.cons _ _ _ _ _ _ _ [] _ (.one _ _ _ _ _ (passOs (xs := ((rest a p) ++ (rest b p)).map encP) rfl (by simp))) (.cons _ _ _ _ _ _ _ [] _ (.one _ _ _ _ _ (.p _ _)) (.nil _))) rfl (.one _ _ _ _ (.p _ _)) ?_)
            refine cgT rfl rfl rfl (w_v (BO (!(!room ((rest a p) ++ (rest b p)) p))) rfl ?_)
            refine c0 rfl (w_v (BO (!(!room ((rest a p) ++ (rest b p)) p))) rfl ?_)
            refine c0 rfl (w_v (BO (!(!room ((rest a p) ++ (rest b p)) p))) rfl ?_)
            refine cgS (b := !(!room ((rest a p) ++ (rest b p)) p)) rfl rfl rfl (fun c8 => ?_) (fun c8 => ?_)
            ·
              replace c8 := nt c8
              replace c8 := nf c8
              refine cgT rfl rfl rfl (w_v (.os 31 0 (((rest a p) ++ (rest b p)).length)) rfl ?_)
              refine cgT rfl rfl rfl (w_v (.p (encP p)) rfl ?_)
              refine cgT rfl rfl rfl (w_call_1 (l3Flip_fn p hp) rfl rfl ?_)
              refine cgT rfl rfl rfl (w_call (BO (!room ((rest a p) ++ (rest b p)) (flip p))) (l6With_fn ((rest a p) ++ (rest b p)) (flip p) (rest_ok ha hb) (okc_flip hp) (by have := rest_le a p; have := rest_le b p; simp; omega)) rfl (.cons _ _ _ _ _ _ _ [] _ (.one _ _ _ _ _ (passOs (xs := ((rest a p) ++ (rest b p)).map encP) rfl (by simp))) (.cons _ _ _ _ _ _ _ [] _ (.one _ _ _ _ _ (.p _ _)) (.nil _))) rfl (.one _ _ _ _ (.p _ _)) ?_)
              refine cgT rfl rfl rfl (w_v (BO (!(!room ((rest a p) ++ (rest b p)) (flip p)))) rfl ?_)
              refine c0 rfl (w_v (BO (!(!room ((rest a p) ++ (rest b p)) (flip p)))) rfl ?_)
              refine c0 rfl (w_v (BO (!(!room ((rest a p) ++ (rest b p)) (flip p)))) rfl ?_)
              refine cn ?_
              refine cw_ret ?_
              exact fin1 (bP (!(!room ((rest a p) ++ (rest b p)) (flip p)))) (bP (meetS a b p)) rfl (congrArg bP (by unfold meetS; simp_all : (!(!room ((rest a p) ++ (rest b p)) (flip p))) = (meetS a b p))) rfl
            ·
              replace c8 := nf c8
              replace c8 := nt c8
              refine cgF (v := .bool false) rfl rfl rfl rfl ?_
              refine cgF (v := .bool false) rfl rfl rfl rfl ?_
              refine cgF (v := .bool false) rfl rfl rfl rfl ?_
              refine cgF (v := .bool false) rfl rfl rfl rfl ?_
              refine cgF (v := .bool false) rfl rfl rfl rfl ?_
              refine c0 rfl (w_v (BO false) rfl ?_)
              refine c0 rfl (w_v (BO false) rfl ?_)
              refine cn ?_
              refine cw_ret ?_
              exact fin1 (bP false) (bP (meetS a b p)) rfl (congrArg bP (by unfold meetS; simp_all : false = (meetS a b p))) rfl
          ·
            refine cgF (v := .bool false) rfl rfl rfl rfl ?_
            refine cgF (v := .bool false) rfl rfl rfl rfl ?_
            refine cgF (v := .bool false) rfl rfl rfl rfl ?_
            refine cgF (v := .bool false) rfl rfl rfl rfl ?_
            refine c0 rfl (w_v (BO false) rfl ?_)
            refine c0 rfl (w_v (BO false) rfl ?_)
            refine cgF (v := .bool false) rfl rfl rfl rfl ?_
            refine cgF (v := .bool false) rfl rfl rfl rfl ?_
            refine cgF (v := .bool false) rfl rfl rfl rfl ?_
            refine cgF (v := .bool false) rfl rfl rfl rfl ?_
            refine cgF (v := .bool false) rfl rfl rfl rfl ?_
            refine c0 rfl (w_v (BO false) rfl ?_)
            refine c0 rfl (w_v (BO false) rfl ?_)
            refine cn ?_
            refine cw_ret ?_
            exact fin1 (bP false) (bP (meetS a b p)) rfl (congrArg bP (by unfold meetS; simp_all : false = (meetS a b p))) rfl
      ·
        replace c5 := of_decide_eq_false c5
        refine cgF (v := .bool false) rfl rfl rfl rfl ?_
        refine cgF (v := .bool false) rfl rfl rfl rfl ?_
        refine cgF (v := .bool false) rfl rfl rfl rfl ?_
        refine cgF (v := .bool false) rfl rfl rfl rfl ?_
        refine cgT rfl rfl rfl (w_v (BO false) rfl ?_)
        refine c0 rfl (w_v (BO false) rfl ?_)
        refine c0 rfl (w_v (BO true) rfl ?_)
        refine cn ?_
        refine cw_cond (t := true) rfl (fun _ => ?_) (fun h => nomatch h)
        refine cw_seq ?_
        refine cw_reg0 tok rfl rfl ?_
        refine c0 rfl (w_v (BO false) rfl ?_)
        refine cn ?_
        refine cw_ret ?_
        exact fin1 (bP false) (bP (meetS a b p)) rfl (congrArg bP (by unfold meetS; simp_all : false = (meetS a b p))) rfl
  ·
    replace c1 := of_decide_eq_false c1
    refine cgF (v := .bool false) rfl rfl rfl rfl ?_
    refine cgF (v := .bool false) rfl rfl rfl rfl ?_
    refine cgF (v := .bool false) rfl rfl rfl rfl ?_
    refine cgF (v := .bool false) rfl rfl rfl rfl ?_
    refine c0 rfl (w_v (BO false) rfl ?_)
    refine c0 rfl (w_v (BO false) rfl ?_)
    refine cgT rfl rfl rfl (w_v (.p (.sl 4 (b.map encP))) rfl ?_)
    refine cgT rfl rfl rfl (w_v (.p (encP p)) rfl ?_)
    refine cgT rfl rfl rfl (w_call_2 (among_fn b p (by first | assumption | omega)) rfl rfl rfl ?_)
    refine cgT rfl rfl rfl (w_v (BO (decide (p ∈ b))) rfl ?_)
    refine cgS (b := decide (p ∈ b)) rfl rfl rfl (fun c9 => ?_) (fun c9 => ?_)
    ·
      replace c9 := of_decide_eq_true c9
      refine cgT rfl rfl rfl (w_v (.p (.sl 4 (a.map encP))) rfl ?_)
      refine cgT rfl rfl rfl (w_v (.p (encP p)) rfl ?_)
      refine cgT rfl rfl rfl (w_call_1 (l3Flip_fn p hp) rfl rfl ?_)
      refine cgT rfl rfl rfl (w_call_2 (among_fn a (flip p) (by first | assumption | omega)) rfl rfl rfl ?_)
      refine cgT rfl rfl rfl (w_v (BO (decide ((flip p) ∈ a))) rfl ?_)
      refine c0 rfl (w_v (BO (decide ((flip p) ∈ a))) rfl ?_)
      refine c0 rfl (w_v (BO (!(decide ((flip p) ∈ a)))) rfl ?_)
      refine cn ?_
      refine cw_cond (t := !(decide ((flip p) ∈ a))) rfl (fun c10 => ?_) (fun c10 => ?_)
      ·
        replace c10 := nt c10
        replace c10 := of_decide_eq_false c10
        refine cw_seq ?_
        refine cw_reg0 tok rfl rfl ?_
        refine c0 rfl (w_v (BO false) rfl ?_)
        refine cn ?_
        refine cw_ret ?_
        exact fin1 (bP false) (bP (meetS a b p)) rfl (congrArg bP (by unfold meetS; simp_all : false = (meetS a b p))) rfl
      ·
        replace c10 := nf c10
        replace c10 := of_decide_eq_true c10
        refine cw_skip ?_
        refine cw_seq ?_
        refine cw_reg1 tok mixed rfl rfl ?_
        refine c0 rfl (w_v (.p (.sl 4 (a.map encP))) rfl ?_)
        refine c0 rfl (w_v (.p (encP p)) rfl ?_)
        refine c0 rfl (w_call (.os 31 0 ((rest a p).length)) (rest_fn a p hp (by omega)) rfl (.cons _ _ _ _ _ _ _ [] _ (.one _ _ _ _ _ (.p _ _)) (.cons _ _ _ _ _ _ _ [] _ (.one _ _ _ _ _ (.p _ _)) (.nil _))) rfl (.one _ _ _ _ (recvOw (n := (rest a p).length) (g := 0) (by simp) rfl)) ?_)
        refine c0 rfl (w_v (.p (.sl 4 (b.map encP))) rfl ?_)
        refine c0 rfl (w_v (.p (encP p)) rfl ?_)
        refine c0 rfl (w_call (.os 34 0 ((rest b p).length)) (rest_fn b p hp (by omega)) rfl (.cons _ _ _ _ _ _ _ [] _ (.one _ _ _ _ _ (.p _ _)) (.cons _ _ _ _ _ _ _ [] _ (.one _ _ _ _ _ (.p _ _)) (.nil _))) rfl (.one _ _ _ _ (recvOw (n := (rest b p).length) (g := 0) (by simp) rfl)) ?_)
        have hr1 := rest_le a p
        have hr2 := rest_le b p
        refine c0 rfl (w_appo ((rest b p).map encP) (((rest a p) ++ (rest b p)).map encP) (((rest a p) ++ (rest b p)).length) rfl rfl rfl rfl rfl (list_os rfl (by simp)) (Nat.le_of_ble_eq_true rfl) (sz_map fun _ => rfl) (by simp) rfl rfl (by show (_ + _) * 32 ≤ _; (try simp) <;> omega) (by (try simp) <;> omega) List.map_append.symm (by simp) ?_)
        refine c0 rfl (w_v (.os 31 0 (((rest a p) ++ (rest b p)).length)) rfl ?_)
        refine cn ⟨by kernel_rfl, ?_⟩
        refine cw_seq ?_
        refine cw_reg0 tok rfl rfl ?_
        refine c0 rfl (w_v (.os 31 0 (((rest a p) ++ (rest b p)).length)) rfl ?_)
        refine c0 rfl (w_call (BO (opn ((rest a p) ++ (rest b p)))) (sopen_fn ((rest a p) ++ (rest b p)) (rest_ok ha hb) (by have := rest_le a p; have := rest_le b p; simp; omega)) rfl (.cons _ _ _ _ _ _ _ [] _ (.one _ _ _ _ _ (passOs (xs := ((rest a p) ++ (rest b p)).map encP) rfl (by simp))) (.nil _)) rfl (.one _ _ _ _ (.p _ _)) ?_)
        refine c0 rfl (w_v (BO (opn ((rest a p) ++ (rest b p)))) rfl ?_)
        refine cgS (b := opn ((rest a p) ++ (rest b p))) rfl rfl rfl (fun c11 => ?_) (fun c11 => ?_)
        ·
          refine cgT rfl rfl rfl (w_v (.os 31 0 (((rest a p) ++ (rest b p)).length)) rfl ?_)
          refine cgT rfl rfl rfl (w_v (.p (encP p)) rfl ?_)
          refine cgT rfl rfl rfl (w_call (BO (!room ((rest a p) ++ (rest b p)) p)) (l6With_fn ((rest a p) ++ (rest b p)) p (rest_ok ha hb) hp (by have := rest_le a p; have := rest_le b p; simp; omega)) rfl (.cons _ _ _ _ _ _ _ [] _ (.one _ _ _ _ _ (passOs (xs := ((rest a p) ++ (rest b p)).map encP) rfl (by simp))) (.cons _ _ _ _ _ _ _ [] _ (.one _ _ _ _ _ (.p _ _)) (.nil _))) rfl (.one _ _ _ _ (.p _ _)) ?_)
          refine cgT rfl rfl rfl (w_v (BO (!(!room ((rest a p) ++ (rest b p)) p))) rfl ?_)
          refine c0 rfl (w_v (BO (!(!room ((rest a p) ++ (rest b p)) p))) rfl ?_)
          refine c0 rfl (w_v (BO (!(!room ((rest a p) ++ (rest b p)) p))) rfl ?_)
          refine cgS (b := !(!room ((rest a p) ++ (rest b p)) p)) rfl rfl rfl (fun c12 => ?_) (fun c12 => ?_)
          ·
            replace c12 := nt c12
            replace c12 := nf c12
            refine cgT rfl rfl rfl (w_v (.os 31 0 (((rest a p) ++ (rest b p)).length)) rfl ?_)
            refine cgT rfl rfl rfl (w_v (.p (encP p)) rfl ?_)
            refine cgT rfl rfl rfl (w_call_1 (l3Flip_fn p hp) rfl rfl ?_)
            refine cgT rfl rfl rfl (w_call (BO (!room ((rest a p) ++ (rest b p)) (flip p))) (l6With_fn ((rest a p) ++ (rest b p)) (flip p) (rest_ok ha hb) (okc_flip hp) (by have := rest_le a p; have := rest_le b p; simp; omega)) rfl (.cons _ _ _ _ _ _ _ [] _ (.one _ _ _ _ _ (passOs (xs := ((rest a p) ++ (rest b p)).map encP) rfl (by simp))) (.cons _ _ _ _ _ _ _ [] _ (.one _ _ _ _ _ (.p _ _)) (.nil _))) rfl (.one _ _ _ _ (.p _ _)) ?_)
            refine cgT rfl rfl rfl (w_v (BO (!(!room ((rest a p) ++ (rest b p)) (flip p)))) rfl ?_)
            refine c0 rfl (w_v (BO (!(!room ((rest a p) ++ (rest b p)) (flip p)))) rfl ?_)
            refine c0 rfl (w_v (BO (!(!room ((rest a p) ++ (rest b p)) (flip p)))) rfl ?_)
            refine cn ?_
            refine cw_ret ?_
            exact fin1 (bP (!(!room ((rest a p) ++ (rest b p)) (flip p)))) (bP (meetS a b p)) rfl (congrArg bP (by unfold meetS; simp_all : (!(!room ((rest a p) ++ (rest b p)) (flip p))) = (meetS a b p))) rfl
          ·
            replace c12 := nf c12
            replace c12 := nt c12
            refine cgF (v := .bool false) rfl rfl rfl rfl ?_
            refine cgF (v := .bool false) rfl rfl rfl rfl ?_
            refine cgF (v := .bool false) rfl rfl rfl rfl ?_
            refine cgF (v := .bool false) rfl rfl rfl rfl ?_
            refine cgF (v := .bool false) rfl rfl rfl rfl ?_
            refine c0 rfl (w_v (BO false) rfl ?_)
            refine c0 rfl (w_v (BO false) rfl ?_)
            refine cn ?_
            refine cw_ret ?_
            exact fin1 (bP false) (bP (meetS a b p)) rfl (congrArg bP (by unfold meetS; simp_all : false = (meetS a b p))) rfl
        ·
          refine cgF (v := .bool false) rfl rfl rfl rfl ?_
          refine cgF (v := .bool false) rfl rfl rfl rfl ?_
          refine cgF (v := .bool false) rfl rfl rfl rfl ?_
          refine cgF (v := .bool false) rfl rfl rfl rfl ?_
          refine c0 rfl (w_v (BO false) rfl ?_)
          refine c0 rfl (w_v (BO false) rfl ?_)
          refine cgF (v := .bool false) rfl rfl rfl rfl ?_
          refine cgF (v := .bool false) rfl rfl rfl rfl ?_
          refine cgF (v := .bool false) rfl rfl rfl rfl ?_
          refine cgF (v := .bool false) rfl rfl rfl rfl ?_
          refine cgF (v := .bool false) rfl rfl rfl rfl ?_
          refine c0 rfl (w_v (BO false) rfl ?_)
          refine c0 rfl (w_v (BO false) rfl ?_)
          refine cn ?_
          refine cw_ret ?_
          exact fin1 (bP false) (bP (meetS a b p)) rfl (congrArg bP (by unfold meetS; simp_all : false = (meetS a b p))) rfl
    ·
      replace c9 := of_decide_eq_false c9
      refine cgF (v := .bool false) rfl rfl rfl rfl ?_
      refine cgF (v := .bool false) rfl rfl rfl rfl ?_
      refine cgF (v := .bool false) rfl rfl rfl rfl ?_
      refine cgF (v := .bool false) rfl rfl rfl rfl ?_
      refine cgT rfl rfl rfl (w_v (BO false) rfl ?_)
      refine c0 rfl (w_v (BO false) rfl ?_)
      refine c0 rfl (w_v (BO true) rfl ?_)
      refine cn ?_
      refine cw_cond (t := true) rfl (fun _ => ?_) (fun h => nomatch h)
      refine cw_seq ?_
      refine cw_reg0 tok rfl rfl ?_
      refine c0 rfl (w_v (BO false) rfl ?_)
      refine cn ?_
      refine cw_ret ?_
      exact fin1 (bP false) (bP (meetS a b p)) rfl (congrArg bP (by unfold meetS; simp_all : false = (meetS a b p))) rfl
theorem l3CmpInt_fn (a : Int) (b : Int) : Fn PP 215 [.p (iP a), .p (iP b)] (.p (iP (cmpI a b))) [] := by
  refine fn_intro tok Go.Proofs.Try.func215 (c := _) rfl rfl (Nat.le_of_ble_eq_true rfl) ?_
  refine cw_seq ?_
  refine cw_reg0 tok rfl rfl ?_
  refine c0 rfl (w_v (I64 0) rfl ?_)
  refine cn ?_
  refine cw_seq ?_
  refine cw_block ?_
  refine cw_seq ?_
  refine cw_reg0 tok rfl rfl ?_
  refine c0 rfl (w_v (I64 a) rfl ?_)
  refine c0 rfl (w_v (I64 b) rfl ?_)
  refine c0 rfl (w_v (BO (decide (a < b))) rfl ?_)
  refine c0 rfl (w_v (BO (decide (a < b))) rfl ?_)
  refine cn ?_
  refine cw_cond (t := decide (a < b)) rfl (fun c1 => ?_) (fun c1 => ?_)
  ·
    replace c1 := of_decide_eq_true c1
    refine cw_seq ?_
    refine cw_reg0 tok rfl rfl ?_
    refine c0 rfl (w_v (I64 (-1)) rfl ?_)
    refine cn ?_
    refine cw_ret ?_
    exact fin1 (iP (-1)) (iP (cmpI a b)) rfl (congrArg iP (by unfold cmpI; repeat split <;> omega : (-1) = (cmpI a b))) rfl
  ·
    replace c1 := of_decide_eq_false c1
    refine cw_seq ?_
    refine cw_reg0 tok rfl rfl ?_
    refine c0 rfl (w_v (I64 a) rfl ?_)
    refine c0 rfl (w_v (I64 b) rfl ?_)
    refine c0 rfl (w_v (BO (decide (a > b))) rfl ?_)
    refine c0 rfl (w_v (BO (decide (a > b))) rfl ?_)
    refine cn ?_
    refine cw_cond (t := decide (a > b)) rfl (fun c2 => ?_) (fun c2 => ?_)
    ·
      replace c2 := of_decide_eq_true c2
      refine cw_seq ?_
      refine cw_reg0 tok rfl rfl ?_
      refine c0 rfl (w_v (I64 1) rfl ?_)
      refine cn ?_
      refine cw_ret ?_
      exact fin1 (iP 1) (iP (cmpI a b)) rfl (congrArg iP (by unfold cmpI; repeat split <;> omega : 1 = (cmpI a b))) rfl
    ·
      replace c2 := of_decide_eq_false c2
      refine cw_skip ?_
      refine cw_seq ?_
      refine cw_reg0 tok rfl rfl ?_
      refine c0 rfl (w_v (I64 0) rfl ?_)
      refine cn ?_
      refine cw_ret ?_
      exact fin1 (iP 0) (iP (cmpI a b)) rfl (congrArg iP (by unfold cmpI; repeat split <;> omega : 0 = (cmpI a b))) rfl
theorem sCmpPlane_fn (p : Pl) (q : Pl) : Fn PP 186 [.p (encP p), .p (encP q)] (.p (iP (cmpP p q))) [] := by
  refine fn_intro tok Go.Proofs.Try.func186 (c := _) rfl rfl (Nat.le_of_ble_eq_true rfl) ?_
  refine cw_seq ?_
  refine cw_reg0 tok rfl rfl ?_
  refine c0 rfl (w_box (g := 0) [I64 p.a, I64 p.b, I64 p.c, I64 p.d] rfl rfl rfl ?_)
  refine c0 rfl (w_box (g := 0) [I64 q.a, I64 q.b, I64 q.c, I64 q.d] rfl rfl rfl ?_)
  refine c0 rfl (w_v (I64 0) rfl ?_)
  refine cn ?_
  refine cw_seq ?_
  refine cw_reg0 tok rfl rfl ?_
  refine c0 rfl (w_v (.pt 2 0 0) rfl ?_)
  refine c0 rfl (w_v (I64 p.a) rfl ?_)
  refine c0 rfl (w_v (.pt 2 0 1) rfl ?_)
  refine c0 rfl (w_v (I64 p.b) rfl ?_)
  refine c0 rfl (w_v (.pt 2 0 2) rfl ?_)
  refine c0 rfl (w_v (I64 p.c) rfl ?_)
  refine c0 rfl (w_v (.pt 2 0 3) rfl ?_)
  refine c0 rfl (w_v (I64 p.d) rfl ?_)
  refine c0 rfl (w_bsl (g := 0) [iP p.a, iP p.b, iP p.c, iP p.d] rfl rfl rfl rfl (Nat.le_of_ble_eq_true rfl) (Nat.le_of_ble_eq_true rfl) (Nat.le_of_ble_eq_true rfl) (.cons _ _ _ _ _ _ _ [] [] (.one _ _ _ _ _ (.p _ _)) (.cons _ _ _ _ _ _ _ [] [] (.one _ _ _ _ _ (.p _ _)) (.cons _ _ _ _ _ _ _ [] [] (.one _ _ _ _ _ (.p _ _)) (.cons _ _ _ _ _ _ _ [] [] (.one _ _ _ _ _ (.p _ _)) (.nil _))))) rfl rfl ?_)
  refine c0 rfl (w_v (.os 16 0 4) rfl ?_)
  refine cn ?_
  refine cw_seq ?_
  refine cw_reg0 tok rfl rfl ?_
  refine c0 rfl (w_v (.pt 3 0 0) rfl ?_)
  refine c0 rfl (w_v (I64 q.a) rfl ?_)
  refine c0 rfl (w_v (.pt 3 0 1) rfl ?_)
  refine c0 rfl (w_v (I64 q.b) rfl ?_)
  refine c0 rfl (w_v (.pt 3 0 2) rfl ?_)
  refine c0 rfl (w_v (I64 q.c) rfl ?_)
  refine c0 rfl (w_v (.pt 3 0 3) rfl ?_)
  refine c0 rfl (w_v (I64 q.d) rfl ?_)
  refine c0 rfl (w_bsl (g := 0) [iP q.a, iP q.b, iP q.c, iP q.d] rfl rfl rfl rfl (Nat.le_of_ble_eq_true rfl) (Nat.le_of_ble_eq_true rfl) (Nat.le_of_ble_eq_true rfl) (.cons _ _ _ _ _ _ _ [] [] (.one _ _ _ _ _ (.p _ _)) (.cons _ _ _ _ _ _ _ [] [] (.one _ _ _ _ _ (.p _ _)) (.cons _ _ _ _ _ _ _ [] [] (.one _ _ _ _ _ (.p _ _)) (.cons _ _ _ _ _ _ _ [] [] (.one _ _ _ _ _ (.p _ _)) (.nil _))))) rfl rfl ?_)
  refine c0 rfl (w_v (.os 25 0 4) rfl ?_)
  refine cn ?_
  refine cw_seq ?_
  refine cw_seq ?_
  refine cw_reg0 tok rfl rfl ?_
  refine c0 rfl (w_v (I64 0) rfl ?_)
  refine cn ?_
  refine cw_block ?_
  refine cw_loopU ?_
  refine cwl_step ?_
  refine cw_seq ?_
  refine cw_seq ?_
  refine cw_reg0 tok rfl rfl ?_
  refine c0 rfl (w_v (I64 0) rfl ?_)
  refine c0 rfl (w_v (BO true) rfl ?_)
  refine cn ?_
  refine cw_cond (t := true) rfl (fun _ => ?_) (fun h => nomatch h)
  refine cw_skip ?_
  refine cw_seq ?_
  refine cw_block ?_
  refine cw_seq ?_
  refine cw_reg1 tok mixed rfl rfl ?_
  refine c0 rfl (w_v (.os 16 0 4) rfl ?_)
  refine c0 rfl (w_v (I64 0) rfl ?_)
  refine c0 rfl (w_ixo (0) rfl rfl rfl rfl (by simp) (by omega) (by omega) ?_)
  refine c0 rfl (w_ldo (iP p.a) (iP p.a) rfl rfl rfl rfl rfl rfl ?_)
  refine c0 rfl (w_v (.os 25 0 4) rfl ?_)
  refine c0 rfl (w_v (I64 0) rfl ?_)
  refine c0 rfl (w_ixo (0) rfl rfl rfl rfl (by simp) (by omega) (by omega) ?_)
  refine c0 rfl (w_ldo (iP q.a) (iP q.a) rfl rfl rfl rfl rfl rfl ?_)
  refine c0 rfl (w_nei (p.a) (q.a) rfl rfl ?_)
  refine cn ⟨by kernel_rfl, ?_⟩
  refine cw_cond (t := decide (p.a ≠ q.a)) rfl (fun c1 => ?_) (fun c1 => ?_)
  ·
    replace c1 := of_decide_eq_true c1
    refine cw_seq ?_
    refine cw_reg1 tok mixed rfl rfl ?_
    refine c0 rfl (w_v (.os 16 0 4) rfl ?_)
    refine c0 rfl (w_v (I64 0) rfl ?_)
    refine c0 rfl (w_ixo (0) rfl rfl rfl rfl (by simp) (by omega) (by omega) ?_)
    refine c0 rfl (w_ldo (iP p.a) (iP p.a) rfl rfl rfl rfl rfl rfl ?_)
    refine c0 rfl (w_v (.os 25 0 4) rfl ?_)
    refine c0 rfl (w_v (I64 0) rfl ?_)
    refine c0 rfl (w_ixo (0) rfl rfl rfl rfl (by simp) (by omega) (by omega) ?_)
    refine c0 rfl (w_ldo (iP q.a) (iP q.a) rfl rfl rfl rfl rfl rfl ?_)
    refine c0 rfl (w_call_2 (l3CmpInt_fn p.a q.a) rfl rfl rfl ?_)
    refine c0 rfl (w_v (I64 (cmpI p.a q.a)) rfl ?_)
    refine cn ⟨by kernel_rfl, ?_⟩
    refine cw_ret ?_
    exact fin1 (iP (cmpI p.a q.a)) (iP (cmpP p q)) rfl (congrArg iP (by unfold cmpP; simp_all : (cmpI p.a q.a) = (cmpP p q))) rfl
  ·
    replace c1 := of_decide_eq_false c1
    refine cw_skip ?_
    refine cw_reg0 tok rfl rfl ?_
    refine c0 rfl (w_v (I64 0) rfl ?_)
    refine c0 rfl (w_i (1) rfl (by unfold inI; omega) ?_)
    refine c0 rfl (w_v (I64 1) rfl ?_)
    refine cn ?_
    refine cwl_step ?_
    refine cw_seq ?_
    refine cw_seq ?_
    refine cw_reg0 tok rfl rfl ?_
    refine c0 rfl (w_v (I64 1) rfl ?_)
    refine c0 rfl (w_v (BO true) rfl ?_)
    refine cn ?_
    refine cw_cond (t := true) rfl (fun _ => ?_) (fun h => nomatch h)
    refine cw_skip ?_
    refine cw_seq ?_
    refine cw_block ?_
    refine cw_seq ?_
    refine cw_reg1 tok mixed rfl rfl ?_
    refine c0 rfl (w_v (.os 16 0 4) rfl ?_)
    refine c0 rfl (w_v (I64 1) rfl ?_)
    refine c0 rfl (w_ixo (1) rfl rfl rfl rfl (by simp) (by omega) (by omega) ?_)
    refine c0 rfl (w_ldo (iP p.b) (iP p.b) rfl rfl rfl rfl rfl rfl ?_)
    refine c0 rfl (w_v (.os 25 0 4) rfl ?_)
    refine c0 rfl (w_v (I64 1) rfl ?_)
    refine c0 rfl (w_ixo (1) rfl rfl rfl rfl (by simp) (by omega) (by omega) ?_)
    refine c0 rfl (w_ldo (iP q.b) (iP q.b) rfl rfl rfl rfl rfl rfl ?_)
    refine c0 rfl (w_nei (p.b) (q.b) rfl rfl ?_)
    refine cn ⟨by kernel_rfl, ?_⟩
    refine cw_cond (t := decide (p.b ≠ q.b)) rfl (fun c2 => ?_) (fun c2 => ?_)
    ·
      replace c2 := of_decide_eq_true c2
      refine cw_seq ?_
      refine cw_reg1 tok mixed rfl rfl ?_
      refine c0 rfl (w_v (.os 16 0 4) rfl ?_)
      refine c0 rfl (w_v (I64 1) rfl ?_)
      refine c0 rfl (w_ixo (1) rfl rfl rfl rfl (by simp) (by omega) (by omega) ?_)
      refine c0 rfl (w_ldo (iP p.b) (iP p.b) rfl rfl rfl rfl rfl rfl ?_)
      refine c0 rfl (w_v (.os 25 0 4) rfl ?_)
      refine c0 rfl (w_v (I64 1) rfl ?_)
      refine c0 rfl (w_ixo (1) rfl rfl rfl rfl (by simp) (by omega) (by omega) ?_)
      refine c0 rfl (w_ldo (iP q.b) (iP q.b) rfl rfl rfl rfl rfl rfl ?_)
      refine c0 rfl (w_call_2 (l3CmpInt_fn p.b q.b) rfl rfl rfl ?_)
      refine c0 rfl (w_v (I64 (cmpI p.b q.b)) rfl ?_)
      refine cn ⟨by kernel_rfl, ?_⟩
      refine cw_ret ?_
      exact fin1 (iP (cmpI p.b q.b)) (iP (cmpP p q)) rfl (congrArg iP (by unfold cmpP; simp_all : (cmpI p.b q.b) = (cmpP p q))) rfl
    ·
      replace c2 := of_decide_eq_false c2
      refine cw_skip ?_
      refine cw_reg0 tok rfl rfl ?_
      refine c0 rfl (w_v (I64 1) rfl ?_)
      refine c0 rfl (w_i (2) rfl (by unfold inI; omega) ?_)
      refine c0 rfl (w_v (I64 2) rfl ?_)
      refine cn ?_
      refine cwl_step ?_
      refine cw_seq ?_
      refine cw_seq ?_
      refine cw_reg0 tok rfl rfl ?_
      refine c0 rfl (w_v (I64 2) rfl ?_)
      refine c0 rfl (w_v (BO true) rfl ?_)
      refine cn ?_
      refine cw_cond (t := true) rfl (fun _ => ?_) (fun h => nomatch h)
      refine cw_skip ?_
      refine cw_seq ?_
      refine cw_block ?_
      refine cw_seq ?_
      refine cw_reg1 tok mixed rfl rfl ?_
      refine c0 rfl (w_v (.os 16 0 4) rfl ?_)
      refine c0 rfl (w_v (I64 2) rfl ?_)
      refine c0 rfl (w_ixo (2) rfl rfl rfl rfl (by simp) (by omega) (by omega) ?_)
      refine c0 rfl (w_ldo (iP p.c) (iP p.c) rfl rfl rfl rfl rfl rfl ?_)
      refine c0 rfl (w_v (.os 25 0 4) rfl ?_)
      refine c0 rfl (w_v (I64 2) rfl ?_)
      refine c0 rfl (w_ixo (2) rfl rfl rfl rfl (by simp) (by omega) (by omega) ?_)
      refine c0 rfl (w_ldo (iP q.c) (iP q.c) rfl rfl rfl rfl rfl rfl ?_)
      refine c0 rfl (w_nei (p.c) (q.c) rfl rfl ?_)
      refine cn ⟨by kernel_rfl, ?_⟩
      refine cw_cond (t := decide (p.c ≠ q.c)) rfl (fun c3 => ?_) (fun c3 => ?_)
      ·
        replace c3 := of_decide_eq_true c3
        refine cw_seq ?_
        refine cw_reg1 tok mixed rfl rfl ?_
        refine c0 rfl (w_v (.os 16 0 4) rfl ?_)
        refine c0 rfl (w_v (I64 2) rfl ?_)
        refine c0 rfl (w_ixo (2) rfl rfl rfl rfl (by simp) (by omega) (by omega) ?_)
        refine c0 rfl (w_ldo (iP p.c) (iP p.c) rfl rfl rfl rfl rfl rfl ?_)
        refine c0 rfl (w_v (.os 25 0 4) rfl ?_)
        refine c0 rfl (w_v (I64 2) rfl ?_)
        refine c0 rfl (w_ixo (2) rfl rfl rfl rfl (by simp) (by omega) (by omega) ?_)
        refine c0 rfl (w_ldo (iP q.c) (iP q.c) rfl rfl rfl rfl rfl rfl ?_)
        refine c0 rfl (w_call_2 (l3CmpInt_fn p.c q.c) rfl rfl rfl ?_)
        refine c0 rfl (w_v (I64 (cmpI p.c q.c)) rfl ?_)
        refine cn ⟨by kernel_rfl, ?_⟩
        refine cw_ret ?_
        exact fin1 (iP (cmpI p.c q.c)) (iP (cmpP p q)) rfl (congrArg iP (by unfold cmpP; simp_all : (cmpI p.c q.c) = (cmpP p q))) rfl
      ·
        replace c3 := of_decide_eq_false c3
        refine cw_skip ?_
        refine cw_reg0 tok rfl rfl ?_
        refine c0 rfl (w_v (I64 2) rfl ?_)
        refine c0 rfl (w_i (3) rfl (by unfold inI; omega) ?_)
        refine c0 rfl (w_v (I64 3) rfl ?_)
        refine cn ?_
        refine cwl_step ?_
        refine cw_seq ?_
        refine cw_seq ?_
        refine cw_reg0 tok rfl rfl ?_
        refine c0 rfl (w_v (I64 3) rfl ?_)
        refine c0 rfl (w_v (BO true) rfl ?_)
        refine cn ?_
        refine cw_cond (t := true) rfl (fun _ => ?_) (fun h => nomatch h)
        refine cw_skip ?_
        refine cw_seq ?_
        refine cw_block ?_
        refine cw_seq ?_
        refine cw_reg1 tok mixed rfl rfl ?_
        refine c0 rfl (w_v (.os 16 0 4) rfl ?_)
        refine c0 rfl (w_v (I64 3) rfl ?_)
        refine c0 rfl (w_ixo (3) rfl rfl rfl rfl (by simp) (by omega) (by omega) ?_)
        refine c0 rfl (w_ldo (iP p.d) (iP p.d) rfl rfl rfl rfl rfl rfl ?_)
        refine c0 rfl (w_v (.os 25 0 4) rfl ?_)
        refine c0 rfl (w_v (I64 3) rfl ?_)
        refine c0 rfl (w_ixo (3) rfl rfl rfl rfl (by simp) (by omega) (by omega) ?_)
        refine c0 rfl (w_ldo (iP q.d) (iP q.d) rfl rfl rfl rfl rfl rfl ?_)
        refine c0 rfl (w_nei (p.d) (q.d) rfl rfl ?_)
        refine cn ⟨by kernel_rfl, ?_⟩
        refine cw_cond (t := decide (p.d ≠ q.d)) rfl (fun c4 => ?_) (fun c4 => ?_)
        ·
          replace c4 := of_decide_eq_true c4
          refine cw_seq ?_
          refine cw_reg1 tok mixed rfl rfl ?_
          refine c0 rfl (w_v (.os 16 0 4) rfl ?_)
          refine c0 rfl (w_v (I64 3) rfl ?_)
          refine c0 rfl (w_ixo (3) rfl rfl rfl rfl (by simp) (by omega) (by omega) ?_)
          refine c0 rfl (w_ldo (iP p.d) (iP p.d) rfl rfl rfl rfl rfl rfl ?_)
          refine c0 rfl (w_v (.os 25 0 4) rfl ?_)
          refine c0 rfl (w_v (I64 3) rfl ?_)
          refine c0 rfl (w_ixo (3) rfl rfl rfl rfl (by simp) (by omega) (by omega) ?_)
          refine c0 rfl (w_ldo (iP q.d) (iP q.d) rfl rfl rfl rfl rfl rfl ?_)
          refine c0 rfl (w_call_2 (l3CmpInt_fn p.d q.d) rfl rfl rfl ?_)
          refine c0 rfl (w_v (I64 (cmpI p.d q.d)) rfl ?_)
          refine cn ⟨by kernel_rfl, ?_⟩
          refine cw_ret ?_
          exact fin1 (iP (cmpI p.d q.d)) (iP (cmpP p q)) rfl (congrArg iP (by unfold cmpP; simp_all : (cmpI p.d q.d) = (cmpP p q))) rfl
        ·
          replace c4 := of_decide_eq_false c4
          refine cw_skip ?_
          refine cw_reg0 tok rfl rfl ?_
          refine c0 rfl (w_v (I64 3) rfl ?_)
          refine c0 rfl (w_i (4) rfl (by unfold inI; omega) ?_)
          refine c0 rfl (w_v (I64 4) rfl ?_)
          refine cn ?_
          refine cwl_step ?_
          refine cw_seq ?_
          refine cw_seq ?_
          refine cw_reg0 tok rfl rfl ?_
          refine c0 rfl (w_v (I64 4) rfl ?_)
          refine c0 rfl (w_v (BO false) rfl ?_)
          refine cn ?_
          refine cw_cond (t := false) rfl (fun h => nomatch h) (fun _ => ?_)
          refine cw_exit ?_
          refine cw_seq ?_
          refine cw_reg0 tok rfl rfl ?_
          refine c0 rfl (w_v (I64 0) rfl ?_)
          refine cn ?_
          refine cw_ret ?_
          exact fin1 (iP 0) (iP (cmpP p q)) rfl (congrArg iP (by unfold cmpP; simp_all : 0 = (cmpP p q))) rfl
theorem or_fn (l : List Int) (hn : l.length ≤ 1048576) : Fn PP 213 [.p (.sl 1 (l.map iP))] (.p (iP (orL l))) [] := by
  refine fn_intro tok Go.Proofs.Try.func213 (c := _) rfl rfl (Nat.le_of_ble_eq_true rfl) ?_
  refine cw_seq ?_
  refine cw_reg0 tok rfl rfl ?_
  refine c0 rfl (w_v (I64 0) rfl ?_)
  refine cn ?_
  refine cw_seq ?_
  refine cw_reg0 tok rfl rfl ?_
  refine c0 rfl (w_v (I64 0) rfl ?_)
  refine cn ?_
  refine cw_seq ?_
  refine cw_seq ?_
  refine cw_reg0 tok rfl rfl ?_
  refine c0 rfl (w_v (.p (.sl 1 (l.map iP))) rfl ?_)
  refine c0 rfl (w_len (l.length) rfl rfl (by simp) ?_)
  refine c0 rfl (w_v (I64 0) rfl ?_)
  refine cn ?_
  refine cw_block ?_
  refine cw_loopI (fun nn S => ∃ i : Nat, (i ≤ l.length ∧ orL (l.drop i) = orL l) ∧ nn = l.length - i ∧ S = mkS [(3, I64 0), (6, .p (.sl 1 (l.map iP))), (7, I64 ((l.length : Int))), (8, I64 ((i : Int)))] [] []) (l.length - 0) ?_ ?_
  · exact ⟨_, wk_of (tms := [(3, I64 0), (6, .p (.sl 1 (l.map iP))), (7, I64 ((l.length : Int))), (8, I64 ((0 : Int)))]) (bls := []) (gens := []) ⟨rfl, rfl, rfl, rfl, trivial⟩ trivial trivial rfl, 0, ⟨by omega, rfl⟩, rfl, rfl⟩
  · rintro nn _ ⟨i, ⟨hi, hx⟩, hn1, rfl⟩
    refine cw_seq ?_
    refine cw_reg0 tok rfl rfl ?_
    refine c0 rfl (w_v (BO (decide ((i : Int) < (l.length : Int)))) rfl ?_)
    refine cn ?_
    refine cw_seq ?_
    refine cw_cond (t := decide ((i : Int) < (l.length : Int))) rfl (fun c1 => ?_) (fun c1 => ?_)
    ·
      replace c1 := of_decide_eq_true c1
      refine cw_skip ?_
      refine cw_seq ?_
      refine cw_block ?_
      refine cw_seq ?_
      refine cw_reg0 tok rfl rfl ?_
      obtain ⟨q, hq⟩ := getE (l := l) (i := i) (by first | omega | (simp; omega))
      refine c0 rfl (w_ix ((i : Int)) (iP q) rfl rfl rfl (by omega) (getM hq) ?_)
      refine c0 rfl (w_v (I64 q) rfl ?_)
      refine c0 rfl (w_v (I64 q) rfl ?_)
      refine cn ?_
      refine cw_seq ?_
      refine cw_reg0 tok rfl rfl ?_
      refine c0 rfl (w_v (I64 q) rfl ?_)
      refine c0 rfl (w_v (I64 0) rfl ?_)
      refine c0 rfl (w_nei (q) (0) rfl rfl ?_)
      refine cn ?_
      refine cw_cond (t := decide (q ≠ 0)) rfl (fun c2 => ?_) (fun c2 => ?_)
      ·
        replace c2 := of_decide_eq_true c2
        refine cw_seq ?_
        refine cw_reg0 tok rfl rfl ?_
        refine c0 rfl (w_v (I64 q) rfl ?_)
        refine c0 rfl (w_v (I64 q) rfl ?_)
        refine cn ?_
        refine cw_ret ?_
        exact fin1 (iP q) (iP (orL l)) rfl (congrArg iP (by rw [← hx, drop_of hq, orL, if_pos (by assumption)] : q = (orL l))) rfl
      ·
        replace c2 := of_decide_eq_false c2
        refine cw_skip ?_
        refine cw_reg0 tok rfl rfl ?_
        refine c0 rfl (w_i (((i + 1 : Nat) : Int)) rfl (by unfold inI; omega) ?_)
        refine c0 rfl (w_v (I64 (((i + 1 : Nat) : Int))) rfl ?_)
        refine cn ?_
        exact ⟨_, _, by omega, wk_of (tms := [(3, I64 0), (6, .p (.sl 1 (l.map iP))), (7, I64 ((l.length : Int))), (8, I64 (((i + 1) : Int)))]) (bls := []) (gens := []) ⟨rfl, rfl, rfl, rfl, trivial⟩ trivial trivial rfl, (i + 1), ⟨by omega, by rw [← hx, drop_of hq, orL, if_neg (by simp_all)]⟩, rfl, rfl⟩
    ·
      replace c1 := of_decide_eq_false c1
      refine cw_exit ?_
      refine cw_seq ?_
      refine cw_reg0 tok rfl rfl ?_
      refine c0 rfl (w_v (I64 0) rfl ?_)
      refine c0 rfl (w_v (I64 0) rfl ?_)
      refine cn ?_
      refine cw_ret ?_
      exact fin1 (iP 0) (iP (orL l)) rfl (congrArg iP (by rw [← hx, List.drop_eq_nil_of_le (by omega)]; rfl : 0 = (orL l))) rfl
theorem iCmpPlane_fn (p : Pl) (q : Pl) : Fn PP 191 [.p (encP p), .p (encP q)] (.p (iP (cmpP p q))) [] := by
  refine fn_intro tok Go.Proofs.Try.func191 (c := _) rfl rfl (Nat.le_of_ble_eq_true rfl) ?_
  refine cw_seq ?_
  refine cw_reg0 tok rfl rfl ?_
  refine c0 rfl (w_box (g := 0) [I64 p.a, I64 p.b, I64 p.c, I64 p.d] rfl rfl rfl ?_)
  refine c0 rfl (w_box (g := 0) [I64 q.a, I64 q.b, I64 q.c, I64 q.d] rfl rfl rfl ?_)
  refine c0 rfl (w_v (I64 0) rfl ?_)
  refine cn ?_
  refine cw_seq ?_
  refine cw_reg1 tok mixed rfl rfl ?_
  refine c0 rfl (w_v (.pt 2 0 0) rfl ?_)
  refine c0 rfl (w_v (I64 p.a) rfl ?_)
  refine c0 rfl (w_v (.pt 3 0 0) rfl ?_)
  refine c0 rfl (w_v (I64 q.a) rfl ?_)
  refine c0 rfl (w_call_2 (cmp_fn p.a q.a) rfl rfl rfl ?_)
  refine c0 rfl (w_v (.pt 2 0 1) rfl ?_)
  refine c0 rfl (w_v (I64 p.b) rfl ?_)
  refine c0 rfl (w_v (.pt 3 0 1) rfl ?_)
  refine c0 rfl (w_v (I64 q.b) rfl ?_)
  refine c0 rfl (w_call_2 (cmp_fn p.b q.b) rfl rfl rfl ?_)
  refine c0 rfl (w_v (.pt 2 0 2) rfl ?_)
  refine c0 rfl (w_v (I64 p.c) rfl ?_)
  refine c0 rfl (w_v (.pt 3 0 2) rfl ?_)
  refine c0 rfl (w_v (I64 q.c) rfl ?_)
  refine c0 rfl (w_call_2 (cmp_fn p.c q.c) rfl rfl rfl ?_)
  refine c0 rfl (w_v (.pt 2 0 3) rfl ?_)
  refine c0 rfl (w_v (I64 p.d) rfl ?_)
  refine c0 rfl (w_v (.pt 3 0 3) rfl ?_)
  refine c0 rfl (w_v (I64 q.d) rfl ?_)
  refine c0 rfl (w_call_2 (cmp_fn p.d q.d) rfl rfl rfl ?_)
  refine c0 rfl (w_bsl (g := 0) [iP (cmpI p.a q.a), iP (cmpI p.b q.b), iP (cmpI p.c q.c), iP (cmpI p.d q.d)] rfl rfl rfl rfl (Nat.le_of_ble_eq_true rfl) (Nat.le_of_ble_eq_true rfl) (Nat.le_of_ble_eq_true rfl) (.cons _ _ _ _ _ _ _ [] [] (.one _ _ _ _ _ (.p _ _)) (.cons _ _ _ _ _ _ _ [] [] (.one _ _ _ _ _ (.p _ _)) (.cons _ _ _ _ _ _ _ [] [] (.one _ _ _ _ _ (.p _ _)) (.cons _ _ _ _ _ _ _ [] [] (.one _ _ _ _ _ (.p _ _)) (.nil _))))) rfl rfl ?_)
  refine c0 rfl (w_call (I64 (orL ([cmpI p.a q.a, cmpI p.b q.b, cmpI p.c q.c, cmpI p.d q.d]))) (or_fn ([cmpI p.a q.a, cmpI p.b q.b, cmpI p.c q.c, cmpI p.d q.d]) (by simp)) rfl (.cons _ _ _ _ _ _ _ [] _ (.one _ _ _ _ _ (passOs (xs := ([cmpI p.a q.a, cmpI p.b q.b, cmpI p.c q.c, cmpI p.d q.d]).map iP) rfl rfl)) (.nil _)) rfl (.one _ _ _ _ (.p _ _)) ?_)
  refine c0 rfl (w_v (I64 (orL ([cmpI p.a q.a, cmpI p.b q.b, cmpI p.c q.c, cmpI p.d q.d]))) rfl ?_)
  refine cn ⟨by kernel_rfl, ?_⟩
  refine cw_ret ?_
  exact fin1 (iP (orL ([cmpI p.a q.a, cmpI p.b q.b, cmpI p.c q.c, cmpI p.d q.d]))) (iP (cmpP p q)) rfl (congrArg iP (by exact or_cmp _ _ : (orL ([cmpI p.a q.a, cmpI p.b q.b, cmpI p.c q.c, cmpI p.d q.d])) = (cmpP p q))) rfl
theorem greater_fn (p : Pl) (hp : okc p) : Fn PP 149 [.p (encP p)] (.p (encP (great p))) [] := by
  refine fn_intro tok Go.Proofs.Try.func149 (c := _) rfl rfl (Nat.le_of_ble_eq_true rfl) ?_
  refine cw_seq ?_
  refine cw_reg0 tok rfl rfl ?_
  refine c0 rfl (w_box (g := 0) [I64 p.a, I64 p.b, I64 p.c, I64 p.d] rfl rfl rfl ?_)
  refine c0 rfl (w_alloc (g := 0) [I64 0, I64 0, I64 0, I64 0] rfl rfl rfl ?_)
  refine cn ?_
  refine cw_seq ?_
  refine cw_seq ?_
  refine cw_reg0 tok rfl rfl ?_
  refine c0 rfl (w_v (.p (encP p)) rfl ?_)
  refine c0 rfl (w_call_1 (flip_fn p (by first | assumption | omega)) rfl rfl ?_)
  refine c0 rfl (w_alloc (g := 0) [I64 0, I64 0, I64 0, I64 0] rfl rfl rfl ?_)
  refine c0 rfl (w_st [I64 ((flip p).a), I64 ((flip p).b), I64 ((flip p).c), I64 ((flip p).d)] rfl rfl rfl rfl rfl (Nat.le_of_ble_eq_true rfl) rfl ?_)
  refine cn ?_
  refine cw_seq ?_
  refine cw_reg0 tok rfl rfl ?_
  refine c0 rfl (w_v (.p (encP (flip p))) rfl ?_)
  refine c0 rfl (w_v (.p (encP p)) rfl ?_)
  refine c0 rfl (w_call_2 (iCmpPlane_fn (flip p) p) rfl rfl rfl ?_)
  refine c0 rfl (w_v (BO (decide (cmpP (flip p) p > 0))) rfl ?_)
  refine cn ?_
  refine cw_cond (t := decide (cmpP (flip p) p > 0)) rfl (fun c1 => ?_) (fun c1 => ?_)
  ·
    replace c1 := of_decide_eq_true c1
    refine cw_seq ?_
    refine cw_reg0 tok rfl rfl ?_
    refine c0 rfl (w_v (.p (encP (flip p))) rfl ?_)
    refine c0 rfl (w_st [I64 ((flip p).a), I64 ((flip p).b), I64 ((flip p).c), I64 ((flip p).d)] rfl rfl rfl rfl rfl (Nat.le_of_ble_eq_true rfl) rfl ?_)
    refine cn ?_
    refine cw_ret ?_
    exact fin1 (encP (flip p)) (encP (great p)) rfl (congrArg encP (by unfold great; split <;> first | rfl | omega : (flip p) = (great p))) rfl
  ·
    replace c1 := of_decide_eq_false c1
    refine cw_skip ?_
    refine cw_seq ?_
    refine cw_reg0 tok rfl rfl ?_
    refine c0 rfl (w_v (.p (encP p)) rfl ?_)
    refine c0 rfl (w_st [I64 p.a, I64 p.b, I64 p.c, I64 p.d] rfl rfl rfl rfl rfl (Nat.le_of_ble_eq_true rfl) rfl ?_)
    refine cn ?_
    refine cw_ret ?_
    exact fin1 (encP p) (encP (great p)) rfl (congrArg encP (by unfold great; split <;> first | rfl | omega : p = (great p))) rfl
end Go.Proofs.Ytablmbhnimnccaa.Pw
