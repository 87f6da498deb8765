/- A part of that proof: contracts of the functions that are called, one theorem a function. No condition. -/
import Derived.Test.YtablmbhnimnccaaZqF5
set_option maxRecDepth 20000
set_option maxHeartbeats 4000000
namespace Go.Proofs.Ytablmbhnimnccaa.Pw
theorem with_fn (list : List Pl) (p : Pl) (hn : list.length ≤ 1048576) : Fn PP 97 [.p (.sl 4 (list.map encP)), .p (encP p)] (.p (.sl 4 ((list ++ [p]).map encP))) [] := by
  refine fn_intro tok Go.Proofs.Try.func97 (c := _) rfl rfl (Nat.le_of_ble_eq_true rfl) ?_
  refine cw_seq ?_
  refine cw_reg0 tok rfl rfl ?_
  refine c0 rfl (w_box (g := 0) [I64 p.a, I64 p.b, I64 p.c, I64 p.d] rfl rfl rfl ?_)
  refine c0 rfl (w_v (.p (.lit nilSl)) rfl ?_)
  refine cn ?_
  refine cw_seq ?_
  refine cw_reg1 tok mixed rfl rfl ?_
  refine c0 rfl (w_bsl (g := 0) [] rfl rfl rfl rfl (Nat.le_of_ble_eq_true rfl) (Nat.le_of_ble_eq_true rfl) (Nat.le_of_ble_eq_true rfl) (.nil _) rfl rfl ?_)
  refine c0 rfl (w_v (.p (.sl 4 (list.map encP))) rfl ?_)
  refine c0 rfl (w_appo (list.map encP) (list.map encP) (list.length) rfl rfl rfl rfl rfl rfl (Nat.le_of_ble_eq_true rfl) (sz_map fun _ => rfl) rfl rfl rfl (by show (_ + _) * 32 ≤ _; simp; omega) (by simp; omega) rfl (by simp) ?_)
  refine c0 rfl (w_v (.p (encP p)) rfl ?_)
  refine c0 rfl (w_bsl (g := 0) [encP p] rfl rfl rfl rfl (Nat.le_of_ble_eq_true rfl) (Nat.le_of_ble_eq_true rfl) (Nat.le_of_ble_eq_true rfl) (.cons _ _ _ _ _ _ _ [] [] (.one _ _ _ _ _ (.p _ _)) (.nil _)) rfl rfl ?_)
  refine c0 rfl (w_appo (([p]).map encP) ((list ++ ([p])).map encP) ((list ++ ([p])).length) rfl rfl rfl rfl rfl (list_os rfl rfl) (Nat.le_of_ble_eq_true rfl) (sz_map fun _ => rfl) (by simp) rfl rfl (by show (_ + _) * 32 ≤ _; simp; omega) (by simp; omega) List.map_append.symm (by simp) ?_)
  refine c0 rfl (w_v (.os 5 0 ((list ++ ([p])).length)) rfl ?_)
  refine cn ⟨by kernel_rfl, ?_⟩
  refine cw_ret ?_
  exact finO _ rfl rfl (by simp) (show PV.sl 4 ((list ++ ([p])).map encP) = PV.sl 4 ((list ++ [p]).map encP) from (congrArg (fun z => PV.sl 4 (z.map encP)) (by rfl : (list ++ ([p])) = (list ++ [p])))) rfl
theorem l8Path_fn (list : List Pl) (p : Pl) (hn : list.length ≤ 1048576) : Fn PP 98 [.p (.sl 4 (list.map encP)), .p (encP p)] (.p (.sl 4 ((list ++ [p]).map encP))) [] := by
  refine fn_intro tok Go.Proofs.Try.func98 (c := _) rfl rfl (Nat.le_of_ble_eq_true rfl) ?_
  refine cw_seq ?_
  refine cw_reg0 tok rfl rfl ?_
  refine c0 rfl (w_box (g := 0) [I64 p.a, I64 p.b, I64 p.c, I64 p.d] rfl rfl rfl ?_)
  refine c0 rfl (w_v (.p (.lit nilSl)) rfl ?_)
  refine cn ?_
  refine cw_seq ?_
  refine cw_reg1 tok mixed rfl rfl ?_
  refine c0 rfl (w_bsl (g := 0) [] rfl rfl rfl rfl (Nat.le_of_ble_eq_true rfl) (Nat.le_of_ble_eq_true rfl) (Nat.le_of_ble_eq_true rfl) (.nil _) rfl rfl ?_)
  refine c0 rfl (w_v (.p (.sl 4 (list.map encP))) rfl ?_)
  refine c0 rfl (w_appo (list.map encP) (list.map encP) (list.length) rfl rfl rfl rfl rfl rfl (Nat.le_of_ble_eq_true rfl) (sz_map fun _ => rfl) rfl rfl rfl (by show (_ + _) * 32 ≤ _; simp; omega) (by simp; omega) rfl (by simp) ?_)
  refine c0 rfl (w_v (.p (encP p)) rfl ?_)
  refine c0 rfl (w_bsl (g := 0) [encP p] rfl rfl rfl rfl (Nat.le_of_ble_eq_true rfl) (Nat.le_of_ble_eq_true rfl) (Nat.le_of_ble_eq_true rfl) (.cons _ _ _ _ _ _ _ [] [] (.one _ _ _ _ _ (.p _ _)) (.nil _)) rfl rfl ?_)
  refine c0 rfl (w_appo (([p]).map encP) ((list ++ ([p])).map encP) ((list ++ ([p])).length) rfl rfl rfl rfl rfl (list_os rfl rfl) (Nat.le_of_ble_eq_true rfl) (sz_map fun _ => rfl) (by simp) rfl rfl (by show (_ + _) * 32 ≤ _; simp; omega) (by simp; omega) List.map_append.symm (by simp) ?_)
  refine c0 rfl (w_v (.os 5 0 ((list ++ ([p])).length)) rfl ?_)
  refine cn ⟨by kernel_rfl, ?_⟩
  refine cw_ret ?_
  exact finO _ rfl rfl (by simp) (show PV.sl 4 ((list ++ ([p])).map encP) = PV.sl 4 ((list ++ [p]).map encP) from (congrArg (fun z => PV.sl 4 (z.map encP)) (by rfl : (list ++ ([p])) = (list ++ [p])))) rfl
theorem isLeaf_fn (si : Bool) (sp : Pl) (sk : List Sol) : Fn PP 144 [.p (.ro (encS (Sol.mk si sp sk)) 0)] (.p (bP (decide ((sk.length : Int) = 0)))) [] := by
  refine fn_intro tok Go.Proofs.Try.func144 (c := _) rfl rfl (Nat.le_of_ble_eq_true rfl) ?_
  refine cw_seq ?_
  refine cw_reg0 tok rfl rfl ?_
  refine c0 rfl (w_v (BO false) rfl ?_)
  refine cn ?_
  refine cw_seq ?_
  refine cw_reg0 tok rfl rfl ?_
  refine c0 rfl (w_v (.p (.ro (encS (Sol.mk si sp sk)) 0)) rfl ?_)
  refine c0 rfl (w_v (.p (.ro (encS (Sol.mk si sp sk)) 0)) rfl ?_)
  refine c0 rfl (w_v (.p (.ro (encS (Sol.mk si sp sk)) 5)) rfl ?_)
  refine c0 rfl (w_v (.p (.sl 6 (encSs sk))) rfl ?_)
  refine c0 rfl (w_len (sk.length) rfl rfl (by simp) ?_)
  refine c0 rfl (w_eqi ((sk.length : Int)) (0) rfl rfl ?_)
  refine c0 rfl (w_v (BO (decide ((sk.length : Int) = 0))) rfl ?_)
  refine cn ?_
  refine cw_ret ?_
  exact fin1 (bP (decide ((sk.length : Int) = 0))) (bP (decide ((sk.length : Int) = 0))) rfl (congrArg bP (by first | rfl | simp_all : (decide ((sk.length : Int) = 0)) = (decide ((sk.length : Int) = 0)))) rfl
theorem l8Leaf_fn (si : Bool) (sp : Pl) (sk : List Sol) : Fn PP 150 [.p (encS (Sol.mk si sp sk))] (.p (bP (decide ((sk.length : Int) = 0)))) [] := by
  refine fn_intro tok Go.Proofs.Try.func150 (c := _) rfl rfl (Nat.le_of_ble_eq_true rfl) ?_
  refine cw_seq ?_
  refine cw_reg0 tok rfl rfl ?_
  refine c0 rfl (w_box (g := 0) [BO si, I64 sp.a, I64 sp.b, I64 sp.c, I64 sp.d, .p (.sl 6 (encSs sk))] rfl rfl rfl ?_)
  refine c0 rfl (w_v (BO false) rfl ?_)
  refine cn ?_
  refine cw_seq ?_
  refine cw_reg0 tok rfl rfl ?_
  refine c0 rfl (w_v (.pt 1 0 5) rfl ?_)
  refine c0 rfl (w_v (.p (.sl 6 (encSs sk))) rfl ?_)
  refine c0 rfl (w_len (sk.length) rfl rfl (by simp) ?_)
  refine c0 rfl (w_eqi ((sk.length : Int)) (0) rfl rfl ?_)
  refine c0 rfl (w_v (BO (decide ((sk.length : Int) = 0))) rfl ?_)
  refine cn ?_
  refine cw_ret ?_
  exact fin1 (bP (decide ((sk.length : Int) = 0))) (bP (decide ((sk.length : Int) = 0))) rfl (congrArg bP (by first | rfl | simp_all : (decide ((sk.length : Int) = 0)) = (decide ((sk.length : Int) = 0)))) rfl
theorem l8Count_fn (si : Bool) (sp : Pl) (sk : List Sol) (left : Int) (hl : -1000 ≤ left ∧ left ≤ 1000) (hk : sk.length ≤ 1048576) (H : ∀ q ∈ sk, ∀ l : Int, -1000 ≤ l ∧ l ≤ 1000 → Fn PP 131 [.p (encS q), .p (iP l)] (.p (iP (count q l))) []) : Fn PP 131 [.p (encS (Sol.mk si sp sk)), .p (iP left)] (.p (iP (count (Sol.mk si sp sk) left))) [] := by
  refine fn_intro tok Go.Proofs.Try.func131 (c := _) rfl rfl (Nat.le_of_ble_eq_true rfl) ?_
  refine cw_seq ?_
  refine cw_reg0 tok rfl rfl ?_
  refine c0 rfl (w_box (g := 0) [BO si, I64 sp.a, I64 sp.b, I64 sp.c, I64 sp.d, .p (.sl 6 (encSs sk))] rfl rfl rfl ?_)
  refine c0 rfl (w_v (I64 0) rfl ?_)
  refine cn ?_
  refine cw_seq ?_
  refine cw_seq ?_
  refine cw_reg0 tok rfl rfl ?_
  refine c0 rfl (w_v (.p (encS (Sol.mk si sp sk))) rfl ?_)
  refine c0 rfl (w_call_1 (l8Leaf_fn si sp sk) rfl rfl ?_)
  refine c0 rfl (w_v (BO (decide ((sk.length : Int) = 0))) rfl ?_)
  refine cgS (b := decide ((sk.length : Int) = 0)) rfl rfl rfl (fun c1 => ?_) (fun c1 => ?_)
  ·
    replace c1 := of_decide_eq_true c1
    refine cgF (v := .bool true) rfl rfl rfl rfl ?_
    refine cgF (v := .bool true) rfl rfl rfl rfl ?_
    refine c0 rfl (w_v (BO true) rfl ?_)
    refine cn ?_
    refine cw_cond (t := true) rfl (fun _ => ?_) (fun h => nomatch h)
    refine cw_seq ?_
    refine cw_reg0 tok rfl rfl ?_
    refine c0 rfl (w_v (I64 0) rfl ?_)
    refine cn ?_
    refine cw_ret ?_
    exact fin1 (iP 0) (iP (count (Sol.mk si sp sk) left)) rfl (congrArg iP (by exact count_z (by omega) : 0 = (count (Sol.mk si sp sk) left))) rfl
  ·
    replace c1 := of_decide_eq_false c1
    refine cgT rfl rfl rfl (w_v (I64 left) rfl ?_)
    refine cgT rfl rfl rfl (w_v (BO (decide (left ≤ 0))) rfl ?_)
    refine c0 rfl (w_v (BO (decide (left ≤ 0))) rfl ?_)
    refine cn ?_
    refine cw_cond (t := decide (left ≤ 0)) rfl (fun c2 => ?_) (fun c2 => ?_)
    ·
      replace c2 := of_decide_eq_true c2
      refine cw_seq ?_
      refine cw_reg0 tok rfl rfl ?_
      refine c0 rfl (w_v (I64 0) rfl ?_)
      refine cn ?_
      refine cw_ret ?_
      exact fin1 (iP 0) (iP (count (Sol.mk si sp sk) left)) rfl (congrArg iP (by exact count_z (by omega) : 0 = (count (Sol.mk si sp sk) left))) rfl
    ·
      replace c2 := of_decide_eq_false c2
      refine cw_skip ?_
      refine cw_seq ?_
      refine cw_reg0 tok rfl rfl ?_
      refine c0 rfl (w_v (I64 1) rfl ?_)
      refine cn ?_
      refine cw_seq ?_
      refine cw_seq ?_
      refine cw_reg0 tok rfl rfl ?_
      refine c0 rfl (w_v (I64 0) rfl ?_)
      refine cn ?_
      refine cw_block ?_
      refine cw_loopI (fun nn S => ∃ i : Nat, ∃ n : Int, ((i ≤ sk.length ∧ 1 ≤ n ∧ n ≤ left) ∧ countS (sk.drop i) left n = countS sk left 1) ∧ nn = sk.length - i ∧ S = mkS [(1, I64 left), (2, .pt 2 0 0), (5, I64 n), (6, I64 ((i : Int)))] [(2, 0, .var [BO si, I64 sp.a, I64 sp.b, I64 sp.c, I64 sp.d, .p (.sl 6 (encSs sk))] false)] [(2, 1)]) (sk.length - 0) ?_ ?_
      · exact ⟨_, wk_of (tms := [(1, I64 left), (2, .pt 2 0 0), (5, I64 1), (6, I64 ((0 : Int)))]) (bls := [(2, 0, .var [BO si, I64 sp.a, I64 sp.b, I64 sp.c, I64 sp.d, .p (.sl 6 (encSs sk))] false)]) (gens := [(2, 1)]) ⟨rfl, rfl, rfl, rfl, trivial⟩ ⟨rfl, trivial⟩ ⟨rfl, trivial⟩ rfl, 0, 1, ⟨⟨by omega, by omega, by omega⟩, rfl⟩, rfl, rfl⟩
      · rintro nn _ ⟨i, n, ⟨hi, hc⟩, hn1, rfl⟩
        refine cw_seq ?_
        refine cw_seq ?_
        refine cw_reg0 tok rfl rfl ?_
        refine c0 rfl (w_v (I64 ((i : Int))) rfl ?_)
        refine c0 rfl (w_v (.pt 2 0 5) rfl ?_)
        refine c0 rfl (w_v (.p (.sl 6 (encSs sk))) rfl ?_)
        refine c0 rfl (w_len (sk.length) rfl rfl (by simp) ?_)
        refine c0 rfl (w_v (BO (decide ((i : Int) < (sk.length : Int)))) rfl ?_)
        refine cn ?_
        refine cw_cond (t := decide ((i : Int) < (sk.length : Int))) rfl (fun c3 => ?_) (fun c3 => ?_)
        ·
          replace c3 := of_decide_eq_true c3
          refine cw_skip ?_
          refine cw_seq ?_
          refine cw_block ?_
          refine cw_reg0 tok rfl rfl ?_
          refine c0 rfl (w_v (I64 n) rfl ?_)
          refine c0 rfl (w_v (.pt 2 0 5) rfl ?_)
          refine c0 rfl (w_v (.p (.sl 6 (encSs sk))) rfl ?_)
          refine c0 rfl (w_v (I64 ((i : Int))) rfl ?_)
          obtain ⟨q, hq⟩ := getE (l := sk) (i := i) (by first | omega | (simp; omega))
          obtain ⟨qi, qp, qk⟩ := q
          refine c0 rfl (w_ix ((i : Int)) (encS (Sol.mk qi qp qk)) rfl rfl rfl (by omega) (getSs hq) ?_)
          refine c0 rfl (w_v (.p (encS (Sol.mk qi qp qk))) rfl ?_)
          refine c0 rfl (w_v (I64 left) rfl ?_)
          refine c0 rfl (w_v (I64 n) rfl ?_)
          refine c0 rfl (w_i (left - n) rfl (by unfold inI; omega) ?_)
          refine c0 rfl (w_call_2 (H _ (List.mem_of_getElem? hq) (left - n) (by omega)) rfl rfl rfl ?_)
          have hcb := count_le (Sol.mk qi qp qk) (left - n)
          refine c0 rfl (w_i (n + (count (Sol.mk qi qp qk) (left - n))) rfl (by unfold inI; omega) ?_)
          refine c0 rfl (w_v (I64 (n + (count (Sol.mk qi qp qk) (left - n)))) rfl ?_)
          refine cn ?_
          refine cw_reg0 tok rfl rfl ?_
          refine c0 rfl (w_v (I64 ((i : Int))) rfl ?_)
          refine c0 rfl (w_i (((i + 1 : Nat) : Int)) rfl (by unfold inI; omega) ?_)
          refine c0 rfl (w_v (I64 (((i + 1 : Nat) : Int))) rfl ?_)
          refine cn ?_
          exact ⟨_, _, by omega, wk_of (tms := [(1, I64 left), (2, .pt 2 0 0), (5, I64 ((n + (count (Sol.mk qi qp qk) (left - n))))), (6, I64 (((i + 1) : Int)))]) (bls := [(2, 0, .var [BO si, I64 sp.a, I64 sp.b, I64 sp.c, I64 sp.d, .p (.sl 6 (encSs sk))] false)]) (gens := [(2, 1)]) ⟨rfl, rfl, rfl, rfl, trivial⟩ ⟨rfl, trivial⟩ ⟨rfl, trivial⟩ rfl, (i + 1), (n + (count (Sol.mk qi qp qk) (left - n))), ⟨⟨by omega, by omega, by omega⟩, by rw [← hc, drop_of hq]; rfl⟩, rfl, rfl⟩
        ·
          replace c3 := of_decide_eq_false c3
          refine cw_exit ?_
          refine cw_seq ?_
          refine cw_reg0 tok rfl rfl ?_
          refine c0 rfl (w_v (I64 n) rfl ?_)
          refine c0 rfl (w_v (I64 n) rfl ?_)
          refine cn ?_
          refine cw_ret ?_
          exact fin1 (iP n) (iP (count (Sol.mk si sp sk) left)) rfl (congrArg iP (by exact count_e (by omega) (by omega) hc (by omega) : n = (count (Sol.mk si sp sk) left))) rfl
theorem count_rec : ∀ (s : Sol) (left : Int), (-1000 ≤ left ∧ left ≤ 1000) → fits s → Fn PP 131 [.p (encS s), .p (iP left)] (.p (iP (count s left))) []
  | .mk i p k, left, h, hf => l8Count_fn i p k left h (by unfold fits at hf; exact hf.1) fun q hq l hl => count_rec q l hl (by unfold fits at hf; exact fitsS_mem hf.2 q hq)
  termination_by s => SizeOf.sizeOf s
  decreasing_by exact sz_kid hq
end Go.Proofs.Ytablmbhnimnccaa.Pw
