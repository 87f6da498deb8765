/- A part of that proof: contracts of the functions that are called, one theorem a function. No condition. -/
import Derived.Test.YtablmbhnimnccaaZqF10
set_option maxRecDepth 20000
set_option maxHeartbeats 4000000
namespace Go.Proofs.Ytablmbhnimnccaa.Pw
theorem splanes_fn (si : Bool) (sp : Pl) (sk : List Sol) (out : List Pl) (path : List Pl) (hp : ∀ q ∈ out, okc q) (hn : out.length + nodesN (Sol.mk si sp sk) ≤ 1000) (hlk : look (Sol.mk si sp sk) path = true) (H : ∀ q ∈ sk, ∀ (l m : List Pl), (∀ x ∈ l, okc x) → l.length + nodesN q ≤ 1000 → look q m = true → Fn PP 139 [.p (encS q), .p (.sl 4 (l.map encP))] (.p (.sl 4 ((planesS q l).map encP))) []) : Fn PP 139 [.p (encS (Sol.mk si sp sk)), .p (.sl 4 (out.map encP))] (.p (.sl 4 ((planesS (Sol.mk si sp sk) out).map encP))) [] := by
  refine fn_intro tok Go.Proofs.Try.func139 (c := _) rfl rfl (Nat.le_of_ble_eq_true rfl) ?_
  refine cw_seq ?_
  refine cw_reg0 tok rfl rfl ?_
  refine c0 rfl (w_box (g := 0) [BO si, I64 sp.a, I64 sp.b, I64 sp.c, I64 sp.d, .p (.sl 6 (encSs sk))] rfl rfl rfl ?_)
  refine c0 rfl (w_v (.p (.lit nilSl)) rfl ?_)
  refine cn ?_
  refine cw_seq ?_
  refine cw_seq ?_
  refine cw_reg0 tok rfl rfl ?_
  refine c0 rfl (w_v (.p (encS (Sol.mk si sp sk))) rfl ?_)
  refine c0 rfl (w_call_1 (l8Leaf_fn si sp sk) rfl rfl ?_)
  refine cn ?_
  refine cw_cond (t := decide ((sk.length : Int) = 0)) rfl (fun c1 => ?_) (fun c1 => ?_)
  ·
    replace c1 := of_decide_eq_true c1
    refine cw_seq ?_
    refine cw_reg0 tok rfl rfl ?_
    refine c0 rfl (w_v (.p (.sl 4 (out.map encP))) rfl ?_)
    refine c0 rfl (w_v (.p (.sl 4 (out.map encP))) rfl ?_)
    refine cn ?_
    refine cw_ret ?_
    exact fin1 (.sl 4 (out.map encP)) (.sl 4 ((planesS (Sol.mk si sp sk) out).map encP)) rfl (congrArg (fun z => PV.sl 4 (z.map encP)) (by exact planes_0 (by assumption) : out = (planesS (Sol.mk si sp sk) out))) rfl
  ·
    replace c1 := of_decide_eq_false c1
    refine cw_skip ?_
    refine cw_seq ?_
    refine cw_reg0 tok rfl rfl ?_
    refine c0 rfl (w_v (.pt 2 0 1) rfl ?_)
    refine c0 rfl (w_v (.p (encP sp)) rfl ?_)
    refine c0 rfl (w_alloc (g := 0) [I64 0, I64 0, I64 0, I64 0] rfl rfl rfl ?_)
    refine c0 rfl (w_st [I64 sp.a, I64 sp.b, I64 sp.c, I64 sp.d] rfl rfl rfl rfl rfl (Nat.le_of_ble_eq_true rfl) rfl ?_)
    refine cn ?_
    refine cw_seq ?_
    refine cw_seq ?_
    refine cw_reg1 tok mixed rfl rfl ?_
    refine c0 rfl (w_v (.p (encP sp)) rfl ?_)
    refine c0 rfl (w_v (.p (encP sp)) rfl ?_)
    refine c0 rfl (w_call_1 (l3Flip_fn sp (look_okc hlk (by assumption))) rfl rfl ?_)
    refine c0 rfl (w_call_2 (sCmpPlane_fn sp (flip sp)) rfl rfl rfl ?_)
    refine c0 rfl (w_v (BO (decide (cmpP sp (flip sp) < 0))) rfl ?_)
    refine cn ⟨by kernel_rfl, ?_⟩
    refine cw_cond (t := decide (cmpP sp (flip sp) < 0)) rfl (fun c2 => ?_) (fun c2 => ?_)
    ·
      replace c2 := of_decide_eq_true c2
      refine cw_reg0 tok rfl rfl ?_
      refine c0 rfl (w_v (.p (encP sp)) rfl ?_)
      refine c0 rfl (w_call_1 (l3Flip_fn sp (look_okc hlk (by assumption))) rfl rfl ?_)
      refine c0 rfl (w_st [I64 ((flip sp).a), I64 ((flip sp).b), I64 ((flip sp).c), I64 ((flip sp).d)] rfl rfl rfl rfl rfl (Nat.le_of_ble_eq_true rfl) rfl ?_)
      refine cn ?_
      refine cw_seq ?_
      refine cw_reg0 tok rfl rfl ?_
      refine c0 rfl (w_v (.p (.sl 4 (out.map encP))) rfl ?_)
      refine c0 rfl (w_len (out.length) rfl rfl (by simp) ?_)
      refine c0 rfl (w_v (I64 (out.length : Int)) rfl ?_)
      refine cn ?_
      refine cw_seq ?_
      refine cw_block ?_
      refine cw_loopI (fun nn S => ∃ k : Nat, (k ≤ out.length ∧ insK out (flip sp) k = insK out (flip sp) out.length) ∧ nn = k ∧ S = mkS [(1, .p (.sl 4 (out.map encP))), (2, .pt 2 0 0), (5, .pt 5 0 0), (6, I64 ((k : Nat) : Int))] [(2, 0, .var [BO si, I64 sp.a, I64 sp.b, I64 sp.c, I64 sp.d, .p (.sl 6 (encSs sk))] false), (5, 0, .var [I64 ((flip sp).a), I64 ((flip sp).b), I64 ((flip sp).c), I64 ((flip sp).d)] false)] [(2, 1), (5, 1)]) (out.length) ?_ ?_
      · exact ⟨_, wk_of (tms := [(1, .p (.sl 4 (out.map encP))), (2, .pt 2 0 0), (5, .pt 5 0 0), (6, I64 ((out.length : Nat) : Int))]) (bls := [(2, 0, .var [BO si, I64 sp.a, I64 sp.b, I64 sp.c, I64 sp.d, .p (.sl 6 (encSs sk))] false), (5, 0, .var [I64 ((flip sp).a), I64 ((flip sp).b), I64 ((flip sp).c), I64 ((flip sp).d)] false)]) (gens := [(2, 1), (5, 1)]) ⟨rfl, rfl, rfl, rfl, trivial⟩ ⟨rfl, rfl, trivial⟩ ⟨rfl, rfl, trivial⟩ rfl, out.length, ⟨by omega, rfl⟩, rfl, rfl⟩
      · rintro nn _ ⟨k, ⟨hk, hx⟩, hn1, rfl⟩
        refine cw_seq ?_
        refine cw_seq ?_
        refine cw_reg1 tok mixed rfl rfl ?_
        refine c0 rfl (w_v (I64 ((k : Nat) : Int)) rfl ?_)
        refine c0 rfl (w_v (BO (decide (((k : Nat) : Int) > 0))) rfl ?_)
        refine c0 rfl (w_v (BO (decide (((k : Nat) : Int) > 0))) rfl ?_)
        refine cgS (b := decide (((k : Nat) : Int) > 0)) rfl rfl rfl (fun c3 => ?_) (fun c3 => ?_)
        ·
          replace c3 := of_decide_eq_true c3
          refine cgT rfl rfl rfl (w_v (.p (.sl 4 (out.map encP))) rfl ?_)
          refine cgT rfl rfl rfl (w_v (I64 ((k : Nat) : Int)) rfl ?_)
          refine cgT rfl rfl rfl (w_i (((k : Nat) : Int) - 1) rfl (by unfold inI; omega) ?_)
          obtain ⟨q, hq⟩ := getE (l := out) (i := (((k : Nat) : Int) - 1).toNat) (by omega)
          refine cgT rfl rfl rfl (w_ix (((k : Nat) : Int) - 1) (encP q) rfl rfl rfl (by omega) (getM hq) ?_)
          refine cgT rfl rfl rfl (w_v (.p (encP q)) rfl ?_)
          refine cgT rfl rfl rfl (w_v (.p (encP (flip sp))) rfl ?_)
          refine cgT rfl rfl rfl (w_call_2 (sCmpPlane_fn q (flip sp)) rfl rfl rfl ?_)
          refine cgT rfl rfl rfl (w_v (BO (decide (cmpP q (flip sp) > 0))) rfl ?_)
          refine c0 rfl (w_v (BO (decide (cmpP q (flip sp) > 0))) rfl ?_)
          refine cn ⟨by kernel_rfl, ?_⟩
          refine cw_cond (t := decide (cmpP q (flip sp) > 0)) rfl (fun c4 => ?_) (fun c4 => ?_)
          ·
            replace c4 := of_decide_eq_true c4
            refine cw_skip ?_
            refine cw_block ?_
            refine cw_reg0 tok rfl rfl ?_
            refine c0 rfl (w_v (I64 ((k : Nat) : Int)) rfl ?_)
            refine c0 rfl (w_i (((k : Nat) : Int) - 1) rfl (by unfold inI; omega) (cv (by exact congrArg I64 (by omega) : (I64 (((k : Nat) : Int) - 1) : AV) = I64 ((k - 1 : Nat) : Int)) ?_))
            refine c0 rfl (w_v (I64 ((k - 1 : Nat) : Int)) rfl ?_)
            refine cn ?_
            exact ⟨_, _, by omega, wk_of (tms := [(1, .p (.sl 4 (out.map encP))), (2, .pt 2 0 0), (5, .pt 5 0 0), (6, I64 (((k - 1) : Nat) : Int))]) (bls := [(2, 0, .var [BO si, I64 sp.a, I64 sp.b, I64 sp.c, I64 sp.d, .p (.sl 6 (encSs sk))] false), (5, 0, .var [I64 ((flip sp).a), I64 ((flip sp).b), I64 ((flip sp).c), I64 ((flip sp).d)] false)]) (gens := [(2, 1), (5, 1)]) ⟨rfl, rfl, rfl, rfl, trivial⟩ ⟨rfl, rfl, trivial⟩ ⟨rfl, rfl, trivial⟩ rfl, (k - 1), ⟨by omega, by rw [← hx]; exact insK_go (by omega) hq (by assumption)⟩, rfl, rfl⟩
          ·
            replace c4 := of_decide_eq_false c4
            refine cw_exit ?_
            refine cw_seq ?_
            refine cw_seq ?_
            refine cw_reg1 tok mixed rfl rfl ?_
            refine c0 rfl (w_v (I64 ((k : Nat) : Int)) rfl ?_)
            refine c0 rfl (w_eqi (((k : Nat) : Int)) (0) rfl rfl ?_)
            refine c0 rfl (w_v (BO (decide (((k : Nat) : Int) = 0))) rfl ?_)
            refine cgS (b := decide (((k : Nat) : Int) = 0)) rfl rfl rfl (fun c5 => ?_) (fun c5 => ?_)
            ·
              replace c5 := of_decide_eq_true c5
              refine cgF (v := .bool true) rfl rfl rfl rfl ?_
              refine cgF (v := .bool true) rfl rfl rfl rfl ?_
              refine cgF (v := .bool true) rfl rfl rfl rfl ?_
              refine cgF (v := .bool true) rfl rfl rfl rfl ?_
              refine cgF (v := .bool true) rfl rfl rfl rfl ?_
              refine cgF (v := .bool true) rfl rfl rfl rfl ?_
              refine cgF (v := .bool true) rfl rfl rfl rfl ?_
              refine c0 rfl (w_v (BO true) rfl ?_)
              refine cn ⟨by kernel_rfl, ?_⟩
              refine cw_cond (t := true) rfl (fun _ => ?_) (fun h => nomatch h)
              refine cw_seq ?_
              refine cw_reg1 tok mixed rfl rfl ?_
              refine c0 rfl (w_bsl (g := 1) [] rfl rfl rfl rfl (Nat.le_of_ble_eq_true rfl) (Nat.le_of_ble_eq_true rfl) (Nat.le_of_ble_eq_true rfl) (.nil _) rfl rfl ?_)
              refine c0 rfl (w_v (.p (.sl 4 (out.map encP))) rfl ?_)
              refine c0 rfl (w_v (I64 ((k : Nat) : Int)) rfl ?_)
              refine c0 rfl (w_sub (0) (k) ((out.take k).map encP) rfl rfl rfl rfl rfl rfl rfl (by omega) (by (try simp) <;> omega) mapT ?_)
              refine c0 rfl (w_appo ((out.take k).map encP) ((out.take k).map encP) ((out.take k).length) rfl rfl rfl rfl rfl rfl (Nat.le_of_ble_eq_true rfl) (sz_map fun _ => rfl) rfl rfl rfl (by show (_ + _) * 32 ≤ _; (try simp) <;> omega) (by (try simp) <;> omega) rfl (by (try simp) <;> omega) ?_)
              refine c0 rfl (w_v (.p (encP (flip sp))) rfl ?_)
              refine c0 rfl (w_bsl (g := 1) [encP (flip sp)] rfl rfl rfl rfl (Nat.le_of_ble_eq_true rfl) (Nat.le_of_ble_eq_true rfl) (Nat.le_of_ble_eq_true rfl) (.cons _ _ _ _ _ _ _ [] [] (.one _ _ _ _ _ (.p _ _)) (.nil _)) rfl rfl ?_)
              refine c0 rfl (w_appo ([flip sp].map encP) (((out.take k) ++ [flip sp]).map encP) (((out.take k) ++ [flip sp]).length) rfl rfl rfl rfl rfl (list_os rfl rfl) (Nat.le_of_ble_eq_true rfl) (sz_map fun _ => rfl) (by simp) rfl rfl (by show (_ + _) * 32 ≤ _; (try simp) <;> omega) (by (try simp) <;> omega) List.map_append.symm (by (try simp) <;> omega) ?_)
              refine c0 rfl (w_v (.os 47 1 (((out.take k) ++ [flip sp]).length)) rfl ?_)
              refine cn ⟨by kernel_rfl, ?_⟩
              refine cw_reg0 tok rfl rfl ?_
              refine c0 rfl (w_v (.os 47 1 (((out.take k) ++ [flip sp]).length)) rfl ?_)
              refine c0 rfl (w_v (.p (.sl 4 (out.map encP))) rfl ?_)
              refine c0 rfl (w_v (I64 ((k : Nat) : Int)) rfl ?_)
              refine c0 rfl (w_sub (k) (out.length) ((out.drop k).map encP) rfl rfl rfl rfl rfl rfl (by simp [hiOk]) (by omega) (by simp) mapD ?_)
              refine c0 rfl (w_appo ((out.drop k).map encP) ((((out.take k) ++ [flip sp]) ++ (out.drop k)).map encP) ((((out.take k) ++ [flip sp]) ++ (out.drop k)).length) rfl rfl rfl rfl rfl rfl (Nat.le_of_ble_eq_true rfl) (sz_map fun _ => rfl) (by simp) rfl rfl (by show (_ + _) * 32 ≤ _; (try simp) <;> omega) (by (try simp) <;> omega) List.map_append.symm (by (try simp) <;> omega) ?_)
              refine c0 rfl (w_v (.os 47 1 ((((out.take k) ++ [flip sp]) ++ (out.drop k)).length)) rfl ?_)
              refine cn ?_
              refine cw_seq ?_
              refine cw_reg1 tok mixed rfl rfl ?_
              have hgp : greatS sp = (flip sp) := by unfold greatS; first | exact if_pos (by assumption) | exact if_neg (by assumption)
              have hst : insK out (flip sp) k = k := by first | exact insK_0 (by assumption) | exact insK_stop (by omega) hq (by assumption)
              have hX : ((out.take k) ++ [flip sp]) ++ (out.drop k) = insPl out (greatS sp) := by rw [hgp]; exact ins_yes hx hst (by first | exact .inl (by assumption) | exact .inr ⟨_, hq, by assumption⟩)
              refine c0 rfl (w_v (.pt 2 0 5) rfl ?_)
              refine c0 rfl (w_v (.p (.sl 6 (encSs sk))) rfl ?_)
              obtain ⟨qb, hqb⟩ := getE (l := sk) (i := 1) (by have := look_two hlk (by assumption); omega)
              obtain ⟨qbi, qbp, qbk⟩ := qb
              refine c0 rfl (w_ix (1) (encS (Sol.mk qbi qbp qbk)) rfl rfl rfl (by omega) (getSs hqb) ?_)
              refine c0 rfl (w_v (.p (encS (Sol.mk qbi qbp qbk))) rfl ?_)
              refine c0 rfl (w_v (.pt 2 0 5) rfl ?_)
              refine c0 rfl (w_v (.p (.sl 6 (encSs sk))) rfl ?_)
              obtain ⟨qa, hqa⟩ := getE (l := sk) (i := 0) (by have := look_two hlk (by assumption); omega)
              obtain ⟨qai, qap, qak⟩ := qa
              refine c0 rfl (w_ix (0) (encS (Sol.mk qai qap qak)) rfl rfl rfl (by omega) (getSs hqa) ?_)
              refine c0 rfl (w_v (.p (encS (Sol.mk qai qap qak))) rfl ?_)
              refine c0 rfl (w_v (.os 47 1 ((((out.take k) ++ [flip sp]) ++ (out.drop k)).length)) rfl ?_)
              refine c0 rfl (w_call (.p (.sl 4 ((planesS (Sol.mk qai qap qak) (((out.take k) ++ [flip sp]) ++ (out.drop k))).map encP))) (H _ (List.mem_of_getElem? hqa) (((out.take k) ++ [flip sp]) ++ (out.drop k)) (path ++ [sp]) (by rw [hX]; exact insPl_ok hp (greatS_ok (look_okc hlk (by assumption)))) (by rw [hX]; have := insPl_le out (greatS sp); have := nodes_a hlk hqa; omega) (look_a hlk hqa)) rfl (.cons _ _ _ _ _ _ _ [] _ (.one _ _ _ _ _ (.p _ _)) (.cons _ _ _ _ _ _ _ [] _ (.one _ _ _ _ _ (passOs (xs := (((out.take k) ++ [flip sp]) ++ (out.drop k)).map encP) rfl (by simp))) (.nil _))) rfl (.one _ _ _ _ (.p _ _)) ?_)
              refine c0 rfl (w_call_2 (H _ (List.mem_of_getElem? hqb) (planesS (Sol.mk qai qap qak) (((out.take k) ++ [flip sp]) ++ (out.drop k))) (path ++ [flip sp]) (planes_ok _ _ (path ++ [sp]) (by rw [hX]; exact insPl_ok hp (greatS_ok (look_okc hlk (by assumption)))) (look_a hlk hqa)) (by rw [hX]; have := insPl_le out (greatS sp); have := planes_le (Sol.mk qai qap qak) (insPl out (greatS sp)); have := nodes_ab hlk hqa hqb; omega) (look_b hlk hqb)) rfl rfl rfl ?_)
              refine c0 rfl (w_v (.p (.sl 4 ((planesS (Sol.mk qbi qbp qbk) (planesS (Sol.mk qai qap qak) (((out.take k) ++ [flip sp]) ++ (out.drop k)))).map encP))) rfl ?_)
              refine cn ⟨by kernel_rfl, ?_⟩
              refine cw_ret ?_
              exact fin1 (.sl 4 ((planesS (Sol.mk qbi qbp qbk) (planesS (Sol.mk qai qap qak) (((out.take k) ++ [flip sp]) ++ (out.drop k)))).map encP)) (.sl 4 ((planesS (Sol.mk si sp sk) out).map encP)) rfl (congrArg (fun z => PV.sl 4 (z.map encP)) (by exact planes_n hlk hqa hqb hX : (planesS (Sol.mk qbi qbp qbk) (planesS (Sol.mk qai qap qak) (((out.take k) ++ [flip sp]) ++ (out.drop k)))) = (planesS (Sol.mk si sp sk) out))) rfl
            ·
              replace c5 := of_decide_eq_false c5
              refine cgT rfl rfl rfl (w_v (.p (.sl 4 (out.map encP))) rfl ?_)
              refine cgT rfl rfl rfl (w_v (I64 ((k : Nat) : Int)) rfl ?_)
              refine cgT rfl rfl rfl (w_i (((k : Nat) : Int) - 1) rfl (by unfold inI; omega) ?_)
              refine cgT rfl rfl rfl (w_ix (((k : Nat) : Int) - 1) (encP q) rfl rfl rfl (by omega) (getM hq) ?_)
              refine cgT rfl rfl rfl (w_v (.p (encP q)) rfl ?_)
              refine cgT rfl rfl rfl (w_v (.p (encP (flip sp))) rfl ?_)
              refine cgT rfl rfl rfl (w_eqag (decide (q ≠ (flip sp))) rfl rfl rfl eqPl (dnPl q (flip sp)) ?_)
              refine c0 rfl (w_v (BO (decide (q ≠ (flip sp)))) rfl ?_)
              refine cn ⟨by kernel_rfl, ?_⟩
              refine cw_cond (t := decide (q ≠ (flip sp))) rfl (fun c6 => ?_) (fun c6 => ?_)
              ·
                replace c6 := of_decide_eq_true c6
                refine cw_seq ?_
                refine cw_reg1 tok mixed rfl rfl ?_
                refine c0 rfl (w_bsl (g := 1) [] rfl rfl rfl rfl (Nat.le_of_ble_eq_true rfl) (Nat.le_of_ble_eq_true rfl) (Nat.le_of_ble_eq_true rfl) (.nil _) rfl rfl ?_)
                refine c0 rfl (w_v (.p (.sl 4 (out.map encP))) rfl ?_)
                refine c0 rfl (w_v (I64 ((k : Nat) : Int)) rfl ?_)
                refine c0 rfl (w_sub (0) (k) ((out.take k).map encP) rfl rfl rfl rfl rfl rfl rfl (by omega) (by (try simp) <;> omega) mapT ?_)
                refine c0 rfl (w_appo ((out.take k).map encP) ((out.take k).map encP) ((out.take k).length) rfl rfl rfl rfl rfl rfl (Nat.le_of_ble_eq_true rfl) (sz_map fun _ => rfl) rfl rfl rfl (by show (_ + _) * 32 ≤ _; (try simp) <;> omega) (by (try simp) <;> omega) rfl (by (try simp) <;> omega) ?_)
                refine c0 rfl (w_v (.p (encP (flip sp))) rfl ?_)
                refine c0 rfl (w_bsl (g := 1) [encP (flip sp)] rfl rfl rfl rfl (Nat.le_of_ble_eq_true rfl) (Nat.le_of_ble_eq_true rfl) (Nat.le_of_ble_eq_true rfl) (.cons _ _ _ _ _ _ _ [] [] (.one _ _ _ _ _ (.p _ _)) (.nil _)) rfl rfl ?_)
                refine c0 rfl (w_appo ([flip sp].map encP) (((out.take k) ++ [flip sp]).map encP) (((out.take k) ++ [flip sp]).length) rfl rfl rfl rfl rfl (list_os rfl rfl) (Nat.le_of_ble_eq_true rfl) (sz_map fun _ => rfl) (by simp) rfl rfl (by show (_ + _) * 32 ≤ _; (try simp) <;> omega) (by (try simp) <;> omega) List.map_append.symm (by (try simp) <;> omega) ?_)
                refine c0 rfl (w_v (.os 47 1 (((out.take k) ++ [flip sp]).length)) rfl ?_)
                refine cn ⟨by kernel_rfl, ?_⟩
                refine cw_reg0 tok rfl rfl ?_
                refine c0 rfl (w_v (.os 47 1 (((out.take k) ++ [flip sp]).length)) rfl ?_)
                refine c0 rfl (w_v (.p (.sl 4 (out.map encP))) rfl ?_)
                refine c0 rfl (w_v (I64 ((k : Nat) : Int)) rfl ?_)
                refine c0 rfl (w_sub (k) (out.length) ((out.drop k).map encP) rfl rfl rfl rfl rfl rfl (by simp [hiOk]) (by omega) (by simp) mapD ?_)
                refine c0 rfl (w_appo ((out.drop k).map encP) ((((out.take k) ++ [flip sp]) ++ (out.drop k)).map encP) ((((out.take k) ++ [flip sp]) ++ (out.drop k)).length) rfl rfl rfl rfl rfl rfl (Nat.le_of_ble_eq_true rfl) (sz_map fun _ => rfl) (by simp) rfl rfl (by show (_ + _) * 32 ≤ _; (try simp) <;> omega) (by (try simp) <;> omega) List.map_append.symm (by (try simp) <;> omega) ?_)
                refine c0 rfl (w_v (.os 47 1 ((((out.take k) ++ [flip sp]) ++ (out.drop k)).length)) rfl ?_)
                refine cn ?_
                refine cw_seq ?_
                refine cw_reg1 tok mixed rfl rfl ?_
                have hgp : greatS sp = (flip sp) := by unfold greatS; first | exact if_pos (by assumption) | exact if_neg (by assumption)
                have hst : insK out (flip sp) k = k := by first | exact insK_0 (by assumption) | exact insK_stop (by omega) hq (by assumption)
                have hX : ((out.take k) ++ [flip sp]) ++ (out.drop k) = insPl out (greatS sp) := by rw [hgp]; exact ins_yes hx hst (by first | exact .inl (by assumption) | exact .inr ⟨_, hq, by assumption⟩)
                refine c0 rfl (w_v (.pt 2 0 5) rfl ?_)
                refine c0 rfl (w_v (.p (.sl 6 (encSs sk))) rfl ?_)
                obtain ⟨qb, hqb⟩ := getE (l := sk) (i := 1) (by have := look_two hlk (by assumption); omega)
                obtain ⟨qbi, qbp, qbk⟩ := qb
                refine c0 rfl (w_ix (1) (encS (Sol.mk qbi qbp qbk)) rfl rfl rfl (by omega) (getSs hqb) ?_)
                refine c0 rfl (w_v (.p (encS (Sol.mk qbi qbp qbk))) rfl ?_)
                refine c0 rfl (w_v (.pt 2 0 5) rfl ?_)
                refine c0 rfl (w_v (.p (.sl 6 (encSs sk))) rfl ?_)
                obtain ⟨qa, hqa⟩ := getE (l := sk) (i := 0) (by have := look_two hlk (by assumption); omega)
                obtain ⟨qai, qap, qak⟩ := qa
                refine c0 rfl (w_ix (0) (encS (Sol.mk qai qap qak)) rfl rfl rfl (by omega) (getSs hqa) ?_)
                refine c0 rfl (w_v (.p (encS (Sol.mk qai qap qak))) rfl ?_)
                refine c0 rfl (w_v (.os 47 1 ((((out.take k) ++ [flip sp]) ++ (out.drop k)).length)) rfl ?_)
                refine c0 rfl (w_call (.p (.sl 4 ((planesS (Sol.mk qai qap qak) (((out.take k) ++ [flip sp]) ++ (out.drop k))).map encP))) (H _ (List.mem_of_getElem? hqa) (((out.take k) ++ [flip sp]) ++ (out.drop k)) (path ++ [sp]) (by rw [hX]; exact insPl_ok hp (greatS_ok (look_okc hlk (by assumption)))) (by rw [hX]; have := insPl_le out (greatS sp); have := nodes_a hlk hqa; omega) (look_a hlk hqa)) rfl (.cons _ _ _ _ _ _ _ [] _ (.one _ _ _ _ _ (.p _ _)) (.cons _ _ _ _ _ _ _ [] _ (.one _ _ _ _ _ (passOs (xs := (((out.take k) ++ [flip sp]) ++ (out.drop k)).map encP) rfl (by simp))) (.nil _))) rfl (.one _ _ _ _ (.p _ _)) ?_)
                refine c0 rfl (w_call_2 (H _ (List.mem_of_getElem? hqb) (planesS (Sol.mk qai qap qak) (((out.take k) ++ [flip sp]) ++ (out.drop k))) (path ++ [flip sp]) (planes_ok _ _ (path ++ [sp]) (by rw [hX]; exact insPl_ok hp (greatS_ok (look_okc hlk (by assumption)))) (look_a hlk hqa)) (by rw [hX]; have := insPl_le out (greatS sp); have := planes_le (Sol.mk qai qap qak) (insPl out (greatS sp)); have := nodes_ab hlk hqa hqb; omega) (look_b hlk hqb)) rfl rfl rfl ?_)
                refine c0 rfl (w_v (.p (.sl 4 ((planesS (Sol.mk qbi qbp qbk) (planesS (Sol.mk qai qap qak) (((out.take k) ++ [flip sp]) ++ (out.drop k)))).map encP))) rfl ?_)
                refine cn ⟨by kernel_rfl, ?_⟩
                refine cw_ret ?_
                exact fin1 (.sl 4 ((planesS (Sol.mk qbi qbp qbk) (planesS (Sol.mk qai qap qak) (((out.take k) ++ [flip sp]) ++ (out.drop k)))).map encP)) (.sl 4 ((planesS (Sol.mk si sp sk) out).map encP)) rfl (congrArg (fun z => PV.sl 4 (z.map encP)) (by exact planes_n hlk hqa hqb hX : (planesS (Sol.mk qbi qbp qbk) (planesS (Sol.mk qai qap qak) (((out.take k) ++ [flip sp]) ++ (out.drop k)))) = (planesS (Sol.mk si sp sk) out))) rfl
              ·
                replace c6 := of_decide_eq_false c6
                refine cw_skip ?_
                refine cw_seq ?_
                refine cw_reg1 tok mixed rfl rfl ?_
                have hgp : greatS sp = (flip sp) := by unfold greatS; first | exact if_pos (by assumption) | exact if_neg (by assumption)
                have hst : insK out (flip sp) k = k := by first | exact insK_0 (by assumption) | exact insK_stop (by omega) hq (by assumption)
                have hX : out = insPl out (greatS sp) := by rw [hgp]; exact ins_no hx hst (by assumption) hq (by assumption)
                refine c0 rfl (w_v (.pt 2 0 5) rfl ?_)
                refine c0 rfl (w_v (.p (.sl 6 (encSs sk))) rfl ?_)
                obtain ⟨qb, hqb⟩ := getE (l := sk) (i := 1) (by have := look_two hlk (by assumption); omega)
                obtain ⟨qbi, qbp, qbk⟩ := qb
                refine c0 rfl (w_ix (1) (encS (Sol.mk qbi qbp qbk)) rfl rfl rfl (by omega) (getSs hqb) ?_)
                refine c0 rfl (w_v (.p (encS (Sol.mk qbi qbp qbk))) rfl ?_)
                refine c0 rfl (w_v (.pt 2 0 5) rfl ?_)
                refine c0 rfl (w_v (.p (.sl 6 (encSs sk))) rfl ?_)
                obtain ⟨qa, hqa⟩ := getE (l := sk) (i := 0) (by have := look_two hlk (by assumption); omega)
                obtain ⟨qai, qap, qak⟩ := qa
                refine c0 rfl (w_ix (0) (encS (Sol.mk qai qap qak)) rfl rfl rfl (by omega) (getSs hqa) ?_)
                refine c0 rfl (w_v (.p (encS (Sol.mk qai qap qak))) rfl ?_)
                refine c0 rfl (w_v (.p (.sl 4 (out.map encP))) rfl ?_)
                refine c0 rfl (w_call_2 (H _ (List.mem_of_getElem? hqa) out (path ++ [sp]) (by rw [hX]; exact insPl_ok hp (greatS_ok (look_okc hlk (by assumption)))) (by rw [hX]; have := insPl_le out (greatS sp); have := nodes_a hlk hqa; omega) (look_a hlk hqa)) rfl rfl rfl ?_)
                refine c0 rfl (w_call_2 (H _ (List.mem_of_getElem? hqb) (planesS (Sol.mk qai qap qak) out) (path ++ [flip sp]) (planes_ok _ _ (path ++ [sp]) (by rw [hX]; exact insPl_ok hp (greatS_ok (look_okc hlk (by assumption)))) (look_a hlk hqa)) (by rw [hX]; have := insPl_le out (greatS sp); have := planes_le (Sol.mk qai qap qak) (insPl out (greatS sp)); have := nodes_ab hlk hqa hqb; omega) (look_b hlk hqb)) rfl rfl rfl ?_)
                refine c0 rfl (w_v (.p (.sl 4 ((planesS (Sol.mk qbi qbp qbk) (planesS (Sol.mk qai qap qak) out)).map encP))) rfl ?_)
                refine cn ⟨by kernel_rfl, ?_⟩
                refine cw_ret ?_
                exact fin1 (.sl 4 ((planesS (Sol.mk qbi qbp qbk) (planesS (Sol.mk qai qap qak) out)).map encP)) (.sl 4 ((planesS (Sol.mk si sp sk) out).map encP)) rfl (congrArg (fun z => PV.sl 4 (z.map encP)) (by exact planes_n hlk hqa hqb hX : (planesS (Sol.mk qbi qbp qbk) (planesS (Sol.mk qai qap qak) out)) = (planesS (Sol.mk si sp sk) out))) rfl
        ·
          replace c3 := of_decide_eq_false c3
          refine cgF (v := .bool false) rfl rfl rfl rfl ?_
          refine cgF (v := .bool false) rfl rfl rfl rfl ?_
          refine cgF (v := .bool false) rfl rfl rfl rfl ?_
          refine cgF (v := .bool false) rfl rfl rfl rfl ?_
          refine cgF (v := .bool false) rfl rfl rfl rfl ?_
          refine cgF (v := .bool false) rfl rfl rfl rfl ?_
          refine cgF (v := .bool false) rfl rfl rfl rfl ?_
          refine cgF (v := .bool false) rfl rfl rfl rfl ?_
          refine c0 rfl (w_v (BO false) rfl ?_)
          refine cn ⟨by kernel_rfl, ?_⟩
          refine cw_cond (t := false) rfl (fun h => nomatch h) (fun _ => ?_)
          refine cw_exit ?_
          refine cw_seq ?_
          refine cw_seq ?_
          refine cw_reg1 tok mixed rfl rfl ?_
          refine c0 rfl (w_v (I64 ((k : Nat) : Int)) rfl ?_)
          refine c0 rfl (w_eqi (((k : Nat) : Int)) (0) rfl rfl ?_)
          refine c0 rfl (w_v (BO (decide (((k : Nat) : Int) = 0))) rfl ?_)
          refine cgS (b := decide (((k : Nat) : Int) = 0)) rfl rfl rfl (fun c7 => ?_) (fun c7 => ?_)
          ·
            replace c7 := of_decide_eq_true c7
            refine cgF (v := .bool true) rfl rfl rfl rfl ?_
            refine cgF (v := .bool true) rfl rfl rfl rfl ?_
            refine cgF (v := .bool true) rfl rfl rfl rfl ?_
            refine cgF (v := .bool true) rfl rfl rfl rfl ?_
            refine cgF (v := .bool true) rfl rfl rfl rfl ?_
            refine cgF (v := .bool true) rfl rfl rfl rfl ?_
            refine cgF (v := .bool true) rfl rfl rfl rfl ?_
            refine c0 rfl (w_v (BO true) rfl ?_)
            refine cn ⟨by kernel_rfl, ?_⟩
            refine cw_cond (t := true) rfl (fun _ => ?_) (fun h => nomatch h)
            refine cw_seq ?_
            refine cw_reg1 tok mixed rfl rfl ?_
            refine c0 rfl (w_bsl (g := 1) [] rfl rfl rfl rfl (Nat.le_of_ble_eq_true rfl) (Nat.le_of_ble_eq_true rfl) (Nat.le_of_ble_eq_true rfl) (.nil _) rfl rfl ?_)
            refine c0 rfl (w_v (.p (.sl 4 (out.map encP))) rfl ?_)
            refine c0 rfl (w_v (I64 ((k : Nat) : Int)) rfl ?_)
            refine c0 rfl (w_sub (0) (k) ((out.take k).map encP) rfl rfl rfl rfl rfl rfl rfl (by omega) (by (try simp) <;> omega) mapT ?_)
            refine c0 rfl (w_appo ((out.take k).map encP) ((out.take k).map encP) ((out.take k).length) rfl rfl rfl rfl rfl rfl (Nat.le_of_ble_eq_true rfl) (sz_map fun _ => rfl) rfl rfl rfl (by show (_ + _) * 32 ≤ _; (try simp) <;> omega) (by (try simp) <;> omega) rfl (by (try simp) <;> omega) ?_)
            refine c0 rfl (w_v (.p (encP (flip sp))) rfl ?_)
            refine c0 rfl (w_bsl (g := 1) [encP (flip sp)] rfl rfl rfl rfl (Nat.le_of_ble_eq_true rfl) (Nat.le_of_ble_eq_true rfl) (Nat.le_of_ble_eq_true rfl) (.cons _ _ _ _ _ _ _ [] [] (.one _ _ _ _ _ (.p _ _)) (.nil _)) rfl rfl ?_)
            refine c0 rfl (w_appo ([flip sp].map encP) (((out.take k) ++ [flip sp]).map encP) (((out.take k) ++ [flip sp]).length) rfl rfl rfl rfl rfl (list_os rfl rfl) (Nat.le_of_ble_eq_true rfl) (sz_map fun _ => rfl) (by simp) rfl rfl (by show (_ + _) * 32 ≤ _; (try simp) <;> omega) (by (try simp) <;> omega) List.map_append.symm (by (try simp) <;> omega) ?_)
            refine c0 rfl (w_v (.os 47 1 (((out.take k) ++ [flip sp]).length)) rfl ?_)
            refine cn ⟨by kernel_rfl, ?_⟩
            refine cw_reg0 tok rfl rfl ?_
            refine c0 rfl (w_v (.os 47 1 (((out.take k) ++ [flip sp]).length)) rfl ?_)
            refine c0 rfl (w_v (.p (.sl 4 (out.map encP))) rfl ?_)
            refine c0 rfl (w_v (I64 ((k : Nat) : Int)) rfl ?_)
            refine c0 rfl (w_sub (k) (out.length) ((out.drop k).map encP) rfl rfl rfl rfl rfl rfl (by simp [hiOk]) (by omega) (by simp) mapD ?_)
            refine c0 rfl (w_appo ((out.drop k).map encP) ((((out.take k) ++ [flip sp]) ++ (out.drop k)).map encP) ((((out.take k) ++ [flip sp]) ++ (out.drop k)).length) rfl rfl rfl rfl rfl rfl (Nat.le_of_ble_eq_true rfl) (sz_map fun _ => rfl) (by simp) rfl rfl (by show (_ + _) * 32 ≤ _; (try simp) <;> omega) (by (try simp) <;> omega) List.map_append.symm (by (try simp) <;> omega) ?_)
            refine c0 rfl (w_v (.os 47 1 ((((out.take k) ++ [flip sp]) ++ (out.drop k)).length)) rfl ?_)
            refine cn ?_
            refine cw_seq ?_
            refine cw_reg1 tok mixed rfl rfl ?_
            have hgp : greatS sp = (flip sp) := by unfold greatS; first | exact if_pos (by assumption) | exact if_neg (by assumption)
            have hst : insK out (flip sp) k = k := by first | exact insK_0 (by assumption) | exact insK_stop (by omega) hq (by assumption)
            have hX : ((out.take k) ++ [flip sp]) ++ (out.drop k) = insPl out (greatS sp) := by rw [hgp]; exact ins_yes hx hst (by first | exact .inl (by assumption) | exact .inr ⟨_, hq, by assumption⟩)
            refine c0 rfl (w_v (.pt 2 0 5) rfl ?_)
            refine c0 rfl (w_v (.p (.sl 6 (encSs sk))) rfl ?_)
            obtain ⟨qb, hqb⟩ := getE (l := sk) (i := 1) (by have := look_two hlk (by assumption); omega)
            obtain ⟨qbi, qbp, qbk⟩ := qb
            refine c0 rfl (w_ix (1) (encS (Sol.mk qbi qbp qbk)) rfl rfl rfl (by omega) (getSs hqb) ?_)
            refine c0 rfl (w_v (.p (encS (Sol.mk qbi qbp qbk))) rfl ?_)
            refine c0 rfl (w_v (.pt 2 0 5) rfl ?_)
            refine c0 rfl (w_v (.p (.sl 6 (encSs sk))) rfl ?_)
            obtain ⟨qa, hqa⟩ := getE (l := sk) (i := 0) (by have := look_two hlk (by assumption); omega)
            obtain ⟨qai, qap, qak⟩ := qa
            refine c0 rfl (w_ix (0) (encS (Sol.mk qai qap qak)) rfl rfl rfl (by omega) (getSs hqa) ?_)
            refine c0 rfl (w_v (.p (encS (Sol.mk qai qap qak))) rfl ?_)
            refine c0 rfl (w_v (.os 47 1 ((((out.take k) ++ [flip sp]) ++ (out.drop k)).length)) rfl ?_)
            refine c0 rfl (w_call (.p (.sl 4 ((planesS (Sol.mk qai qap qak) (((out.take k) ++ [flip sp]) ++ (out.drop k))).map encP))) (H _ (List.mem_of_getElem? hqa) (((out.take k) ++ [flip sp]) ++ (out.drop k)) (path ++ [sp]) (by rw [hX]; exact insPl_ok hp (greatS_ok (look_okc hlk (by assumption)))) (by rw [hX]; have := insPl_le out (greatS sp); have := nodes_a hlk hqa; omega) (look_a hlk hqa)) rfl (.cons _ _ _ _ _ _ _ [] _ (.one _ _ _ _ _ (.p _ _)) (.cons _ _ _ _ _ _ _ [] _ (.one _ _ _ _ _ (passOs (xs := (((out.take k) ++ [flip sp]) ++ (out.drop k)).map encP) rfl (by simp))) (.nil _))) rfl (.one _ _ _ _ (.p _ _)) ?_)
            refine c0 rfl (w_call_2 (H _ (List.mem_of_getElem? hqb) (planesS (Sol.mk qai qap qak) (((out.take k) ++ [flip sp]) ++ (out.drop k))) (path ++ [flip sp]) (planes_ok _ _ (path ++ [sp]) (by rw [hX]; exact insPl_ok hp (greatS_ok (look_okc hlk (by assumption)))) (look_a hlk hqa)) (by rw [hX]; have := insPl_le out (greatS sp); have := planes_le (Sol.mk qai qap qak) (insPl out (greatS sp)); have := nodes_ab hlk hqa hqb; omega) (look_b hlk hqb)) rfl rfl rfl ?_)
            refine c0 rfl (w_v (.p (.sl 4 ((planesS (Sol.mk qbi qbp qbk) (planesS (Sol.mk qai qap qak) (((out.take k) ++ [flip sp]) ++ (out.drop k)))).map encP))) rfl ?_)
            refine cn ⟨by kernel_rfl, ?_⟩
            refine cw_ret ?_
            exact fin1 (.sl 4 ((planesS (Sol.mk qbi qbp qbk) (planesS (Sol.mk qai qap qak) (((out.take k) ++ [flip sp]) ++ (out.drop k)))).map encP)) (.sl 4 ((planesS (Sol.mk si sp sk) out).map encP)) rfl (congrArg (fun z => PV.sl 4 (z.map encP)) (by exact planes_n hlk hqa hqb hX : (planesS (Sol.mk qbi qbp qbk) (planesS (Sol.mk qai qap qak) (((out.take k) ++ [flip sp]) ++ (out.drop k)))) = (planesS (Sol.mk si sp sk) out))) rfl
          ·
            replace c7 := of_decide_eq_false c7
            refine cgT rfl rfl rfl (w_v (.p (.sl 4 (out.map encP))) rfl ?_)
            refine cgT rfl rfl rfl (w_v (I64 ((k : Nat) : Int)) rfl ?_)
            refine cgT rfl rfl rfl (w_i (((k : Nat) : Int) - 1) rfl (by unfold inI; omega) ?_)
            obtain ⟨q, hq⟩ := getE (l := out) (i := (((k : Nat) : Int) - 1).toNat) (by omega)
            refine cgT rfl rfl rfl (w_ix (((k : Nat) : Int) - 1) (encP q) rfl rfl rfl (by omega) (getM hq) ?_)
            refine cgT rfl rfl rfl (w_v (.p (encP q)) rfl ?_)
            refine cgT rfl rfl rfl (w_v (.p (encP (flip sp))) rfl ?_)
            refine cgT rfl rfl rfl (w_eqag (decide (q ≠ (flip sp))) rfl rfl rfl eqPl (dnPl q (flip sp)) ?_)
            refine c0 rfl (w_v (BO (decide (q ≠ (flip sp)))) rfl ?_)
            refine cn ⟨by kernel_rfl, ?_⟩
            refine cw_cond (t := decide (q ≠ (flip sp))) rfl (fun c8 => ?_) (fun c8 => ?_)
            ·
              replace c8 := of_decide_eq_true c8
              refine cw_seq ?_
              refine cw_reg1 tok mixed rfl rfl ?_
              refine c0 rfl (w_bsl (g := 1) [] rfl rfl rfl rfl (Nat.le_of_ble_eq_true rfl) (Nat.le_of_ble_eq_true rfl) (Nat.le_of_ble_eq_true rfl) (.nil _) rfl rfl ?_)
              refine c0 rfl (w_v (.p (.sl 4 (out.map encP))) rfl ?_)
              refine c0 rfl (w_v (I64 ((k : Nat) : Int)) rfl ?_)
              refine c0 rfl (w_sub (0) (k) ((out.take k).map encP) rfl rfl rfl rfl rfl rfl rfl (by omega) (by (try simp) <;> omega) mapT ?_)
              refine c0 rfl (w_appo ((out.take k).map encP) ((out.take k).map encP) ((out.take k).length) rfl rfl rfl rfl rfl rfl (Nat.le_of_ble_eq_true rfl) (sz_map fun _ => rfl) rfl rfl rfl (by show (_ + _) * 32 ≤ _; (try simp) <;> omega) (by (try simp) <;> omega) rfl (by (try simp) <;> omega) ?_)
              refine c0 rfl (w_v (.p (encP (flip sp))) rfl ?_)
              refine c0 rfl (w_bsl (g := 1) [encP (flip sp)] rfl rfl rfl rfl (Nat.le_of_ble_eq_true rfl) (Nat.le_of_ble_eq_true rfl) (Nat.le_of_ble_eq_true rfl) (.cons _ _ _ _ _ _ _ [] [] (.one _ _ _ _ _ (.p _ _)) (.nil _)) rfl rfl ?_)
              refine c0 rfl (w_appo ([flip sp].map encP) (((out.take k) ++ [flip sp]).map encP) (((out.take k) ++ [flip sp]).length) rfl rfl rfl rfl rfl (list_os rfl rfl) (Nat.le_of_ble_eq_true rfl) (sz_map fun _ => rfl) (by simp) rfl rfl (by show (_ + _) * 32 ≤ _; (try simp) <;> omega) (by (try simp) <;> omega) List.map_append.symm (by (try simp) <;> omega) ?_)
              refine c0 rfl (w_v (.os 47 1 (((out.take k) ++ [flip sp]).length)) rfl ?_)
              refine cn ⟨by kernel_rfl, ?_⟩
              refine cw_reg0 tok rfl rfl ?_
              refine c0 rfl (w_v (.os 47 1 (((out.take k) ++ [flip sp]).length)) rfl ?_)
              refine c0 rfl (w_v (.p (.sl 4 (out.map encP))) rfl ?_)
              refine c0 rfl (w_v (I64 ((k : Nat) : Int)) rfl ?_)
              refine c0 rfl (w_sub (k) (out.length) ((out.drop k).map encP) rfl rfl rfl rfl rfl rfl (by simp [hiOk]) (by omega) (by simp) mapD ?_)
              refine c0 rfl (w_appo ((out.drop k).map encP) ((((out.take k) ++ [flip sp]) ++ (out.drop k)).map encP) ((((out.take k) ++ [flip sp]) ++ (out.drop k)).length) rfl rfl rfl rfl rfl rfl (Nat.le_of_ble_eq_true rfl) (sz_map fun _ => rfl) (by simp) rfl rfl (by show (_ + _) * 32 ≤ _; (try simp) <;> omega) (by (try simp) <;> omega) List.map_append.symm (by (try simp) <;> omega) ?_)
              refine c0 rfl (w_v (.os 47 1 ((((out.take k) ++ [flip sp]) ++ (out.drop k)).length)) rfl ?_)
              refine cn ?_
              refine cw_seq ?_
              refine cw_reg1 tok mixed rfl rfl ?_
              have hgp : greatS sp = (flip sp) := by unfold greatS; first | exact if_pos (by assumption) | exact if_neg (by assumption)
              have hst : insK out (flip sp) k = k := by first | exact insK_0 (by assumption) | exact insK_stop (by omega) hq (by assumption)
              have hX : ((out.take k) ++ [flip sp]) ++ (out.drop k) = insPl out (greatS sp) := by rw [hgp]; exact ins_yes hx hst (by first | exact .inl (by assumption) | exact .inr ⟨_, hq, by assumption⟩)
              refine c0 rfl (w_v (.pt 2 0 5) rfl ?_)
              refine c0 rfl (w_v (.p (.sl 6 (encSs sk))) rfl ?_)
              obtain ⟨qb, hqb⟩ := getE (l := sk) (i := 1) (by have := look_two hlk (by assumption); omega)
              obtain ⟨qbi, qbp, qbk⟩ := qb
              refine c0 rfl (w_ix (1) (encS (Sol.mk qbi qbp qbk)) rfl rfl rfl (by omega) (getSs hqb) ?_)
              refine c0 rfl (w_v (.p (encS (Sol.mk qbi qbp qbk))) rfl ?_)
              refine c0 rfl (w_v (.pt 2 0 5) rfl ?_)
              refine c0 rfl (w_v (.p (.sl 6 (encSs sk))) rfl ?_)
              obtain ⟨qa, hqa⟩ := getE (l := sk) (i := 0) (by have := look_two hlk (by assumption); omega)
              obtain ⟨qai, qap, qak⟩ := qa
              refine c0 rfl (w_ix (0) (encS (Sol.mk qai qap qak)) rfl rfl rfl (by omega) (getSs hqa) ?_)
              refine c0 rfl (w_v (.p (encS (Sol.mk qai qap qak))) rfl ?_)
              refine c0 rfl (w_v (.os 47 1 ((((out.take k) ++ [flip sp]) ++ (out.drop k)).length)) rfl ?_)
              refine c0 rfl (w_call (.p (.sl 4 ((planesS (Sol.mk qai qap qak) (((out.take k) ++ [flip sp]) ++ (out.drop k))).map encP))) (H _ (List.mem_of_getElem? hqa) (((out.take k) ++ [flip sp]) ++ (out.drop k)) (path ++ [sp]) (by rw [hX]; exact insPl_ok hp (greatS_ok (look_okc hlk (by assumption)))) (by rw [hX]; have := insPl_le out (greatS sp); have := nodes_a hlk hqa; omega) (look_a hlk hqa)) rfl (.cons _ _ _ _ _ _ _ [] _ (.one _ _ _ _ _ (.p _ _)) (.cons _ _ _ _ _ _ _ [] _ (.one _ _ _ _ _ (passOs (xs := (((out.take k) ++ [flip sp]) ++ (out.drop k)).map encP) rfl (by simp))) (.nil _))) rfl (.one _ _ _ _ (.p _ _)) ?_)
              refine c0 rfl (w_call_2 (H _ (List.mem_of_getElem? hqb) (planesS (Sol.mk qai qap qak) (((out.take k) ++ [flip sp]) ++ (out.drop k))) (path ++ [flip sp]) (planes_ok _ _ (path ++ [sp]) (by rw [hX]; exact insPl_ok hp (greatS_ok (look_okc hlk (by assumption)))) (look_a hlk hqa)) (by rw [hX]; have := insPl_le out (greatS sp); have := planes_le (Sol.mk qai qap qak) (insPl out (greatS sp)); have := nodes_ab hlk hqa hqb; omega) (look_b hlk hqb)) rfl rfl rfl ?_)
              refine c0 rfl (w_v (.p (.sl 4 ((planesS (Sol.mk qbi qbp qbk) (planesS (Sol.mk qai qap qak) (((out.take k) ++ [flip sp]) ++ (out.drop k)))).map encP))) rfl ?_)
              refine cn ⟨by kernel_rfl, ?_⟩
              refine cw_ret ?_
              exact fin1 (.sl 4 ((planesS (Sol.mk qbi qbp qbk) (planesS (Sol.mk qai qap qak) (((out.take k) ++ [flip sp]) ++ (out.drop k)))).map encP)) (.sl 4 ((planesS (Sol.mk si sp sk) out).map encP)) rfl (congrArg (fun z => PV.sl 4 (z.map encP)) (by exact planes_n hlk hqa hqb hX : (planesS (Sol.mk qbi qbp qbk) (planesS (Sol.mk qai qap qak) (((out.take k) ++ [flip sp]) ++ (out.drop k)))) = (planesS (Sol.mk si sp sk) out))) rfl
            ·
              replace c8 := of_decide_eq_false c8
              refine cw_skip ?_
              refine cw_seq ?_
              refine cw_reg1 tok mixed rfl rfl ?_
              have hgp : greatS sp = (flip sp) := by unfold greatS; first | exact if_pos (by assumption) | exact if_neg (by assumption)
              have hst : insK out (flip sp) k = k := by first | exact insK_0 (by assumption) | exact insK_stop (by omega) hq (by assumption)
              have hX : out = insPl out (greatS sp) := by rw [hgp]; exact ins_no hx hst (by assumption) hq (by assumption)
              refine c0 rfl (w_v (.pt 2 0 5) rfl ?_)
              refine c0 rfl (w_v (.p (.sl 6 (encSs sk))) rfl ?_)
              obtain ⟨qb, hqb⟩ := getE (l := sk) (i := 1) (by have := look_two hlk (by assumption); omega)
              obtain ⟨qbi, qbp, qbk⟩ := qb
              refine c0 rfl (w_ix (1) (encS (Sol.mk qbi qbp qbk)) rfl rfl rfl (by omega) (getSs hqb) ?_)
              refine c0 rfl (w_v (.p (encS (Sol.mk qbi qbp qbk))) rfl ?_)
              refine c0 rfl (w_v (.pt 2 0 5) rfl ?_)
              refine c0 rfl (w_v (.p (.sl 6 (encSs sk))) rfl ?_)
              obtain ⟨qa, hqa⟩ := getE (l := sk) (i := 0) (by have := look_two hlk (by assumption); omega)
              obtain ⟨qai, qap, qak⟩ := qa
              refine c0 rfl (w_ix (0) (encS (Sol.mk qai qap qak)) rfl rfl rfl (by omega) (getSs hqa) ?_)
              refine c0 rfl (w_v (.p (encS (Sol.mk qai qap qak))) rfl ?_)
              refine c0 rfl (w_v (.p (.sl 4 (out.map encP))) rfl ?_)
              refine c0 rfl (w_call_2 (H _ (List.mem_of_getElem? hqa) out (path ++ [sp]) (by rw [hX]; exact insPl_ok hp (greatS_ok (look_okc hlk (by assumption)))) (by rw [hX]; have := insPl_le out (greatS sp); have := nodes_a hlk hqa; omega) (look_a hlk hqa)) rfl rfl rfl ?_)
              refine c0 rfl (w_call_2 (H _ (List.mem_of_getElem? hqb) (planesS (Sol.mk qai qap qak) out) (path ++ [flip sp]) (planes_ok _ _ (path ++ [sp]) (by rw [hX]; exact insPl_ok hp (greatS_ok (look_okc hlk (by assumption)))) (look_a hlk hqa)) (by rw [hX]; have := insPl_le out (greatS sp); have := planes_le (Sol.mk qai qap qak) (insPl out (greatS sp)); have := nodes_ab hlk hqa hqb; omega) (look_b hlk hqb)) rfl rfl rfl ?_)
              refine c0 rfl (w_v (.p (.sl 4 ((planesS (Sol.mk qbi qbp qbk) (planesS (Sol.mk qai qap qak) out)).map encP))) rfl ?_)
              refine cn ⟨by kernel_rfl, ?_⟩
              refine cw_ret ?_
              exact fin1 (.sl 4 ((planesS (Sol.mk qbi qbp qbk) (planesS (Sol.mk qai qap qak) out)).map encP)) (.sl 4 ((planesS (Sol.mk si sp sk) out).map encP)) rfl (congrArg (fun z => PV.sl 4 (z.map encP)) (by exact planes_n hlk hqa hqb hX : (planesS (Sol.mk qbi qbp qbk) (planesS (Sol.mk qai qap qak) out)) = (planesS (Sol.mk si sp sk) out))) rfl
    ·
      replace c2 := of_decide_eq_false c2
      refine cw_skip ?_
      refine cw_seq ?_
      refine cw_reg0 tok rfl rfl ?_
      refine c0 rfl (w_v (.p (.sl 4 (out.map encP))) rfl ?_)
      refine c0 rfl (w_len (out.length) rfl rfl (by simp) ?_)
      refine c0 rfl (w_v (I64 (out.length : Int)) rfl ?_)
      refine cn ?_
      refine cw_seq ?_
      refine cw_block ?_
      refine cw_loopI (fun nn S => ∃ k : Nat, (k ≤ out.length ∧ insK out sp k = insK out sp out.length) ∧ nn = k ∧ S = mkS [(1, .p (.sl 4 (out.map encP))), (2, .pt 2 0 0), (5, .pt 5 0 0), (6, I64 ((k : Nat) : Int))] [(2, 0, .var [BO si, I64 sp.a, I64 sp.b, I64 sp.c, I64 sp.d, .p (.sl 6 (encSs sk))] false), (5, 0, .var [I64 sp.a, I64 sp.b, I64 sp.c, I64 sp.d] false)] [(2, 1), (5, 1)]) (out.length) ?_ ?_
      · exact ⟨_, wk_of (tms := [(1, .p (.sl 4 (out.map encP))), (2, .pt 2 0 0), (5, .pt 5 0 0), (6, I64 ((out.length : Nat) : Int))]) (bls := [(2, 0, .var [BO si, I64 sp.a, I64 sp.b, I64 sp.c, I64 sp.d, .p (.sl 6 (encSs sk))] false), (5, 0, .var [I64 sp.a, I64 sp.b, I64 sp.c, I64 sp.d] false)]) (gens := [(2, 1), (5, 1)]) ⟨rfl, rfl, rfl, rfl, trivial⟩ ⟨rfl, rfl, trivial⟩ ⟨rfl, rfl, trivial⟩ rfl, out.length, ⟨by omega, rfl⟩, rfl, rfl⟩
      · rintro nn _ ⟨k, ⟨hk, hx⟩, hn2, rfl⟩
        refine cw_seq ?_
        refine cw_seq ?_
        refine cw_reg1 tok mixed rfl rfl ?_
        refine c0 rfl (w_v (I64 ((k : Nat) : Int)) rfl ?_)
        refine c0 rfl (w_v (BO (decide (((k : Nat) : Int) > 0))) rfl ?_)
        refine c0 rfl (w_v (BO (decide (((k : Nat) : Int) > 0))) rfl ?_)
        refine cgS (b := decide (((k : Nat) : Int) > 0)) rfl rfl rfl (fun c9 => ?_) (fun c9 => ?_)
        ·
          replace c9 := of_decide_eq_true c9
          refine cgT rfl rfl rfl (w_v (.p (.sl 4 (out.map encP))) rfl ?_)
          refine cgT rfl rfl rfl (w_v (I64 ((k : Nat) : Int)) rfl ?_)
          refine cgT rfl rfl rfl (w_i (((k : Nat) : Int) - 1) rfl (by unfold inI; omega) ?_)
          obtain ⟨q, hq⟩ := getE (l := out) (i := (((k : Nat) : Int) - 1).toNat) (by omega)
          refine cgT rfl rfl rfl (w_ix (((k : Nat) : Int) - 1) (encP q) rfl rfl rfl (by omega) (getM hq) ?_)
          refine cgT rfl rfl rfl (w_v (.p (encP q)) rfl ?_)
          refine cgT rfl rfl rfl (w_v (.p (encP sp)) rfl ?_)
          refine cgT rfl rfl rfl (w_call_2 (sCmpPlane_fn q sp) rfl rfl rfl ?_)
          refine cgT rfl rfl rfl (w_v (BO (decide (cmpP q sp > 0))) rfl ?_)
          refine c0 rfl (w_v (BO (decide (cmpP q sp > 0))) rfl ?_)
          refine cn ⟨by kernel_rfl, ?_⟩
          refine cw_cond (t := decide (cmpP q sp > 0)) rfl (fun c10 => ?_) (fun c10 => ?_)
          ·
            replace c10 := of_decide_eq_true c10
            refine cw_skip ?_
            refine cw_block ?_
            refine cw_reg0 tok rfl rfl ?_
            refine c0 rfl (w_v (I64 ((k : Nat) : Int)) rfl ?_)
            refine c0 rfl (w_i (((k : Nat) : Int) - 1) rfl (by unfold inI; omega) (cv (by exact congrArg I64 (by omega) : (I64 (((k : Nat) : Int) - 1) : AV) = I64 ((k - 1 : Nat) : Int)) ?_))
            refine c0 rfl (w_v (I64 ((k - 1 : Nat) : Int)) rfl ?_)
            refine cn ?_
            exact ⟨_, _, by omega, wk_of (tms := [(1, .p (.sl 4 (out.map encP))), (2, .pt 2 0 0), (5, .pt 5 0 0), (6, I64 (((k - 1) : Nat) : Int))]) (bls := [(2, 0, .var [BO si, I64 sp.a, I64 sp.b, I64 sp.c, I64 sp.d, .p (.sl 6 (encSs sk))] false), (5, 0, .var [I64 sp.a, I64 sp.b, I64 sp.c, I64 sp.d] false)]) (gens := [(2, 1), (5, 1)]) ⟨rfl, rfl, rfl, rfl, trivial⟩ ⟨rfl, rfl, trivial⟩ ⟨rfl, rfl, trivial⟩ rfl, (k - 1), ⟨by omega, by rw [← hx]; exact insK_go (by omega) hq (by assumption)⟩, rfl, rfl⟩
          ·
            replace c10 := of_decide_eq_false c10
            refine cw_exit ?_
            refine cw_seq ?_
            refine cw_seq ?_
            refine cw_reg1 tok mixed rfl rfl ?_
            refine c0 rfl (w_v (I64 ((k : Nat) : Int)) rfl ?_)
            refine c0 rfl (w_eqi (((k : Nat) : Int)) (0) rfl rfl ?_)
            refine c0 rfl (w_v (BO (decide (((k : Nat) : Int) = 0))) rfl ?_)
            refine cgS (b := decide (((k : Nat) : Int) = 0)) rfl rfl rfl (fun c11 => ?_) (fun c11 => ?_)
            ·
              replace c11 := of_decide_eq_true c11
              refine cgF (v := .bool true) rfl rfl rfl rfl ?_
              refine cgF (v := .bool true) rfl rfl rfl rfl ?_
              refine cgF (v := .bool true) rfl rfl rfl rfl ?_
              refine cgF (v := .bool true) rfl rfl rfl rfl ?_
              refine cgF (v := .bool true) rfl rfl rfl rfl ?_
              refine cgF (v := .bool true) rfl rfl rfl rfl ?_
              refine cgF (v := .bool true) rfl rfl rfl rfl ?_
              refine c0 rfl (w_v (BO true) rfl ?_)
              refine cn ⟨by kernel_rfl, ?_⟩
              refine cw_cond (t := true) rfl (fun _ => ?_) (fun h => nomatch h)
              refine cw_seq ?_
              refine cw_reg1 tok mixed rfl rfl ?_
              refine c0 rfl (w_bsl (g := 1) [] rfl rfl rfl rfl (Nat.le_of_ble_eq_true rfl) (Nat.le_of_ble_eq_true rfl) (Nat.le_of_ble_eq_true rfl) (.nil _) rfl rfl ?_)
              refine c0 rfl (w_v (.p (.sl 4 (out.map encP))) rfl ?_)
              refine c0 rfl (w_v (I64 ((k : Nat) : Int)) rfl ?_)
              refine c0 rfl (w_sub (0) (k) ((out.take k).map encP) rfl rfl rfl rfl rfl rfl rfl (by omega) (by (try simp) <;> omega) mapT ?_)
              refine c0 rfl (w_appo ((out.take k).map encP) ((out.take k).map encP) ((out.take k).length) rfl rfl rfl rfl rfl rfl (Nat.le_of_ble_eq_true rfl) (sz_map fun _ => rfl) rfl rfl rfl (by show (_ + _) * 32 ≤ _; (try simp) <;> omega) (by (try simp) <;> omega) rfl (by (try simp) <;> omega) ?_)
              refine c0 rfl (w_v (.p (encP sp)) rfl ?_)
              refine c0 rfl (w_bsl (g := 1) [encP sp] rfl rfl rfl rfl (Nat.le_of_ble_eq_true rfl) (Nat.le_of_ble_eq_true rfl) (Nat.le_of_ble_eq_true rfl) (.cons _ _ _ _ _ _ _ [] [] (.one _ _ _ _ _ (.p _ _)) (.nil _)) rfl rfl ?_)
              refine c0 rfl (w_appo ([sp].map encP) (((out.take k) ++ [sp]).map encP) (((out.take k) ++ [sp]).length) rfl rfl rfl rfl rfl (list_os rfl rfl) (Nat.le_of_ble_eq_true rfl) (sz_map fun _ => rfl) (by simp) rfl rfl (by show (_ + _) * 32 ≤ _; (try simp) <;> omega) (by (try simp) <;> omega) List.map_append.symm (by (try simp) <;> omega) ?_)
              refine c0 rfl (w_v (.os 47 1 (((out.take k) ++ [sp]).length)) rfl ?_)
              refine cn ⟨by kernel_rfl, ?_⟩
              refine cw_reg0 tok rfl rfl ?_
              refine c0 rfl (w_v (.os 47 1 (((out.take k) ++ [sp]).length)) rfl ?_)
              refine c0 rfl (w_v (.p (.sl 4 (out.map encP))) rfl ?_)
              refine c0 rfl (w_v (I64 ((k : Nat) : Int)) rfl ?_)
              refine c0 rfl (w_sub (k) (out.length) ((out.drop k).map encP) rfl rfl rfl rfl rfl rfl (by simp [hiOk]) (by omega) (by simp) mapD ?_)
              refine c0 rfl (w_appo ((out.drop k).map encP) ((((out.take k) ++ [sp]) ++ (out.drop k)).map encP) ((((out.take k) ++ [sp]) ++ (out.drop k)).length) rfl rfl rfl rfl rfl rfl (Nat.le_of_ble_eq_true rfl) (sz_map fun _ => rfl) (by simp) rfl rfl (by show (_ + _) * 32 ≤ _; (try simp) <;> omega) (by (try simp) <;> omega) List.map_append.symm (by (try simp) <;> omega) ?_)
              refine c0 rfl (w_v (.os 47 1 ((((out.take k) ++ [sp]) ++ (out.drop k)).length)) rfl ?_)
              refine cn ?_
              refine cw_seq ?_
              refine cw_reg1 tok mixed rfl rfl ?_
              have hgp : greatS sp = sp := by unfold greatS; first | exact if_pos (by assumption) | exact if_neg (by assumption)
              have hst : insK out sp k = k := by first | exact insK_0 (by assumption) | exact insK_stop (by omega) hq (by assumption)
              have hX : ((out.take k) ++ [sp]) ++ (out.drop k) = insPl out (greatS sp) := by rw [hgp]; exact ins_yes hx hst (by first | exact .inl (by assumption) | exact .inr ⟨_, hq, by assumption⟩)
              refine c0 rfl (w_v (.pt 2 0 5) rfl ?_)
              refine c0 rfl (w_v (.p (.sl 6 (encSs sk))) rfl ?_)
              obtain ⟨qb, hqb⟩ := getE (l := sk) (i := 1) (by have := look_two hlk (by assumption); omega)
              obtain ⟨qbi, qbp, qbk⟩ := qb
              refine c0 rfl (w_ix (1) (encS (Sol.mk qbi qbp qbk)) rfl rfl rfl (by omega) (getSs hqb) ?_)
              refine c0 rfl (w_v (.p (encS (Sol.mk qbi qbp qbk))) rfl ?_)
              refine c0 rfl (w_v (.pt 2 0 5) rfl ?_)
              refine c0 rfl (w_v (.p (.sl 6 (encSs sk))) rfl ?_)
              obtain ⟨qa, hqa⟩ := getE (l := sk) (i := 0) (by have := look_two hlk (by assumption); omega)
              obtain ⟨qai, qap, qak⟩ := qa
              refine c0 rfl (w_ix (0) (encS (Sol.mk qai qap qak)) rfl rfl rfl (by omega) (getSs hqa) ?_)
              refine c0 rfl (w_v (.p (encS (Sol.mk qai qap qak))) rfl ?_)
              refine c0 rfl (w_v (.os 47 1 ((((out.take k) ++ [sp]) ++ (out.drop k)).length)) rfl ?_)
              refine c0 rfl (w_call (.p (.sl 4 ((planesS (Sol.mk qai qap qak) (((out.take k) ++ [sp]) ++ (out.drop k))).map encP))) (H _ (List.mem_of_getElem? hqa) (((out.take k) ++ [sp]) ++ (out.drop k)) (path ++ [sp]) (by rw [hX]; exact insPl_ok hp (greatS_ok (look_okc hlk (by assumption)))) (by rw [hX]; have := insPl_le out (greatS sp); have := nodes_a hlk hqa; omega) (look_a hlk hqa)) rfl (.cons _ _ _ _ _ _ _ [] _ (.one _ _ _ _ _ (.p _ _)) (.cons _ _ _ _ _ _ _ [] _ (.one _ _ _ _ _ (passOs (xs := (((out.take k) ++ [sp]) ++ (out.drop k)).map encP) rfl (by simp))) (.nil _))) rfl (.one _ _ _ _ (.p _ _)) ?_)
              refine c0 rfl (w_call_2 (H _ (List.mem_of_getElem? hqb) (planesS (Sol.mk qai qap qak) (((out.take k) ++ [sp]) ++ (out.drop k))) (path ++ [flip sp]) (planes_ok _ _ (path ++ [sp]) (by rw [hX]; exact insPl_ok hp (greatS_ok (look_okc hlk (by assumption)))) (look_a hlk hqa)) (by rw [hX]; have := insPl_le out (greatS sp); have := planes_le (Sol.mk qai qap qak) (insPl out (greatS sp)); have := nodes_ab hlk hqa hqb; omega) (look_b hlk hqb)) rfl rfl rfl ?_)
              refine c0 rfl (w_v (.p (.sl 4 ((planesS (Sol.mk qbi qbp qbk) (planesS (Sol.mk qai qap qak) (((out.take k) ++ [sp]) ++ (out.drop k)))).map encP))) rfl ?_)
              refine cn ⟨by kernel_rfl, ?_⟩
              refine cw_ret ?_
              exact fin1 (.sl 4 ((planesS (Sol.mk qbi qbp qbk) (planesS (Sol.mk qai qap qak) (((out.take k) ++ [sp]) ++ (out.drop k)))).map encP)) (.sl 4 ((planesS (Sol.mk si sp sk) out).map encP)) rfl (congrArg (fun z => PV.sl 4 (z.map encP)) (by exact planes_n hlk hqa hqb hX : (planesS (Sol.mk qbi qbp qbk) (planesS (Sol.mk qai qap qak) (((out.take k) ++ [sp]) ++ (out.drop k)))) = (planesS (Sol.mk si sp sk) out))) rfl
            ·
              replace c11 := of_decide_eq_false c11
              refine cgT rfl rfl rfl (w_v (.p (.sl 4 (out.map encP))) rfl ?_)
              refine cgT rfl rfl rfl (w_v (I64 ((k : Nat) : Int)) rfl ?_)
              refine cgT rfl rfl rfl (w_i (((k : Nat) : Int) - 1) rfl (by unfold inI; omega) ?_)
              refine cgT rfl rfl rfl (w_ix (((k : Nat) : Int) - 1) (encP q) rfl rfl rfl (by omega) (getM hq) ?_)
              refine cgT rfl rfl rfl (w_v (.p (encP q)) rfl ?_)
              refine cgT rfl rfl rfl (w_v (.p (encP sp)) rfl ?_)
              refine cgT rfl rfl rfl (w_eqag (decide (q ≠ sp)) rfl rfl rfl eqPl (dnPl q sp) ?_)
              refine c0 rfl (w_v (BO (decide (q ≠ sp))) rfl ?_)
              refine cn ⟨by kernel_rfl, ?_⟩
              refine cw_cond (t := decide (q ≠ sp)) rfl (fun c12 => ?_) (fun c12 => ?_)
              ·
                replace c12 := of_decide_eq_true c12
                refine cw_seq ?_
                refine cw_reg1 tok mixed rfl rfl ?_
                refine c0 rfl (w_bsl (g := 1) [] rfl rfl rfl rfl (Nat.le_of_ble_eq_true rfl) (Nat.le_of_ble_eq_true rfl) (Nat.le_of_ble_eq_true rfl) (.nil _) rfl rfl ?_)
                refine c0 rfl (w_v (.p (.sl 4 (out.map encP))) rfl ?_)
                refine c0 rfl (w_v (I64 ((k : Nat) : Int)) rfl ?_)
                refine c0 rfl (w_sub (0) (k) ((out.take k).map encP) rfl rfl rfl rfl rfl rfl rfl (by omega) (by (try simp) <;> omega) mapT ?_)
                refine c0 rfl (w_appo ((out.take k).map encP) ((out.take k).map encP) ((out.take k).length) rfl rfl rfl rfl rfl rfl (Nat.le_of_ble_eq_true rfl) (sz_map fun _ => rfl) rfl rfl rfl (by show (_ + _) * 32 ≤ _; (try simp) <;> omega) (by (try simp) <;> omega) rfl (by (try simp) <;> omega) ?_)
                refine c0 rfl (w_v (.p (encP sp)) rfl ?_)
                refine c0 rfl (w_bsl (g := 1) [encP sp] rfl rfl rfl rfl (Nat.le_of_ble_eq_true rfl) (Nat.le_of_ble_eq_true rfl) (Nat.le_of_ble_eq_true rfl) (.cons _ _ _ _ _ _ _ [] [] (.one _ _ _ _ _ (.p _ _)) (.nil _)) rfl rfl ?_)
                refine c0 rfl (w_appo ([sp].map encP) (((out.take k) ++ [sp]).map encP) (((out.take k) ++ [sp]).length) rfl rfl rfl rfl rfl (list_os rfl rfl) (Nat.le_of_ble_eq_true rfl) (sz_map fun _ => rfl) (by simp) rfl rfl (by show (_ + _) * 32 ≤ _; (try simp) <;> omega) (by (try simp) <;> omega) List.map_append.symm (by (try simp) <;> omega) ?_)
                refine c0 rfl (w_v (.os 47 1 (((out.take k) ++ [sp]).length)) rfl ?_)
                refine cn ⟨by kernel_rfl, ?_⟩
                refine cw_reg0 tok rfl rfl ?_
                refine c0 rfl (w_v (.os 47 1 (((out.take k) ++ [sp]).length)) rfl ?_)
                refine c0 rfl (w_v (.p (.sl 4 (out.map encP))) rfl ?_)
                refine c0 rfl (w_v (I64 ((k : Nat) : Int)) rfl ?_)
                refine c0 rfl (w_sub (k) (out.length) ((out.drop k).map encP) rfl rfl rfl rfl rfl rfl (by simp [hiOk]) (by omega) (by simp) mapD ?_)
                refine c0 rfl (w_appo ((out.drop k).map encP) ((((out.take k) ++ [sp]) ++ (out.drop k)).map encP) ((((out.take k) ++ [sp]) ++ (out.drop k)).length) rfl rfl rfl rfl rfl rfl (Nat.le_of_ble_eq_true rfl) (sz_map fun _ => rfl) (by simp) rfl rfl (by show (_ + _) * 32 ≤ _; (try simp) <;> omega) (by (try simp) <;> omega) List.map_append.symm (by (try simp) <;> omega) ?_)
                refine c0 rfl (w_v (.os 47 1 ((((out.take k) ++ [sp]) ++ (out.drop k)).length)) rfl ?_)
                refine cn ?_
                refine cw_seq ?_
                refine cw_reg1 tok mixed rfl rfl ?_
                have hgp : greatS sp = sp := by unfold greatS; first | exact if_pos (by assumption) | exact if_neg (by assumption)
                have hst : insK out sp k = k := by first | exact insK_0 (by assumption) | exact insK_stop (by omega) hq (by assumption)
                have hX : ((out.take k) ++ [sp]) ++ (out.drop k) = insPl out (greatS sp) := by rw [hgp]; exact ins_yes hx hst (by first | exact .inl (by assumption) | exact .inr ⟨_, hq, by assumption⟩)
                refine c0 rfl (w_v (.pt 2 0 5) rfl ?_)
                refine c0 rfl (w_v (.p (.sl 6 (encSs sk))) rfl ?_)
                obtain ⟨qb, hqb⟩ := getE (l := sk) (i := 1) (by have := look_two hlk (by assumption); omega)
                obtain ⟨qbi, qbp, qbk⟩ := qb
                refine c0 rfl (w_ix (1) (encS (Sol.mk qbi qbp qbk)) rfl rfl rfl (by omega) (getSs hqb) ?_)
                refine c0 rfl (w_v (.p (encS (Sol.mk qbi qbp qbk))) rfl ?_)
                refine c0 rfl (w_v (.pt 2 0 5) rfl ?_)
                refine c0 rfl (w_v (.p (.sl 6 (encSs sk))) rfl ?_)
                obtain ⟨qa, hqa⟩ := getE (l := sk) (i := 0) (by have := look_two hlk (by assumption); omega)
                obtain ⟨qai, qap, qak⟩ := qa
                refine c0 rfl (w_ix (0) (encS (Sol.mk qai qap qak)) rfl rfl rfl (by omega) (getSs hqa) ?_)
                refine c0 rfl (w_v (.p (encS (Sol.mk qai qap qak))) rfl ?_)
                refine c0 rfl (w_v (.os 47 1 ((((out.take k) ++ [sp]) ++ (out.drop k)).length)) rfl ?_)
                refine c0 rfl (w_call (.p (.sl 4 ((planesS (Sol.mk qai qap qak) (((out.take k) ++ [sp]) ++ (out.drop k))).map encP))) (H _ (List.mem_of_getElem? hqa) (((out.take k) ++ [sp]) ++ (out.drop k)) (path ++ [sp]) (by rw [hX]; exact insPl_ok hp (greatS_ok (look_okc hlk (by assumption)))) (by rw [hX]; have := insPl_le out (greatS sp); have := nodes_a hlk hqa; omega) (look_a hlk hqa)) rfl (.cons _ _ _ _ _ _ _ [] _ (.one _ _ _ _ _ (.p _ _)) (.cons _ _ _ _ _ _ _ [] _ (.one _ _ _ _ _ (passOs (xs := (((out.take k) ++ [sp]) ++ (out.drop k)).map encP) rfl (by simp))) (.nil _))) rfl (.one _ _ _ _ (.p _ _)) ?_)
                refine c0 rfl (w_call_2 (H _ (List.mem_of_getElem? hqb) (planesS (Sol.mk qai qap qak) (((out.take k) ++ [sp]) ++ (out.drop k))) (path ++ [flip sp]) (planes_ok _ _ (path ++ [sp]) (by rw [hX]; exact insPl_ok hp (greatS_ok (look_okc hlk (by assumption)))) (look_a hlk hqa)) (by rw [hX]; have := insPl_le out (greatS sp); have := planes_le (Sol.mk qai qap qak) (insPl out (greatS sp)); have := nodes_ab hlk hqa hqb; omega) (look_b hlk hqb)) rfl rfl rfl ?_)
                refine c0 rfl (w_v (.p (.sl 4 ((planesS (Sol.mk qbi qbp qbk) (planesS (Sol.mk qai qap qak) (((out.take k) ++ [sp]) ++ (out.drop k)))).map encP))) rfl ?_)
                refine cn ⟨by kernel_rfl, ?_⟩
                refine cw_ret ?_
                exact fin1 (.sl 4 ((planesS (Sol.mk qbi qbp qbk) (planesS (Sol.mk qai qap qak) (((out.take k) ++ [sp]) ++ (out.drop k)))).map encP)) (.sl 4 ((planesS (Sol.mk si sp sk) out).map encP)) rfl (congrArg (fun z => PV.sl 4 (z.map encP)) (by exact planes_n hlk hqa hqb hX : (planesS (Sol.mk qbi qbp qbk) (planesS (Sol.mk qai qap qak) (((out.take k) ++ [sp]) ++ (out.drop k)))) = (planesS (Sol.mk si sp sk) out))) rfl
              ·
                replace c12 := of_decide_eq_false c12
                refine cw_skip ?_
                refine cw_seq ?_
                refine cw_reg1 tok mixed rfl rfl ?_
                have hgp : greatS sp = sp := by unfold greatS; first | exact if_pos (by assumption) | exact if_neg (by assumption)
                have hst : insK out sp k = k := by first | exact insK_0 (by assumption) | exact insK_stop (by omega) hq (by assumption)
                have hX : out = insPl out (greatS sp) := by rw [hgp]; exact ins_no hx hst (by assumption) hq (by assumption)
                refine c0 rfl (w_v (.pt 2 0 5) rfl ?_)
                refine c0 rfl (w_v (.p (.sl 6 (encSs sk))) rfl ?_)
                obtain ⟨qb, hqb⟩ := getE (l := sk) (i := 1) (by have := look_two hlk (by assumption); omega)
                obtain ⟨qbi, qbp, qbk⟩ := qb
                refine c0 rfl (w_ix (1) (encS (Sol.mk qbi qbp qbk)) rfl rfl rfl (by omega) (getSs hqb) ?_)
                refine c0 rfl (w_v (.p (encS (Sol.mk qbi qbp qbk))) rfl ?_)
                refine c0 rfl (w_v (.pt 2 0 5) rfl ?_)
                refine c0 rfl (w_v (.p (.sl 6 (encSs sk))) rfl ?_)
                obtain ⟨qa, hqa⟩ := getE (l := sk) (i := 0) (by have := look_two hlk (by assumption); omega)
                obtain ⟨qai, qap, qak⟩ := qa
                refine c0 rfl (w_ix (0) (encS (Sol.mk qai qap qak)) rfl rfl rfl (by omega) (getSs hqa) ?_)
                refine c0 rfl (w_v (.p (encS (Sol.mk qai qap qak))) rfl ?_)
                refine c0 rfl (w_v (.p (.sl 4 (out.map encP))) rfl ?_)
                refine c0 rfl (w_call_2 (H _ (List.mem_of_getElem? hqa) out (path ++ [sp]) (by rw [hX]; exact insPl_ok hp (greatS_ok (look_okc hlk (by assumption)))) (by rw [hX]; have := insPl_le out (greatS sp); have := nodes_a hlk hqa; omega) (look_a hlk hqa)) rfl rfl rfl ?_)
                refine c0 rfl (w_call_2 (H _ (List.mem_of_getElem? hqb) (planesS (Sol.mk qai qap qak) out) (path ++ [flip sp]) (planes_ok _ _ (path ++ [sp]) (by rw [hX]; exact insPl_ok hp (greatS_ok (look_okc hlk (by assumption)))) (look_a hlk hqa)) (by rw [hX]; have := insPl_le out (greatS sp); have := planes_le (Sol.mk qai qap qak) (insPl out (greatS sp)); have := nodes_ab hlk hqa hqb; omega) (look_b hlk hqb)) rfl rfl rfl ?_)
                refine c0 rfl (w_v (.p (.sl 4 ((planesS (Sol.mk qbi qbp qbk) (planesS (Sol.mk qai qap qak) out)).map encP))) rfl ?_)
                refine cn ⟨by kernel_rfl, ?_⟩
                refine cw_ret ?_
                exact fin1 (.sl 4 ((planesS (Sol.mk qbi qbp qbk) (planesS (Sol.mk qai qap qak) out)).map encP)) (.sl 4 ((planesS (Sol.mk si sp sk) out).map encP)) rfl (congrArg (fun z => PV.sl 4 (z.map encP)) (by exact planes_n hlk hqa hqb hX : (planesS (Sol.mk qbi qbp qbk) (planesS (Sol.mk qai qap qak) out)) = (planesS (Sol.mk si sp sk) out))) rfl
        ·
          replace c9 := of_decide_eq_false c9
          refine cgF (v := .bool false) rfl rfl rfl rfl ?_
          refine cgF (v := .bool false) rfl rfl rfl rfl ?_
          refine cgF (v := .bool false) rfl rfl rfl rfl ?_
          refine cgF (v := .bool false) rfl rfl rfl rfl ?_
          refine cgF (v := .bool false) rfl rfl rfl rfl ?_
          refine cgF (v := .bool false) rfl rfl rfl rfl ?_
          refine cgF (v := .bool false) rfl rfl rfl rfl ?_
          refine cgF (v := .bool false) rfl rfl rfl rfl ?_
          refine c0 rfl (w_v (BO false) rfl ?_)
          refine cn ⟨by kernel_rfl, ?_⟩
          refine cw_cond (t := false) rfl (fun h => nomatch h) (fun _ => ?_)
          refine cw_exit ?_
          refine cw_seq ?_
          refine cw_seq ?_
          refine cw_reg1 tok mixed rfl rfl ?_
          refine c0 rfl (w_v (I64 ((k : Nat) : Int)) rfl ?_)
          refine c0 rfl (w_eqi (((k : Nat) : Int)) (0) rfl rfl ?_)
          refine c0 rfl (w_v (BO (decide (((k : Nat) : Int) = 0))) rfl ?_)
          refine cgS (b := decide (((k : Nat) : Int) = 0)) rfl rfl rfl (fun c13 => ?_) (fun c13 => ?_)
          ·
            replace c13 := of_decide_eq_true c13
            refine cgF (v := .bool true) rfl rfl rfl rfl ?_
            refine cgF (v := .bool true) rfl rfl rfl rfl ?_
            refine cgF (v := .bool true) rfl rfl rfl rfl ?_
            refine cgF (v := .bool true) rfl rfl rfl rfl ?_
            refine cgF (v := .bool true) rfl rfl rfl rfl ?_
            refine cgF (v := .bool true) rfl rfl rfl rfl ?_
            refine cgF (v := .bool true) rfl rfl rfl rfl ?_
            refine c0 rfl (w_v (BO true) rfl ?_)
            refine cn ⟨by kernel_rfl, ?_⟩
            refine cw_cond (t := true) rfl (fun _ => ?_) (fun h => nomatch h)
            refine cw_seq ?_
            refine cw_reg1 tok mixed rfl rfl ?_
            refine c0 rfl (w_bsl (g := 1) [] rfl rfl rfl rfl (Nat.le_of_ble_eq_true rfl) (Nat.le_of_ble_eq_true rfl) (Nat.le_of_ble_eq_true rfl) (.nil _) rfl rfl ?_)
            refine c0 rfl (w_v (.p (.sl 4 (out.map encP))) rfl ?_)
            refine c0 rfl (w_v (I64 ((k : Nat) : Int)) rfl ?_)
            refine c0 rfl (w_sub (0) (k) ((out.take k).map encP) rfl rfl rfl rfl rfl rfl rfl (by omega) (by (try simp) <;> omega) mapT ?_)
            refine c0 rfl (w_appo ((out.take k).map encP) ((out.take k).map encP) ((out.take k).length) rfl rfl rfl rfl rfl rfl (Nat.le_of_ble_eq_true rfl) (sz_map fun _ => rfl) rfl rfl rfl (by show (_ + _) * 32 ≤ _; (try simp) <;> omega) (by (try simp) <;> omega) rfl (by (try simp) <;> omega) ?_)
            refine c0 rfl (w_v (.p (encP sp)) rfl ?_)
            refine c0 rfl (w_bsl (g := 1) [encP sp] rfl rfl rfl rfl (Nat.le_of_ble_eq_true rfl) (Nat.le_of_ble_eq_true rfl) (Nat.le_of_ble_eq_true rfl) (.cons _ _ _ _ _ _ _ [] [] (.one _ _ _ _ _ (.p _ _)) (.nil _)) rfl rfl ?_)
            refine c0 rfl (w_appo ([sp].map encP) (((out.take k) ++ [sp]).map encP) (((out.take k) ++ [sp]).length) rfl rfl rfl rfl rfl (list_os rfl rfl) (Nat.le_of_ble_eq_true rfl) (sz_map fun _ => rfl) (by simp) rfl rfl (by show (_ + _) * 32 ≤ _; (try simp) <;> omega) (by (try simp) <;> omega) List.map_append.symm (by (try simp) <;> omega) ?_)
            refine c0 rfl (w_v (.os 47 1 (((out.take k) ++ [sp]).length)) rfl ?_)
            refine cn ⟨by kernel_rfl, ?_⟩
            refine cw_reg0 tok rfl rfl ?_
            refine c0 rfl (w_v (.os 47 1 (((out.take k) ++ [sp]).length)) rfl ?_)
            refine c0 rfl (w_v (.p (.sl 4 (out.map encP))) rfl ?_)
            refine c0 rfl (w_v (I64 ((k : Nat) : Int)) rfl ?_)
            refine c0 rfl (w_sub (k) (out.length) ((out.drop k).map encP) rfl rfl rfl rfl rfl rfl (by simp [hiOk]) (by omega) (by simp) mapD ?_)
            refine c0 rfl (w_appo ((out.drop k).map encP) ((((out.take k) ++ [sp]) ++ (out.drop k)).map encP) ((((out.take k) ++ [sp]) ++ (out.drop k)).length) rfl rfl rfl rfl rfl rfl (Nat.le_of_ble_eq_true rfl) (sz_map fun _ => rfl) (by simp) rfl rfl (by show (_ + _) * 32 ≤ _; (try simp) <;> omega) (by (try simp) <;> omega) List.map_append.symm (by (try simp) <;> omega) ?_)
            refine c0 rfl (w_v (.os 47 1 ((((out.take k) ++ [sp]) ++ (out.drop k)).length)) rfl ?_)
            refine cn ?_
            refine cw_seq ?_
            refine cw_reg1 tok mixed rfl rfl ?_
            have hgp : greatS sp = sp := by unfold greatS; first | exact if_pos (by assumption) | exact if_neg (by assumption)
            have hst : insK out sp k = k := by first | exact insK_0 (by assumption) | exact insK_stop (by omega) hq (by assumption)
            have hX : ((out.take k) ++ [sp]) ++ (out.drop k) = insPl out (greatS sp) := by rw [hgp]; exact ins_yes hx hst (by first | exact .inl (by assumption) | exact .inr ⟨_, hq, by assumption⟩)
            refine c0 rfl (w_v (.pt 2 0 5) rfl ?_)
            refine c0 rfl (w_v (.p (.sl 6 (encSs sk))) rfl ?_)
            obtain ⟨qb, hqb⟩ := getE (l := sk) (i := 1) (by have := look_two hlk (by assumption); omega)
            obtain ⟨qbi, qbp, qbk⟩ := qb
            refine c0 rfl (w_ix (1) (encS (Sol.mk qbi qbp qbk)) rfl rfl rfl (by omega) (getSs hqb) ?_)
            refine c0 rfl (w_v (.p (encS (Sol.mk qbi qbp qbk))) rfl ?_)
            refine c0 rfl (w_v (.pt 2 0 5) rfl ?_)
            refine c0 rfl (w_v (.p (.sl 6 (encSs sk))) rfl ?_)
            obtain ⟨qa, hqa⟩ := getE (l := sk) (i := 0) (by have := look_two hlk (by assumption); omega)
            obtain ⟨qai, qap, qak⟩ := qa
            refine c0 rfl (w_ix (0) (encS (Sol.mk qai qap qak)) rfl rfl rfl (by omega) (getSs hqa) ?_)
            refine c0 rfl (w_v (.p (encS (Sol.mk qai qap qak))) rfl ?_)
            refine c0 rfl (w_v (.os 47 1 ((((out.take k) ++ [sp]) ++ (out.drop k)).length)) rfl ?_)
            refine c0 rfl (w_call (.p (.sl 4 ((planesS (Sol.mk qai qap qak) (((out.take k) ++ [sp]) ++ (out.drop k))).map encP))) (H _ (List.mem_of_getElem? hqa) (((out.take k) ++ [sp]) ++ (out.drop k)) (path ++ [sp]) (by rw [hX]; exact insPl_ok hp (greatS_ok (look_okc hlk (by assumption)))) (by rw [hX]; have := insPl_le out (greatS sp); have := nodes_a hlk hqa; omega) (look_a hlk hqa)) rfl (.cons _ _ _ _ _ _ _ [] _ (.one _ _ _ _ _ (.p _ _)) (.cons _ _ _ _ _ _ _ [] _ (.one _ _ _ _ _ (passOs (xs := (((out.take k) ++ [sp]) ++ (out.drop k)).map encP) rfl (by simp))) (.nil _))) rfl (.one _ _ _ _ (.p _ _)) ?_)
            refine c0 rfl (w_call_2 (H _ (List.mem_of_getElem? hqb) (planesS (Sol.mk qai qap qak) (((out.take k) ++ [sp]) ++ (out.drop k))) (path ++ [flip sp]) (planes_ok _ _ (path ++ [sp]) (by rw [hX]; exact insPl_ok hp (greatS_ok (look_okc hlk (by assumption)))) (look_a hlk hqa)) (by rw [hX]; have := insPl_le out (greatS sp); have := planes_le (Sol.mk qai qap qak) (insPl out (greatS sp)); have := nodes_ab hlk hqa hqb; omega) (look_b hlk hqb)) rfl rfl rfl ?_)
            refine c0 rfl (w_v (.p (.sl 4 ((planesS (Sol.mk qbi qbp qbk) (planesS (Sol.mk qai qap qak) (((out.take k) ++ [sp]) ++ (out.drop k)))).map encP))) rfl ?_)
            refine cn ⟨by kernel_rfl, ?_⟩
            refine cw_ret ?_
            exact fin1 (.sl 4 ((planesS (Sol.mk qbi qbp qbk) (planesS (Sol.mk qai qap qak) (((out.take k) ++ [sp]) ++ (out.drop k)))).map encP)) (.sl 4 ((planesS (Sol.mk si sp sk) out).map encP)) rfl (congrArg (fun z => PV.sl 4 (z.map encP)) (by exact planes_n hlk hqa hqb hX : (planesS (Sol.mk qbi qbp qbk) (planesS (Sol.mk qai qap qak) (((out.take k) ++ [sp]) ++ (out.drop k)))) = (planesS (Sol.mk si sp sk) out))) rfl
          ·
            replace c13 := of_decide_eq_false c13
            refine cgT rfl rfl rfl (w_v (.p (.sl 4 (out.map encP))) rfl ?_)
            refine cgT rfl rfl rfl (w_v (I64 ((k : Nat) : Int)) rfl ?_)
            refine cgT rfl rfl rfl (w_i (((k : Nat) : Int) - 1) rfl (by unfold inI; omega) ?_)
            obtain ⟨q, hq⟩ := getE (l := out) (i := (((k : Nat) : Int) - 1).toNat) (by omega)
            refine cgT rfl rfl rfl (w_ix (((k : Nat) : Int) - 1) (encP q) rfl rfl rfl (by omega) (getM hq) ?_)
            refine cgT rfl rfl rfl (w_v (.p (encP q)) rfl ?_)
            refine cgT rfl rfl rfl (w_v (.p (encP sp)) rfl ?_)
            refine cgT rfl rfl rfl (w_eqag (decide (q ≠ sp)) rfl rfl rfl eqPl (dnPl q sp) ?_)
            refine c0 rfl (w_v (BO (decide (q ≠ sp))) rfl ?_)
            refine cn ⟨by kernel_rfl, ?_⟩
            refine cw_cond (t := decide (q ≠ sp)) rfl (fun c14 => ?_) (fun c14 => ?_)
            ·
              replace c14 := of_decide_eq_true c14
              refine cw_seq ?_
              refine cw_reg1 tok mixed rfl rfl ?_
              refine c0 rfl (w_bsl (g := 1) [] rfl rfl rfl rfl (Nat.le_of_ble_eq_true rfl) (Nat.le_of_ble_eq_true rfl) (Nat.le_of_ble_eq_true rfl) (.nil _) rfl rfl ?_)
              refine c0 rfl (w_v (.p (.sl 4 (out.map encP))) rfl ?_)
              refine c0 rfl (w_v (I64 ((k : Nat) : Int)) rfl ?_)
              refine c0 rfl (w_sub (0) (k) ((out.take k).map encP) rfl rfl rfl rfl rfl rfl rfl (by omega) (by (try simp) <;> omega) mapT ?_)
              refine c0 rfl (w_appo ((out.take k).map encP) ((out.take k).map encP) ((out.take k).length) rfl rfl rfl rfl rfl rfl (Nat.le_of_ble_eq_true rfl) (sz_map fun _ => rfl) rfl rfl rfl (by show (_ + _) * 32 ≤ _; (try simp) <;> omega) (by (try simp) <;> omega) rfl (by (try simp) <;> omega) ?_)
              refine c0 rfl (w_v (.p (encP sp)) rfl ?_)
              refine c0 rfl (w_bsl (g := 1) [encP sp] rfl rfl rfl rfl (Nat.le_of_ble_eq_true rfl) (Nat.le_of_ble_eq_true rfl) (Nat.le_of_ble_eq_true rfl) (.cons _ _ _ _ _ _ _ [] [] (.one _ _ _ _ _ (.p _ _)) (.nil _)) rfl rfl ?_)
              refine c0 rfl (w_appo ([sp].map encP) (((out.take k) ++ [sp]).map encP) (((out.take k) ++ [sp]).length) rfl rfl rfl rfl rfl (list_os rfl rfl) (Nat.le_of_ble_eq_true rfl) (sz_map fun _ => rfl) (by simp) rfl rfl (by show (_ + _) * 32 ≤ _; (try simp) <;> omega) (by (try simp) <;> omega) List.map_append.symm (by (try simp) <;> omega) ?_)
              refine c0 rfl (w_v (.os 47 1 (((out.take k) ++ [sp]).length)) rfl ?_)
              refine cn ⟨by kernel_rfl, ?_⟩
              refine cw_reg0 tok rfl rfl ?_
              refine c0 rfl (w_v (.os 47 1 (((out.take k) ++ [sp]).length)) rfl ?_)
              refine c0 rfl (w_v (.p (.sl 4 (out.map encP))) rfl ?_)
              refine c0 rfl (w_v (I64 ((k : Nat) : Int)) rfl ?_)
              refine c0 rfl (w_sub (k) (out.length) ((out.drop k).map encP) rfl rfl rfl rfl rfl rfl (by simp [hiOk]) (by omega) (by simp) mapD ?_)
              refine c0 rfl (w_appo ((out.drop k).map encP) ((((out.take k) ++ [sp]) ++ (out.drop k)).map encP) ((((out.take k) ++ [sp]) ++ (out.drop k)).length) rfl rfl rfl rfl rfl rfl (Nat.le_of_ble_eq_true rfl) (sz_map fun _ => rfl) (by simp) rfl rfl (by show (_ + _) * 32 ≤ _; (try simp) <;> omega) (by (try simp) <;> omega) List.map_append.symm (by (try simp) <;> omega) ?_)
              refine c0 rfl (w_v (.os 47 1 ((((out.take k) ++ [sp]) ++ (out.drop k)).length)) rfl ?_)
              refine cn ?_
              refine cw_seq ?_
              refine cw_reg1 tok mixed rfl rfl ?_
              have hgp : greatS sp = sp := by unfold greatS; first | exact if_pos (by assumption) | exact if_neg (by assumption)
              have hst : insK out sp k = k := by first | exact insK_0 (by assumption) | exact insK_stop (by omega) hq (by assumption)
              have hX : ((out.take k) ++ [sp]) ++ (out.drop k) = insPl out (greatS sp) := by rw [hgp]; exact ins_yes hx hst (by first | exact .inl (by assumption) | exact .inr ⟨_, hq, by assumption⟩)
              refine c0 rfl (w_v (.pt 2 0 5) rfl ?_)
              refine c0 rfl (w_v (.p (.sl 6 (encSs sk))) rfl ?_)
              obtain ⟨qb, hqb⟩ := getE (l := sk) (i := 1) (by have := look_two hlk (by assumption); omega)
              obtain ⟨qbi, qbp, qbk⟩ := qb
              refine c0 rfl (w_ix (1) (encS (Sol.mk qbi qbp qbk)) rfl rfl rfl (by omega) (getSs hqb) ?_)
              refine c0 rfl (w_v (.p (encS (Sol.mk qbi qbp qbk))) rfl ?_)
              refine c0 rfl (w_v (.pt 2 0 5) rfl ?_)
              refine c0 rfl (w_v (.p (.sl 6 (encSs sk))) rfl ?_)
              obtain ⟨qa, hqa⟩ := getE (l := sk) (i := 0) (by have := look_two hlk (by assumption); omega)
              obtain ⟨qai, qap, qak⟩ := qa
              refine c0 rfl (w_ix (0) (encS (Sol.mk qai qap qak)) rfl rfl rfl (by omega) (getSs hqa) ?_)
              refine c0 rfl (w_v (.p (encS (Sol.mk qai qap qak))) rfl ?_)
              refine c0 rfl (w_v (.os 47 1 ((((out.take k) ++ [sp]) ++ (out.drop k)).length)) rfl ?_)
              refine c0 rfl (w_call (.p (.sl 4 ((planesS (Sol.mk qai qap qak) (((out.take k) ++ [sp]) ++ (out.drop k))).map encP))) (H _ (List.mem_of_getElem? hqa) (((out.take k) ++ [sp]) ++ (out.drop k)) (path ++ [sp]) (by rw [hX]; exact insPl_ok hp (greatS_ok (look_okc hlk (by assumption)))) (by rw [hX]; have := insPl_le out (greatS sp); have := nodes_a hlk hqa; omega) (look_a hlk hqa)) rfl (.cons _ _ _ _ _ _ _ [] _ (.one _ _ _ _ _ (.p _ _)) (.cons _ _ _ _ _ _ _ [] _ (.one _ _ _ _ _ (passOs (xs := (((out.take k) ++ [sp]) ++ (out.drop k)).map encP) rfl (by simp))) (.nil _))) rfl (.one _ _ _ _ (.p _ _)) ?_)
              refine c0 rfl (w_call_2 (H _ (List.mem_of_getElem? hqb) (planesS (Sol.mk qai qap qak) (((out.take k) ++ [sp]) ++ (out.drop k))) (path ++ [flip sp]) (planes_ok _ _ (path ++ [sp]) (by rw [hX]; exact insPl_ok hp (greatS_ok (look_okc hlk (by assumption)))) (look_a hlk hqa)) (by rw [hX]; have := insPl_le out (greatS sp); have := planes_le (Sol.mk qai qap qak) (insPl out (greatS sp)); have := nodes_ab hlk hqa hqb; omega) (look_b hlk hqb)) rfl rfl rfl ?_)
              refine c0 rfl (w_v (.p (.sl 4 ((planesS (Sol.mk qbi qbp qbk) (planesS (Sol.mk qai qap qak) (((out.take k) ++ [sp]) ++ (out.drop k)))).map encP))) rfl ?_)
              refine cn ⟨by kernel_rfl, ?_⟩
              refine cw_ret ?_
              exact fin1 (.sl 4 ((planesS (Sol.mk qbi qbp qbk) (planesS (Sol.mk qai qap qak) (((out.take k) ++ [sp]) ++ (out.drop k)))).map encP)) (.sl 4 ((planesS (Sol.mk si sp sk) out).map encP)) rfl (congrArg (fun z => PV.sl 4 (z.map encP)) (by exact planes_n hlk hqa hqb hX : (planesS (Sol.mk qbi qbp qbk) (planesS (Sol.mk qai qap qak) (((out.take k) ++ [sp]) ++ (out.drop k)))) = (planesS (Sol.mk si sp sk) out))) rfl
            ·
              replace c14 := of_decide_eq_false c14
              refine cw_skip ?_
              refine cw_seq ?_
              refine cw_reg1 tok mixed rfl rfl ?_
              have hgp : greatS sp = sp := by unfold greatS; first | exact if_pos (by assumption) | exact if_neg (by assumption)
              have hst : insK out sp k = k := by first | exact insK_0 (by assumption) | exact insK_stop (by omega) hq (by assumption)
              have hX : out = insPl out (greatS sp) := by rw [hgp]; exact ins_no hx hst (by assumption) hq (by assumption)
              refine c0 rfl (w_v (.pt 2 0 5) rfl ?_)
              refine c0 rfl (w_v (.p (.sl 6 (encSs sk))) rfl ?_)
              obtain ⟨qb, hqb⟩ := getE (l := sk) (i := 1) (by have := look_two hlk (by assumption); omega)
              obtain ⟨qbi, qbp, qbk⟩ := qb
              refine c0 rfl (w_ix (1) (encS (Sol.mk qbi qbp qbk)) rfl rfl rfl (by omega) (getSs hqb) ?_)
              refine c0 rfl (w_v (.p (encS (Sol.mk qbi qbp qbk))) rfl ?_)
              refine c0 rfl (w_v (.pt 2 0 5) rfl ?_)
              refine c0 rfl (w_v (.p (.sl 6 (encSs sk))) rfl ?_)
              obtain ⟨qa, hqa⟩ := getE (l := sk) (i := 0) (by have := look_two hlk (by assumption); omega)
              obtain ⟨qai, qap, qak⟩ := qa
              refine c0 rfl (w_ix (0) (encS (Sol.mk qai qap qak)) rfl rfl rfl (by omega) (getSs hqa) ?_)
              refine c0 rfl (w_v (.p (encS (Sol.mk qai qap qak))) rfl ?_)
              refine c0 rfl (w_v (.p (.sl 4 (out.map encP))) rfl ?_)
              refine c0 rfl (w_call_2 (H _ (List.mem_of_getElem? hqa) out (path ++ [sp]) (by rw [hX]; exact insPl_ok hp (greatS_ok (look_okc hlk (by assumption)))) (by rw [hX]; have := insPl_le out (greatS sp); have := nodes_a hlk hqa; omega) (look_a hlk hqa)) rfl rfl rfl ?_)
              refine c0 rfl (w_call_2 (H _ (List.mem_of_getElem? hqb) (planesS (Sol.mk qai qap qak) out) (path ++ [flip sp]) (planes_ok _ _ (path ++ [sp]) (by rw [hX]; exact insPl_ok hp (greatS_ok (look_okc hlk (by assumption)))) (look_a hlk hqa)) (by rw [hX]; have := insPl_le out (greatS sp); have := planes_le (Sol.mk qai qap qak) (insPl out (greatS sp)); have := nodes_ab hlk hqa hqb; omega) (look_b hlk hqb)) rfl rfl rfl ?_)
              refine c0 rfl (w_v (.p (.sl 4 ((planesS (Sol.mk qbi qbp qbk) (planesS (Sol.mk qai qap qak) out)).map encP))) rfl ?_)
              refine cn ⟨by kernel_rfl, ?_⟩
              refine cw_ret ?_
              exact fin1 (.sl 4 ((planesS (Sol.mk qbi qbp qbk) (planesS (Sol.mk qai qap qak) out)).map encP)) (.sl 4 ((planesS (Sol.mk si sp sk) out).map encP)) rfl (congrArg (fun z => PV.sl 4 (z.map encP)) (by exact planes_n hlk hqa hqb hX : (planesS (Sol.mk qbi qbp qbk) (planesS (Sol.mk qai qap qak) out)) = (planesS (Sol.mk si sp sk) out))) rfl
theorem splanes_rec : ∀ (s : Sol) (out path : List Pl), (∀ q ∈ out, okc q) → out.length + nodesN s ≤ 1000 → look s path = true → Fn PP 139 [.p (encS s), .p (.sl 4 (out.map encP))] (.p (.sl 4 ((planesS s out).map encP))) []
  | .mk i p k, out, path, ho, hn, hl => splanes_fn i p k out path ho hn hl fun q hq l m hl hn hlk => splanes_rec q l m hl hn hlk
  termination_by s => SizeOf.sizeOf s
  decreasing_by exact sz_kid hq
theorem sCells_fn (si : Bool) (sp : Pl) (sk : List Sol) (inn : Bool) (hf : fits (Sol.mk si sp sk)) : Fn PP 65 [.p (encS (Sol.mk si sp sk)), .p (bP inn)] (.p (.sl 1 ((cellsOf (Sol.mk si sp sk) inn).map (encL 4 encP)))) [] := by
  refine fn_intro tok Go.Proofs.Try.func65 (c := _) rfl rfl (Nat.le_of_ble_eq_true rfl) ?_
  refine cw_seq ?_
  refine cw_reg0 tok rfl rfl ?_
  refine c0 rfl (w_box (g := 0) [BO si, I64 sp.a, I64 sp.b, I64 sp.c, I64 sp.d, .p (.sl 6 (encSs sk))] rfl rfl rfl ?_)
  refine c0 rfl (w_v (.p (.lit nilSl)) rfl ?_)
  refine cn ?_
  refine cw_seq ?_
  refine cw_seq ?_
  refine cw_reg0 tok rfl rfl ?_
  refine c0 rfl (w_v (.p (encS (Sol.mk si sp sk))) rfl ?_)
  refine c0 rfl (w_call_1 (sSolidOk (Sol.mk si sp sk) hf) rfl rfl ?_)
  refine c0 rfl (w_v (BO (!(sok (Sol.mk si sp sk)))) rfl ?_)
  refine cn ?_
  refine cw_cond (t := !(sok (Sol.mk si sp sk))) rfl (fun c1 => ?_) (fun c1 => ?_)
  ·
    replace c1 := nt c1
    refine cw_seq ?_
    refine cw_reg0 tok rfl rfl ?_
    refine c0 rfl (w_bsl (g := 0) [] rfl rfl rfl rfl (Nat.le_of_ble_eq_true rfl) (Nat.le_of_ble_eq_true rfl) (Nat.le_of_ble_eq_true rfl) (.nil _) rfl rfl ?_)
    refine c0 rfl (w_v (.os 8 0 0) rfl ?_)
    refine cn ?_
    refine cw_ret ?_
    exact finO _ rfl rfl (by simp) (show PV.sl 1 ([].map (encL 4 encP)) = PV.sl 1 ((cellsOf (Sol.mk si sp sk) inn).map (encL 4 encP)) from (congrArg (fun z => PV.sl 1 (z.map (encL 4 encP))) (by simp [cellsOf, *] : [] = (cellsOf (Sol.mk si sp sk) inn)))) rfl
  ·
    replace c1 := nf c1
    refine cw_skip ?_
    refine cw_seq ?_
    refine cw_reg0 tok rfl rfl ?_
    refine c0 rfl (w_v (.p (encS (Sol.mk si sp sk))) rfl ?_)
    refine c0 rfl (w_v (BO inn) rfl ?_)
    refine c0 rfl (w_bsl (g := 0) [] rfl rfl rfl rfl (Nat.le_of_ble_eq_true rfl) (Nat.le_of_ble_eq_true rfl) (Nat.le_of_ble_eq_true rfl) (.nil _) rfl rfl ?_)
    refine c0 rfl (w_call (.os 12 0 ((cellsP (Sol.mk si sp sk) inn []).length)) (scells_rec (Sol.mk si sp sk) inn [] (by simp) (by simp) (sok_look (by assumption)) (sok_nodes (by assumption))) rfl (.cons _ _ _ _ _ _ _ [] _ (.one _ _ _ _ _ (.p _ _)) (.cons _ _ _ _ _ _ _ [] _ (.one _ _ _ _ _ (.p _ _)) (.cons _ _ _ _ _ _ _ [] _ (.one _ _ _ _ _ (passOs (xs := [].map encP) rfl rfl)) (.nil _)))) rfl (.one _ _ _ _ (recvOw (n := (cellsP (Sol.mk si sp sk) inn []).length) (g := 0) (by simp) rfl)) ?_)
    refine c0 rfl (w_v (.os 12 0 ((cellsP (Sol.mk si sp sk) inn []).length)) rfl ?_)
    refine cn ?_
    refine cw_ret ?_
    exact finO _ rfl rfl (by simp) (show PV.sl 1 ((cellsP (Sol.mk si sp sk) inn []).map (encL 4 encP)) = PV.sl 1 ((cellsOf (Sol.mk si sp sk) inn).map (encL 4 encP)) from (congrArg (fun z => PV.sl 1 (z.map (encL 4 encP))) (by simp [cellsOf, *] : (cellsP (Sol.mk si sp sk) inn []) = (cellsOf (Sol.mk si sp sk) inn)))) rfl
theorem sPlanesOf_fn (si : Bool) (sp : Pl) (sk : List Sol) (hf : fits (Sol.mk si sp sk)) : Fn PP 66 [.p (encS (Sol.mk si sp sk))] (.p (.sl 4 ((planesOfS (Sol.mk si sp sk)).map encP))) [] := by
  refine fn_intro tok Go.Proofs.Try.func66 (c := _) rfl rfl (Nat.le_of_ble_eq_true rfl) ?_
  refine cw_seq ?_
  refine cw_reg0 tok rfl rfl ?_
  refine c0 rfl (w_box (g := 0) [BO si, I64 sp.a, I64 sp.b, I64 sp.c, I64 sp.d, .p (.sl 6 (encSs sk))] rfl rfl rfl ?_)
  refine c0 rfl (w_v (.p (.lit nilSl)) rfl ?_)
  refine cn ?_
  refine cw_seq ?_
  refine cw_seq ?_
  refine cw_reg0 tok rfl rfl ?_
  refine c0 rfl (w_v (.p (encS (Sol.mk si sp sk))) rfl ?_)
  refine c0 rfl (w_call_1 (sSolidOk (Sol.mk si sp sk) hf) rfl rfl ?_)
  refine c0 rfl (w_v (BO (!(sok (Sol.mk si sp sk)))) rfl ?_)
  refine cn ?_
  refine cw_cond (t := !(sok (Sol.mk si sp sk))) rfl (fun c1 => ?_) (fun c1 => ?_)
  ·
    replace c1 := nt c1
    refine cw_seq ?_
    refine cw_reg0 tok rfl rfl ?_
    refine c0 rfl (w_bsl (g := 0) [] rfl rfl rfl rfl (Nat.le_of_ble_eq_true rfl) (Nat.le_of_ble_eq_true rfl) (Nat.le_of_ble_eq_true rfl) (.nil _) rfl rfl ?_)
    refine c0 rfl (w_v (.os 6 0 0) rfl ?_)
    refine cn ?_
    refine cw_ret ?_
    exact finO _ rfl rfl (by simp) (show PV.sl 4 ([].map encP) = PV.sl 4 ((planesOfS (Sol.mk si sp sk)).map encP) from (congrArg (fun z => PV.sl 4 (z.map encP)) (by simp [planesOfS, *] : [] = (planesOfS (Sol.mk si sp sk))))) rfl
  ·
    replace c1 := nf c1
    refine cw_skip ?_
    refine cw_seq ?_
    refine cw_reg0 tok rfl rfl ?_
    refine c0 rfl (w_v (.p (encS (Sol.mk si sp sk))) rfl ?_)
    refine c0 rfl (w_bsl (g := 0) [] rfl rfl rfl rfl (Nat.le_of_ble_eq_true rfl) (Nat.le_of_ble_eq_true rfl) (Nat.le_of_ble_eq_true rfl) (.nil _) rfl rfl ?_)
    refine c0 rfl (w_call (.p (.sl 4 ((planesS (Sol.mk si sp sk) []).map encP))) (splanes_rec (Sol.mk si sp sk) [] [] (by simp) (by have := sok_nodes (s := Sol.mk si sp sk) (by assumption); simp; omega) (sok_look (by assumption))) rfl (.cons _ _ _ _ _ _ _ [] _ (.one _ _ _ _ _ (.p _ _)) (.cons _ _ _ _ _ _ _ [] _ (.one _ _ _ _ _ (passOs (xs := [].map encP) rfl rfl)) (.nil _))) rfl (.one _ _ _ _ (.p _ _)) ?_)
    refine c0 rfl (w_v (.p (.sl 4 ((planesS (Sol.mk si sp sk) []).map encP))) rfl ?_)
    refine cn ?_
    refine cw_ret ?_
    exact fin1 (.sl 4 ((planesS (Sol.mk si sp sk) []).map encP)) (.sl 4 ((planesOfS (Sol.mk si sp sk)).map encP)) rfl (congrArg (fun z => PV.sl 4 (z.map encP)) (by simp [planesOfS, *] : (planesS (Sol.mk si sp sk) []) = (planesOfS (Sol.mk si sp sk)))) rfl
theorem sCells (s : Sol) (inn : Bool) (hf : fits s) : Fn PP 65 [.p (encS s), .p (bP inn)] (.p (.sl 1 ((cellsOf s inn).map (encL 4 encP)))) [] := by
  cases s; exact sCells_fn _ _ _ inn hf
theorem sPlanesOf (s : Sol) (hf : fits s) : Fn PP 66 [.p (encS s)] (.p (.sl 4 ((planesOfS s).map encP))) [] := by
  cases s; exact sPlanesOf_fn _ _ _ hf
end Go.Proofs.Ytablmbhnimnccaa.Pw
