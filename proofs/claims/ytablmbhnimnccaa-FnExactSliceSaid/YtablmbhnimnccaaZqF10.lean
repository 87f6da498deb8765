/- A part of that proof: contracts of the functions that are called, one theorem a function. No condition. -/
import Derived.Test.YtablmbhnimnccaaZqF9
import Derived.Test.YtablmbhnimnccaaZqPure5
set_option maxRecDepth 20000
set_option maxHeartbeats 4000000
namespace Go.Proofs.Ytablmbhnimnccaa.Pw
theorem szSolidS_fn (a : List Sol) (left : Int) (hl : 0 ≤ left ∧ left ≤ 1048576) (hk : a.length ≤ 140737488355328) (H : ∀ q ∈ a, ∀ l : Int, 0 ≤ l ∧ l ≤ 1048576 → Fn PP 11 [.p (encS q), .p (iP l)] (.p (iP (szT q l))) []) : Fn PP 53 [.p (.sl 6 (encSs a)), .p (iP left)] (.p (iP (szTs a left))) [] := by
  refine fn_intro tok Go.Proofs.Try.func53 (c := _) rfl rfl (Nat.le_of_ble_eq_true rfl) ?_
  refine cw_seq ?_
  refine cw_reg0 tok rfl rfl ?_
  refine c0 rfl (w_v (I64 0) rfl ?_)
  refine cn ?_
  refine cw_seq ?_
  refine cw_reg0 tok rfl rfl ?_
  refine c0 rfl (w_v (I64 left) rfl ?_)
  refine c0 rfl (w_v (.p (.sl 6 (encSs a))) rfl ?_)
  refine c0 rfl (w_len (a.length) rfl rfl (by simp) ?_)
  refine c0 rfl (w_i (left - ((a.length : Int))) rfl (by unfold inI; omega) ?_)
  refine c0 rfl (w_v (I64 (left - ((a.length : Int)))) rfl ?_)
  refine cn ?_
  refine cw_seq ?_
  refine cw_seq ?_
  refine cw_reg0 tok rfl rfl ?_
  refine c0 rfl (w_v (I64 (left - ((a.length : Int)))) rfl ?_)
  refine c0 rfl (w_v (BO (decide (left - ((a.length : Int)) < 0))) rfl ?_)
  refine cn ?_
  refine cw_cond (t := decide (left - ((a.length : Int)) < 0)) rfl (fun c1 => ?_) (fun c1 => ?_)
  ·
    replace c1 := of_decide_eq_true c1
    refine cw_seq ?_
    refine cw_reg0 tok rfl rfl ?_
    refine c0 rfl (w_v (I64 (-1)) rfl ?_)
    refine cn ?_
    refine cw_ret ?_
    exact fin1 (iP (-1)) (iP (szTs a left)) rfl (congrArg iP (by rw [szTs, if_pos (by assumption)] : (-1) = (szTs a left))) rfl
  ·
    replace c1 := of_decide_eq_false c1
    refine cw_skip ?_
    refine cw_seq ?_
    refine cw_seq ?_
    refine cw_reg0 tok rfl rfl ?_
    refine c0 rfl (w_v (I64 0) rfl ?_)
    refine cn ?_
    refine cw_block ?_
    refine cw_loopI (fun nn S => ∃ i : Nat, ∃ l : Int, ((i ≤ a.length ∧ 0 ≤ l ∧ l ≤ 1048576) ∧ (0 ≤ left - a.length ∧ szL (a.drop i) l = szL a (left - a.length))) ∧ nn = a.length - i ∧ S = mkS [(0, .p (.sl 6 (encSs a))), (1, I64 l), (5, I64 ((i : Int)))] [] []) (a.length - 0) ?_ ?_
    · exact ⟨_, wk_of (tms := [(0, .p (.sl 6 (encSs a))), (1, I64 ((left - (a.length : Int)))), (5, I64 ((0 : Int)))]) (bls := []) (gens := []) ⟨rfl, rfl, rfl, trivial⟩ trivial trivial rfl, 0, left - (a.length : Int), ⟨by omega, by omega, rfl⟩, rfl, rfl⟩
    · rintro nn _ ⟨i, l, ⟨hi, h0, hx⟩, hn1, rfl⟩
      refine cw_seq ?_
      refine cw_seq ?_
      refine cw_reg0 tok rfl rfl ?_
      refine c0 rfl (w_v (I64 ((i : Int))) rfl ?_)
      refine c0 rfl (w_v (.p (.sl 6 (encSs a))) rfl ?_)
      refine c0 rfl (w_len (a.length) rfl rfl (by simp) ?_)
      refine c0 rfl (w_v (BO (decide ((i : Int) < (a.length : Int)))) rfl ?_)
      refine cn ?_
      refine cw_cond (t := decide ((i : Int) < (a.length : Int))) rfl (fun c2 => ?_) (fun c2 => ?_)
      ·
        replace c2 := of_decide_eq_true c2
        refine cw_skip ?_
        refine cw_seq ?_
        refine cw_block ?_
        refine cw_seq ?_
        refine cw_reg0 tok rfl rfl ?_
        refine c0 rfl (w_v (.p (.sl 6 (encSs a))) rfl ?_)
        refine c0 rfl (w_v (I64 ((i : Int))) rfl ?_)
        obtain ⟨q, hq⟩ := getE (l := a) (i := i) (by first | omega | (simp; omega))
        obtain ⟨qi, qp, qk⟩ := q
        refine c0 rfl (w_ix ((i : Int)) (encS (Sol.mk qi qp qk)) rfl rfl rfl (by omega) (getSs hq) ?_)
        refine c0 rfl (w_v (.p (encS (Sol.mk qi qp qk))) rfl ?_)
        refine c0 rfl (w_v (I64 l) rfl ?_)
        refine c0 rfl (w_call_2 (H _ (List.mem_of_getElem? hq) l (by omega)) rfl rfl rfl ?_)
        have hqs := szT_le (Sol.mk qi qp qk) l (by omega)
        refine c0 rfl (w_v (I64 (szT (Sol.mk qi qp qk) l)) rfl ?_)
        refine cn ?_
        refine cw_seq ?_
        refine cw_reg0 tok rfl rfl ?_
        refine c0 rfl (w_v (I64 (szT (Sol.mk qi qp qk) l)) rfl ?_)
        refine c0 rfl (w_v (BO (decide (szT (Sol.mk qi qp qk) l < 0))) rfl ?_)
        refine cn ?_
        refine cw_cond (t := decide (szT (Sol.mk qi qp qk) l < 0)) rfl (fun c3 => ?_) (fun c3 => ?_)
        ·
          replace c3 := of_decide_eq_true c3
          refine cw_seq ?_
          refine cw_reg0 tok rfl rfl ?_
          refine c0 rfl (w_v (I64 (-1)) rfl ?_)
          refine cn ?_
          refine cw_ret ?_
          exact fin1 (iP (-1)) (iP (szTs a left)) rfl (congrArg iP (by rw [szTs, if_neg (by omega), ← hx, drop_of hq, szL, if_pos (by assumption)] : (-1) = (szTs a left))) rfl
        ·
          replace c3 := of_decide_eq_false c3
          refine cw_skip ?_
          refine cw_reg0 tok rfl rfl ?_
          refine c0 rfl (w_v (I64 ((i : Int))) rfl ?_)
          refine c0 rfl (w_i (((i + 1 : Nat) : Int)) rfl (by unfold inI; omega) ?_)
          refine c0 rfl (w_v (I64 (((i + 1 : Nat) : Int))) rfl ?_)
          refine cn ?_
          exact ⟨_, _, by omega, wk_of (tms := [(0, .p (.sl 6 (encSs a))), (1, I64 ((szT (Sol.mk qi qp qk) l))), (5, I64 (((i + 1) : Int)))]) (bls := []) (gens := []) ⟨rfl, rfl, rfl, trivial⟩ trivial trivial rfl, (i + 1), (szT (Sol.mk qi qp qk) l), ⟨by omega, h0, by rw [← hx, drop_of hq, szL, if_neg (by assumption)]⟩, rfl, rfl⟩
      ·
        replace c2 := of_decide_eq_false c2
        refine cw_exit ?_
        refine cw_seq ?_
        refine cw_reg0 tok rfl rfl ?_
        refine c0 rfl (w_v (I64 l) rfl ?_)
        refine c0 rfl (w_v (I64 l) rfl ?_)
        refine cn ?_
        refine cw_ret ?_
        exact fin1 (iP l) (iP (szTs a left)) rfl (congrArg iP (by rw [szTs, if_neg (by omega), ← hx, List.drop_eq_nil_of_le (by omega)]; rfl : l = (szTs a left))) rfl
theorem szSolid_fn (si : Bool) (sp : Pl) (sk : List Sol) (left : Int) (hl : 0 ≤ left ∧ left ≤ 1048576) (HS : Fn PP 53 [.p (.sl 6 (encSs sk)), .p (iP left)] (.p (iP (szTs sk left))) []) : Fn PP 11 [.p (encS (Sol.mk si sp sk)), .p (iP left)] (.p (iP (szT (Sol.mk si sp sk) left))) [] := by
  refine fn_intro tok Go.Proofs.Try.func11 (c := _) rfl rfl (Nat.le_of_ble_eq_true rfl) ?_
  refine cw_seq ?_
  refine cw_reg0 tok rfl rfl ?_
  refine c0 rfl (w_box (g := 0) [BO si, I64 sp.a, I64 sp.b, I64 sp.c, I64 sp.d, .p (.sl 6 (encSs sk))] rfl rfl rfl ?_)
  refine c0 rfl (w_v (I64 0) rfl ?_)
  refine cn ?_
  refine cw_seq ?_
  refine cw_reg0 tok rfl rfl ?_
  refine c0 rfl (w_v (.pt 2 0 5) rfl ?_)
  refine c0 rfl (w_v (.p (.sl 6 (encSs sk))) rfl ?_)
  refine c0 rfl (w_v (I64 left) rfl ?_)
  refine c0 rfl (w_call_2 HS rfl rfl rfl ?_)
  refine c0 rfl (w_v (I64 (szTs sk left)) rfl ?_)
  refine cn ?_
  refine cw_seq ?_
  refine cw_seq ?_
  refine cw_reg0 tok rfl rfl ?_
  refine c0 rfl (w_v (I64 (szTs sk left)) rfl ?_)
  refine c0 rfl (w_v (BO (decide (szTs sk left < 0))) rfl ?_)
  refine cn ?_
  refine cw_cond (t := decide (szTs sk left < 0)) rfl (fun c1 => ?_) (fun c1 => ?_)
  ·
    replace c1 := of_decide_eq_true c1
    refine cw_seq ?_
    refine cw_reg0 tok rfl rfl ?_
    refine c0 rfl (w_v (I64 (-1)) rfl ?_)
    refine cn ?_
    refine cw_ret ?_
    exact fin1 (iP (-1)) (iP (szT (Sol.mk si sp sk) left)) rfl (congrArg iP (by rw [szT_mk]; split <;> omega : (-1) = (szT (Sol.mk si sp sk) left))) rfl
  ·
    replace c1 := of_decide_eq_false c1
    refine cw_skip ?_
    refine cw_seq ?_
    refine cw_reg0 tok rfl rfl ?_
    refine c0 rfl (w_v (I64 (szTs sk left)) rfl ?_)
    refine c0 rfl (w_v (I64 (szTs sk left)) rfl ?_)
    refine cn ?_
    refine cw_ret ?_
    exact fin1 (iP (szTs sk left)) (iP (szT (Sol.mk si sp sk) left)) rfl (congrArg iP (by rw [szT_mk]; split <;> omega : (szTs sk left) = (szT (Sol.mk si sp sk) left))) rfl
theorem szSolid_rec : ∀ (s : Sol) (left : Int), 0 ≤ left ∧ left ≤ 1048576 → lens s → Fn PP 11 [.p (encS s), .p (iP left)] (.p (iP (szT s left))) []
  | .mk i p k, left, h, hf => szSolid_fn i p k left h (szSolidS_fn k left h (by unfold lens at hf; exact hf.1) fun q hq l hl => szSolid_rec q l hl (by unfold lens at hf; exact lensS_mem hf.2 q hq))
  termination_by s => SizeOf.sizeOf s
  decreasing_by exact sz_kid hq
theorem toSolidS_fn (a : List Sol) (hk : a.length ≤ 1048576) (H : ∀ q ∈ a, Fn PP 13 [.p (encS q)] (.p (encS q)) []) : Fn PP 58 [.p (.sl 6 (encSs a))] (.p (.sl 6 (encSs a))) [] := by
  refine fn_intro tok Go.Proofs.Try.func58 (c := _) rfl rfl (Nat.le_of_ble_eq_true rfl) ?_
  refine cw_seq ?_
  refine cw_reg0 tok rfl rfl ?_
  refine c0 rfl (w_v (.p (.lit nilSl)) rfl ?_)
  refine cn ?_
  refine cw_seq ?_
  refine cw_reg0 tok rfl rfl ?_
  refine c0 rfl (w_v (.p (.sl 6 (encSs a))) rfl ?_)
  refine c0 rfl (w_len (a.length) rfl rfl (by simp) ?_)
  refine c0 rfl (w_mks (n := a.length) (g := 0) rfl rfl rfl rfl rfl (Nat.le_of_ble_eq_true rfl) (by show _ * 64 ≤ _; omega) (by omega) rfl ?_)
  refine c0 rfl (w_v (.os 7 0 a.length) rfl ?_)
  refine cn ?_
  refine cw_seq ?_
  refine cw_seq ?_
  refine cw_reg0 tok rfl rfl ?_
  refine c0 rfl (w_v (I64 0) rfl ?_)
  refine cn ?_
  refine cw_block ?_
  refine cw_loopI (fun nn S => ∃ i : Nat, (i ≤ a.length) ∧ nn = a.length - i ∧ S = mkS [(0, .p (.sl 6 (encSs a))), (3, .os 7 0 a.length), (4, I64 ((i : Int)))] [(7, 0, .arr 34 6 (fillL encS a i (.ag [bP false, iP 0, iP 0, iP 0, iP 0, .lit nilSl])) 0)] [(7, 1)]) (a.length - 0) ?_ ?_
  · exact ⟨_, wk_of (tms := [(0, .p (.sl 6 (encSs a))), (3, .os 7 0 a.length), (4, I64 ((0 : Int)))]) (bls := [(7, 0, .arr 34 6 (fillL encS a 0 (.ag [bP false, iP 0, iP 0, iP 0, iP 0, .lit nilSl])) 0)]) (gens := [(7, 1)]) ⟨rfl, rfl, rfl, trivial⟩ ⟨rfl, trivial⟩ ⟨rfl, trivial⟩ rfl, 0, by omega, rfl, rfl⟩
  · rintro nn _ ⟨i, hi, hn1, rfl⟩
    refine cw_seq ?_
    refine cw_seq ?_
    refine cw_reg0 tok rfl rfl ?_
    refine c0 rfl (w_v (I64 ((i : Int))) rfl ?_)
    refine c0 rfl (w_v (.p (.sl 6 (encSs a))) rfl ?_)
    refine c0 rfl (w_len (a.length) rfl rfl (by simp) ?_)
    refine c0 rfl (w_v (BO (decide ((i : Int) < (a.length : Int)))) rfl ?_)
    refine cn ?_
    refine cw_cond (t := decide ((i : Int) < (a.length : Int))) rfl (fun c1 => ?_) (fun c1 => ?_)
    ·
      replace c1 := of_decide_eq_true c1
      refine cw_skip ?_
      refine cw_seq ?_
      refine cw_block ?_
      refine cw_reg0 tok rfl rfl ?_
      refine c0 rfl (w_v (.os 7 0 a.length) rfl ?_)
      refine c0 rfl (w_v (I64 ((i : Int))) rfl ?_)
      refine c0 rfl (w_v (.p (.sl 6 (encSs a))) rfl ?_)
      refine c0 rfl (w_v (I64 ((i : Int))) rfl ?_)
      obtain ⟨q, hq⟩ := getE (l := a) (i := i) (by first | omega | (simp; omega))
      obtain ⟨qi, qp, qk⟩ := q
      refine c0 rfl (w_ix ((i : Int)) (encS (Sol.mk qi qp qk)) rfl rfl rfl (by omega) (getSs hq) ?_)
      refine c0 rfl (w_v (.p (encS (Sol.mk qi qp qk))) rfl ?_)
      refine c0 rfl (w_call_1 (H _ (List.mem_of_getElem? hq)) rfl rfl ?_)
      refine c0 rfl (w_ixo ((i : Int)) rfl rfl rfl rfl (by simp) (by omega) (by omega) ?_)
      refine c0 rfl (w_sto (.ag [bP false, iP 0, iP 0, iP 0, iP 0, .lit nilSl]) (encS (Sol.mk qi qp qk)) _ rfl rfl rfl rfl rfl (fill_get hq) rfl rfl (by simp) (Nat.zero_le _) rfl ?_)
      refine cn ?_
      refine cw_reg0 tok rfl rfl ?_
      refine c0 rfl (w_v (I64 ((i : Int))) rfl ?_)
      refine c0 rfl (w_i (((i + 1 : Nat) : Int)) rfl (by unfold inI; omega) ?_)
      refine c0 rfl (w_v (I64 (((i + 1 : Nat) : Int))) rfl ?_)
      refine cn ?_
      exact ⟨_, _, by omega, wk_of (tms := [(0, .p (.sl 6 (encSs a))), (3, .os 7 0 a.length), (4, I64 (((i + 1) : Int)))]) (bls := [(7, 0, .arr 34 6 (fillL encS a ((i + 1)) (.ag [bP false, iP 0, iP 0, iP 0, iP 0, .lit nilSl])) 0)]) (gens := [(7, 1)]) ⟨rfl, rfl, rfl, trivial⟩ ⟨congrArg (fun x => some (Blk.arr 34 6 x 0)) (fill_set hq), trivial⟩ ⟨rfl, trivial⟩ rfl, (i + 1), by omega, rfl, rfl⟩
    ·
      replace c1 := of_decide_eq_false c1
      refine cw_exit ?_
      refine cw_seq ?_
      refine cw_reg0 tok rfl rfl ?_
      refine c0 rfl (w_v (.os 7 0 a.length) rfl ?_)
      refine c0 rfl (w_v (.os 7 0 a.length) rfl ?_)
      refine cn ?_
      refine cw_ret ?_
      exact finO _ rfl rfl (by simp) (congrArg (PV.sl 6) (fill_doneS (by omega))) rfl
theorem toSolid_fn (si : Bool) (sp : Pl) (sk : List Sol) (HS : Fn PP 58 [.p (.sl 6 (encSs sk))] (.p (.sl 6 (encSs sk))) []) : Fn PP 13 [.p (encS (Sol.mk si sp sk))] (.p (encS ((Sol.mk si sp sk)))) [] := by
  refine fn_intro tok Go.Proofs.Try.func13 (c := _) rfl rfl (Nat.le_of_ble_eq_true rfl) ?_
  refine cw_seq ?_
  refine cw_reg0 tok rfl rfl ?_
  refine c0 rfl (w_box (g := 0) [BO si, I64 sp.a, I64 sp.b, I64 sp.c, I64 sp.d, .p (.sl 6 (encSs sk))] rfl rfl rfl ?_)
  refine c0 rfl (w_alloc (g := 0) [BO false, I64 0, I64 0, I64 0, I64 0, .p (.lit nilSl)] rfl rfl rfl ?_)
  refine cn ?_
  refine cw_seq ?_
  refine cw_reg0 tok rfl rfl ?_
  refine c0 rfl (w_alloc (g := 0) [BO false, I64 0, I64 0, I64 0, I64 0, .p (.lit nilSl)] rfl rfl rfl ?_)
  refine cn ?_
  refine cw_seq ?_
  refine cw_reg0 tok rfl rfl ?_
  refine c0 rfl (w_v (.pt 1 0 0) rfl ?_)
  refine c0 rfl (w_v (BO si) rfl ?_)
  refine c0 rfl (w_v (.pt 3 0 0) rfl ?_)
  refine c0 rfl (w_st [BO si, I64 0, I64 0, I64 0, I64 0, .p (.lit nilSl)] rfl rfl rfl rfl rfl (Nat.le_of_ble_eq_true rfl) rfl ?_)
  refine cn ?_
  refine cw_seq ?_
  refine cw_reg0 tok rfl rfl ?_
  refine c0 rfl (w_v (.pt 1 0 1) rfl ?_)
  refine c0 rfl (w_v (.p (encP sp)) rfl ?_)
  refine c0 rfl (w_call_1 (toPlane_fn sp) rfl rfl ?_)
  refine c0 rfl (w_v (.pt 3 0 1) rfl ?_)
  refine c0 rfl (w_st [BO si, I64 sp.a, I64 sp.b, I64 sp.c, I64 sp.d, .p (.lit nilSl)] rfl rfl rfl rfl rfl (Nat.le_of_ble_eq_true rfl) rfl ?_)
  refine cn ?_
  refine cw_seq ?_
  refine cw_reg0 tok rfl rfl ?_
  refine c0 rfl (w_v (.pt 1 0 5) rfl ?_)
  refine c0 rfl (w_v (.p (.sl 6 (encSs sk))) rfl ?_)
  refine c0 rfl (w_call_1 HS rfl rfl ?_)
  refine c0 rfl (w_v (.pt 3 0 5) rfl ?_)
  refine c0 rfl (w_st [BO si, I64 sp.a, I64 sp.b, I64 sp.c, I64 sp.d, .p (.sl 6 (encSs sk))] rfl rfl rfl rfl rfl (Nat.le_of_ble_eq_true rfl) rfl ?_)
  refine cn ?_
  refine cw_seq ?_
  refine cw_reg0 tok rfl rfl ?_
  refine c0 rfl (w_v (.p (encS (Sol.mk si sp sk))) rfl ?_)
  refine c0 rfl (w_st [BO si, I64 sp.a, I64 sp.b, I64 sp.c, I64 sp.d, .p (.sl 6 (encSs sk))] rfl rfl rfl rfl rfl (Nat.le_of_ble_eq_true rfl) rfl ?_)
  refine cn ?_
  refine cw_ret ?_
  exact fin1 (encS (Sol.mk si sp sk)) (encS ((Sol.mk si sp sk))) rfl (congrArg encS (by rfl : (Sol.mk si sp sk) = ((Sol.mk si sp sk)))) rfl
theorem toSolid_rec : ∀ (s : Sol), fits s → Fn PP 13 [.p (encS s)] (.p (encS s)) []
  | .mk i p k, hf => toSolid_fn i p k (toSolidS_fn k (by unfold fits at hf; exact hf.1) fun q hq => toSolid_rec q (by unfold fits at hf; exact fitsS_mem hf.2 q hq))
  termination_by s => SizeOf.sizeOf s
  decreasing_by exact sz_kid hq
theorem eqPlane_fn (p : Pl) (q : Pl) : Fn PP 63 [.p (encP p), .p (encP q)] (.p (bP (decide (p = q)))) [] := by
  refine fn_intro tok Go.Proofs.Try.func63 (c := _) rfl rfl (Nat.le_of_ble_eq_true rfl) ?_
  refine cw_seq ?_
  refine cw_reg0 tok rfl rfl ?_
  refine c0 rfl (w_box (g := 0) [I64 p.a, I64 p.b, I64 p.c, I64 p.d] rfl rfl rfl ?_)
  refine c0 rfl (w_box (g := 0) [I64 q.a, I64 q.b, I64 q.c, I64 q.d] rfl rfl rfl ?_)
  refine c0 rfl (w_v (BO false) rfl ?_)
  refine cn ?_
  refine cw_seq ?_
  refine cw_seq ?_
  refine cw_reg0 tok rfl rfl ?_
  refine c0 rfl (w_v (.pt 2 0 0) rfl ?_)
  refine c0 rfl (w_v (I64 p.a) rfl ?_)
  refine c0 rfl (w_v (.pt 3 0 0) rfl ?_)
  refine c0 rfl (w_v (I64 q.a) rfl ?_)
  refine c0 rfl (w_nei (p.a) (q.a) rfl rfl ?_)
  refine cn ?_
  refine cw_cond (t := decide (p.a ≠ q.a)) rfl (fun c1 => ?_) (fun c1 => ?_)
  ·
    replace c1 := of_decide_eq_true c1
    refine cw_seq ?_
    refine cw_reg0 tok rfl rfl ?_
    refine c0 rfl (w_v (BO false) rfl ?_)
    refine cn ?_
    refine cw_ret ?_
    exact fin1 (bP false) (bP (decide (p = q))) rfl (congrArg bP (by cases p; cases q; simp_all : false = (decide (p = q)))) rfl
  ·
    replace c1 := of_decide_eq_false c1
    refine cw_skip ?_
    refine cw_seq ?_
    refine cw_seq ?_
    refine cw_reg0 tok rfl rfl ?_
    refine c0 rfl (w_v (.pt 2 0 1) rfl ?_)
    refine c0 rfl (w_v (I64 p.b) rfl ?_)
    refine c0 rfl (w_v (.pt 3 0 1) rfl ?_)
    refine c0 rfl (w_v (I64 q.b) rfl ?_)
    refine c0 rfl (w_nei (p.b) (q.b) rfl rfl ?_)
    refine cn ?_
    refine cw_cond (t := decide (p.b ≠ q.b)) rfl (fun c2 => ?_) (fun c2 => ?_)
    ·
      replace c2 := of_decide_eq_true c2
      refine cw_seq ?_
      refine cw_reg0 tok rfl rfl ?_
      refine c0 rfl (w_v (BO false) rfl ?_)
      refine cn ?_
      refine cw_ret ?_
      exact fin1 (bP false) (bP (decide (p = q))) rfl (congrArg bP (by cases p; cases q; simp_all : false = (decide (p = q)))) rfl
    ·
      replace c2 := of_decide_eq_false c2
      refine cw_skip ?_
      refine cw_seq ?_
      refine cw_seq ?_
      refine cw_reg0 tok rfl rfl ?_
      refine c0 rfl (w_v (.pt 2 0 2) rfl ?_)
      refine c0 rfl (w_v (I64 p.c) rfl ?_)
      refine c0 rfl (w_v (.pt 3 0 2) rfl ?_)
      refine c0 rfl (w_v (I64 q.c) rfl ?_)
      refine c0 rfl (w_nei (p.c) (q.c) rfl rfl ?_)
      refine cn ?_
      refine cw_cond (t := decide (p.c ≠ q.c)) rfl (fun c3 => ?_) (fun c3 => ?_)
      ·
        replace c3 := of_decide_eq_true c3
        refine cw_seq ?_
        refine cw_reg0 tok rfl rfl ?_
        refine c0 rfl (w_v (BO false) rfl ?_)
        refine cn ?_
        refine cw_ret ?_
        exact fin1 (bP false) (bP (decide (p = q))) rfl (congrArg bP (by cases p; cases q; simp_all : false = (decide (p = q)))) rfl
      ·
        replace c3 := of_decide_eq_false c3
        refine cw_skip ?_
        refine cw_seq ?_
        refine cw_seq ?_
        refine cw_reg0 tok rfl rfl ?_
        refine c0 rfl (w_v (.pt 2 0 3) rfl ?_)
        refine c0 rfl (w_v (I64 p.d) rfl ?_)
        refine c0 rfl (w_v (.pt 3 0 3) rfl ?_)
        refine c0 rfl (w_v (I64 q.d) rfl ?_)
        refine c0 rfl (w_nei (p.d) (q.d) rfl rfl ?_)
        refine cn ?_
        refine cw_cond (t := decide (p.d ≠ q.d)) rfl (fun c4 => ?_) (fun c4 => ?_)
        ·
          replace c4 := of_decide_eq_true c4
          refine cw_seq ?_
          refine cw_reg0 tok rfl rfl ?_
          refine c0 rfl (w_v (BO false) rfl ?_)
          refine cn ?_
          refine cw_ret ?_
          exact fin1 (bP false) (bP (decide (p = q))) rfl (congrArg bP (by cases p; cases q; simp_all : false = (decide (p = q)))) rfl
        ·
          replace c4 := of_decide_eq_false c4
          refine cw_skip ?_
          refine cw_seq ?_
          refine cw_reg0 tok rfl rfl ?_
          refine c0 rfl (w_v (BO true) rfl ?_)
          refine cn ?_
          refine cw_ret ?_
          exact fin1 (bP true) (bP (decide (p = q))) rfl (congrArg bP (by cases p; cases q; simp_all : true = (decide (p = q)))) rfl
theorem eqSolidS_fn (a : List Sol) (b : List Sol) (hk : a.length ≤ 140737488355328) (H : ∀ q ∈ a, ∀ r ∈ b, Fn PP 16 [.p (encS q), .p (encS r)] (.p (bP (eqS q r))) []) : Fn PP 64 [.p (.sl 6 (encSs a)), .p (.sl 6 (encSs b))] (.p (bP (eqSs a b))) [] := by
  refine fn_intro tok Go.Proofs.Try.func64 (c := _) rfl rfl (Nat.le_of_ble_eq_true rfl) ?_
  refine cw_seq ?_
  refine cw_reg0 tok rfl rfl ?_
  refine c0 rfl (w_v (BO false) rfl ?_)
  refine cn ?_
  refine cw_seq ?_
  refine cw_seq ?_
  refine cw_reg0 tok rfl rfl ?_
  refine c0 rfl (w_v (.p (.sl 6 (encSs a))) rfl ?_)
  refine c0 rfl (w_len (a.length) rfl rfl (by simp) ?_)
  refine c0 rfl (w_v (.p (.sl 6 (encSs b))) rfl ?_)
  refine c0 rfl (w_len (b.length) rfl rfl (by simp) ?_)
  refine c0 rfl (w_nei ((a.length : Int)) ((b.length : Int)) rfl rfl ?_)
  refine cn ?_
  refine cw_cond (t := decide ((a.length : Int) ≠ (b.length : Int))) rfl (fun c1 => ?_) (fun c1 => ?_)
  ·
    replace c1 := of_decide_eq_true c1
    refine cw_seq ?_
    refine cw_reg0 tok rfl rfl ?_
    refine c0 rfl (w_v (BO false) rfl ?_)
    refine cn ?_
    refine cw_ret ?_
    exact fin1 (bP false) (bP (eqSs a b)) rfl (congrArg bP (by exact (eqSs_len (by assumption)).symm : false = (eqSs a b))) rfl
  ·
    replace c1 := of_decide_eq_false c1
    refine cw_skip ?_
    refine cw_seq ?_
    refine cw_seq ?_
    refine cw_reg0 tok rfl rfl ?_
    refine c0 rfl (w_v (I64 0) rfl ?_)
    refine cn ?_
    refine cw_block ?_
    refine cw_loopI (fun nn S => ∃ i : Nat, (i ≤ a.length ∧ ((a.length : Int) = b.length ∧ eqSs (a.drop i) (b.drop i) = eqSs a b)) ∧ nn = a.length - i ∧ S = mkS [(0, .p (.sl 6 (encSs a))), (1, .p (.sl 6 (encSs b))), (5, I64 ((i : Int)))] [] []) (a.length - 0) ?_ ?_
    · exact ⟨_, wk_of (tms := [(0, .p (.sl 6 (encSs a))), (1, .p (.sl 6 (encSs b))), (5, I64 ((0 : Int)))]) (bls := []) (gens := []) ⟨rfl, rfl, rfl, trivial⟩ trivial trivial rfl, 0, ⟨by omega, by omega, rfl⟩, rfl, rfl⟩
    · rintro nn _ ⟨i, ⟨hi, hl, hx⟩, hn1, rfl⟩
      refine cw_seq ?_
      refine cw_seq ?_
      refine cw_reg0 tok rfl rfl ?_
      refine c0 rfl (w_v (I64 ((i : Int))) rfl ?_)
      refine c0 rfl (w_v (.p (.sl 6 (encSs a))) rfl ?_)
      refine c0 rfl (w_len (a.length) rfl rfl (by simp) ?_)
      refine c0 rfl (w_v (BO (decide ((i : Int) < (a.length : Int)))) rfl ?_)
      refine cn ?_
      refine cw_cond (t := decide ((i : Int) < (a.length : Int))) rfl (fun c2 => ?_) (fun c2 => ?_)
      ·
        replace c2 := of_decide_eq_true c2
        refine cw_skip ?_
        refine cw_seq ?_
        refine cw_block ?_
        refine cw_seq ?_
        refine cw_reg1 tok mixed rfl rfl ?_
        refine c0 rfl (w_v (.p (.sl 6 (encSs a))) rfl ?_)
        refine c0 rfl (w_v (I64 ((i : Int))) rfl ?_)
        obtain ⟨q, hq⟩ := getE (l := a) (i := i) (by first | omega | (simp; omega))
        obtain ⟨qi, qp, qk⟩ := q
        refine c0 rfl (w_ix ((i : Int)) (encS (Sol.mk qi qp qk)) rfl rfl rfl (by omega) (getSs hq) ?_)
        refine c0 rfl (w_v (.p (encS (Sol.mk qi qp qk))) rfl ?_)
        refine c0 rfl (w_v (.p (.sl 6 (encSs b))) rfl ?_)
        refine c0 rfl (w_v (I64 ((i : Int))) rfl ?_)
        obtain ⟨r, hr⟩ := getE (l := b) (i := i) (by first | omega | (simp; omega))
        obtain ⟨ri, rp, rk⟩ := r
        refine c0 rfl (w_ix ((i : Int)) (encS (Sol.mk ri rp rk)) rfl rfl rfl (by omega) (getSs hr) ?_)
        refine c0 rfl (w_v (.p (encS (Sol.mk ri rp rk))) rfl ?_)
        refine c0 rfl (w_call_2 (H _ (List.mem_of_getElem? hq) _ (List.mem_of_getElem? hr)) rfl rfl rfl ?_)
        refine c0 rfl (w_v (BO (!(eqS (Sol.mk qi qp qk) (Sol.mk ri rp rk)))) rfl ?_)
        refine cn ⟨by kernel_rfl, ?_⟩
        refine cw_cond (t := !(eqS (Sol.mk qi qp qk) (Sol.mk ri rp rk))) rfl (fun c3 => ?_) (fun c3 => ?_)
        ·
          replace c3 := nt c3
          refine cw_seq ?_
          refine cw_reg0 tok rfl rfl ?_
          refine c0 rfl (w_v (BO false) rfl ?_)
          refine cn ?_
          refine cw_ret ?_
          exact fin1 (bP false) (bP (eqSs a b)) rfl (congrArg bP (by rw [← hx, eqSs_st hq hr]; simp_all : false = (eqSs a b))) rfl
        ·
          replace c3 := nf c3
          refine cw_skip ?_
          refine cw_reg0 tok rfl rfl ?_
          refine c0 rfl (w_v (I64 ((i : Int))) rfl ?_)
          refine c0 rfl (w_i (((i + 1 : Nat) : Int)) rfl (by unfold inI; omega) ?_)
          refine c0 rfl (w_v (I64 (((i + 1 : Nat) : Int))) rfl ?_)
          refine cn ?_
          exact ⟨_, _, by omega, wk_of (tms := [(0, .p (.sl 6 (encSs a))), (1, .p (.sl 6 (encSs b))), (5, I64 (((i + 1) : Int)))]) (bls := []) (gens := []) ⟨rfl, rfl, rfl, trivial⟩ trivial trivial rfl, (i + 1), ⟨by omega, hl, by rw [← hx, eqSs_st hq hr]; simp_all⟩, rfl, rfl⟩
      ·
        replace c2 := of_decide_eq_false c2
        refine cw_exit ?_
        refine cw_seq ?_
        refine cw_reg0 tok rfl rfl ?_
        refine c0 rfl (w_v (BO true) rfl ?_)
        refine cn ?_
        refine cw_ret ?_
        exact fin1 (bP true) (bP (eqSs a b)) rfl (congrArg bP (by rw [← hx, List.drop_eq_nil_of_le (by omega), List.drop_eq_nil_of_le (by omega)]; rfl : true = (eqSs a b))) rfl
theorem eqSolid_fn (ai : Bool) (ap : Pl) (ak : List Sol) (bi : Bool) (bp : Pl) (bk : List Sol) (HS : Fn PP 64 [.p (.sl 6 (encSs ak)), .p (.sl 6 (encSs bk))] (.p (bP (eqSs ak bk))) []) : Fn PP 16 [.p (encS (Sol.mk ai ap ak)), .p (encS (Sol.mk bi bp bk))] (.p (bP (eqS (Sol.mk ai ap ak) (Sol.mk bi bp bk)))) [] := by
  refine fn_intro tok Go.Proofs.Try.func16 (c := _) rfl rfl (Nat.le_of_ble_eq_true rfl) ?_
  refine cw_seq ?_
  refine cw_reg0 tok rfl rfl ?_
  refine c0 rfl (w_box (g := 0) [BO ai, I64 ap.a, I64 ap.b, I64 ap.c, I64 ap.d, .p (.sl 6 (encSs ak))] rfl rfl rfl ?_)
  refine c0 rfl (w_box (g := 0) [BO bi, I64 bp.a, I64 bp.b, I64 bp.c, I64 bp.d, .p (.sl 6 (encSs bk))] rfl rfl rfl ?_)
  refine c0 rfl (w_v (BO false) rfl ?_)
  refine cn ?_
  refine cw_seq ?_
  refine cw_seq ?_
  refine cw_reg0 tok rfl rfl ?_
  refine c0 rfl (w_v (.pt 2 0 0) rfl ?_)
  refine c0 rfl (w_v (BO ai) rfl ?_)
  refine c0 rfl (w_v (.pt 3 0 0) rfl ?_)
  refine c0 rfl (w_v (BO bi) rfl ?_)
  refine c0 rfl (w_v (BO (!(ai == bi))) rfl ?_)
  refine cn ?_
  refine cw_cond (t := !(ai == bi)) rfl (fun c1 => ?_) (fun c1 => ?_)
  ·
    replace c1 := nt c1
    refine cw_seq ?_
    refine cw_reg0 tok rfl rfl ?_
    refine c0 rfl (w_v (BO false) rfl ?_)
    refine cn ?_
    refine cw_ret ?_
    exact fin1 (bP false) (bP (eqS (Sol.mk ai ap ak) (Sol.mk bi bp bk))) rfl (congrArg bP (by unfold eqS; simp_all : false = (eqS (Sol.mk ai ap ak) (Sol.mk bi bp bk)))) rfl
  ·
    replace c1 := nf c1
    refine cw_skip ?_
    refine cw_seq ?_
    refine cw_seq ?_
    refine cw_reg0 tok rfl rfl ?_
    refine c0 rfl (w_v (.pt 2 0 1) rfl ?_)
    refine c0 rfl (w_v (.p (encP ap)) rfl ?_)
    refine c0 rfl (w_v (.pt 3 0 1) rfl ?_)
    refine c0 rfl (w_v (.p (encP bp)) rfl ?_)
    refine c0 rfl (w_call_2 (eqPlane_fn ap bp) rfl rfl rfl ?_)
    refine c0 rfl (w_v (BO (!(decide (ap = bp)))) rfl ?_)
    refine cn ?_
    refine cw_cond (t := !(decide (ap = bp))) rfl (fun c2 => ?_) (fun c2 => ?_)
    ·
      replace c2 := nt c2
      replace c2 := of_decide_eq_false c2
      refine cw_seq ?_
      refine cw_reg0 tok rfl rfl ?_
      refine c0 rfl (w_v (BO false) rfl ?_)
      refine cn ?_
      refine cw_ret ?_
      exact fin1 (bP false) (bP (eqS (Sol.mk ai ap ak) (Sol.mk bi bp bk))) rfl (congrArg bP (by unfold eqS; simp_all : false = (eqS (Sol.mk ai ap ak) (Sol.mk bi bp bk)))) rfl
    ·
      replace c2 := nf c2
      replace c2 := of_decide_eq_true c2
      refine cw_skip ?_
      refine cw_seq ?_
      refine cw_seq ?_
      refine cw_reg0 tok rfl rfl ?_
      refine c0 rfl (w_v (.pt 2 0 5) rfl ?_)
      refine c0 rfl (w_v (.p (.sl 6 (encSs ak))) rfl ?_)
      refine c0 rfl (w_v (.pt 3 0 5) rfl ?_)
      refine c0 rfl (w_v (.p (.sl 6 (encSs bk))) rfl ?_)
      refine c0 rfl (w_call_2 HS rfl rfl rfl ?_)
      refine c0 rfl (w_v (BO (!(eqSs ak bk))) rfl ?_)
      refine cn ?_
      refine cw_cond (t := !(eqSs ak bk)) rfl (fun c3 => ?_) (fun c3 => ?_)
      ·
        replace c3 := nt c3
        refine cw_seq ?_
        refine cw_reg0 tok rfl rfl ?_
        refine c0 rfl (w_v (BO false) rfl ?_)
        refine cn ?_
        refine cw_ret ?_
        exact fin1 (bP false) (bP (eqS (Sol.mk ai ap ak) (Sol.mk bi bp bk))) rfl (congrArg bP (by unfold eqS; simp_all : false = (eqS (Sol.mk ai ap ak) (Sol.mk bi bp bk)))) rfl
      ·
        replace c3 := nf c3
        refine cw_skip ?_
        refine cw_seq ?_
        refine cw_reg0 tok rfl rfl ?_
        refine c0 rfl (w_v (BO true) rfl ?_)
        refine cn ?_
        refine cw_ret ?_
        exact fin1 (bP true) (bP (eqS (Sol.mk ai ap ak) (Sol.mk bi bp bk))) rfl (congrArg bP (by unfold eqS; simp_all : true = (eqS (Sol.mk ai ap ak) (Sol.mk bi bp bk)))) rfl
theorem eqSolid_rec : ∀ (a b : Sol), lens a → Fn PP 16 [.p (encS a), .p (encS b)] (.p (bP (eqS a b))) []
  | .mk i p k, .mk j q l, hf => eqSolid_fn i p k j q l (eqSolidS_fn k l (by unfold lens at hf; exact hf.1) fun x hx y hy => eqSolid_rec x y (by unfold lens at hf; exact lensS_mem hf.2 x hx))
  termination_by a => SizeOf.sizeOf a
  decreasing_by exact sz_kid hx
end Go.Proofs.Ytablmbhnimnccaa.Pw
