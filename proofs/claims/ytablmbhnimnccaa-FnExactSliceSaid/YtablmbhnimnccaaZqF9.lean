/- A part of that proof: contracts of the functions that are called, one theorem a function. No condition. -/
import Derived.Test.YtablmbhnimnccaaZqF8
import Derived.Test.YtablmbhnimnccaaZqPure4
set_option maxRecDepth 20000
set_option maxHeartbeats 4000000
namespace Go.Proofs.Ytablmbhnimnccaa.Pw
theorem grow_fn (n : Nat) (hn : n ≤ 1048576) : Fn PP 219 [.p (.lit nilSl), .p (iP (n : Int))] (.ow 31 4 ([].map encP) 0) [] := by
  refine fn_intro tok Go.Proofs.Try.func219 (c := _) rfl rfl (Nat.le_of_ble_eq_true rfl) ?_
  refine cw_seq ?_
  refine cw_reg0 tok rfl rfl ?_
  refine c0 rfl (w_v (.p (.lit nilSl)) rfl ?_)
  refine cn ?_
  refine cw_seq ?_
  refine cw_seq ?_
  refine cw_reg0 tok rfl rfl ?_
  refine c0 rfl (w_v (I64 ((n : Int))) rfl ?_)
  refine c0 rfl (w_v (BO (decide ((n : Int) < 0))) rfl ?_)
  refine cn ?_
  refine cw_cond (t := decide ((n : Int) < 0)) rfl (fun c1 => ?_) (fun c1 => ?_)
  ·
    replace c1 := of_decide_eq_true c1
    exfalso
    omega
  ·
    replace c1 := of_decide_eq_false c1
    refine cw_skip ?_
    refine cw_seq ?_
    refine cw_seq ?_
    refine cw_reg0 tok rfl rfl ?_
    refine c0 rfl (w_v (I64 ((n : Int))) rfl ?_)
    refine c0 rfl (w_v (.p (.lit nilSl)) rfl ?_)
    refine c0 rfl (w_capnil Go.Proofs.Try.underlying66 rfl ?_)
    refine c0 rfl (w_v (.p (.lit nilSl)) rfl ?_)
    refine c0 rfl (w_v (I64 0) rfl ?_)
    refine c0 rfl (w_i (0) rfl (by unfold inI; omega) ?_)
    refine c0 rfl (w_i (((n : Int)) - 0) rfl (by unfold inI; omega) (cv (by exact congrArg I64 (by omega) : (I64 (((n : Int)) - 0) : AV) = I64 ((n : Int))) ?_))
    refine c0 rfl (w_v (I64 ((n : Int))) rfl ?_)
    refine cn ?_
    refine cw_seq ?_
    refine cw_reg0 tok rfl rfl ?_
    refine c0 rfl (w_v (I64 ((n : Int))) rfl ?_)
    refine c0 rfl (w_v (BO (decide ((n : Int) > 0))) rfl ?_)
    refine cn ?_
    refine cw_cond (t := decide ((n : Int) > 0)) rfl (fun c2 => ?_) (fun c2 => ?_)
    ·
      replace c2 := of_decide_eq_true c2
      refine cw_reg0 tok rfl rfl ?_
      refine c0 rfl (w_v (.p (.lit nilSl)) rfl ?_)
      refine c0 rfl (w_v (.p (.lit nilSl)) rfl ?_)
      refine c0 rfl (w_capnil Go.Proofs.Try.underlying66 rfl ?_)
      refine c0 rfl (w_slnil Go.Proofs.Try.underlying66 rfl rfl rfl ?_)
      refine c0 rfl (w_v (I64 ((n : Int))) rfl ?_)
      refine c0 rfl (w_zeros (n := n) (g := 0) ((List.replicate n (Pl.mk 0 0 0 0)).map encP) rfl rfl rfl rfl rfl rfl rfl (by omega) (Nat.le_of_ble_eq_true rfl) (by show _ * 32 ≤ _; omega) (by omega) (by rw [List.map_replicate]; rfl) rfl ?_)
      refine c0 rfl (w_v (.p (.lit nilSl)) rfl ?_)
      refine c0 rfl (w_v (I64 0) rfl ?_)
      refine c0 rfl (w_trunc ([].map encP) rfl rfl rfl rfl rfl rfl (by simp) rfl (Nat.zero_le _) (Nat.zero_le _) rfl rfl ?_)
      refine c0 rfl (w_v (.os 25 0 0) rfl ?_)
      refine cn ?_
      refine cw_seq ?_
      refine cw_reg0 tok rfl rfl ?_
      refine c0 rfl (w_v (.os 25 0 0) rfl ?_)
      refine c0 rfl (w_v (.os 25 0 0) rfl ?_)
      refine cn ?_
      refine cw_ret ?_
      exact finOw rfl rfl (by simp) (congrArg (fun z => z.map encP) (by rfl : [] = [])) rfl
    ·
      replace c2 := of_decide_eq_false c2
      refine cw_skip ?_
      refine cw_seq ?_
      refine cw_reg0 tok rfl rfl ?_
      refine c0 rfl (w_v (.p (.lit nilSl)) rfl ?_)
      refine c0 rfl (w_v (.p (.lit nilSl)) rfl ?_)
      refine cn ?_
      refine cw_ret ?_
      exact finNw 31 4 rfl (congrArg (fun z => z.map encP) (by rfl : [] = [])) rfl
theorem concat_fn (ls : List (List Pl)) (hs : ls.length ≤ 100) (hl : ∀ x ∈ ls, x.length ≤ 1000) : Fn PP 190 [.p (.sl 1 (ls.map (encL 4 encP)))] (.p (.sl 4 (ls.flatten.map encP))) [] := by
  refine fn_intro tok Go.Proofs.Try.func190 (c := _) rfl rfl (Nat.le_of_ble_eq_true rfl) ?_
  refine cw_seq ?_
  refine cw_reg0 tok rfl rfl ?_
  refine c0 rfl (w_v (.p (.lit nilSl)) rfl ?_)
  refine cn ?_
  refine cw_seq ?_
  refine cw_reg0 tok rfl rfl ?_
  refine c0 rfl (w_v (I64 0) rfl ?_)
  refine cn ?_
  refine cw_seq ?_
  refine cw_seq ?_
  refine cw_reg0 tok rfl rfl ?_
  refine c0 rfl (w_v (.p (.sl 1 (ls.map (encL 4 encP)))) rfl ?_)
  refine c0 rfl (w_len (ls.length) rfl rfl (by simp) ?_)
  refine c0 rfl (w_v (I64 0) rfl ?_)
  refine cn ?_
  refine cw_block ?_
  refine cw_loopI (fun nn S => ∃ i : Nat, ∃ m : Nat, (i ≤ ls.length ∧ m ≤ 1000 * i) ∧ nn = ls.length - i ∧ S = mkS [(0, .p (.sl 1 (ls.map (encL 4 encP)))), (3, I64 ((m : Int))), (9, .p (.sl 1 (ls.map (encL 4 encP)))), (10, I64 ((ls.length : Int))), (11, I64 ((i : Int)))] [] []) (ls.length - 0) ?_ ?_
  · exact ⟨_, wk_of (tms := [(0, .p (.sl 1 (ls.map (encL 4 encP)))), (3, I64 ((0 : Int))), (9, .p (.sl 1 (ls.map (encL 4 encP)))), (10, I64 ((ls.length : Int))), (11, I64 ((0 : Int)))]) (bls := []) (gens := []) ⟨rfl, rfl, rfl, rfl, rfl, trivial⟩ trivial trivial rfl, 0, 0, by omega, rfl, rfl⟩
  · rintro nn _ ⟨i, m, ⟨hi, hm⟩, hn1, rfl⟩
    refine cw_seq ?_
    refine cw_reg0 tok rfl rfl ?_
    refine c0 rfl (w_v (BO (decide ((i : Int) < (ls.length : Int)))) rfl ?_)
    refine cn ?_
    refine cw_seq ?_
    refine cw_cond (t := decide ((i : Int) < (ls.length : Int))) rfl (fun c1 => ?_) (fun c1 => ?_)
    ·
      replace c1 := of_decide_eq_true c1
      refine cw_skip ?_
      refine cw_seq ?_
      refine cw_block ?_
      refine cw_seq ?_
      refine cw_reg0 tok rfl rfl ?_
      obtain ⟨q, hq⟩ := getE (l := ls) (i := i) (by first | omega | (simp; omega))
      refine c0 rfl (w_ix ((i : Int)) (.sl 4 (q.map encP)) rfl rfl rfl (by omega) (getM hq) ?_)
      refine c0 rfl (w_v (.p (.sl 4 (q.map encP))) rfl ?_)
      refine c0 rfl (w_v (.p (.sl 4 (q.map encP))) rfl ?_)
      refine cn ?_
      refine cw_seq ?_
      refine cw_reg0 tok rfl rfl ?_
      refine c0 rfl (w_v (I64 ((m : Int))) rfl ?_)
      refine c0 rfl (w_v (.p (.sl 4 (q.map encP))) rfl ?_)
      have hlq := hl q (List.mem_of_getElem? hq)
      refine c0 rfl (w_len (q.length) rfl rfl (by simp) ?_)
      refine c0 rfl (w_i (((m + q.length : Nat) : Int)) rfl (by unfold inI; omega) ?_)
      refine c0 rfl (w_v (I64 (((m + q.length : Nat) : Int))) rfl ?_)
      refine cn ?_
      refine cw_seq ?_
      refine cw_reg0 tok rfl rfl ?_
      refine c0 rfl (w_v (I64 (((m + q.length : Nat) : Int))) rfl ?_)
      refine c0 rfl (w_v (BO (decide (((m + q.length : Nat) : Int) < 0))) rfl ?_)
      refine cn ?_
      refine cw_cond (t := decide (((m + q.length : Nat) : Int) < 0)) rfl (fun c2 => ?_) (fun c2 => ?_)
      ·
        replace c2 := of_decide_eq_true c2
        exfalso
        omega
      ·
        replace c2 := of_decide_eq_false c2
        refine cw_skip ?_
        refine cw_reg0 tok rfl rfl ?_
        refine c0 rfl (w_i (((i + 1 : Nat) : Int)) rfl (by unfold inI; omega) ?_)
        refine c0 rfl (w_v (I64 (((i + 1 : Nat) : Int))) rfl ?_)
        refine cn ?_
        exact ⟨_, _, by omega, wk_of (tms := [(0, .p (.sl 1 (ls.map (encL 4 encP)))), (3, I64 (((m + q.length) : Int))), (9, .p (.sl 1 (ls.map (encL 4 encP)))), (10, I64 ((ls.length : Int))), (11, I64 (((i + 1) : Int)))]) (bls := []) (gens := []) ⟨rfl, rfl, rfl, rfl, rfl, trivial⟩ trivial trivial rfl, (i + 1), (m + q.length), by omega, rfl, rfl⟩
    ·
      replace c1 := of_decide_eq_false c1
      refine cw_exit ?_
      refine cw_seq ?_
      refine cw_reg0 tok rfl rfl ?_
      refine c0 rfl (w_v (I64 ((m : Int))) rfl ?_)
      refine c0 rfl (w_call (.os 24 1 0) (grow_fn m (by omega)) rfl (.cons _ _ _ _ _ _ _ [] _ (.one _ _ _ _ _ (.p _ _)) (.cons _ _ _ _ _ _ _ [] _ (.one _ _ _ _ _ (.p _ _)) (.nil _))) rfl (.one _ _ _ _ (recvOw (n := 0) (g := 1) (by simp) rfl)) ?_)
      refine c0 rfl (w_v (.os 24 1 0) rfl ?_)
      refine cn ?_
      refine cw_seq ?_
      refine cw_seq ?_
      refine cw_reg0 tok rfl rfl ?_
      refine c0 rfl (w_v (.p (.sl 1 (ls.map (encL 4 encP)))) rfl ?_)
      refine c0 rfl (w_len (ls.length) rfl rfl (by simp) ?_)
      refine c0 rfl (w_v (I64 0) rfl ?_)
      refine cn ?_
      refine cw_block ?_
      refine cw_loopI (fun nn S => ∃ i : Nat, ∃ out : List Pl, ((i ≤ ls.length ∧ out.length ≤ 1000 * i) ∧ out ++ (ls.drop i).flatten = ls.flatten) ∧ nn = ls.length - i ∧ S = mkS [(6, .os 24 1 out.length), (25, .p (.sl 1 (ls.map (encL 4 encP)))), (26, I64 ((ls.length : Int))), (27, I64 ((i : Int)))] [(24, 1, .arr 31 4 (out.map encP) 0)] [(24, 2)]) (ls.length - 0) ?_ ?_
      · exact ⟨_, wk_of (tms := [(6, .os 24 1 ((([] : List Pl)).length)), (25, .p (.sl 1 (ls.map (encL 4 encP)))), (26, I64 ((ls.length : Int))), (27, I64 ((0 : Int)))]) (bls := [(24, 1, .arr 31 4 (((([] : List Pl))).map encP) 0)]) (gens := [(24, 2)]) ⟨rfl, rfl, rfl, rfl, trivial⟩ ⟨rfl, trivial⟩ ⟨rfl, trivial⟩ rfl, 0, ([] : List Pl), ⟨⟨by omega, by simp⟩, rfl⟩, rfl, rfl⟩
      · rintro nn _ ⟨i, out, ⟨⟨hi, ho⟩, hx⟩, hn2, rfl⟩
        refine cw_seq ?_
        refine cw_reg0 tok rfl rfl ?_
        refine c0 rfl (w_v (BO (decide ((i : Int) < (ls.length : Int)))) rfl ?_)
        refine cn ?_
        refine cw_seq ?_
        refine cw_cond (t := decide ((i : Int) < (ls.length : Int))) rfl (fun c3 => ?_) (fun c3 => ?_)
        ·
          replace c3 := of_decide_eq_true c3
          refine cw_skip ?_
          refine cw_seq ?_
          refine cw_block ?_
          refine cw_seq ?_
          refine cw_reg0 tok rfl rfl ?_
          obtain ⟨q, hq⟩ := getE (l := ls) (i := i) (by first | omega | (simp; omega))
          refine c0 rfl (w_ix ((i : Int)) (.sl 4 (q.map encP)) rfl rfl rfl (by omega) (getM hq) ?_)
          refine c0 rfl (w_v (.p (.sl 4 (q.map encP))) rfl ?_)
          refine c0 rfl (w_v (.p (.sl 4 (q.map encP))) rfl ?_)
          refine cn ?_
          refine cw_reg0 tok rfl rfl ?_
          refine c0 rfl (w_v (.os 24 1 out.length) rfl ?_)
          refine c0 rfl (w_v (.p (.sl 4 (q.map encP))) rfl ?_)
          have hlq := hl q (List.mem_of_getElem? hq)
          refine c0 rfl (w_appo (q.map encP) ((out ++ q).map encP) ((out ++ q).length) rfl rfl rfl rfl rfl rfl (Nat.le_of_ble_eq_true rfl) (sz_map fun _ => rfl) (by simp) rfl rfl (by show (_ + _) * 32 ≤ _; (try simp) <;> omega) (by (try simp) <;> omega) List.map_append.symm (by simp) ?_)
          refine c0 rfl (w_v (.os 24 1 ((out ++ q).length)) rfl ?_)
          refine cn ?_
          refine cw_reg0 tok rfl rfl ?_
          refine c0 rfl (w_i (((i + 1 : Nat) : Int)) rfl (by unfold inI; omega) ?_)
          refine c0 rfl (w_v (I64 (((i + 1 : Nat) : Int))) rfl ?_)
          refine cn ?_
          exact ⟨_, _, by omega, wk_of (tms := [(6, .os 24 1 ((out ++ q).length)), (25, .p (.sl 1 (ls.map (encL 4 encP)))), (26, I64 ((ls.length : Int))), (27, I64 (((i + 1) : Int)))]) (bls := [(24, 1, .arr 31 4 (((out ++ q)).map encP) 0)]) (gens := [(24, 2)]) ⟨rfl, rfl, rfl, rfl, trivial⟩ ⟨rfl, trivial⟩ ⟨rfl, trivial⟩ rfl, (i + 1), (out ++ q), ⟨⟨by omega, by simp; omega⟩, by rw [← hx, drop_of hq]; simp⟩, rfl, rfl⟩
        ·
          replace c3 := of_decide_eq_false c3
          refine cw_exit ?_
          refine cw_seq ?_
          refine cw_reg0 tok rfl rfl ?_
          refine c0 rfl (w_v (.os 24 1 out.length) rfl ?_)
          refine c0 rfl (w_v (.os 24 1 out.length) rfl ?_)
          refine cn ?_
          refine cw_ret ?_
          exact finO _ rfl rfl (by simp) (show PV.sl 4 (out.map encP) = PV.sl 4 (ls.flatten.map encP) from (congrArg (fun z => PV.sl 4 (z.map encP)) (by rw [← hx, List.drop_eq_nil_of_le (by omega)]; simp : out = ls.flatten))) rfl
theorem across_fn (a : List Pl) (b : List Pl) (p : Pl) (ha : ∀ q ∈ a, okc q) (hb : ∀ q ∈ b, okc q) (hp : okc p) (hna : a.length ≤ 500) (hnb : b.length ≤ 500) : Fn PP 148 [.p (.sl 4 (a.map encP)), .p (.sl 4 (b.map encP)), .p (encP p)] (.p (bP (across a b p))) [] := by
  refine fn_intro tok Go.Proofs.Try.func148 (c := _) rfl rfl (Nat.le_of_ble_eq_true rfl) ?_
  refine cw_seq ?_
  refine cw_reg0 tok rfl rfl ?_
  refine c0 rfl (w_box (g := 0) [I64 p.a, I64 p.b, I64 p.c, I64 p.d] rfl rfl rfl ?_)
  refine c0 rfl (w_v (BO false) rfl ?_)
  refine cn ?_
  refine cw_seq ?_
  refine cw_reg0 tok rfl rfl ?_
  refine c0 rfl (w_v (.p (.lit nilSl)) rfl ?_)
  refine cn ?_
  refine cw_seq ?_
  refine cw_seq ?_
  refine cw_reg0 tok rfl rfl ?_
  refine c0 rfl (w_v (.p (.sl 4 (a.map encP))) rfl ?_)
  refine c0 rfl (w_v (.p (.sl 4 (b.map encP))) rfl ?_)
  refine c0 rfl (w_bsl (g := 0) [.sl 4 (a.map encP), .sl 4 (b.map encP)] rfl rfl rfl rfl (Nat.le_of_ble_eq_true rfl) (Nat.le_of_ble_eq_true rfl) (Nat.le_of_ble_eq_true rfl) (.cons _ _ _ _ _ _ _ [] [] (.one _ _ _ _ _ (.p _ _)) (.cons _ _ _ _ _ _ _ [] [] (.one _ _ _ _ _ (.p _ _)) (.nil _))) rfl rfl ?_)
  refine c0 rfl (w_call (.p (.sl 4 (([a, b].flatten).map encP))) (concat_fn [a, b] (by simp) (by simp; omega)) rfl (.cons _ _ _ _ _ _ _ [] _ (.one _ _ _ _ _ (passOs (xs := [a, b].map (encL 4 encP)) rfl rfl)) (.nil _)) rfl (.one _ _ _ _ (.p _ _)) ?_)
  refine c0 rfl (w_len (([a, b].flatten).length) rfl rfl (by simp) ?_)
  refine c0 rfl (w_v (I64 0) rfl ?_)
  refine cn ?_
  refine cw_block ?_
  have hfl : [a, b].flatten.length = a.length + b.length := by simp
  refine cw_weak (wk_nil (t := 7) (g := 0) (E0 := 31) (sz := 4) rfl rfl) ?_
  refine cw_loopI (fun nn S => ∃ i : Nat, ∃ both : List Pl, (((i ≤ [a, b].flatten.length ∧ both.length ≤ i) ∧ (∀ x ∈ both, okc x)) ∧ acB ([a, b].flatten.drop i) p both = across a b p) ∧ nn = [a, b].flatten.length - i ∧ S = mkS [(5, .pt 5 0 0), (7, .os 7 0 both.length), (13, .p (.sl 4 (([a, b].flatten).map encP))), (14, I64 ((([a, b].flatten).length : Int))), (15, I64 ((i : Int)))] [(5, 0, .var [I64 p.a, I64 p.b, I64 p.c, I64 p.d] false), (7, 0, .arr 31 4 (both.map encP) both.length)] [(5, 1), (7, 1)]) ([a, b].flatten.length - 0) ?_ ?_
  · exact ⟨_, Wk.trans (wk_seal (t := 7) (g := 0) (n := (([] : List Pl)).length) rfl (by simp)) (wk_of (tms := [(5, .pt 5 0 0), (7, .os 7 0 ((([] : List Pl)).length)), (13, .p (.sl 4 (([a, b].flatten).map encP))), (14, I64 ((([a, b].flatten).length : Int))), (15, I64 ((0 : Int)))]) (bls := [(5, 0, .var [I64 p.a, I64 p.b, I64 p.c, I64 p.d] false), (7, 0, .arr 31 4 (((([] : List Pl))).map encP) (([] : List Pl)).length)]) (gens := [(5, 1), (7, 1)]) ⟨rfl, rfl, rfl, rfl, rfl, trivial⟩ ⟨rfl, rfl, trivial⟩ ⟨rfl, rfl, trivial⟩ rfl), 0, ([] : List Pl), ⟨⟨by simp, by simp⟩, rfl⟩, rfl, rfl⟩
  · rintro nn _ ⟨i, both, ⟨⟨⟨hi, hbl⟩, hbo⟩, hx⟩, hn1, rfl⟩
    refine cw_seq ?_
    refine cw_reg0 tok rfl rfl ?_
    refine c0 rfl (w_v (BO (decide ((i : Int) < (([a, b].flatten).length : Int)))) rfl ?_)
    refine cn ?_
    refine cw_seq ?_
    refine cw_cond (t := decide ((i : Int) < (([a, b].flatten).length : Int))) rfl (fun c1 => ?_) (fun c1 => ?_)
    ·
      replace c1 := of_decide_eq_true c1
      refine cw_skip ?_
      refine cw_seq ?_
      refine cw_block ?_
      refine cw_seq ?_
      refine cw_reg0 tok rfl rfl ?_
      obtain ⟨q, hq⟩ := getE (l := [a, b].flatten) (i := i) (by first | omega | (simp; omega))
      refine c0 rfl (w_ix ((i : Int)) (encP q) rfl rfl rfl (by omega) (getM hq) ?_)
      have hokq : okc q := by exact (List.mem_append.1 (show q ∈ a ++ b by have := List.mem_of_getElem? hq; simpa using this)).elim (ha q) (hb q)
      refine c0 rfl (w_v (.p (encP q)) rfl ?_)
      refine c0 rfl (w_alloc (g := 1) [I64 0, I64 0, I64 0, I64 0] rfl rfl rfl ?_)
      refine c0 rfl (w_st [I64 q.a, I64 q.b, I64 q.c, I64 q.d] rfl rfl rfl rfl rfl (Nat.le_of_ble_eq_true rfl) rfl ?_)
      refine cn ?_
      refine cw_seq ?_
      refine cw_seq ?_
      refine cw_reg1 tok mixed rfl rfl ?_
      refine c0 rfl (w_v (.p (encP q)) rfl ?_)
      refine c0 rfl (w_call_1 (greater_fn q hokq) rfl rfl ?_)
      refine c0 rfl (w_v (.p (encP p)) rfl ?_)
      refine c0 rfl (w_eqag (decide ((great q) = p)) rfl rfl rfl eqPl (dqPl (great q) p) ?_)
      refine c0 rfl (w_v (BO (decide ((great q) = p))) rfl ?_)
      refine cgS (b := decide ((great q) = p)) rfl rfl rfl (fun c2 => ?_) (fun c2 => ?_)
      ·
        replace c2 := of_decide_eq_true c2
        refine cgF (v := .bool true) rfl rfl rfl rfl ?_
        refine cgF (v := .bool true) rfl rfl rfl rfl ?_
        refine cgF (v := .bool true) rfl rfl rfl rfl ?_
        refine c0 rfl (w_v (BO true) rfl ?_)
        refine cn ⟨by kernel_rfl, ?_⟩
        refine cw_cond (t := true) rfl (fun _ => ?_) (fun h => nomatch h)
        refine cw_exit ?_
        refine cw_reg0 tok rfl rfl ?_
        refine c0 rfl (w_i (((i + 1 : Nat) : Int)) rfl (by unfold inI; omega) ?_)
        refine c0 rfl (w_v (I64 (((i + 1 : Nat) : Int))) rfl ?_)
        refine cn ?_
        exact ⟨_, _, by omega, Wk.trans (wk_seal (t := 7) (g := 0) (n := both.length) rfl (by simp)) (wk_of (tms := [(5, .pt 5 0 0), (7, .os 7 0 both.length), (13, .p (.sl 4 (([a, b].flatten).map encP))), (14, I64 ((([a, b].flatten).length : Int))), (15, I64 (((i + 1) : Int)))]) (bls := [(5, 0, .var [I64 p.a, I64 p.b, I64 p.c, I64 p.d] false), (7, 0, .arr 31 4 (both.map encP) both.length)]) (gens := [(5, 1), (7, 1)]) ⟨rfl, rfl, rfl, rfl, rfl, trivial⟩ ⟨rfl, rfl, trivial⟩ ⟨rfl, rfl, trivial⟩ rfl), (i + 1), both, ⟨⟨⟨by omega, by first | omega | (simp; omega)⟩, by first | exact hbo | exact ok_app hbo hokq⟩, by rw [← hx, drop_of hq, acB]; simp_all⟩, rfl, rfl⟩
      ·
        replace c2 := of_decide_eq_false c2
        refine cgT rfl rfl rfl (w_v (.os 7 0 both.length) rfl ?_)
        refine cgT rfl rfl rfl (w_v (.p (encP q)) rfl ?_)
        refine cgT rfl rfl rfl (w_call (BO (decide (q ∈ both))) (contains_fn both q (by omega)) rfl (.cons _ _ _ _ _ _ _ [] _ (.one _ _ _ _ _ (passOs (xs := both.map encP) rfl (by simp))) (.cons _ _ _ _ _ _ _ [] _ (.one _ _ _ _ _ (.p _ _)) (.nil _))) rfl (.one _ _ _ _ (.p _ _)) ?_)
        refine c0 rfl (w_v (BO (decide (q ∈ both))) rfl ?_)
        refine cn ⟨by kernel_rfl, ?_⟩
        refine cw_cond (t := decide (q ∈ both)) rfl (fun c3 => ?_) (fun c3 => ?_)
        ·
          replace c3 := of_decide_eq_true c3
          refine cw_exit ?_
          refine cw_reg0 tok rfl rfl ?_
          refine c0 rfl (w_i (((i + 1 : Nat) : Int)) rfl (by unfold inI; omega) ?_)
          refine c0 rfl (w_v (I64 (((i + 1 : Nat) : Int))) rfl ?_)
          refine cn ?_
          exact ⟨_, _, by omega, Wk.trans (wk_seal (t := 7) (g := 0) (n := both.length) rfl (by simp)) (wk_of (tms := [(5, .pt 5 0 0), (7, .os 7 0 both.length), (13, .p (.sl 4 (([a, b].flatten).map encP))), (14, I64 ((([a, b].flatten).length : Int))), (15, I64 (((i + 1) : Int)))]) (bls := [(5, 0, .var [I64 p.a, I64 p.b, I64 p.c, I64 p.d] false), (7, 0, .arr 31 4 (both.map encP) both.length)]) (gens := [(5, 1), (7, 1)]) ⟨rfl, rfl, rfl, rfl, rfl, trivial⟩ ⟨rfl, rfl, trivial⟩ ⟨rfl, rfl, trivial⟩ rfl), (i + 1), both, ⟨⟨⟨by omega, by first | omega | (simp; omega)⟩, by first | exact hbo | exact ok_app hbo hokq⟩, by rw [← hx, drop_of hq, acB]; simp_all⟩, rfl, rfl⟩
        ·
          replace c3 := of_decide_eq_false c3
          refine cw_skip ?_
          refine cw_seq ?_
          refine cw_seq ?_
          refine cw_reg0 tok rfl rfl ?_
          refine c0 rfl (w_v (.os 7 0 both.length) rfl ?_)
          refine c0 rfl (w_v (.p (encP q)) rfl ?_)
          refine c0 rfl (w_call (BO (room both q)) (room_fn both q hbo hokq (by omega)) rfl (.cons _ _ _ _ _ _ _ [] _ (.one _ _ _ _ _ (passOs (xs := both.map encP) rfl (by simp))) (.cons _ _ _ _ _ _ _ [] _ (.one _ _ _ _ _ (.p _ _)) (.nil _))) rfl (.one _ _ _ _ (.p _ _)) ?_)
          refine c0 rfl (w_v (BO (!(room both q))) rfl ?_)
          refine cn ?_
          refine cw_cond (t := !(room both q)) rfl (fun c4 => ?_) (fun c4 => ?_)
          ·
            replace c4 := nt c4
            refine cw_seq ?_
            refine cw_reg0 tok rfl rfl ?_
            refine c0 rfl (w_v (BO false) rfl ?_)
            refine cn ?_
            refine cw_ret ?_
            exact fin1 (bP false) (bP (across a b p)) rfl (congrArg bP (by rw [← hx, drop_of hq, acB]; simp_all : false = (across a b p))) rfl
          ·
            replace c4 := nf c4
            refine cw_skip ?_
            refine cw_reg0 tok rfl rfl ?_
            refine c0 rfl (w_v (.os 7 0 both.length) rfl ?_)
            refine c0 rfl (w_v (.p (encP q)) rfl ?_)
            refine c0 rfl (w_bsl (g := 1) [encP q] rfl rfl rfl rfl (Nat.le_of_ble_eq_true rfl) (Nat.le_of_ble_eq_true rfl) (Nat.le_of_ble_eq_true rfl) (.cons _ _ _ _ _ _ _ [] [] (.one _ _ _ _ _ (.p _ _)) (.nil _)) rfl rfl ?_)
            refine c0 rfl (w_appo ([q].map encP) ((both ++ [q]).map encP) ((both ++ [q]).length) rfl rfl rfl rfl rfl (list_os rfl rfl) (Nat.le_of_ble_eq_true rfl) (sz_map fun _ => rfl) (by simp) rfl rfl (by show (_ + _) * 32 ≤ _; (try simp) <;> omega) (by (try simp) <;> omega) List.map_append.symm (by simp) ?_)
            refine c0 rfl (w_v (.os 7 0 ((both ++ [q]).length)) rfl ?_)
            refine cn ?_
            refine cw_reg0 tok rfl rfl ?_
            refine c0 rfl (w_i (((i + 1 : Nat) : Int)) rfl (by unfold inI; omega) ?_)
            refine c0 rfl (w_v (I64 (((i + 1 : Nat) : Int))) rfl ?_)
            refine cn ?_
            exact ⟨_, _, by omega, Wk.trans (wk_seal (t := 7) (g := 0) (n := (both ++ [q]).length) rfl (by simp)) (wk_of (tms := [(5, .pt 5 0 0), (7, .os 7 0 ((both ++ [q]).length)), (13, .p (.sl 4 (([a, b].flatten).map encP))), (14, I64 ((([a, b].flatten).length : Int))), (15, I64 (((i + 1) : Int)))]) (bls := [(5, 0, .var [I64 p.a, I64 p.b, I64 p.c, I64 p.d] false), (7, 0, .arr 31 4 (((both ++ [q])).map encP) (both ++ [q]).length)]) (gens := [(5, 1), (7, 1)]) ⟨rfl, rfl, rfl, rfl, rfl, trivial⟩ ⟨rfl, rfl, trivial⟩ ⟨rfl, rfl, trivial⟩ rfl), (i + 1), (both ++ [q]), ⟨⟨⟨by omega, by first | omega | (simp; omega)⟩, by first | exact hbo | exact ok_app hbo hokq⟩, by rw [← hx, drop_of hq, acB]; simp_all⟩, rfl, rfl⟩
    ·
      replace c1 := of_decide_eq_false c1
      refine cw_exit ?_
      refine cw_seq ?_
      refine cw_reg0 tok rfl rfl ?_
      refine c0 rfl (w_v (.os 7 0 both.length) rfl ?_)
      refine c0 rfl (w_v (.p (encP p)) rfl ?_)
      refine c0 rfl (w_call (BO (room both p)) (room_fn both p hbo hp (by omega)) rfl (.cons _ _ _ _ _ _ _ [] _ (.one _ _ _ _ _ (passOs (xs := both.map encP) rfl (by simp))) (.cons _ _ _ _ _ _ _ [] _ (.one _ _ _ _ _ (.p _ _)) (.nil _))) rfl (.one _ _ _ _ (.p _ _)) ?_)
      refine c0 rfl (w_v (BO (room both p)) rfl ?_)
      refine cgS (b := room both p) rfl rfl rfl (fun c5 => ?_) (fun c5 => ?_)
      ·
        refine cgT rfl rfl rfl (w_v (.os 7 0 both.length) rfl ?_)
        refine cgT rfl rfl rfl (w_v (.p (encP p)) rfl ?_)
        refine cgT rfl rfl rfl (w_call_1 (flip_fn p hp) rfl rfl ?_)
        refine cgT rfl rfl rfl (w_call (BO (room both (flip p))) (room_fn both (flip p) hbo (okc_flip hp) (by omega)) rfl (.cons _ _ _ _ _ _ _ [] _ (.one _ _ _ _ _ (passOs (xs := both.map encP) rfl (by simp))) (.cons _ _ _ _ _ _ _ [] _ (.one _ _ _ _ _ (.p _ _)) (.nil _))) rfl (.one _ _ _ _ (.p _ _)) ?_)
        refine c0 rfl (w_v (BO (room both (flip p))) rfl ?_)
        refine c0 rfl (w_v (BO (room both (flip p))) rfl ?_)
        refine cn ?_
        refine cw_ret ?_
        exact fin1 (bP (room both (flip p))) (bP (across a b p)) rfl (congrArg bP (by rw [← hx, List.drop_eq_nil_of_le (by omega), acB]; simp_all : (room both (flip p)) = (across a b p))) rfl
      ·
        refine cgF (v := .bool false) rfl rfl rfl rfl ?_
        refine cgF (v := .bool false) rfl rfl rfl rfl ?_
        refine cgF (v := .bool false) rfl rfl rfl rfl ?_
        refine cgF (v := .bool false) rfl rfl rfl rfl ?_
        refine c0 rfl (w_v (BO false) rfl ?_)
        refine c0 rfl (w_v (BO false) rfl ?_)
        refine cn ?_
        refine cw_ret ?_
        exact fin1 (bP false) (bP (across a b p)) rfl (congrArg bP (by rw [← hx, List.drop_eq_nil_of_le (by omega), acB]; simp_all : false = (across a b p))) rfl
theorem touch_fn (a : List Pl) (b : List Pl) (ha : ∀ q ∈ a, okc q) (hb : ∀ q ∈ b, okc q) (hna : a.length ≤ 500) (hnb : b.length ≤ 500) : Fn PP 69 [.p (.sl 4 (a.map encP)), .p (.sl 4 (b.map encP))] (.p (bP (touch a b))) [] := by
  refine fn_intro tok Go.Proofs.Try.func69 (c := _) rfl rfl (Nat.le_of_ble_eq_true rfl) ?_
  refine cw_seq ?_
  refine cw_reg0 tok rfl rfl ?_
  refine c0 rfl (w_v (BO false) rfl ?_)
  refine cn ?_
  refine cw_seq ?_
  refine cw_seq ?_
  refine cw_reg0 tok rfl rfl ?_
  refine c0 rfl (w_v (.p (.sl 4 (a.map encP))) rfl ?_)
  refine c0 rfl (w_len (a.length) rfl rfl (by simp) ?_)
  refine c0 rfl (w_v (I64 0) rfl ?_)
  refine cn ?_
  refine cw_block ?_
  refine cw_loopI (fun nn S => ∃ i : Nat, (i ≤ a.length ∧ tchA a b (a.drop i) = touch a b) ∧ nn = a.length - i ∧ S = mkS [(0, .p (.sl 4 (a.map encP))), (1, .p (.sl 4 (b.map encP))), (7, .p (.sl 4 (a.map encP))), (8, I64 ((a.length : Int))), (9, I64 ((i : Int)))] [] []) (a.length - 0) ?_ ?_
  · exact ⟨_, wk_of (tms := [(0, .p (.sl 4 (a.map encP))), (1, .p (.sl 4 (b.map encP))), (7, .p (.sl 4 (a.map encP))), (8, I64 ((a.length : Int))), (9, I64 ((0 : Int)))]) (bls := []) (gens := []) ⟨rfl, rfl, rfl, rfl, rfl, trivial⟩ trivial trivial rfl, 0, ⟨by omega, rfl⟩, rfl, rfl⟩
  · rintro nn _ ⟨i, ⟨hi, hx⟩, hn1, rfl⟩
    refine cw_seq ?_
    refine cw_reg0 tok rfl rfl ?_
    refine c0 rfl (w_v (BO (decide ((i : Int) < (a.length : Int)))) rfl ?_)
    refine cn ?_
    refine cw_seq ?_
    refine cw_cond (t := decide ((i : Int) < (a.length : Int))) rfl (fun c1 => ?_) (fun c1 => ?_)
    ·
      replace c1 := of_decide_eq_true c1
      refine cw_skip ?_
      refine cw_seq ?_
      refine cw_block ?_
      refine cw_seq ?_
      refine cw_reg0 tok rfl rfl ?_
      obtain ⟨q, hq⟩ := getE (l := a) (i := i) (by first | omega | (simp; omega))
      refine c0 rfl (w_ix ((i : Int)) (encP q) rfl rfl rfl (by omega) (getM hq) ?_)
      refine c0 rfl (w_v (.p (encP q)) rfl ?_)
      refine c0 rfl (w_alloc (g := 1) [I64 0, I64 0, I64 0, I64 0] rfl rfl rfl ?_)
      refine c0 rfl (w_st [I64 q.a, I64 q.b, I64 q.c, I64 q.d] rfl rfl rfl rfl rfl (Nat.le_of_ble_eq_true rfl) rfl ?_)
      refine cn ?_
      refine cw_seq ?_
      refine cw_reg0 tok rfl rfl ?_
      refine c0 rfl (w_v (.p (.sl 4 (b.map encP))) rfl ?_)
      refine c0 rfl (w_v (.p (encP q)) rfl ?_)
      refine c0 rfl (w_call_1 (flip_fn q (ha _ (List.mem_of_getElem? hq))) rfl rfl ?_)
      refine c0 rfl (w_call_2 (contains_fn b (flip q) (by omega)) rfl rfl rfl ?_)
      refine c0 rfl (w_v (BO (decide ((flip q) ∈ b))) rfl ?_)
      refine cgS (b := decide ((flip q) ∈ b)) rfl rfl rfl (fun c2 => ?_) (fun c2 => ?_)
      ·
        replace c2 := of_decide_eq_true c2
        refine cgT rfl rfl rfl (w_v (.p (.sl 4 (a.map encP))) rfl ?_)
        refine cgT rfl rfl rfl (w_v (.p (.sl 4 (b.map encP))) rfl ?_)
        refine cgT rfl rfl rfl (w_v (.p (encP q)) rfl ?_)
        refine cgT rfl rfl rfl (w_call_1 (greater_fn q (ha _ (List.mem_of_getElem? hq))) rfl rfl ?_)
        refine cgT rfl rfl rfl (w_call_3 (across_fn a b (great q) ha hb (great_ok (ha _ (List.mem_of_getElem? hq))) hna hnb) rfl rfl rfl rfl ?_)
        refine c0 rfl (w_v (BO (across a b (great q))) rfl ?_)
        refine cn ?_
        refine cw_cond (t := across a b (great q)) rfl (fun c3 => ?_) (fun c3 => ?_)
        ·
          refine cw_seq ?_
          refine cw_reg0 tok rfl rfl ?_
          refine c0 rfl (w_v (BO true) rfl ?_)
          refine cn ?_
          refine cw_ret ?_
          exact fin1 (bP true) (bP (touch a b)) rfl (congrArg bP (by rw [← hx, drop_of hq, tchA, if_pos (by simp_all)] : true = (touch a b))) rfl
        ·
          refine cw_skip ?_
          refine cw_reg0 tok rfl rfl ?_
          refine c0 rfl (w_i (((i + 1 : Nat) : Int)) rfl (by unfold inI; omega) ?_)
          refine c0 rfl (w_v (I64 (((i + 1 : Nat) : Int))) rfl ?_)
          refine cn ?_
          exact ⟨_, _, by omega, wk_of (tms := [(0, .p (.sl 4 (a.map encP))), (1, .p (.sl 4 (b.map encP))), (7, .p (.sl 4 (a.map encP))), (8, I64 ((a.length : Int))), (9, I64 (((i + 1) : Int)))]) (bls := []) (gens := []) ⟨rfl, rfl, rfl, rfl, rfl, trivial⟩ trivial trivial rfl, (i + 1), ⟨by omega, by rw [← hx, drop_of hq, tchA, if_neg (by simp_all)]⟩, rfl, rfl⟩
      ·
        replace c2 := of_decide_eq_false c2
        refine cgF (v := .bool false) rfl rfl rfl rfl ?_
        refine cgF (v := .bool false) rfl rfl rfl rfl ?_
        refine cgF (v := .bool false) rfl rfl rfl rfl ?_
        refine cgF (v := .bool false) rfl rfl rfl rfl ?_
        refine cgF (v := .bool false) rfl rfl rfl rfl ?_
        refine c0 rfl (w_v (BO false) rfl ?_)
        refine cn ?_
        refine cw_cond (t := false) rfl (fun h => nomatch h) (fun _ => ?_)
        refine cw_skip ?_
        refine cw_reg0 tok rfl rfl ?_
        refine c0 rfl (w_i (((i + 1 : Nat) : Int)) rfl (by unfold inI; omega) ?_)
        refine c0 rfl (w_v (I64 (((i + 1 : Nat) : Int))) rfl ?_)
        refine cn ?_
        exact ⟨_, _, by omega, wk_of (tms := [(0, .p (.sl 4 (a.map encP))), (1, .p (.sl 4 (b.map encP))), (7, .p (.sl 4 (a.map encP))), (8, I64 ((a.length : Int))), (9, I64 (((i + 1) : Int)))]) (bls := []) (gens := []) ⟨rfl, rfl, rfl, rfl, rfl, trivial⟩ trivial trivial rfl, (i + 1), ⟨by omega, by rw [← hx, drop_of hq, tchA, if_neg (by simp_all)]⟩, rfl, rfl⟩
    ·
      replace c1 := of_decide_eq_false c1
      refine cw_exit ?_
      refine cw_seq ?_
      refine cw_reg0 tok rfl rfl ?_
      refine c0 rfl (w_v (BO false) rfl ?_)
      refine cn ?_
      refine cw_ret ?_
      exact fin1 (bP false) (bP (touch a b)) rfl (congrArg bP (by rw [← hx, List.drop_eq_nil_of_le (by omega)]; rfl : false = (touch a b))) rfl
theorem icells_fn (si : Bool) (sp : Pl) (sk : List Sol) (inn : Bool) (path : List Pl) (hp : ∀ q ∈ path, okc q) (hn : path.length ≤ 24) (hlk : look (Sol.mk si sp sk) path = true) (hnn : nodesN (Sol.mk si sp sk) ≤ 300) (H : ∀ q ∈ sk, ∀ l : List Pl, (∀ x ∈ l, okc x) → l.length ≤ 24 → look q l = true → nodesN q ≤ 300 → Fn PP 68 [.p (.ro (encS q) 0), .p (bP inn), .p (.sl 4 (l.map encP))] (.ow 66 1 ((cellsP q inn l).map (encL 4 encP)) 0) []) : Fn PP 68 [.p (.ro (encS (Sol.mk si sp sk)) 0), .p (bP inn), .p (.sl 4 (path.map encP))] (.ow 66 1 ((cellsP (Sol.mk si sp sk) inn path).map (encL 4 encP)) 0) [] := by
  refine fn_intro tok Go.Proofs.Try.func68 (c := _) rfl rfl (Nat.le_of_ble_eq_true rfl) ?_
  refine cw_seq ?_
  refine cw_reg0 tok rfl rfl ?_
  refine c0 rfl (w_v (.p (.lit nilSl)) rfl ?_)
  refine cn ?_
  refine cw_seq ?_
  refine cw_seq ?_
  refine cw_reg0 tok rfl rfl ?_
  refine c0 rfl (w_v (.p (.ro (encS (Sol.mk si sp sk)) 0)) rfl ?_)
  refine c0 rfl (w_call_1 (isLeaf_fn si sp sk) rfl rfl ?_)
  refine cn ?_
  refine cw_cond (t := decide ((sk.length : Int) = 0)) rfl (fun c1 => ?_) (fun c1 => ?_)
  ·
    replace c1 := of_decide_eq_true c1
    refine cw_seq ?_
    refine cw_seq ?_
    refine cw_reg0 tok rfl rfl ?_
    refine c0 rfl (w_v (.p (.ro (encS (Sol.mk si sp sk)) 0)) rfl ?_)
    refine c0 rfl (w_v (.p (.ro (encS (Sol.mk si sp sk)) 0)) rfl ?_)
    refine c0 rfl (w_v (.p (.ro (encS (Sol.mk si sp sk)) 0)) rfl ?_)
    refine c0 rfl (w_v (BO si) rfl ?_)
    refine c0 rfl (w_v (BO inn) rfl ?_)
    refine c0 rfl (w_v (BO (si == inn)) rfl ?_)
    refine cn ?_
    refine cw_cond (t := si == inn) rfl (fun c2 => ?_) (fun c2 => ?_)
    ·
      refine cw_seq ?_
      refine cw_reg0 tok rfl rfl ?_
      refine c0 rfl (w_v (.p (.sl 4 (path.map encP))) rfl ?_)
      refine c0 rfl (w_call_1 (clone_all path (by omega)) rfl rfl ?_)
      refine c0 rfl (w_bsl (g := 0) [.sl 4 (path.map encP)] rfl rfl rfl rfl (Nat.le_of_ble_eq_true rfl) (Nat.le_of_ble_eq_true rfl) (Nat.le_of_ble_eq_true rfl) (.cons _ _ _ _ _ _ _ [] [] (.one _ _ _ _ _ (.p _ _)) (.nil _)) rfl rfl ?_)
      refine c0 rfl (w_v (.os 18 0 1) rfl ?_)
      refine cn ?_
      refine cw_ret ?_
      exact finOw rfl rfl (by simp) (congrArg (fun z => z.map (encL 4 encP)) (by rw [cells_0 (by assumption)]; simp_all : [path] = (cellsP (Sol.mk si sp sk) inn path))) rfl
    ·
      refine cw_skip ?_
      refine cw_seq ?_
      refine cw_reg0 tok rfl rfl ?_
      refine c0 rfl (w_v (.p (.lit nilSl)) rfl ?_)
      refine cn ?_
      refine cw_ret ?_
      exact finNw 66 1 rfl (congrArg (fun z => z.map (encL 4 encP)) (by rw [cells_0 (by assumption)]; simp_all : [] = (cellsP (Sol.mk si sp sk) inn path))) rfl
  ·
    replace c1 := of_decide_eq_false c1
    refine cw_skip ?_
    refine cw_seq ?_
    refine cw_reg1 tok mixed rfl rfl ?_
    refine c0 rfl (w_v (.p (.ro (encS (Sol.mk si sp sk)) 0)) rfl ?_)
    refine c0 rfl (w_v (.p (.ro (encS (Sol.mk si sp sk)) 0)) rfl ?_)
    refine c0 rfl (w_v (.p (.ro (encS (Sol.mk si sp sk)) 5)) rfl ?_)
    refine c0 rfl (w_v (.p (.sl 6 (encSs sk))) rfl ?_)
    obtain ⟨qa, hqa⟩ := getE (l := sk) (i := 0) (by have := look_two hlk (by assumption); omega)
    obtain ⟨qai, qap, qak⟩ := qa
    refine c0 rfl (w_ix (0) (encS (Sol.mk qai qap qak)) rfl rfl rfl (by omega) (getSs hqa) ?_)
    refine c0 rfl (w_v (BO inn) rfl ?_)
    refine c0 rfl (w_v (.p (.sl 4 (path.map encP))) rfl ?_)
    refine c0 rfl (w_v (.p (.ro (encS (Sol.mk si sp sk)) 0)) rfl ?_)
    refine c0 rfl (w_v (.p (.ro (encS (Sol.mk si sp sk)) 0)) rfl ?_)
    refine c0 rfl (w_v (.p (.ro (encS (Sol.mk si sp sk)) 1)) rfl ?_)
    refine c0 rfl (w_v (.p (encP sp)) rfl ?_)
    refine c0 rfl (w_call_2 (with_fn path sp (by omega)) rfl rfl rfl ?_)
    refine c0 rfl (w_call (.os 31 0 ((cellsP (Sol.mk qai qap qak) inn (path ++ [sp])).length)) (H _ (List.mem_of_getElem? hqa) (path ++ [sp]) (ok_app hp (look_okc hlk (by assumption))) (by have := look_lt hlk (by assumption) hn; simp; omega) (look_a hlk hqa) (by have := nodes_a hlk hqa; omega)) rfl (.cons _ _ _ _ _ _ _ [] _ (.one _ _ _ _ _ (.p _ _)) (.cons _ _ _ _ _ _ _ [] _ (.one _ _ _ _ _ (.p _ _)) (.cons _ _ _ _ _ _ _ [] _ (.one _ _ _ _ _ (.p _ _)) (.nil _)))) rfl (.one _ _ _ _ (recvOw (n := (cellsP (Sol.mk qai qap qak) inn (path ++ [sp])).length) (g := 0) (by simp) rfl)) ?_)
    refine c0 rfl (w_v (.os 31 0 ((cellsP (Sol.mk qai qap qak) inn (path ++ [sp])).length)) rfl ?_)
    refine cn ⟨by kernel_rfl, ?_⟩
    refine cw_seq ?_
    refine cw_reg1 tok mixed rfl rfl ?_
    refine c0 rfl (w_v (.os 31 0 ((cellsP (Sol.mk qai qap qak) inn (path ++ [sp])).length)) rfl ?_)
    refine c0 rfl (w_v (.p (.ro (encS (Sol.mk si sp sk)) 0)) rfl ?_)
    refine c0 rfl (w_v (.p (.ro (encS (Sol.mk si sp sk)) 0)) rfl ?_)
    refine c0 rfl (w_v (.p (.ro (encS (Sol.mk si sp sk)) 5)) rfl ?_)
    refine c0 rfl (w_v (.p (.sl 6 (encSs sk))) rfl ?_)
    obtain ⟨qb, hqb⟩ := getE (l := sk) (i := 1) (by have := look_two hlk (by assumption); omega)
    obtain ⟨qbi, qbp, qbk⟩ := qb
    refine c0 rfl (w_ix (1) (encS (Sol.mk qbi qbp qbk)) rfl rfl rfl (by omega) (getSs hqb) ?_)
    refine c0 rfl (w_v (BO inn) rfl ?_)
    refine c0 rfl (w_v (.p (.sl 4 (path.map encP))) rfl ?_)
    refine c0 rfl (w_v (.p (.ro (encS (Sol.mk si sp sk)) 0)) rfl ?_)
    refine c0 rfl (w_v (.p (.ro (encS (Sol.mk si sp sk)) 0)) rfl ?_)
    refine c0 rfl (w_v (.p (.ro (encS (Sol.mk si sp sk)) 1)) rfl ?_)
    refine c0 rfl (w_v (.p (encP sp)) rfl ?_)
    refine c0 rfl (w_call_1 (flip_fn sp (look_okc hlk (by assumption))) rfl rfl ?_)
    refine c0 rfl (w_call_2 (with_fn path (flip sp) (by omega)) rfl rfl rfl ?_)
    refine c0 rfl (w_call (.os 46 0 ((cellsP (Sol.mk qbi qbp qbk) inn (path ++ [(flip sp)])).length)) (H _ (List.mem_of_getElem? hqb) (path ++ [flip sp]) (ok_app hp (okc_flip (look_okc hlk (by assumption)))) (by have := look_lt hlk (by assumption) hn; simp; omega) (look_b hlk hqb) (by have := nodes_b hlk hqb; omega)) rfl (.cons _ _ _ _ _ _ _ [] _ (.one _ _ _ _ _ (.p _ _)) (.cons _ _ _ _ _ _ _ [] _ (.one _ _ _ _ _ (.p _ _)) (.cons _ _ _ _ _ _ _ [] _ (.one _ _ _ _ _ (.p _ _)) (.nil _)))) rfl (.one _ _ _ _ (recvOw (n := (cellsP (Sol.mk qbi qbp qbk) inn (path ++ [(flip sp)])).length) (g := 0) (by simp) rfl)) ?_)
    have hc1 := cells_le _ inn (path ++ [sp]) _ (look_a hlk hqa); have hc2 := cells_le _ inn (path ++ [flip sp]) _ (look_b hlk hqb); have hn1 := nodes_a hlk hqa; have hn2 := nodes_b hlk hqb
    refine c0 rfl (w_appo ((cellsP (Sol.mk qbi qbp qbk) inn (path ++ [(flip sp)])).map (encL 4 encP)) (((cellsP (Sol.mk qai qap qak) inn (path ++ [sp])) ++ (cellsP (Sol.mk qbi qbp qbk) inn (path ++ [(flip sp)]))).map (encL 4 encP)) (((cellsP (Sol.mk qai qap qak) inn (path ++ [sp])) ++ (cellsP (Sol.mk qbi qbp qbk) inn (path ++ [(flip sp)]))).length) rfl rfl rfl rfl rfl (list_os rfl (by simp)) (Nat.le_of_ble_eq_true rfl) (sz_map fun _ => rfl) (by simp) rfl rfl (by show (_ + _) * 24 ≤ _; (try simp) <;> omega) (by (try simp) <;> omega) List.map_append.symm (by simp) ?_)
    refine c0 rfl (w_v (.os 31 0 (((cellsP (Sol.mk qai qap qak) inn (path ++ [sp])) ++ (cellsP (Sol.mk qbi qbp qbk) inn (path ++ [(flip sp)]))).length)) rfl ?_)
    refine cn ⟨by kernel_rfl, ?_⟩
    refine cw_ret ?_
    exact finOw rfl rfl (by simp) (congrArg (fun z => z.map (encL 4 encP)) (by exact cells_n hlk hqa hqb : ((cellsP (Sol.mk qai qap qak) inn (path ++ [sp])) ++ (cellsP (Sol.mk qbi qbp qbk) inn (path ++ [(flip sp)]))) = (cellsP (Sol.mk si sp sk) inn path))) rfl
theorem scells_fn (si : Bool) (sp : Pl) (sk : List Sol) (inn : Bool) (path : List Pl) (hp : ∀ q ∈ path, okc q) (hn : path.length ≤ 24) (hlk : look (Sol.mk si sp sk) path = true) (hnn : nodesN (Sol.mk si sp sk) ≤ 300) (H : ∀ q ∈ sk, ∀ l : List Pl, (∀ x ∈ l, okc x) → l.length ≤ 24 → look q l = true → nodesN q ≤ 300 → Fn PP 71 [.p (encS q), .p (bP inn), .p (.sl 4 (l.map encP))] (.ow 66 1 ((cellsP q inn l).map (encL 4 encP)) 0) []) : Fn PP 71 [.p (encS (Sol.mk si sp sk)), .p (bP inn), .p (.sl 4 (path.map encP))] (.ow 66 1 ((cellsP (Sol.mk si sp sk) inn path).map (encL 4 encP)) 0) [] := by
  refine fn_intro tok Go.Proofs.Try.func71 (c := _) rfl rfl (Nat.le_of_ble_eq_true rfl) ?_
  refine cw_seq ?_
  refine cw_reg0 tok rfl rfl ?_
  refine c0 rfl (w_box (g := 0) [BO si, I64 sp.a, I64 sp.b, I64 sp.c, I64 sp.d, .p (.sl 6 (encSs sk))] rfl rfl rfl ?_)
  refine c0 rfl (w_v (.p (.lit nilSl)) rfl ?_)
  refine cn ?_
  refine cw_seq ?_
  refine cw_seq ?_
  refine cw_reg0 tok rfl rfl ?_
  refine c0 rfl (w_v (.p (encS (Sol.mk si sp sk))) rfl ?_)
  refine c0 rfl (w_call_1 (l8Leaf_fn si sp sk) rfl rfl ?_)
  refine cn ?_
  refine cw_cond (t := decide ((sk.length : Int) = 0)) rfl (fun c1 => ?_) (fun c1 => ?_)
  ·
    replace c1 := of_decide_eq_true c1
    refine cw_seq ?_
    refine cw_seq ?_
    refine cw_reg0 tok rfl rfl ?_
    refine c0 rfl (w_v (.pt 3 0 0) rfl ?_)
    refine c0 rfl (w_v (BO si) rfl ?_)
    refine c0 rfl (w_v (BO inn) rfl ?_)
    refine c0 rfl (w_v (BO (si == inn)) rfl ?_)
    refine cn ?_
    refine cw_cond (t := si == inn) rfl (fun c2 => ?_) (fun c2 => ?_)
    ·
      refine cw_seq ?_
      refine cw_reg0 tok rfl rfl ?_
      refine c0 rfl (w_bsl (g := 0) [] rfl rfl rfl rfl (Nat.le_of_ble_eq_true rfl) (Nat.le_of_ble_eq_true rfl) (Nat.le_of_ble_eq_true rfl) (.nil _) rfl rfl ?_)
      refine c0 rfl (w_v (.p (.sl 4 (path.map encP))) rfl ?_)
      refine c0 rfl (w_appo (path.map encP) (path.map encP) (path.length) rfl rfl rfl rfl rfl rfl (Nat.le_of_ble_eq_true rfl) (sz_map fun _ => rfl) rfl rfl rfl (by show (_ + _) * 32 ≤ _; (try simp) <;> omega) (by (try simp) <;> omega) rfl (by simp) ?_)
      refine c0 rfl (w_bsl (g := 0) [.sl 4 (path.map encP)] rfl rfl rfl rfl (Nat.le_of_ble_eq_true rfl) (Nat.le_of_ble_eq_true rfl) (Nat.le_of_ble_eq_true rfl) (.cons _ _ _ _ _ _ _ [] [] (.one _ _ _ _ _ (passOs (xs := path.map encP) rfl (by simp))) (.nil _)) rfl rfl ?_)
      refine c0 rfl (w_v (.os 17 0 1) rfl ?_)
      refine cn ?_
      refine cw_ret ?_
      exact finOw rfl rfl (by simp) (congrArg (fun z => z.map (encL 4 encP)) (by rw [cells_0 (by assumption)]; simp_all : [path] = (cellsP (Sol.mk si sp sk) inn path))) rfl
    ·
      refine cw_skip ?_
      refine cw_seq ?_
      refine cw_reg0 tok rfl rfl ?_
      refine c0 rfl (w_bsl (g := 0) [] rfl rfl rfl rfl (Nat.le_of_ble_eq_true rfl) (Nat.le_of_ble_eq_true rfl) (Nat.le_of_ble_eq_true rfl) (.nil _) rfl rfl ?_)
      refine c0 rfl (w_v (.os 18 0 0) rfl ?_)
      refine cn ?_
      refine cw_ret ?_
      exact finOw rfl rfl (by simp) (congrArg (fun z => z.map (encL 4 encP)) (by rw [cells_0 (by assumption)]; simp_all : [] = (cellsP (Sol.mk si sp sk) inn path))) rfl
  ·
    replace c1 := of_decide_eq_false c1
    refine cw_skip ?_
    refine cw_seq ?_
    refine cw_reg1 tok mixed rfl rfl ?_
    refine c0 rfl (w_v (.pt 3 0 5) rfl ?_)
    refine c0 rfl (w_v (.p (.sl 6 (encSs sk))) rfl ?_)
    obtain ⟨qa, hqa⟩ := getE (l := sk) (i := 0) (by have := look_two hlk (by assumption); omega)
    obtain ⟨qai, qap, qak⟩ := qa
    refine c0 rfl (w_ix (0) (encS (Sol.mk qai qap qak)) rfl rfl rfl (by omega) (getSs hqa) ?_)
    refine c0 rfl (w_v (.p (encS (Sol.mk qai qap qak))) rfl ?_)
    refine c0 rfl (w_v (BO inn) rfl ?_)
    refine c0 rfl (w_v (.p (.sl 4 (path.map encP))) rfl ?_)
    refine c0 rfl (w_v (.pt 3 0 1) rfl ?_)
    refine c0 rfl (w_v (.p (encP sp)) rfl ?_)
    refine c0 rfl (w_call_2 (l8Path_fn path sp (by omega)) rfl rfl rfl ?_)
    refine c0 rfl (w_call (.os 28 0 ((cellsP (Sol.mk qai qap qak) inn (path ++ [sp])).length)) (H _ (List.mem_of_getElem? hqa) (path ++ [sp]) (ok_app hp (look_okc hlk (by assumption))) (by have := look_lt hlk (by assumption) hn; simp; omega) (look_a hlk hqa) (by have := nodes_a hlk hqa; omega)) rfl (.cons _ _ _ _ _ _ _ [] _ (.one _ _ _ _ _ (.p _ _)) (.cons _ _ _ _ _ _ _ [] _ (.one _ _ _ _ _ (.p _ _)) (.cons _ _ _ _ _ _ _ [] _ (.one _ _ _ _ _ (.p _ _)) (.nil _)))) rfl (.one _ _ _ _ (recvOw (n := (cellsP (Sol.mk qai qap qak) inn (path ++ [sp])).length) (g := 0) (by simp) rfl)) ?_)
    refine c0 rfl (w_v (.os 28 0 ((cellsP (Sol.mk qai qap qak) inn (path ++ [sp])).length)) rfl ?_)
    refine cn ⟨by kernel_rfl, ?_⟩
    refine cw_seq ?_
    refine cw_reg1 tok mixed rfl rfl ?_
    refine c0 rfl (w_v (.os 28 0 ((cellsP (Sol.mk qai qap qak) inn (path ++ [sp])).length)) rfl ?_)
    refine c0 rfl (w_v (.pt 3 0 5) rfl ?_)
    refine c0 rfl (w_v (.p (.sl 6 (encSs sk))) rfl ?_)
    obtain ⟨qb, hqb⟩ := getE (l := sk) (i := 1) (by have := look_two hlk (by assumption); omega)
    obtain ⟨qbi, qbp, qbk⟩ := qb
    refine c0 rfl (w_ix (1) (encS (Sol.mk qbi qbp qbk)) rfl rfl rfl (by omega) (getSs hqb) ?_)
    refine c0 rfl (w_v (.p (encS (Sol.mk qbi qbp qbk))) rfl ?_)
    refine c0 rfl (w_v (BO inn) rfl ?_)
    refine c0 rfl (w_v (.p (.sl 4 (path.map encP))) rfl ?_)
    refine c0 rfl (w_v (.pt 3 0 1) rfl ?_)
    refine c0 rfl (w_v (.p (encP sp)) rfl ?_)
    refine c0 rfl (w_call_1 (l3Flip_fn sp (look_okc hlk (by assumption))) rfl rfl ?_)
    refine c0 rfl (w_call_2 (l8Path_fn path (flip sp) (by omega)) rfl rfl rfl ?_)
    refine c0 rfl (w_call (.os 40 0 ((cellsP (Sol.mk qbi qbp qbk) inn (path ++ [(flip sp)])).length)) (H _ (List.mem_of_getElem? hqb) (path ++ [flip sp]) (ok_app hp (okc_flip (look_okc hlk (by assumption)))) (by have := look_lt hlk (by assumption) hn; simp; omega) (look_b hlk hqb) (by have := nodes_b hlk hqb; omega)) rfl (.cons _ _ _ _ _ _ _ [] _ (.one _ _ _ _ _ (.p _ _)) (.cons _ _ _ _ _ _ _ [] _ (.one _ _ _ _ _ (.p _ _)) (.cons _ _ _ _ _ _ _ [] _ (.one _ _ _ _ _ (.p _ _)) (.nil _)))) rfl (.one _ _ _ _ (recvOw (n := (cellsP (Sol.mk qbi qbp qbk) inn (path ++ [(flip sp)])).length) (g := 0) (by simp) rfl)) ?_)
    have hc1 := cells_le _ inn (path ++ [sp]) _ (look_a hlk hqa); have hc2 := cells_le _ inn (path ++ [flip sp]) _ (look_b hlk hqb); have hn1 := nodes_a hlk hqa; have hn2 := nodes_b hlk hqb
    refine c0 rfl (w_appo ((cellsP (Sol.mk qbi qbp qbk) inn (path ++ [(flip sp)])).map (encL 4 encP)) (((cellsP (Sol.mk qai qap qak) inn (path ++ [sp])) ++ (cellsP (Sol.mk qbi qbp qbk) inn (path ++ [(flip sp)]))).map (encL 4 encP)) (((cellsP (Sol.mk qai qap qak) inn (path ++ [sp])) ++ (cellsP (Sol.mk qbi qbp qbk) inn (path ++ [(flip sp)]))).length) rfl rfl rfl rfl rfl (list_os rfl (by simp)) (Nat.le_of_ble_eq_true rfl) (sz_map fun _ => rfl) (by simp) rfl rfl (by show (_ + _) * 24 ≤ _; (try simp) <;> omega) (by (try simp) <;> omega) List.map_append.symm (by simp) ?_)
    refine c0 rfl (w_v (.os 28 0 (((cellsP (Sol.mk qai qap qak) inn (path ++ [sp])) ++ (cellsP (Sol.mk qbi qbp qbk) inn (path ++ [(flip sp)]))).length)) rfl ?_)
    refine cn ⟨by kernel_rfl, ?_⟩
    refine cw_ret ?_
    exact finOw rfl rfl (by simp) (congrArg (fun z => z.map (encL 4 encP)) (by exact cells_n hlk hqa hqb : ((cellsP (Sol.mk qai qap qak) inn (path ++ [sp])) ++ (cellsP (Sol.mk qbi qbp qbk) inn (path ++ [(flip sp)]))) = (cellsP (Sol.mk si sp sk) inn path))) rfl
theorem icells_rec : ∀ (s : Sol) (inn : Bool) (path : List Pl), (∀ q ∈ path, okc q) → path.length ≤ 24 → look s path = true → nodesN s ≤ 300 → Fn PP 68 [.p (.ro (encS s) 0), .p (bP inn), .p (.sl 4 (path.map encP))] (.ow 66 1 ((cellsP s inn path).map (encL 4 encP)) 0) []
  | .mk i p k, inn, path, hp, hn, hl, hm => icells_fn i p k inn path hp hn hl hm fun q hq l hl hn hlk hm => icells_rec q inn l hl hn hlk hm
  termination_by s => SizeOf.sizeOf s
  decreasing_by exact sz_kid hq
theorem scells_rec : ∀ (s : Sol) (inn : Bool) (path : List Pl), (∀ q ∈ path, okc q) → path.length ≤ 24 → look s path = true → nodesN s ≤ 300 → Fn PP 71 [.p (encS s), .p (bP inn), .p (.sl 4 (path.map encP))] (.ow 66 1 ((cellsP s inn path).map (encL 4 encP)) 0) []
  | .mk i p k, inn, path, hp, hn, hl, hm => scells_fn i p k inn path hp hn hl hm fun q hq l hl hn hlk hm => scells_rec q inn l hl hn hlk hm
  termination_by s => SizeOf.sizeOf s
  decreasing_by exact sz_kid hq
end Go.Proofs.Ytablmbhnimnccaa.Pw
