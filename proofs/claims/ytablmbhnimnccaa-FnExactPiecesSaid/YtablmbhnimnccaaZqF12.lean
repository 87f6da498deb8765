/- A part of that proof: contracts of the functions that are called, one theorem a function. No condition. -/
import Derived.Test.YtablmbhnimnccaaZqF11
import Derived.Test.YtablmbhnimnccaaZqPure6
import Derived.Test.YtablmbhnimnccaaZqPure7
set_option maxRecDepth 20000
set_option maxHeartbeats 4000000
namespace Go.Proofs.Ytablmbhnimnccaa.Pw
theorem ipieces_fn (si : Bool) (sp : Pl) (sk : List Sol) : Fn PP 18 [.p (encS (Sol.mk si sp sk))] (.p (iP (piecesI (Sol.mk si sp sk) : Int))) [] := by
  refine fn_intro tok Go.Proofs.Try.func18 (c := _) rfl rfl (Nat.le_of_ble_eq_true rfl) ?_
  refine cw_seq ?_
  refine cw_reg0 tok rfl rfl ?_
  refine c0 rfl (w_box (g := 0) [BO si, I64 sp.a, I64 sp.b, I64 sp.c, I64 sp.d, .p (.sl 6 (encSs sk))] rfl rfl rfl ?_)
  refine c0 rfl (w_v (I64 0) rfl ?_)
  refine cn ?_
  refine cw_seq ?_
  refine cw_seq ?_
  refine cw_reg0 tok rfl rfl ?_
  refine c0 rfl (w_v (.p (encS (Sol.mk si sp sk))) rfl ?_)
  refine c0 rfl (w_call_1 (iSolidOk (Sol.mk si sp sk)) rfl rfl ?_)
  refine c0 rfl (w_v (BO (!(sok (Sol.mk si sp sk)))) rfl ?_)
  refine cn ?_
  refine cw_cond (t := !(sok (Sol.mk si sp sk))) rfl (fun c1 => ?_) (fun c1 => ?_)
  ·
    replace c1 := nt c1
    refine cw_seq ?_
    refine cw_reg0 tok rfl rfl ?_
    refine c0 rfl (w_v (I64 0) rfl ?_)
    refine cn ?_
    refine cw_ret ?_
    exact fin1 (iP 0) (iP (piecesI (Sol.mk si sp sk) : Int)) rfl (congrArg iP (by simp [piecesI, *] : 0 = (piecesI (Sol.mk si sp sk) : Int))) rfl
  ·
    replace c1 := nf c1
    refine cw_skip ?_
    refine cw_seq ?_
    refine cw_reg0 tok rfl rfl ?_
    have hsok : sok (Sol.mk si sp sk) = true := by assumption
    have hcl := cells_le (Sol.mk si sp sk) true [] [] (sok_look hsok); have hnn := sok_nodes hsok
    refine c0 rfl (w_call (.os 18 0 ((cellsP (Sol.mk si sp sk) true []).length)) (icells_rec (Sol.mk si sp sk) true [] (by simp) (by simp) (sok_look hsok) (sok_nodes hsok)) rfl (.cons _ _ _ _ _ _ _ [] _ (.one _ _ _ _ _ (.ro _ _ _ _ [bP si, iP sp.a, iP sp.b, iP sp.c, iP sp.d, .sl 6 (encSs sk)] _ rfl)) (.cons _ _ _ _ _ _ _ [] _ (.one _ _ _ _ _ (.p _ _)) (.cons _ _ _ _ _ _ _ [] _ (.one _ _ _ _ _ (.nil _ _)) (.nil _)))) rfl (.one _ _ _ _ (recvOw (n := (cellsP (Sol.mk si sp sk) true []).length) (g := 0) (by simp) rfl)) ?_)
    refine c0 rfl (w_v (.os 18 0 ((cellsP (Sol.mk si sp sk) true []).length)) rfl ?_)
    refine cn ?_
    refine cw_seq ?_
    refine cw_reg0 tok rfl rfl ?_
    refine c0 rfl (w_v (.os 18 0 ((cellsP (Sol.mk si sp sk) true []).length)) rfl ?_)
    refine c0 rfl (w_leno rfl rfl rfl (by (try simp) <;> (try omega)) ?_)
    refine c0 rfl (w_mksl (n := ((cellsP (Sol.mk si sp sk) true []).length)) (g := 0) ((List.replicate ((cellsP (Sol.mk si sp sk) true []).length) 0).map iP) rfl rfl rfl rfl rfl (Nat.le_of_ble_eq_true rfl) (by show _ * 8 ≤ _; omega) (by omega) (by rw [List.map_replicate]; rfl) rfl ?_)
    refine c0 rfl (w_v (.os 21 0 ((cellsP (Sol.mk si sp sk) true []).length)) rfl ?_)
    refine cn ?_
    refine cw_seq ?_
    refine cw_reg0 tok rfl rfl ?_
    refine c0 rfl (w_v (.os 18 0 ((cellsP (Sol.mk si sp sk) true []).length)) rfl ?_)
    refine c0 rfl (w_leno rfl rfl rfl (by (try simp) <;> (try omega)) ?_)
    refine c0 rfl (w_v (I64 (((cellsP (Sol.mk si sp sk) true []).length : Nat) : Int)) rfl ?_)
    refine cn ?_
    refine cw_seq ?_
    refine cw_seq ?_
    refine cw_reg0 tok rfl rfl ?_
    refine c0 rfl (w_v (.os 18 0 ((cellsP (Sol.mk si sp sk) true []).length)) rfl ?_)
    refine c0 rfl (w_leno rfl rfl rfl (by (try simp) <;> (try omega)) ?_)
    refine c0 rfl (w_v (I64 0) rfl ?_)
    refine cn ?_
    refine cw_block ?_
    refine cw_loopI (fun nn S => ∃ i : Nat, ∃ g : List Int, ((i ≤ (cellsP (Sol.mk si sp sk) true []).length ∧ g.length = (cellsP (Sol.mk si sp sk) true []).length) ∧ g = initG (cellsP (Sol.mk si sp sk) true []).length i) ∧ nn = (cellsP (Sol.mk si sp sk) true []).length - i ∧ S = mkS [(3, .os 18 0 ((cellsP (Sol.mk si sp sk) true []).length)), (4, .os 21 0 ((cellsP (Sol.mk si sp sk) true []).length)), (5, I64 (((cellsP (Sol.mk si sp sk) true []).length : Nat) : Int)), (25, I64 (((cellsP (Sol.mk si sp sk) true []).length : Nat) : Int)), (26, I64 (i : Int))] [(18, 0, .arr 66 1 ((cellsP (Sol.mk si sp sk) true []).map (encL 4 encP)) 0), (21, 0, .arr 3 1 (g.map iP) 0)] [(18, 1), (21, 1)]) ((cellsP (Sol.mk si sp sk) true []).length - 0) ?_ ?_
    · exact ⟨_, wk_of (tms := [(3, .os 18 0 ((cellsP (Sol.mk si sp sk) true []).length)), (4, .os 21 0 ((cellsP (Sol.mk si sp sk) true []).length)), (5, I64 (((cellsP (Sol.mk si sp sk) true []).length : Nat) : Int)), (25, I64 (((cellsP (Sol.mk si sp sk) true []).length : Nat) : Int)), (26, I64 (0 : Int))]) (bls := [(18, 0, .arr 66 1 ((cellsP (Sol.mk si sp sk) true []).map (encL 4 encP)) 0), (21, 0, .arr 3 1 ((List.replicate ((cellsP (Sol.mk si sp sk) true []).length) 0).map iP) 0)]) (gens := [(18, 1), (21, 1)]) ⟨by first | rfl | exact congrArg (AV.os 18 0) (by (try simp) <;> (try omega)), by first | rfl | exact congrArg (AV.os 21 0) (by (try simp) <;> (try omega)), rfl, rfl, rfl, trivial⟩ ⟨rfl, rfl, trivial⟩ ⟨rfl, rfl, trivial⟩ rfl, 0, List.replicate ((cellsP (Sol.mk si sp sk) true []).length) 0, ⟨by simp, initG_0 _⟩, rfl, rfl⟩
    · rintro nn _ ⟨i, g, ⟨⟨hi, hgl⟩, hg⟩, hn1, rfl⟩
      refine cw_seq ?_
      refine cw_reg0 tok rfl rfl ?_
      refine c0 rfl (w_v (BO (decide ((i : Int) < (((cellsP (Sol.mk si sp sk) true []).length : Nat) : Int)))) rfl ?_)
      refine cn ?_
      refine cw_seq ?_
      refine cw_cond (t := decide ((i : Int) < (((cellsP (Sol.mk si sp sk) true []).length : Nat) : Int))) rfl (fun c2 => ?_) (fun c2 => ?_)
      ·
        replace c2 := of_decide_eq_true c2
        refine cw_skip ?_
        refine cw_seq ?_
        refine cw_block ?_
        refine cw_seq ?_
        refine cw_reg0 tok rfl rfl ?_
        refine c0 rfl (w_v (I64 (i : Int)) rfl ?_)
        refine c0 rfl (w_v (I64 (i : Int)) rfl ?_)
        refine cn ?_
        refine cw_reg0 tok rfl rfl ?_
        refine c0 rfl (w_v (.os 21 0 ((cellsP (Sol.mk si sp sk) true []).length)) rfl ?_)
        refine c0 rfl (w_v (I64 (i : Int)) rfl ?_)
        refine c0 rfl (w_v (I64 (i : Int)) rfl ?_)
        refine c0 rfl (w_ixo ((i : Int)) rfl rfl rfl rfl (by (try simp) <;> (try omega)) (by omega) (by omega) ?_)
        obtain ⟨x, hx⟩ := getE (l := g) (i := i) (by first | omega | (simp; omega))
        refine c0 rfl (w_stol ((g.set i (i : Int)).map iP) (iP x) (iP (i : Int)) _ rfl rfl rfl rfl rfl (getM hx) rfl rfl (by (try simp) <;> (try omega)) (Nat.zero_le _) rfl map_setP ?_)
        refine cn ?_
        refine cw_reg0 tok rfl rfl ?_
        refine c0 rfl (w_i (((i + 1 : Nat) : Int)) rfl (by unfold inI; omega) ?_)
        refine c0 rfl (w_v (I64 ((i + 1 : Nat) : Int)) rfl ?_)
        refine cn ?_
        exact ⟨_, _, by omega, wk_of (tms := [(3, .os 18 0 ((cellsP (Sol.mk si sp sk) true []).length)), (4, .os 21 0 ((cellsP (Sol.mk si sp sk) true []).length)), (5, I64 (((cellsP (Sol.mk si sp sk) true []).length : Nat) : Int)), (25, I64 (((cellsP (Sol.mk si sp sk) true []).length : Nat) : Int)), (26, I64 ((i + 1) : Int))]) (bls := [(18, 0, .arr 66 1 ((cellsP (Sol.mk si sp sk) true []).map (encL 4 encP)) 0), (21, 0, .arr 3 1 ((g.set i (i : Int)).map iP) 0)]) (gens := [(18, 1), (21, 1)]) ⟨by first | rfl | exact congrArg (AV.os 18 0) (by (try simp) <;> (try omega)), by first | rfl | exact congrArg (AV.os 21 0) (by (try simp) <;> (try omega)), rfl, rfl, rfl, trivial⟩ ⟨rfl, rfl, trivial⟩ ⟨rfl, rfl, trivial⟩ rfl, (i + 1), (g.set i (i : Int)), ⟨by simp; omega, by rw [hg]; exact initG_su (by omega)⟩, rfl, rfl⟩
      ·
        replace c2 := of_decide_eq_false c2
        refine cw_exit ?_
        refine cw_seq ?_
        refine cw_seq ?_
        refine cw_reg0 tok rfl rfl ?_
        refine c0 rfl (w_v (.os 18 0 ((cellsP (Sol.mk si sp sk) true []).length)) rfl ?_)
        refine c0 rfl (w_leno rfl rfl rfl (by (try simp) <;> (try omega)) ?_)
        refine c0 rfl (w_v (I64 0) rfl ?_)
        refine cn ?_
        refine cw_block ?_
        have hg0 := hg.trans (initG_all (by omega) hi)
        have hc0 := card_g0 (cellsP (Sol.mk si sp sk) true []).length
        refine cw_loopI (fun nn S => ∃ i : Nat, ∃ g : List Int, ∃ n : Int, ((i ≤ (cellsP (Sol.mk si sp sk) true []).length ∧ g.length = (cellsP (Sol.mk si sp sk) true []).length) ∧ (g = allG (touchT (cellsP (Sol.mk si sp sk) true [])) (g0 (cellsP (Sol.mk si sp sk) true []).length) i ∧ n = (card g : Int))) ∧ nn = (cellsP (Sol.mk si sp sk) true []).length - i ∧ S = mkS [(3, .os 18 0 ((cellsP (Sol.mk si sp sk) true []).length)), (4, .os 21 0 ((cellsP (Sol.mk si sp sk) true []).length)), (5, I64 n), (34, .os 18 0 ((cellsP (Sol.mk si sp sk) true []).length)), (35, I64 (((cellsP (Sol.mk si sp sk) true []).length : Nat) : Int)), (36, I64 (i : Int))] [(18, 0, .arr 66 1 ((cellsP (Sol.mk si sp sk) true []).map (encL 4 encP)) (cellsP (Sol.mk si sp sk) true []).length), (21, 0, .arr 3 1 (g.map iP) 0)] [(18, 1), (21, 1)]) ((cellsP (Sol.mk si sp sk) true []).length - 0) ?_ ?_
        · exact ⟨_, Wk.trans (wk_seal (t := 18) (g := 0) (n := (cellsP (Sol.mk si sp sk) true []).length) rfl (by simp)) (wk_of (tms := [(3, .os 18 0 ((cellsP (Sol.mk si sp sk) true []).length)), (4, .os 21 0 ((cellsP (Sol.mk si sp sk) true []).length)), (5, I64 ((cellsP (Sol.mk si sp sk) true []).length : Int)), (34, .os 18 0 ((cellsP (Sol.mk si sp sk) true []).length)), (35, I64 (((cellsP (Sol.mk si sp sk) true []).length : Nat) : Int)), (36, I64 (0 : Int))]) (bls := [(18, 0, .arr 66 1 ((cellsP (Sol.mk si sp sk) true []).map (encL 4 encP)) (cellsP (Sol.mk si sp sk) true []).length), (21, 0, .arr 3 1 (g.map iP) 0)]) (gens := [(18, 1), (21, 1)]) ⟨by first | rfl | exact congrArg (AV.os 18 0) (by (try simp) <;> (try omega)), by first | rfl | exact congrArg (AV.os 21 0) (by (try simp) <;> (try omega)), rfl, by first | rfl | exact congrArg (AV.os 18 0) (by (try simp) <;> (try omega)), rfl, rfl, trivial⟩ ⟨rfl, rfl, trivial⟩ ⟨rfl, rfl, trivial⟩ rfl), 0, g, ((cellsP (Sol.mk si sp sk) true []).length : Int), ⟨by omega, hg0, by rw [hg0, hc0]⟩, rfl, rfl⟩
        · rintro nn _ ⟨i, g, n, ⟨⟨hi, hgl⟩, hg, hcn⟩, hn2, rfl⟩
          refine cw_seq ?_
          refine cw_reg0 tok rfl rfl ?_
          refine c0 rfl (w_v (BO (decide ((i : Int) < (((cellsP (Sol.mk si sp sk) true []).length : Nat) : Int)))) rfl ?_)
          refine cn ?_
          refine cw_seq ?_
          refine cw_cond (t := decide ((i : Int) < (((cellsP (Sol.mk si sp sk) true []).length : Nat) : Int))) rfl (fun c3 => ?_) (fun c3 => ?_)
          ·
            replace c3 := of_decide_eq_true c3
            refine cw_skip ?_
            refine cw_seq ?_
            refine cw_block ?_
            refine cw_seq ?_
            refine cw_reg0 tok rfl rfl ?_
            refine c0 rfl (w_v (I64 (i : Int)) rfl ?_)
            refine c0 rfl (w_ixo ((i : Int)) rfl rfl rfl rfl (by (try simp) <;> (try omega)) (by omega) (by omega) ?_)
            obtain ⟨a, ha⟩ := getE (l := cellsP (Sol.mk si sp sk) true []) (i := i) (by first | omega | (simp; omega))
            refine c0 rfl (w_ldo (.sl 4 (a.map encP)) (.sl 4 (a.map encP)) rfl rfl (by (try simp) <;> (try omega)) (getM ha) rfl rfl ?_)
            refine c0 rfl (w_v (I64 (i : Int)) rfl ?_)
            refine c0 rfl (w_v (.p (.sl 4 (a.map encP))) rfl ?_)
            refine cn ?_
            refine cw_seq ?_
            refine cw_reg0 tok rfl rfl ?_
            refine c0 rfl (w_v (.os 18 0 ((cellsP (Sol.mk si sp sk) true []).length)) rfl ?_)
            refine c0 rfl (w_v (I64 (i : Int)) rfl ?_)
            refine c0 rfl (w_subol (0) (i) ((cellsP (Sol.mk si sp sk) true []).length) (((cellsP (Sol.mk si sp sk) true []).take i).map (encL 4 encP)) rfl rfl rfl rfl rfl rfl (by (try simp) <;> omega) rfl rfl (by omega) (by omega) mapT ?_)
            refine c0 rfl (w_len (i) rfl rfl (by (try simp) <;> omega) ?_)
            refine c0 rfl (w_v (I64 0) rfl ?_)
            refine cn ?_
            refine cw_block ?_
            refine cw_loopI (fun nn S => ∃ j : Nat, ∃ g : List Int, ∃ n : Int, ((j ≤ i ∧ g.length = (cellsP (Sol.mk si sp sk) true []).length) ∧ (g = rowG (touchT (cellsP (Sol.mk si sp sk) true [])) (allG (touchT (cellsP (Sol.mk si sp sk) true [])) (g0 (cellsP (Sol.mk si sp sk) true []).length) i) i j ∧ n = (card g : Int))) ∧ nn = i - j ∧ S = mkS [(3, .os 18 0 ((cellsP (Sol.mk si sp sk) true []).length)), (4, .os 21 0 ((cellsP (Sol.mk si sp sk) true []).length)), (5, I64 n), (7, I64 (i : Int)), (8, .p (.sl 4 (a.map encP))), (34, .os 18 0 ((cellsP (Sol.mk si sp sk) true []).length)), (35, I64 (((cellsP (Sol.mk si sp sk) true []).length : Nat) : Int)), (36, I64 (i : Int)), (43, .p (.sl 1 (((cellsP (Sol.mk si sp sk) true []).take i).map (encL 4 encP)))), (44, I64 (i : Int)), (45, I64 (j : Int))] [(18, 0, .arr 66 1 ((cellsP (Sol.mk si sp sk) true []).map (encL 4 encP)) (cellsP (Sol.mk si sp sk) true []).length), (21, 0, .arr 3 1 (g.map iP) 0)] [(18, 1), (21, 1)]) (i - 0) ?_ ?_
            · exact ⟨_, wk_of (tms := [(3, .os 18 0 ((cellsP (Sol.mk si sp sk) true []).length)), (4, .os 21 0 ((cellsP (Sol.mk si sp sk) true []).length)), (5, I64 n), (7, I64 (i : Int)), (8, .p (.sl 4 (a.map encP))), (34, .os 18 0 ((cellsP (Sol.mk si sp sk) true []).length)), (35, I64 (((cellsP (Sol.mk si sp sk) true []).length : Nat) : Int)), (36, I64 (i : Int)), (43, .p (.sl 1 (((cellsP (Sol.mk si sp sk) true []).take i).map (encL 4 encP)))), (44, I64 (i : Int)), (45, I64 (0 : Int))]) (bls := [(18, 0, .arr 66 1 ((cellsP (Sol.mk si sp sk) true []).map (encL 4 encP)) (cellsP (Sol.mk si sp sk) true []).length), (21, 0, .arr 3 1 (g.map iP) 0)]) (gens := [(18, 1), (21, 1)]) ⟨by first | rfl | exact congrArg (AV.os 18 0) (by (try simp) <;> (try omega)), by first | rfl | exact congrArg (AV.os 21 0) (by (try simp) <;> (try omega)), rfl, rfl, rfl, by first | rfl | exact congrArg (AV.os 18 0) (by (try simp) <;> (try omega)), rfl, rfl, rfl, rfl, rfl, trivial⟩ ⟨rfl, rfl, trivial⟩ ⟨rfl, rfl, trivial⟩ rfl, 0, g, n, ⟨by omega, hg, hcn⟩, rfl, rfl⟩
            · rintro nn _ ⟨j, g, n, ⟨⟨hj, hgl⟩, hg, hcn⟩, hn3, rfl⟩
              have hrow : rowG (touchT (cellsP (Sol.mk si sp sk) true [])) (allG (touchT (cellsP (Sol.mk si sp sk) true [])) (g0 (cellsP (Sol.mk si sp sk) true []).length) i) i (j + 1) = stepG (touchT (cellsP (Sol.mk si sp sk) true [])) g i j := by rw [hg]; rfl
              refine cw_seq ?_
              refine cw_reg0 tok rfl rfl ?_
              refine c0 rfl (w_v (BO (decide ((j : Int) < (i : Int)))) rfl ?_)
              refine cn ?_
              refine cw_seq ?_
              refine cw_cond (t := decide ((j : Int) < (i : Int))) rfl (fun c4 => ?_) (fun c4 => ?_)
              ·
                replace c4 := of_decide_eq_true c4
                refine cw_skip ?_
                refine cw_seq ?_
                refine cw_block ?_
                refine cw_seq ?_
                refine cw_reg0 tok rfl rfl ?_
                refine c0 rfl (w_v (I64 (j : Int)) rfl ?_)
                obtain ⟨b, hb⟩ := getE (l := (cellsP (Sol.mk si sp sk) true []).take i) (i := j) (by first | omega | (simp; omega))
                refine c0 rfl (w_ix ((j : Int)) (.sl 4 (b.map encP)) rfl rfl rfl (by omega) (getM hb) ?_)
                refine c0 rfl (w_v (.p (.sl 4 (b.map encP))) rfl ?_)
                refine c0 rfl (w_v (I64 (j : Int)) rfl ?_)
                refine c0 rfl (w_v (.p (.sl 4 (b.map encP))) rfl ?_)
                refine cn ?_
                refine cw_seq ?_
                refine cw_seq ?_
                refine cw_reg1 tok mixed rfl rfl ?_
                refine c0 rfl (w_v (.os 21 0 ((cellsP (Sol.mk si sp sk) true []).length)) rfl ?_)
                refine c0 rfl (w_v (I64 (i : Int)) rfl ?_)
                refine c0 rfl (w_ixo ((i : Int)) rfl rfl rfl rfl (by (try simp) <;> (try omega)) (by omega) (by omega) ?_)
                obtain ⟨x, hx⟩ := getE (l := g) (i := i) (by first | omega | (simp; omega))
                refine c0 rfl (w_ldo (iP x) (iP x) rfl rfl (by (try simp) <;> (try omega)) (getM hx) rfl rfl ?_)
                refine c0 rfl (w_v (.os 21 0 ((cellsP (Sol.mk si sp sk) true []).length)) rfl ?_)
                refine c0 rfl (w_v (I64 (j : Int)) rfl ?_)
                refine c0 rfl (w_ixo ((j : Int)) rfl rfl rfl rfl (by (try simp) <;> (try omega)) (by omega) (by omega) ?_)
                obtain ⟨y, hy⟩ := getE (l := g) (i := j) (by first | omega | (simp; omega))
                refine c0 rfl (w_ldo (iP y) (iP y) rfl rfl (by (try simp) <;> (try omega)) (getM hy) rfl rfl ?_)
                refine c0 rfl (w_eqi (x) (y) rfl rfl ?_)
                refine c0 rfl (w_v (BO (decide (x = y))) rfl ?_)
                refine cgS (b := decide (x = y)) rfl rfl rfl (fun c5 => ?_) (fun c5 => ?_)
                ·
                  replace c5 := of_decide_eq_true c5
                  refine cgF (v := .bool true) rfl rfl rfl rfl ?_
                  refine cgF (v := .bool true) rfl rfl rfl rfl ?_
                  refine cgF (v := .bool true) rfl rfl rfl rfl ?_
                  refine cgF (v := .bool true) rfl rfl rfl rfl ?_
                  refine c0 rfl (w_v (BO true) rfl ?_)
                  refine cn ⟨by kernel_rfl, ?_⟩
                  refine cw_cond (t := true) rfl (fun _ => ?_) (fun h => nomatch h)
                  refine cw_exit ?_
                  refine cw_reg0 tok rfl rfl ?_
                  refine c0 rfl (w_i (((j + 1 : Nat) : Int)) rfl (by unfold inI; omega) ?_)
                  refine c0 rfl (w_v (I64 ((j + 1 : Nat) : Int)) rfl ?_)
                  refine cn ?_
                  exact ⟨_, _, by omega, wk_of (tms := [(3, .os 18 0 ((cellsP (Sol.mk si sp sk) true []).length)), (4, .os 21 0 ((cellsP (Sol.mk si sp sk) true []).length)), (5, I64 n), (7, I64 (i : Int)), (8, .p (.sl 4 (a.map encP))), (34, .os 18 0 ((cellsP (Sol.mk si sp sk) true []).length)), (35, I64 (((cellsP (Sol.mk si sp sk) true []).length : Nat) : Int)), (36, I64 (i : Int)), (43, .p (.sl 1 (((cellsP (Sol.mk si sp sk) true []).take i).map (encL 4 encP)))), (44, I64 (i : Int)), (45, I64 ((j + 1) : Int))]) (bls := [(18, 0, .arr 66 1 ((cellsP (Sol.mk si sp sk) true []).map (encL 4 encP)) (cellsP (Sol.mk si sp sk) true []).length), (21, 0, .arr 3 1 (g.map iP) 0)]) (gens := [(18, 1), (21, 1)]) ⟨by first | rfl | exact congrArg (AV.os 18 0) (by (try simp) <;> (try omega)), by first | rfl | exact congrArg (AV.os 21 0) (by (try simp) <;> (try omega)), rfl, rfl, rfl, by first | rfl | exact congrArg (AV.os 18 0) (by (try simp) <;> (try omega)), rfl, rfl, rfl, rfl, rfl, trivial⟩ ⟨rfl, rfl, trivial⟩ ⟨rfl, rfl, trivial⟩ rfl, (j + 1), g, n, ⟨by omega, by rw [hrow]; first | exact step_skip hx hy (.inl (by assumption)) | exact step_skip hx hy (.inr (by unfold touchT; rw [getDL ha, getDL (tkG hb).2]; assumption)) | (rw [hh, mixG_all _ _ _ (by omega)]; exact step_do hx hy (by assumption) (by unfold touchT; rw [getDL ha, getDL (tkG hb).2]; assumption)), by first | exact hcn | (rw [hh, mixG_all _ _ _ (by omega)]; have := card_relabel (List.mem_of_getElem? hx) (List.mem_of_getElem? hy) (by assumption); omega)⟩, rfl, rfl⟩
                ·
                  replace c5 := of_decide_eq_false c5
                  refine cgT rfl rfl rfl (w_v (.p (.sl 4 (a.map encP))) rfl ?_)
                  refine cgT rfl rfl rfl (w_v (.p (.sl 4 (b.map encP))) rfl ?_)
                  refine cgT rfl rfl rfl (w_call_2 (touch_fn a b (cells_ok _ true [] [] (sok_look hsok) (by simp) (by simp) rfl _ (List.mem_of_getElem? ha)).1 (cells_ok _ true [] [] (sok_look hsok) (by simp) (by simp) rfl _ (List.mem_of_mem_take (List.mem_of_getElem? hb))).1 (Nat.le_trans (cells_ok _ true [] [] (sok_look hsok) (by simp) (by simp) rfl _ (List.mem_of_getElem? ha)).2 (by omega)) (Nat.le_trans (cells_ok _ true [] [] (sok_look hsok) (by simp) (by simp) rfl _ (List.mem_of_mem_take (List.mem_of_getElem? hb))).2 (by omega))) rfl rfl rfl ?_)
                  refine cgT rfl rfl rfl (w_v (BO (!(touch a b))) rfl ?_)
                  refine c0 rfl (w_v (BO (!(touch a b))) rfl ?_)
                  refine cn ⟨by kernel_rfl, ?_⟩
                  refine cw_cond (t := !(touch a b)) rfl (fun c6 => ?_) (fun c6 => ?_)
                  ·
                    replace c6 := nt c6
                    refine cw_exit ?_
                    refine cw_reg0 tok rfl rfl ?_
                    refine c0 rfl (w_i (((j + 1 : Nat) : Int)) rfl (by unfold inI; omega) ?_)
                    refine c0 rfl (w_v (I64 ((j + 1 : Nat) : Int)) rfl ?_)
                    refine cn ?_
                    exact ⟨_, _, by omega, wk_of (tms := [(3, .os 18 0 ((cellsP (Sol.mk si sp sk) true []).length)), (4, .os 21 0 ((cellsP (Sol.mk si sp sk) true []).length)), (5, I64 n), (7, I64 (i : Int)), (8, .p (.sl 4 (a.map encP))), (34, .os 18 0 ((cellsP (Sol.mk si sp sk) true []).length)), (35, I64 (((cellsP (Sol.mk si sp sk) true []).length : Nat) : Int)), (36, I64 (i : Int)), (43, .p (.sl 1 (((cellsP (Sol.mk si sp sk) true []).take i).map (encL 4 encP)))), (44, I64 (i : Int)), (45, I64 ((j + 1) : Int))]) (bls := [(18, 0, .arr 66 1 ((cellsP (Sol.mk si sp sk) true []).map (encL 4 encP)) (cellsP (Sol.mk si sp sk) true []).length), (21, 0, .arr 3 1 (g.map iP) 0)]) (gens := [(18, 1), (21, 1)]) ⟨by first | rfl | exact congrArg (AV.os 18 0) (by (try simp) <;> (try omega)), by first | rfl | exact congrArg (AV.os 21 0) (by (try simp) <;> (try omega)), rfl, rfl, rfl, by first | rfl | exact congrArg (AV.os 18 0) (by (try simp) <;> (try omega)), rfl, rfl, rfl, rfl, rfl, trivial⟩ ⟨rfl, rfl, trivial⟩ ⟨rfl, rfl, trivial⟩ rfl, (j + 1), g, n, ⟨by omega, by rw [hrow]; first | exact step_skip hx hy (.inl (by assumption)) | exact step_skip hx hy (.inr (by unfold touchT; rw [getDL ha, getDL (tkG hb).2]; assumption)) | (rw [hh, mixG_all _ _ _ (by omega)]; exact step_do hx hy (by assumption) (by unfold touchT; rw [getDL ha, getDL (tkG hb).2]; assumption)), by first | exact hcn | (rw [hh, mixG_all _ _ _ (by omega)]; have := card_relabel (List.mem_of_getElem? hx) (List.mem_of_getElem? hy) (by assumption); omega)⟩, rfl, rfl⟩
                  ·
                    replace c6 := nf c6
                    refine cw_skip ?_
                    refine cw_seq ?_
                    refine cw_reg0 tok rfl rfl ?_
                    have hcg := card_le g
                    refine c0 rfl (w_v (I64 n) rfl ?_)
                    refine c0 rfl (w_i (n - 1) rfl (by unfold inI; omega) ?_)
                    refine c0 rfl (w_v (I64 (n - 1)) rfl ?_)
                    refine cn ?_
                    refine cw_seq ?_
                    refine cw_reg1 tok mixed rfl rfl ?_
                    refine c0 rfl (w_v (.os 21 0 ((cellsP (Sol.mk si sp sk) true []).length)) rfl ?_)
                    refine c0 rfl (w_v (I64 (i : Int)) rfl ?_)
                    refine c0 rfl (w_ixo ((i : Int)) rfl rfl rfl rfl (by (try simp) <;> (try omega)) (by omega) (by omega) ?_)
                    refine c0 rfl (w_ldo (iP x) (iP x) rfl rfl (by (try simp) <;> (try omega)) (getM hx) rfl rfl ?_)
                    refine c0 rfl (w_v (.os 21 0 ((cellsP (Sol.mk si sp sk) true []).length)) rfl ?_)
                    refine c0 rfl (w_v (I64 (j : Int)) rfl ?_)
                    refine c0 rfl (w_ixo ((j : Int)) rfl rfl rfl rfl (by (try simp) <;> (try omega)) (by omega) (by omega) ?_)
                    refine c0 rfl (w_ldo (iP y) (iP y) rfl rfl (by (try simp) <;> (try omega)) (getM hy) rfl rfl ?_)
                    refine c0 rfl (w_v (I64 x) rfl ?_)
                    refine c0 rfl (w_v (I64 y) rfl ?_)
                    refine cn ⟨by kernel_rfl, ?_⟩
                    refine cw_seq ?_
                    refine cw_reg0 tok rfl rfl ?_
                    refine c0 rfl (w_v (.os 21 0 ((cellsP (Sol.mk si sp sk) true []).length)) rfl ?_)
                    refine c0 rfl (w_leno rfl rfl rfl (by (try simp) <;> (try omega)) ?_)
                    refine c0 rfl (w_v (I64 0) rfl ?_)
                    refine cn ?_
                    refine cw_block ?_
                    refine cw_loopI (fun nn S => ∃ k : Nat, ∃ h : List Int, ((k ≤ (cellsP (Sol.mk si sp sk) true []).length ∧ h.length = (cellsP (Sol.mk si sp sk) true []).length) ∧ h = mixG g x y k) ∧ nn = (cellsP (Sol.mk si sp sk) true []).length - k ∧ S = mkS [(3, .os 18 0 ((cellsP (Sol.mk si sp sk) true []).length)), (4, .os 21 0 ((cellsP (Sol.mk si sp sk) true []).length)), (5, I64 (n - 1)), (7, I64 (i : Int)), (8, .p (.sl 4 (a.map encP))), (11, I64 x), (12, I64 y), (34, .os 18 0 ((cellsP (Sol.mk si sp sk) true []).length)), (35, I64 (((cellsP (Sol.mk si sp sk) true []).length : Nat) : Int)), (36, I64 (i : Int)), (43, .p (.sl 1 (((cellsP (Sol.mk si sp sk) true []).take i).map (encL 4 encP)))), (44, I64 (i : Int)), (45, I64 (j : Int)), (60, .p (.sl 4 (a.map encP))), (61, .p (.sl 4 (b.map encP))), (62, BO (touch a b)), (63, BO (!(touch a b))), (75, .os 21 0 ((cellsP (Sol.mk si sp sk) true []).length)), (76, I64 (((cellsP (Sol.mk si sp sk) true []).length : Nat) : Int)), (77, I64 (k : Int))] [(18, 0, .arr 66 1 ((cellsP (Sol.mk si sp sk) true []).map (encL 4 encP)) (cellsP (Sol.mk si sp sk) true []).length), (21, 0, .arr 3 1 (h.map iP) 0)] [(18, 1), (21, 1)]) ((cellsP (Sol.mk si sp sk) true []).length - 0) ?_ ?_
                    · exact ⟨_, wk_of (tms := [(3, .os 18 0 ((cellsP (Sol.mk si sp sk) true []).length)), (4, .os 21 0 ((cellsP (Sol.mk si sp sk) true []).length)), (5, I64 (n - 1)), (7, I64 (i : Int)), (8, .p (.sl 4 (a.map encP))), (11, I64 x), (12, I64 y), (34, .os 18 0 ((cellsP (Sol.mk si sp sk) true []).length)), (35, I64 (((cellsP (Sol.mk si sp sk) true []).length : Nat) : Int)), (36, I64 (i : Int)), (43, .p (.sl 1 (((cellsP (Sol.mk si sp sk) true []).take i).map (encL 4 encP)))), (44, I64 (i : Int)), (45, I64 (j : Int)), (60, .p (.sl 4 (a.map encP))), (61, .p (.sl 4 (b.map encP))), (62, BO (touch a b)), (63, BO (!(touch a b))), (75, .os 21 0 ((cellsP (Sol.mk si sp sk) true []).length)), (76, I64 (((cellsP (Sol.mk si sp sk) true []).length : Nat) : Int)), (77, I64 (0 : Int))]) (bls := [(18, 0, .arr 66 1 ((cellsP (Sol.mk si sp sk) true []).map (encL 4 encP)) (cellsP (Sol.mk si sp sk) true []).length), (21, 0, .arr 3 1 (g.map iP) 0)]) (gens := [(18, 1), (21, 1)]) ⟨by first | rfl | exact congrArg (AV.os 18 0) (by (try simp) <;> (try omega)), by first | rfl | exact congrArg (AV.os 21 0) (by (try simp) <;> (try omega)), rfl, rfl, rfl, rfl, rfl, by first | rfl | exact congrArg (AV.os 18 0) (by (try simp) <;> (try omega)), rfl, rfl, rfl, rfl, rfl, rfl, rfl, rfl, rfl, by first | rfl | exact congrArg (AV.os 21 0) (by (try simp) <;> (try omega)), rfl, rfl, trivial⟩ ⟨rfl, rfl, trivial⟩ ⟨rfl, rfl, trivial⟩ rfl, 0, g, ⟨by omega, (mixG_0 _ _ _).symm⟩, rfl, rfl⟩
                    · rintro nn _ ⟨k, h, ⟨⟨hk, hhl⟩, hh⟩, hn4, rfl⟩
                      have hzg : ∀ z, h[k]? = some z → g[k]? = some z := fun z hz => by rw [hh] at hz; exact mixG_n hz
                      refine cw_seq ?_
                      refine cw_reg0 tok rfl rfl ?_
                      refine c0 rfl (w_v (BO (decide ((k : Int) < (((cellsP (Sol.mk si sp sk) true []).length : Nat) : Int)))) rfl ?_)
                      refine cn ?_
                      refine cw_seq ?_
                      refine cw_cond (t := decide ((k : Int) < (((cellsP (Sol.mk si sp sk) true []).length : Nat) : Int))) rfl (fun c7 => ?_) (fun c7 => ?_)
                      ·
                        replace c7 := of_decide_eq_true c7
                        refine cw_skip ?_
                        refine cw_seq ?_
                        refine cw_block ?_
                        refine cw_seq ?_
                        refine cw_reg0 tok rfl rfl ?_
                        refine c0 rfl (w_v (I64 (k : Int)) rfl ?_)
                        refine c0 rfl (w_ixo ((k : Int)) rfl rfl rfl rfl (by (try simp) <;> (try omega)) (by omega) (by omega) ?_)
                        obtain ⟨z, hz⟩ := getE (l := h) (i := k) (by first | omega | (simp; omega))
                        refine c0 rfl (w_ldo (iP z) (iP z) rfl rfl (by (try simp) <;> (try omega)) (getM hz) rfl rfl ?_)
                        refine c0 rfl (w_v (I64 (k : Int)) rfl ?_)
                        refine c0 rfl (w_v (I64 z) rfl ?_)
                        refine cn ?_
                        refine cw_seq ?_
                        refine cw_reg0 tok rfl rfl ?_
                        refine c0 rfl (w_v (I64 z) rfl ?_)
                        refine c0 rfl (w_v (I64 x) rfl ?_)
                        refine c0 rfl (w_eqi (z) (x) rfl rfl ?_)
                        refine cn ?_
                        refine cw_cond (t := decide (z = x)) rfl (fun c8 => ?_) (fun c8 => ?_)
                        ·
                          replace c8 := of_decide_eq_true c8
                          refine cw_reg0 tok rfl rfl ?_
                          refine c0 rfl (w_v (.os 21 0 ((cellsP (Sol.mk si sp sk) true []).length)) rfl ?_)
                          refine c0 rfl (w_v (I64 (k : Int)) rfl ?_)
                          refine c0 rfl (w_v (I64 y) rfl ?_)
                          refine c0 rfl (w_ixo ((k : Int)) rfl rfl rfl rfl (by (try simp) <;> (try omega)) (by omega) (by omega) ?_)
                          refine c0 rfl (w_stol ((h.set k y).map iP) (iP z) (iP y) _ rfl rfl rfl rfl rfl (getM hz) rfl rfl (by (try simp) <;> (try omega)) (Nat.zero_le _) rfl map_setP ?_)
                          refine cn ?_
                          refine cw_reg0 tok rfl rfl ?_
                          refine c0 rfl (w_i (((k + 1 : Nat) : Int)) rfl (by unfold inI; omega) ?_)
                          refine c0 rfl (w_v (I64 ((k + 1 : Nat) : Int)) rfl ?_)
                          refine cn ?_
                          exact ⟨_, _, by omega, wk_of (tms := [(3, .os 18 0 ((cellsP (Sol.mk si sp sk) true []).length)), (4, .os 21 0 ((cellsP (Sol.mk si sp sk) true []).length)), (5, I64 (n - 1)), (7, I64 (i : Int)), (8, .p (.sl 4 (a.map encP))), (11, I64 x), (12, I64 y), (34, .os 18 0 ((cellsP (Sol.mk si sp sk) true []).length)), (35, I64 (((cellsP (Sol.mk si sp sk) true []).length : Nat) : Int)), (36, I64 (i : Int)), (43, .p (.sl 1 (((cellsP (Sol.mk si sp sk) true []).take i).map (encL 4 encP)))), (44, I64 (i : Int)), (45, I64 (j : Int)), (60, .p (.sl 4 (a.map encP))), (61, .p (.sl 4 (b.map encP))), (62, BO (touch a b)), (63, BO (!(touch a b))), (75, .os 21 0 ((cellsP (Sol.mk si sp sk) true []).length)), (76, I64 (((cellsP (Sol.mk si sp sk) true []).length : Nat) : Int)), (77, I64 ((k + 1) : Int))]) (bls := [(18, 0, .arr 66 1 ((cellsP (Sol.mk si sp sk) true []).map (encL 4 encP)) (cellsP (Sol.mk si sp sk) true []).length), (21, 0, .arr 3 1 ((h.set k y).map iP) 0)]) (gens := [(18, 1), (21, 1)]) ⟨by first | rfl | exact congrArg (AV.os 18 0) (by (try simp) <;> (try omega)), by first | rfl | exact congrArg (AV.os 21 0) (by (try simp) <;> (try omega)), rfl, rfl, rfl, rfl, rfl, by first | rfl | exact congrArg (AV.os 18 0) (by (try simp) <;> (try omega)), rfl, rfl, rfl, rfl, rfl, rfl, rfl, rfl, rfl, by first | rfl | exact congrArg (AV.os 21 0) (by (try simp) <;> (try omega)), rfl, rfl, trivial⟩ ⟨rfl, rfl, trivial⟩ ⟨rfl, rfl, trivial⟩ rfl, (k + 1), (h.set k y), ⟨by (try simp) <;> omega, by rw [hh]; first | exact mixG_skip (hzg _ hz) (by assumption) | exact mixG_set (by rw [hzg _ hz]; simp_all)⟩, rfl, rfl⟩
                        ·
                          replace c8 := of_decide_eq_false c8
                          refine cw_skip ?_
                          refine cw_reg0 tok rfl rfl ?_
                          refine c0 rfl (w_i (((k + 1 : Nat) : Int)) rfl (by unfold inI; omega) ?_)
                          refine c0 rfl (w_v (I64 ((k + 1 : Nat) : Int)) rfl ?_)
                          refine cn ?_
                          exact ⟨_, _, by omega, wk_of (tms := [(3, .os 18 0 ((cellsP (Sol.mk si sp sk) true []).length)), (4, .os 21 0 ((cellsP (Sol.mk si sp sk) true []).length)), (5, I64 (n - 1)), (7, I64 (i : Int)), (8, .p (.sl 4 (a.map encP))), (11, I64 x), (12, I64 y), (34, .os 18 0 ((cellsP (Sol.mk si sp sk) true []).length)), (35, I64 (((cellsP (Sol.mk si sp sk) true []).length : Nat) : Int)), (36, I64 (i : Int)), (43, .p (.sl 1 (((cellsP (Sol.mk si sp sk) true []).take i).map (encL 4 encP)))), (44, I64 (i : Int)), (45, I64 (j : Int)), (60, .p (.sl 4 (a.map encP))), (61, .p (.sl 4 (b.map encP))), (62, BO (touch a b)), (63, BO (!(touch a b))), (75, .os 21 0 ((cellsP (Sol.mk si sp sk) true []).length)), (76, I64 (((cellsP (Sol.mk si sp sk) true []).length : Nat) : Int)), (77, I64 ((k + 1) : Int))]) (bls := [(18, 0, .arr 66 1 ((cellsP (Sol.mk si sp sk) true []).map (encL 4 encP)) (cellsP (Sol.mk si sp sk) true []).length), (21, 0, .arr 3 1 (h.map iP) 0)]) (gens := [(18, 1), (21, 1)]) ⟨by first | rfl | exact congrArg (AV.os 18 0) (by (try simp) <;> (try omega)), by first | rfl | exact congrArg (AV.os 21 0) (by (try simp) <;> (try omega)), rfl, rfl, rfl, rfl, rfl, by first | rfl | exact congrArg (AV.os 18 0) (by (try simp) <;> (try omega)), rfl, rfl, rfl, rfl, rfl, rfl, rfl, rfl, rfl, by first | rfl | exact congrArg (AV.os 21 0) (by (try simp) <;> (try omega)), rfl, rfl, trivial⟩ ⟨rfl, rfl, trivial⟩ ⟨rfl, rfl, trivial⟩ rfl, (k + 1), h, ⟨by (try simp) <;> omega, by rw [hh]; first | exact mixG_skip (hzg _ hz) (by assumption) | exact mixG_set (by rw [hzg _ hz]; simp_all)⟩, rfl, rfl⟩
                      ·
                        replace c7 := of_decide_eq_false c7
                        refine cw_exit ?_
                        refine cw_reg0 tok rfl rfl ?_
                        refine c0 rfl (w_i (((j + 1 : Nat) : Int)) rfl (by unfold inI; omega) ?_)
                        refine c0 rfl (w_v (I64 ((j + 1 : Nat) : Int)) rfl ?_)
                        refine cn ?_
                        exact ⟨_, _, by omega, wk_of (tms := [(3, .os 18 0 ((cellsP (Sol.mk si sp sk) true []).length)), (4, .os 21 0 ((cellsP (Sol.mk si sp sk) true []).length)), (5, I64 (n - 1)), (7, I64 (i : Int)), (8, .p (.sl 4 (a.map encP))), (34, .os 18 0 ((cellsP (Sol.mk si sp sk) true []).length)), (35, I64 (((cellsP (Sol.mk si sp sk) true []).length : Nat) : Int)), (36, I64 (i : Int)), (43, .p (.sl 1 (((cellsP (Sol.mk si sp sk) true []).take i).map (encL 4 encP)))), (44, I64 (i : Int)), (45, I64 ((j + 1) : Int))]) (bls := [(18, 0, .arr 66 1 ((cellsP (Sol.mk si sp sk) true []).map (encL 4 encP)) (cellsP (Sol.mk si sp sk) true []).length), (21, 0, .arr 3 1 (h.map iP) 0)]) (gens := [(18, 1), (21, 1)]) ⟨by first | rfl | exact congrArg (AV.os 18 0) (by (try simp) <;> (try omega)), by first | rfl | exact congrArg (AV.os 21 0) (by (try simp) <;> (try omega)), rfl, rfl, rfl, by first | rfl | exact congrArg (AV.os 18 0) (by (try simp) <;> (try omega)), rfl, rfl, rfl, rfl, rfl, trivial⟩ ⟨rfl, rfl, trivial⟩ ⟨rfl, rfl, trivial⟩ rfl, (j + 1), h, (n - 1), ⟨by omega, by rw [hrow]; first | exact step_skip hx hy (.inl (by assumption)) | exact step_skip hx hy (.inr (by unfold touchT; rw [getDL ha, getDL (tkG hb).2]; assumption)) | (rw [hh, mixG_all _ _ _ (by omega)]; exact step_do hx hy (by assumption) (by unfold touchT; rw [getDL ha, getDL (tkG hb).2]; assumption)), by first | exact hcn | (rw [hh, mixG_all _ _ _ (by omega)]; have := card_relabel (List.mem_of_getElem? hx) (List.mem_of_getElem? hy) (by assumption); omega)⟩, rfl, rfl⟩
              ·
                replace c4 := of_decide_eq_false c4
                refine cw_exit ?_
                refine cw_reg0 tok rfl rfl ?_
                refine c0 rfl (w_i (((i + 1 : Nat) : Int)) rfl (by unfold inI; omega) ?_)
                refine c0 rfl (w_v (I64 ((i + 1 : Nat) : Int)) rfl ?_)
                refine cn ?_
                exact ⟨_, _, by omega, Wk.trans (wk_seal (t := 18) (g := 0) (n := (cellsP (Sol.mk si sp sk) true []).length) rfl (by simp)) (wk_of (tms := [(3, .os 18 0 ((cellsP (Sol.mk si sp sk) true []).length)), (4, .os 21 0 ((cellsP (Sol.mk si sp sk) true []).length)), (5, I64 n), (34, .os 18 0 ((cellsP (Sol.mk si sp sk) true []).length)), (35, I64 (((cellsP (Sol.mk si sp sk) true []).length : Nat) : Int)), (36, I64 ((i + 1) : Int))]) (bls := [(18, 0, .arr 66 1 ((cellsP (Sol.mk si sp sk) true []).map (encL 4 encP)) (cellsP (Sol.mk si sp sk) true []).length), (21, 0, .arr 3 1 (g.map iP) 0)]) (gens := [(18, 1), (21, 1)]) ⟨by first | rfl | exact congrArg (AV.os 18 0) (by (try simp) <;> (try omega)), by first | rfl | exact congrArg (AV.os 21 0) (by (try simp) <;> (try omega)), rfl, by first | rfl | exact congrArg (AV.os 18 0) (by (try simp) <;> (try omega)), rfl, rfl, trivial⟩ ⟨rfl, rfl, trivial⟩ ⟨rfl, rfl, trivial⟩ rfl), (i + 1), g, n, ⟨by omega, by rw [hg, show j = i by omega]; rfl, hcn⟩, rfl, rfl⟩
          ·
            replace c3 := of_decide_eq_false c3
            refine cw_exit ?_
            refine cw_seq ?_
            refine cw_reg0 tok rfl rfl ?_
            refine c0 rfl (w_v (I64 n) rfl ?_)
            refine c0 rfl (w_v (I64 n) rfl ?_)
            refine cn ?_
            refine cw_ret ?_
            exact fin1 (iP n) (iP (piecesI (Sol.mk si sp sk) : Int)) rfl (congrArg iP (by rw [hcn, hg, show i = (cellsP (Sol.mk si sp sk) true []).length by omega]; simp [piecesI, hsok] : n = (piecesI (Sol.mk si sp sk) : Int))) rfl
theorem spieces_fn (si : Bool) (sp : Pl) (sk : List Sol) (hf : fits (Sol.mk si sp sk)) : Fn PP 17 [.p (encS (Sol.mk si sp sk))] (.p (iP (piecesS (Sol.mk si sp sk) : Int))) [] := by
  refine fn_intro tok Go.Proofs.Try.func17 (c := _) rfl rfl (Nat.le_of_ble_eq_true rfl) ?_
  refine cw_seq ?_
  refine cw_reg0 tok rfl rfl ?_
  refine c0 rfl (w_box (g := 0) [BO si, I64 sp.a, I64 sp.b, I64 sp.c, I64 sp.d, .p (.sl 6 (encSs sk))] rfl rfl rfl ?_)
  refine c0 rfl (w_v (I64 0) rfl ?_)
  refine cn ?_
  refine cw_seq ?_
  refine cw_reg0 tok rfl rfl ?_
  refine c0 rfl (w_v (.p (encS (Sol.mk si sp sk))) rfl ?_)
  refine c0 rfl (w_call_2 (sCells (Sol.mk si sp sk) true hf) rfl rfl rfl ?_)
  refine c0 rfl (w_v (.p (.sl 1 ((cellsOf (Sol.mk si sp sk) true).map (encL 4 encP)))) rfl ?_)
  refine cn ?_
  refine cw_seq ?_
  refine cw_reg0 tok rfl rfl ?_
  refine c0 rfl (w_v (.p (encS (Sol.mk si sp sk))) rfl ?_)
  refine c0 rfl (w_call_1 (sPlanesOf (Sol.mk si sp sk) hf) rfl rfl ?_)
  refine c0 rfl (w_v (.p (.sl 4 ((planesOfS (Sol.mk si sp sk)).map encP))) rfl ?_)
  refine cn ?_
  refine cw_seq ?_
  refine cw_reg0 tok rfl rfl ?_
  refine c0 rfl (w_bsl (g := 0) [] rfl rfl rfl rfl (Nat.le_of_ble_eq_true rfl) (Nat.le_of_ble_eq_true rfl) (Nat.le_of_ble_eq_true rfl) (.nil _) rfl rfl ?_)
  refine c0 rfl (w_v (.os 20 0 0) rfl ?_)
  refine cn ?_
  refine cw_seq ?_
  refine cw_seq ?_
  refine cw_reg0 tok rfl rfl ?_
  refine c0 rfl (w_v (I64 0) rfl ?_)
  refine cn ?_
  refine cw_block ?_
  have hcl := cellsOf_le (Sol.mk si sp sk) true; have hpl := planesOf_le (Sol.mk si sp sk)
  refine cw_loopI (fun nn S => ∃ i : Nat, ∃ g : List Int, ((i ≤ (cellsOf (Sol.mk si sp sk) true).length ∧ g.length = i) ∧ g = g0 i) ∧ nn = (cellsOf (Sol.mk si sp sk) true).length - i ∧ S = mkS [(3, .p (.sl 1 ((cellsOf (Sol.mk si sp sk) true).map (encL 4 encP)))), (4, .p (.sl 4 ((planesOfS (Sol.mk si sp sk)).map encP))), (5, .os 20 0 g.length), (6, I64 (i : Int))] [(20, 0, .arr 3 1 (g.map iP) 0)] [(20, 1)]) ((cellsOf (Sol.mk si sp sk) true).length - 0) ?_ ?_
  · exact ⟨_, wk_of (tms := [(3, .p (.sl 1 ((cellsOf (Sol.mk si sp sk) true).map (encL 4 encP)))), (4, .p (.sl 4 ((planesOfS (Sol.mk si sp sk)).map encP))), (5, .os 20 0 (([] : List Int).length)), (6, I64 (0 : Int))]) (bls := [(20, 0, .arr 3 1 (([] : List Int).map iP) 0)]) (gens := [(20, 1)]) ⟨rfl, rfl, by first | rfl | exact congrArg (AV.os 20 0) (by (try simp) <;> (try omega)), rfl, trivial⟩ ⟨rfl, trivial⟩ ⟨rfl, trivial⟩ rfl, 0, ([] : List Int), ⟨by simp, rfl⟩, rfl, rfl⟩
  · rintro nn _ ⟨i, g, ⟨⟨hi, hgl⟩, hg⟩, hn1, rfl⟩
    refine cw_seq ?_
    refine cw_seq ?_
    refine cw_reg0 tok rfl rfl ?_
    refine c0 rfl (w_v (I64 (i : Int)) rfl ?_)
    refine c0 rfl (w_v (.p (.sl 1 ((cellsOf (Sol.mk si sp sk) true).map (encL 4 encP)))) rfl ?_)
    refine c0 rfl (w_len ((cellsOf (Sol.mk si sp sk) true).length) rfl rfl (by simp) ?_)
    refine c0 rfl (w_v (BO (decide ((i : Int) < ((cellsOf (Sol.mk si sp sk) true).length : Int)))) rfl ?_)
    refine cn ?_
    refine cw_cond (t := decide ((i : Int) < ((cellsOf (Sol.mk si sp sk) true).length : Int))) rfl (fun c1 => ?_) (fun c1 => ?_)
    ·
      replace c1 := of_decide_eq_true c1
      refine cw_skip ?_
      refine cw_seq ?_
      refine cw_block ?_
      refine cw_reg0 tok rfl rfl ?_
      refine c0 rfl (w_v (.os 20 0 g.length) rfl ?_)
      refine c0 rfl (w_v (I64 (i : Int)) rfl ?_)
      refine c0 rfl (w_bsl (g := 1) [iP (i : Int)] rfl rfl rfl rfl (Nat.le_of_ble_eq_true rfl) (Nat.le_of_ble_eq_true rfl) (Nat.le_of_ble_eq_true rfl) (.cons _ _ _ _ _ _ _ [] [] (.one _ _ _ _ _ (.p _ _)) (.nil _)) rfl rfl ?_)
      refine c0 rfl (w_appo ([(i : Int)].map iP) ((g ++ [(i : Int)]).map iP) ((g ++ [(i : Int)]).length) rfl rfl rfl rfl rfl (list_os rfl rfl) (Nat.le_of_ble_eq_true rfl) (sz_map fun _ => rfl) (by (try simp) <;> (try omega)) rfl rfl (by show (_ + _) * 8 ≤ _; (try simp) <;> omega) (by (try simp) <;> omega) List.map_append.symm (by (try simp) <;> omega) ?_)
      refine c0 rfl (w_v (.os 20 0 ((g ++ [(i : Int)]).length)) rfl ?_)
      refine cn ?_
      refine cw_reg0 tok rfl rfl ?_
      refine c0 rfl (w_v (I64 (i : Int)) rfl ?_)
      refine c0 rfl (w_i (((i + 1 : Nat) : Int)) rfl (by unfold inI; omega) ?_)
      refine c0 rfl (w_v (I64 ((i + 1 : Nat) : Int)) rfl ?_)
      refine cn ?_
      exact ⟨_, _, by omega, wk_of (tms := [(3, .p (.sl 1 ((cellsOf (Sol.mk si sp sk) true).map (encL 4 encP)))), (4, .p (.sl 4 ((planesOfS (Sol.mk si sp sk)).map encP))), (5, .os 20 0 ((g ++ [(i : Int)]).length)), (6, I64 ((i + 1) : Int))]) (bls := [(20, 0, .arr 3 1 ((g ++ [(i : Int)]).map iP) 0)]) (gens := [(20, 1)]) ⟨rfl, rfl, by first | rfl | exact congrArg (AV.os 20 0) (by (try simp) <;> (try omega)), rfl, trivial⟩ ⟨rfl, trivial⟩ ⟨rfl, trivial⟩ rfl, (i + 1), (g ++ [(i : Int)]), ⟨by simp; omega, by rw [hg]; exact g0_su i⟩, rfl, rfl⟩
    ·
      replace c1 := of_decide_eq_false c1
      refine cw_exit ?_
      refine cw_seq ?_
      refine cw_seq ?_
      refine cw_reg0 tok rfl rfl ?_
      refine c0 rfl (w_v (I64 0) rfl ?_)
      refine cn ?_
      refine cw_block ?_
      have hg0 : g = g0 (cellsOf (Sol.mk si sp sk) true).length := by rw [hg]; congr 1; omega
      refine cw_loopI (fun nn S => ∃ i : Nat, ∃ g : List Int, ((i ≤ (cellsOf (Sol.mk si sp sk) true).length ∧ g.length = (cellsOf (Sol.mk si sp sk) true).length) ∧ g = allG (meetT (cellsOf (Sol.mk si sp sk) true) (planesOfS (Sol.mk si sp sk))) (g0 (cellsOf (Sol.mk si sp sk) true).length) i) ∧ nn = (cellsOf (Sol.mk si sp sk) true).length - i ∧ S = mkS [(3, .p (.sl 1 ((cellsOf (Sol.mk si sp sk) true).map (encL 4 encP)))), (4, .p (.sl 4 ((planesOfS (Sol.mk si sp sk)).map encP))), (5, .os 20 0 ((cellsOf (Sol.mk si sp sk) true).length)), (7, I64 (i : Int))] [(20, 0, .arr 3 1 (g.map iP) 0)] [(20, 1)]) ((cellsOf (Sol.mk si sp sk) true).length - 0) ?_ ?_
      · exact ⟨_, wk_of (tms := [(3, .p (.sl 1 ((cellsOf (Sol.mk si sp sk) true).map (encL 4 encP)))), (4, .p (.sl 4 ((planesOfS (Sol.mk si sp sk)).map encP))), (5, .os 20 0 ((cellsOf (Sol.mk si sp sk) true).length)), (7, I64 (0 : Int))]) (bls := [(20, 0, .arr 3 1 (g.map iP) 0)]) (gens := [(20, 1)]) ⟨rfl, rfl, by first | rfl | exact congrArg (AV.os 20 0) (by (try simp) <;> (try omega)), rfl, trivial⟩ ⟨rfl, trivial⟩ ⟨rfl, trivial⟩ rfl, 0, g, ⟨by omega, hg0⟩, rfl, rfl⟩
      · rintro nn _ ⟨i, g, ⟨⟨hi, hgl⟩, hg⟩, hn2, rfl⟩
        refine cw_seq ?_
        refine cw_seq ?_
        refine cw_reg0 tok rfl rfl ?_
        refine c0 rfl (w_v (I64 (i : Int)) rfl ?_)
        refine c0 rfl (w_v (.p (.sl 1 ((cellsOf (Sol.mk si sp sk) true).map (encL 4 encP)))) rfl ?_)
        refine c0 rfl (w_len ((cellsOf (Sol.mk si sp sk) true).length) rfl rfl (by simp) ?_)
        refine c0 rfl (w_v (BO (decide ((i : Int) < ((cellsOf (Sol.mk si sp sk) true).length : Int)))) rfl ?_)
        refine cn ?_
        refine cw_cond (t := decide ((i : Int) < ((cellsOf (Sol.mk si sp sk) true).length : Int))) rfl (fun c2 => ?_) (fun c2 => ?_)
        ·
          replace c2 := of_decide_eq_true c2
          refine cw_skip ?_
          refine cw_seq ?_
          refine cw_block ?_
          refine cw_seq ?_
          refine cw_reg0 tok rfl rfl ?_
          refine c0 rfl (w_v (I64 0) rfl ?_)
          refine cn ?_
          refine cw_block ?_
          refine cw_loopI (fun nn S => ∃ k : Nat, ∃ g : List Int, ((k ≤ i ∧ g.length = (cellsOf (Sol.mk si sp sk) true).length) ∧ g = rowG (meetT (cellsOf (Sol.mk si sp sk) true) (planesOfS (Sol.mk si sp sk))) (allG (meetT (cellsOf (Sol.mk si sp sk) true) (planesOfS (Sol.mk si sp sk))) (g0 (cellsOf (Sol.mk si sp sk) true).length) i) i k) ∧ nn = i - k ∧ S = mkS [(3, .p (.sl 1 ((cellsOf (Sol.mk si sp sk) true).map (encL 4 encP)))), (4, .p (.sl 4 ((planesOfS (Sol.mk si sp sk)).map encP))), (5, .os 20 0 ((cellsOf (Sol.mk si sp sk) true).length)), (7, I64 (i : Int)), (8, I64 (k : Int))] [(20, 0, .arr 3 1 (g.map iP) 0)] [(20, 1)]) (i - 0) ?_ ?_
          · exact ⟨_, wk_of (tms := [(3, .p (.sl 1 ((cellsOf (Sol.mk si sp sk) true).map (encL 4 encP)))), (4, .p (.sl 4 ((planesOfS (Sol.mk si sp sk)).map encP))), (5, .os 20 0 ((cellsOf (Sol.mk si sp sk) true).length)), (7, I64 (i : Int)), (8, I64 (0 : Int))]) (bls := [(20, 0, .arr 3 1 (g.map iP) 0)]) (gens := [(20, 1)]) ⟨rfl, rfl, by first | rfl | exact congrArg (AV.os 20 0) (by (try simp) <;> (try omega)), rfl, rfl, trivial⟩ ⟨rfl, trivial⟩ ⟨rfl, trivial⟩ rfl, 0, g, ⟨by omega, hg⟩, rfl, rfl⟩
          · rintro nn _ ⟨k, g, ⟨⟨hk, hgl⟩, hg⟩, hn3, rfl⟩
            have hrow : rowG (meetT (cellsOf (Sol.mk si sp sk) true) (planesOfS (Sol.mk si sp sk))) (allG (meetT (cellsOf (Sol.mk si sp sk) true) (planesOfS (Sol.mk si sp sk))) (g0 (cellsOf (Sol.mk si sp sk) true).length) i) i (k + 1) = stepG (meetT (cellsOf (Sol.mk si sp sk) true) (planesOfS (Sol.mk si sp sk))) g i k := by rw [hg]; rfl
            refine cw_seq ?_
            refine cw_seq ?_
            refine cw_reg0 tok rfl rfl ?_
            refine c0 rfl (w_v (I64 (k : Int)) rfl ?_)
            refine c0 rfl (w_v (I64 (i : Int)) rfl ?_)
            refine c0 rfl (w_v (BO (decide ((k : Int) < (i : Int)))) rfl ?_)
            refine cn ?_
            refine cw_cond (t := decide ((k : Int) < (i : Int))) rfl (fun c3 => ?_) (fun c3 => ?_)
            ·
              replace c3 := of_decide_eq_true c3
              refine cw_skip ?_
              refine cw_seq ?_
              refine cw_block ?_
              refine cw_seq ?_
              refine cw_reg0 tok rfl rfl ?_
              refine c0 rfl (w_v (I64 0) rfl ?_)
              refine cn ?_
              refine cw_block ?_
              refine cw_loopI (fun nn S => ∃ m : Nat, ∃ h : List Int, ((m ≤ (planesOfS (Sol.mk si sp sk)).length ∧ h.length = (cellsOf (Sol.mk si sp sk) true).length) ∧ mI (fun p => meetS ((cellsOf (Sol.mk si sp sk) true).getD i []) ((cellsOf (Sol.mk si sp sk) true).getD k []) p) (planesOfS (Sol.mk si sp sk)) g i k m h) ∧ nn = (planesOfS (Sol.mk si sp sk)).length - m ∧ S = mkS [(3, .p (.sl 1 ((cellsOf (Sol.mk si sp sk) true).map (encL 4 encP)))), (4, .p (.sl 4 ((planesOfS (Sol.mk si sp sk)).map encP))), (5, .os 20 0 ((cellsOf (Sol.mk si sp sk) true).length)), (7, I64 (i : Int)), (8, I64 (k : Int)), (9, I64 (m : Int))] [(20, 0, .arr 3 1 (h.map iP) 0)] [(20, 1)]) ((planesOfS (Sol.mk si sp sk)).length - 0) ?_ ?_
              · exact ⟨_, wk_of (tms := [(3, .p (.sl 1 ((cellsOf (Sol.mk si sp sk) true).map (encL 4 encP)))), (4, .p (.sl 4 ((planesOfS (Sol.mk si sp sk)).map encP))), (5, .os 20 0 ((cellsOf (Sol.mk si sp sk) true).length)), (7, I64 (i : Int)), (8, I64 (k : Int)), (9, I64 (0 : Int))]) (bls := [(20, 0, .arr 3 1 (g.map iP) 0)]) (gens := [(20, 1)]) ⟨rfl, rfl, by first | rfl | exact congrArg (AV.os 20 0) (by (try simp) <;> (try omega)), rfl, rfl, rfl, trivial⟩ ⟨rfl, trivial⟩ ⟨rfl, trivial⟩ rfl, 0, g, ⟨by omega, mI.z⟩, rfl, rfl⟩
              · rintro nn _ ⟨m, h, ⟨⟨hm, hhl⟩, hmi⟩, hn4, rfl⟩
                refine cw_seq ?_
                refine cw_seq ?_
                refine cw_reg1 tok mixed rfl rfl ?_
                refine c0 rfl (w_v (I64 (m : Int)) rfl ?_)
                refine c0 rfl (w_v (.p (.sl 4 ((planesOfS (Sol.mk si sp sk)).map encP))) rfl ?_)
                refine c0 rfl (w_len ((planesOfS (Sol.mk si sp sk)).length) rfl rfl (by simp) ?_)
                refine c0 rfl (w_v (BO (decide ((m : Int) < ((planesOfS (Sol.mk si sp sk)).length : Int)))) rfl ?_)
                refine c0 rfl (w_v (BO (decide ((m : Int) < ((planesOfS (Sol.mk si sp sk)).length : Int)))) rfl ?_)
                refine cgS (b := decide ((m : Int) < ((planesOfS (Sol.mk si sp sk)).length : Int))) rfl rfl rfl (fun c4 => ?_) (fun c4 => ?_)
                ·
                  replace c4 := of_decide_eq_true c4
                  refine cgT rfl rfl rfl (w_v (.os 20 0 ((cellsOf (Sol.mk si sp sk) true).length)) rfl ?_)
                  refine cgT rfl rfl rfl (w_v (I64 (i : Int)) rfl ?_)
                  refine cgT rfl rfl rfl (w_ixo ((i : Int)) rfl rfl rfl rfl (by (try simp) <;> (try omega)) (by omega) (by omega) ?_)
                  obtain ⟨x, hx⟩ := getE (l := h) (i := i) (by first | omega | (simp; omega))
                  refine cgT rfl rfl rfl (w_ldo (iP x) (iP x) rfl rfl (by (try simp) <;> (try omega)) (getM hx) rfl rfl ?_)
                  refine cgT rfl rfl rfl (w_v (.os 20 0 ((cellsOf (Sol.mk si sp sk) true).length)) rfl ?_)
                  refine cgT rfl rfl rfl (w_v (I64 (k : Int)) rfl ?_)
                  refine cgT rfl rfl rfl (w_ixo ((k : Int)) rfl rfl rfl rfl (by (try simp) <;> (try omega)) (by omega) (by omega) ?_)
                  obtain ⟨y, hy⟩ := getE (l := h) (i := k) (by first | omega | (simp; omega))
                  refine cgT rfl rfl rfl (w_ldo (iP y) (iP y) rfl rfl (by (try simp) <;> (try omega)) (getM hy) rfl rfl ?_)
                  refine cgT rfl rfl rfl (w_nei (x) (y) rfl rfl ?_)
                  refine c0 rfl (w_v (BO (decide (x ≠ y))) rfl ?_)
                  refine cn ⟨by kernel_rfl, ?_⟩
                  refine cw_cond (t := decide (x ≠ y)) rfl (fun c5 => ?_) (fun c5 => ?_)
                  ·
                    replace c5 := of_decide_eq_true c5
                    refine cw_skip ?_
                    refine cw_seq ?_
                    refine cw_block ?_
                    refine cw_seq ?_
                    refine cw_reg1 tok mixed rfl rfl ?_
                    refine c0 rfl (w_v (.p (.sl 1 ((cellsOf (Sol.mk si sp sk) true).map (encL 4 encP)))) rfl ?_)
                    refine c0 rfl (w_v (I64 (i : Int)) rfl ?_)
                    obtain ⟨a, ha⟩ := getE (l := cellsOf (Sol.mk si sp sk) true) (i := i) (by first | omega | (simp; omega))
                    refine c0 rfl (w_ix ((i : Int)) (.sl 4 (a.map encP)) rfl rfl rfl (by omega) (getM ha) ?_)
                    refine c0 rfl (w_v (.p (.sl 4 (a.map encP))) rfl ?_)
                    refine c0 rfl (w_v (.p (.sl 1 ((cellsOf (Sol.mk si sp sk) true).map (encL 4 encP)))) rfl ?_)
                    refine c0 rfl (w_v (I64 (k : Int)) rfl ?_)
                    obtain ⟨b, hb⟩ := getE (l := cellsOf (Sol.mk si sp sk) true) (i := k) (by first | omega | (simp; omega))
                    refine c0 rfl (w_ix ((k : Int)) (.sl 4 (b.map encP)) rfl rfl rfl (by omega) (getM hb) ?_)
                    refine c0 rfl (w_v (.p (.sl 4 (b.map encP))) rfl ?_)
                    refine c0 rfl (w_v (.p (.sl 4 ((planesOfS (Sol.mk si sp sk)).map encP))) rfl ?_)
                    refine c0 rfl (w_v (I64 (m : Int)) rfl ?_)
                    obtain ⟨p, hp⟩ := getE (l := planesOfS (Sol.mk si sp sk)) (i := m) (by first | omega | (simp; omega))
                    refine c0 rfl (w_ix ((m : Int)) (encP p) rfl rfl rfl (by omega) (getM hp) ?_)
                    refine c0 rfl (w_v (.p (encP p)) rfl ?_)
                    refine c0 rfl (w_call_3 (meet_fn a b p (cellsOf_ok ha).1 (cellsOf_ok hb).1 (planesOf_ok hp) (Nat.le_trans (cellsOf_ok ha).2 (by omega)) (Nat.le_trans (cellsOf_ok hb).2 (by omega))) rfl rfl rfl rfl ?_)
                    refine cn ⟨by kernel_rfl, ?_⟩
                    refine cw_cond (t := meetS a b p) rfl (fun c6 => ?_) (fun c6 => ?_)
                    ·
                      refine cw_seq ?_
                      refine cw_reg0 tok rfl rfl ?_
                      refine c0 rfl (w_v (.os 20 0 ((cellsOf (Sol.mk si sp sk) true).length)) rfl ?_)
                      refine c0 rfl (w_v (I64 (i : Int)) rfl ?_)
                      refine c0 rfl (w_ixo ((i : Int)) rfl rfl rfl rfl (by (try simp) <;> (try omega)) (by omega) (by omega) ?_)
                      refine c0 rfl (w_ldo (iP x) (iP x) rfl rfl (by (try simp) <;> (try omega)) (getM hx) rfl rfl ?_)
                      refine c0 rfl (w_v (I64 x) rfl ?_)
                      refine cn ?_
                      refine cw_seq ?_
                      refine cw_reg0 tok rfl rfl ?_
                      refine c0 rfl (w_v (I64 0) rfl ?_)
                      refine cn ?_
                      refine cw_block ?_
                      refine cw_loopI (fun nn S => ∃ n : Nat, ∃ f : List Int, ((n ≤ (cellsOf (Sol.mk si sp sk) true).length ∧ f.length = (cellsOf (Sol.mk si sp sk) true).length) ∧ f = mixG h x y n) ∧ nn = (cellsOf (Sol.mk si sp sk) true).length - n ∧ S = mkS [(3, .p (.sl 1 ((cellsOf (Sol.mk si sp sk) true).map (encL 4 encP)))), (4, .p (.sl 4 ((planesOfS (Sol.mk si sp sk)).map encP))), (5, .os 20 0 ((cellsOf (Sol.mk si sp sk) true).length)), (7, I64 (i : Int)), (8, I64 (k : Int)), (9, I64 (m : Int)), (10, I64 x), (11, I64 (n : Int)), (47, .os 20 0 ((cellsOf (Sol.mk si sp sk) true).length)), (48, I64 (i : Int)), (49, .pe 20 0 ((cellsOf (Sol.mk si sp sk) true).length) i 0), (50, I64 x), (51, .os 20 0 ((cellsOf (Sol.mk si sp sk) true).length)), (52, I64 (k : Int)), (53, .pe 20 0 ((cellsOf (Sol.mk si sp sk) true).length) k 0), (54, I64 y), (55, BO (decide (x ≠ y)))] [(20, 0, .arr 3 1 (f.map iP) 0)] [(20, 1)]) ((cellsOf (Sol.mk si sp sk) true).length - 0) ?_ ?_
                      · exact ⟨_, wk_of (tms := [(3, .p (.sl 1 ((cellsOf (Sol.mk si sp sk) true).map (encL 4 encP)))), (4, .p (.sl 4 ((planesOfS (Sol.mk si sp sk)).map encP))), (5, .os 20 0 ((cellsOf (Sol.mk si sp sk) true).length)), (7, I64 (i : Int)), (8, I64 (k : Int)), (9, I64 (m : Int)), (10, I64 x), (11, I64 (0 : Int)), (47, .os 20 0 ((cellsOf (Sol.mk si sp sk) true).length)), (48, I64 (i : Int)), (49, .pe 20 0 ((cellsOf (Sol.mk si sp sk) true).length) i 0), (50, I64 x), (51, .os 20 0 ((cellsOf (Sol.mk si sp sk) true).length)), (52, I64 (k : Int)), (53, .pe 20 0 ((cellsOf (Sol.mk si sp sk) true).length) k 0), (54, I64 y), (55, BO (decide (x ≠ y)))]) (bls := [(20, 0, .arr 3 1 (h.map iP) 0)]) (gens := [(20, 1)]) ⟨rfl, rfl, by first | rfl | exact congrArg (AV.os 20 0) (by (try simp) <;> (try omega)), rfl, rfl, rfl, rfl, rfl, by first | rfl | exact congrArg (AV.os 20 0) (by (try simp) <;> (try omega)), rfl, rfl, rfl, by first | rfl | exact congrArg (AV.os 20 0) (by (try simp) <;> (try omega)), rfl, rfl, rfl, rfl, trivial⟩ ⟨rfl, trivial⟩ ⟨rfl, trivial⟩ rfl, 0, h, ⟨by omega, (mixG_0 _ _ _).symm⟩, rfl, rfl⟩
                      · rintro nn _ ⟨n, f, ⟨⟨hn, hfl⟩, hf2⟩, hn5, rfl⟩
                        refine cw_seq ?_
                        refine cw_seq ?_
                        refine cw_reg0 tok rfl rfl ?_
                        refine c0 rfl (w_v (I64 (n : Int)) rfl ?_)
                        refine c0 rfl (w_v (.os 20 0 ((cellsOf (Sol.mk si sp sk) true).length)) rfl ?_)
                        refine c0 rfl (w_leno rfl rfl rfl (by (try simp) <;> (try omega)) ?_)
                        refine c0 rfl (w_v (BO (decide ((n : Int) < (((cellsOf (Sol.mk si sp sk) true).length : Nat) : Int)))) rfl ?_)
                        refine cn ?_
                        refine cw_cond (t := decide ((n : Int) < (((cellsOf (Sol.mk si sp sk) true).length : Nat) : Int))) rfl (fun c7 => ?_) (fun c7 => ?_)
                        ·
                          replace c7 := of_decide_eq_true c7
                          refine cw_skip ?_
                          refine cw_seq ?_
                          refine cw_block ?_
                          refine cw_seq ?_
                          refine cw_reg0 tok rfl rfl ?_
                          refine c0 rfl (w_v (.os 20 0 ((cellsOf (Sol.mk si sp sk) true).length)) rfl ?_)
                          refine c0 rfl (w_v (I64 (n : Int)) rfl ?_)
                          refine c0 rfl (w_ixo ((n : Int)) rfl rfl rfl rfl (by (try simp) <;> (try omega)) (by omega) (by omega) ?_)
                          obtain ⟨z, hz⟩ := getE (l := f) (i := n) (by first | omega | (simp; omega))
                          refine c0 rfl (w_ldo (iP z) (iP z) rfl rfl (by (try simp) <;> (try omega)) (getM hz) rfl rfl ?_)
                          refine c0 rfl (w_v (I64 x) rfl ?_)
                          refine c0 rfl (w_eqi (z) (x) rfl rfl ?_)
                          refine cn ?_
                          refine cw_cond (t := decide (z = x)) rfl (fun c8 => ?_) (fun c8 => ?_)
                          ·
                            replace c8 := of_decide_eq_true c8
                            refine cw_reg0 tok rfl rfl ?_
                            refine c0 rfl (w_v (.os 20 0 ((cellsOf (Sol.mk si sp sk) true).length)) rfl ?_)
                            refine c0 rfl (w_v (I64 (n : Int)) rfl ?_)
                            refine c0 rfl (w_v (.os 20 0 ((cellsOf (Sol.mk si sp sk) true).length)) rfl ?_)
                            refine c0 rfl (w_v (I64 (k : Int)) rfl ?_)
                            refine c0 rfl (w_ixo ((k : Int)) rfl rfl rfl rfl (by (try simp) <;> (try omega)) (by omega) (by omega) ?_)
                            obtain ⟨w, hw⟩ := getE (l := f) (i := k) (by first | omega | (simp; omega))
                            refine c0 rfl (w_ldo (iP w) (iP w) rfl rfl (by (try simp) <;> (try omega)) (getM hw) rfl rfl ?_)
                            refine c0 rfl (w_ixo ((n : Int)) rfl rfl rfl rfl (by (try simp) <;> (try omega)) (by omega) (by omega) ?_)
                            refine c0 rfl (w_stol ((f.set n w).map iP) (iP z) (iP w) _ rfl rfl rfl rfl rfl (getM hz) rfl rfl (by (try simp) <;> (try omega)) (Nat.zero_le _) rfl map_setP ?_)
                            refine cn ?_
                            refine cw_reg0 tok rfl rfl ?_
                            refine c0 rfl (w_v (I64 (n : Int)) rfl ?_)
                            refine c0 rfl (w_i (((n + 1 : Nat) : Int)) rfl (by unfold inI; omega) ?_)
                            refine c0 rfl (w_v (I64 ((n + 1 : Nat) : Int)) rfl ?_)
                            refine cn ?_
                            exact ⟨_, _, by omega, wk_of (tms := [(3, .p (.sl 1 ((cellsOf (Sol.mk si sp sk) true).map (encL 4 encP)))), (4, .p (.sl 4 ((planesOfS (Sol.mk si sp sk)).map encP))), (5, .os 20 0 ((cellsOf (Sol.mk si sp sk) true).length)), (7, I64 (i : Int)), (8, I64 (k : Int)), (9, I64 (m : Int)), (10, I64 x), (11, I64 ((n + 1) : Int)), (47, .os 20 0 ((cellsOf (Sol.mk si sp sk) true).length)), (48, I64 (i : Int)), (49, .pe 20 0 ((cellsOf (Sol.mk si sp sk) true).length) i 0), (50, I64 x), (51, .os 20 0 ((cellsOf (Sol.mk si sp sk) true).length)), (52, I64 (k : Int)), (53, .pe 20 0 ((cellsOf (Sol.mk si sp sk) true).length) k 0), (54, I64 y), (55, BO (decide (x ≠ y)))]) (bls := [(20, 0, .arr 3 1 ((f.set n w).map iP) 0)]) (gens := [(20, 1)]) ⟨rfl, rfl, by first | rfl | exact congrArg (AV.os 20 0) (by (try simp) <;> (try omega)), rfl, rfl, rfl, rfl, rfl, by first | rfl | exact congrArg (AV.os 20 0) (by (try simp) <;> (try omega)), rfl, rfl, rfl, by first | rfl | exact congrArg (AV.os 20 0) (by (try simp) <;> (try omega)), rfl, rfl, rfl, rfl, trivial⟩ ⟨rfl, trivial⟩ ⟨rfl, trivial⟩ rfl, (n + 1), (f.set n w), ⟨by (try simp) <;> omega, by first | (rw [hf2]; exact mixG_skip (mixG_n (by rw [← hf2]; exact hz)) (by assumption)) | (rw [show w = y from mixG_k hy (Ne.symm (by assumption)) (by rw [← hf2]; exact hw), hf2]; exact mixG_set (by have e := mixG_n (by rw [← hf2]; exact hz); rw [show z = x from by assumption] at e; exact e))⟩, rfl, rfl⟩
                          ·
                            replace c8 := of_decide_eq_false c8
                            refine cw_skip ?_
                            refine cw_reg0 tok rfl rfl ?_
                            refine c0 rfl (w_v (I64 (n : Int)) rfl ?_)
                            refine c0 rfl (w_i (((n + 1 : Nat) : Int)) rfl (by unfold inI; omega) ?_)
                            refine c0 rfl (w_v (I64 ((n + 1 : Nat) : Int)) rfl ?_)
                            refine cn ?_
                            exact ⟨_, _, by omega, wk_of (tms := [(3, .p (.sl 1 ((cellsOf (Sol.mk si sp sk) true).map (encL 4 encP)))), (4, .p (.sl 4 ((planesOfS (Sol.mk si sp sk)).map encP))), (5, .os 20 0 ((cellsOf (Sol.mk si sp sk) true).length)), (7, I64 (i : Int)), (8, I64 (k : Int)), (9, I64 (m : Int)), (10, I64 x), (11, I64 ((n + 1) : Int)), (47, .os 20 0 ((cellsOf (Sol.mk si sp sk) true).length)), (48, I64 (i : Int)), (49, .pe 20 0 ((cellsOf (Sol.mk si sp sk) true).length) i 0), (50, I64 x), (51, .os 20 0 ((cellsOf (Sol.mk si sp sk) true).length)), (52, I64 (k : Int)), (53, .pe 20 0 ((cellsOf (Sol.mk si sp sk) true).length) k 0), (54, I64 y), (55, BO (decide (x ≠ y)))]) (bls := [(20, 0, .arr 3 1 (f.map iP) 0)]) (gens := [(20, 1)]) ⟨rfl, rfl, by first | rfl | exact congrArg (AV.os 20 0) (by (try simp) <;> (try omega)), rfl, rfl, rfl, rfl, rfl, by first | rfl | exact congrArg (AV.os 20 0) (by (try simp) <;> (try omega)), rfl, rfl, rfl, by first | rfl | exact congrArg (AV.os 20 0) (by (try simp) <;> (try omega)), rfl, rfl, rfl, rfl, trivial⟩ ⟨rfl, trivial⟩ ⟨rfl, trivial⟩ rfl, (n + 1), f, ⟨by (try simp) <;> omega, by first | (rw [hf2]; exact mixG_skip (mixG_n (by rw [← hf2]; exact hz)) (by assumption)) | (rw [show w = y from mixG_k hy (Ne.symm (by assumption)) (by rw [← hf2]; exact hw), hf2]; exact mixG_set (by have e := mixG_n (by rw [← hf2]; exact hz); rw [show z = x from by assumption] at e; exact e))⟩, rfl, rfl⟩
                        ·
                          replace c7 := of_decide_eq_false c7
                          refine cw_exit ?_
                          refine cw_reg0 tok rfl rfl ?_
                          refine c0 rfl (w_v (I64 (m : Int)) rfl ?_)
                          refine c0 rfl (w_i (((m + 1 : Nat) : Int)) rfl (by unfold inI; omega) ?_)
                          refine c0 rfl (w_v (I64 ((m + 1 : Nat) : Int)) rfl ?_)
                          refine cn ?_
                          exact ⟨_, _, by omega, wk_of (tms := [(3, .p (.sl 1 ((cellsOf (Sol.mk si sp sk) true).map (encL 4 encP)))), (4, .p (.sl 4 ((planesOfS (Sol.mk si sp sk)).map encP))), (5, .os 20 0 ((cellsOf (Sol.mk si sp sk) true).length)), (7, I64 (i : Int)), (8, I64 (k : Int)), (9, I64 ((m + 1) : Int))]) (bls := [(20, 0, .arr 3 1 (f.map iP) 0)]) (gens := [(20, 1)]) ⟨rfl, rfl, by first | rfl | exact congrArg (AV.os 20 0) (by (try simp) <;> (try omega)), rfl, rfl, rfl, trivial⟩ ⟨rfl, trivial⟩ ⟨rfl, trivial⟩ rfl, (m + 1), f, ⟨by omega, by first | exact hmi.no hp (by show meetS _ _ p = false; rw [getDL ha, getDL hb]; assumption) | (rw [hf2, mixG_all _ _ _ (by omega)]; exact mI.yes (by omega) (by omega) hmi hx hy (by assumption) hp (by show meetS _ _ p = true; rw [getDL ha, getDL hb]; assumption))⟩, rfl, rfl⟩
                    ·
                      refine cw_skip ?_
                      refine cw_reg0 tok rfl rfl ?_
                      refine c0 rfl (w_v (I64 (m : Int)) rfl ?_)
                      refine c0 rfl (w_i (((m + 1 : Nat) : Int)) rfl (by unfold inI; omega) ?_)
                      refine c0 rfl (w_v (I64 ((m + 1 : Nat) : Int)) rfl ?_)
                      refine cn ?_
                      exact ⟨_, _, by omega, wk_of (tms := [(3, .p (.sl 1 ((cellsOf (Sol.mk si sp sk) true).map (encL 4 encP)))), (4, .p (.sl 4 ((planesOfS (Sol.mk si sp sk)).map encP))), (5, .os 20 0 ((cellsOf (Sol.mk si sp sk) true).length)), (7, I64 (i : Int)), (8, I64 (k : Int)), (9, I64 ((m + 1) : Int))]) (bls := [(20, 0, .arr 3 1 (h.map iP) 0)]) (gens := [(20, 1)]) ⟨rfl, rfl, by first | rfl | exact congrArg (AV.os 20 0) (by (try simp) <;> (try omega)), rfl, rfl, rfl, trivial⟩ ⟨rfl, trivial⟩ ⟨rfl, trivial⟩ rfl, (m + 1), h, ⟨by omega, by first | exact hmi.no hp (by show meetS _ _ p = false; rw [getDL ha, getDL hb]; assumption) | (rw [hf2, mixG_all _ _ _ (by omega)]; exact mI.yes (by omega) (by omega) hmi hx hy (by assumption) hp (by show meetS _ _ p = true; rw [getDL ha, getDL hb]; assumption))⟩, rfl, rfl⟩
                  ·
                    replace c5 := of_decide_eq_false c5
                    refine cw_exit ?_
                    refine cw_reg0 tok rfl rfl ?_
                    refine c0 rfl (w_v (I64 (k : Int)) rfl ?_)
                    refine c0 rfl (w_i (((k + 1 : Nat) : Int)) rfl (by unfold inI; omega) ?_)
                    refine c0 rfl (w_v (I64 ((k + 1 : Nat) : Int)) rfl ?_)
                    refine cn ?_
                    exact ⟨_, _, by omega, wk_of (tms := [(3, .p (.sl 1 ((cellsOf (Sol.mk si sp sk) true).map (encL 4 encP)))), (4, .p (.sl 4 ((planesOfS (Sol.mk si sp sk)).map encP))), (5, .os 20 0 ((cellsOf (Sol.mk si sp sk) true).length)), (7, I64 (i : Int)), (8, I64 ((k + 1) : Int))]) (bls := [(20, 0, .arr 3 1 (h.map iP) 0)]) (gens := [(20, 1)]) ⟨rfl, rfl, by first | rfl | exact congrArg (AV.os 20 0) (by (try simp) <;> (try omega)), rfl, rfl, trivial⟩ ⟨rfl, trivial⟩ ⟨rfl, trivial⟩ rfl, (k + 1), h, ⟨by omega, by rw [hrow]; exact mI.end (by omega) (by omega) hmi (by first | exact .inl (by omega) | exact .inr (by rw [getD_of hx, getD_of hy]; exact Decidable.not_not.1 (by assumption))) rfl⟩, rfl, rfl⟩
                ·
                  replace c4 := of_decide_eq_false c4
                  refine cgF (v := .bool false) rfl rfl rfl rfl ?_
                  refine cgF (v := .bool false) rfl rfl rfl rfl ?_
                  refine cgF (v := .bool false) rfl rfl rfl rfl ?_
                  refine cgF (v := .bool false) rfl rfl rfl rfl ?_
                  refine cgF (v := .bool false) rfl rfl rfl rfl ?_
                  refine cgF (v := .bool false) rfl rfl rfl rfl ?_
                  refine cgF (v := .bool false) rfl rfl rfl rfl ?_
                  refine cgF (v := .bool false) rfl rfl rfl rfl ?_
                  refine cgF (v := .bool false) rfl rfl rfl rfl ?_
                  refine c0 rfl (w_v (BO false) rfl ?_)
                  refine cn ⟨by kernel_rfl, ?_⟩
                  refine cw_cond (t := false) rfl (fun h => nomatch h) (fun _ => ?_)
                  refine cw_exit ?_
                  refine cw_reg0 tok rfl rfl ?_
                  refine c0 rfl (w_v (I64 (k : Int)) rfl ?_)
                  refine c0 rfl (w_i (((k + 1 : Nat) : Int)) rfl (by unfold inI; omega) ?_)
                  refine c0 rfl (w_v (I64 ((k + 1 : Nat) : Int)) rfl ?_)
                  refine cn ?_
                  exact ⟨_, _, by omega, wk_of (tms := [(3, .p (.sl 1 ((cellsOf (Sol.mk si sp sk) true).map (encL 4 encP)))), (4, .p (.sl 4 ((planesOfS (Sol.mk si sp sk)).map encP))), (5, .os 20 0 ((cellsOf (Sol.mk si sp sk) true).length)), (7, I64 (i : Int)), (8, I64 ((k + 1) : Int))]) (bls := [(20, 0, .arr 3 1 (h.map iP) 0)]) (gens := [(20, 1)]) ⟨rfl, rfl, by first | rfl | exact congrArg (AV.os 20 0) (by (try simp) <;> (try omega)), rfl, rfl, trivial⟩ ⟨rfl, trivial⟩ ⟨rfl, trivial⟩ rfl, (k + 1), h, ⟨by omega, by rw [hrow]; exact mI.end (by omega) (by omega) hmi (by first | exact .inl (by omega) | exact .inr (by rw [getD_of hx, getD_of hy]; exact Decidable.not_not.1 (by assumption))) rfl⟩, rfl, rfl⟩
            ·
              replace c3 := of_decide_eq_false c3
              refine cw_exit ?_
              refine cw_reg0 tok rfl rfl ?_
              refine c0 rfl (w_v (I64 (i : Int)) rfl ?_)
              refine c0 rfl (w_i (((i + 1 : Nat) : Int)) rfl (by unfold inI; omega) ?_)
              refine c0 rfl (w_v (I64 ((i + 1 : Nat) : Int)) rfl ?_)
              refine cn ?_
              exact ⟨_, _, by omega, wk_of (tms := [(3, .p (.sl 1 ((cellsOf (Sol.mk si sp sk) true).map (encL 4 encP)))), (4, .p (.sl 4 ((planesOfS (Sol.mk si sp sk)).map encP))), (5, .os 20 0 ((cellsOf (Sol.mk si sp sk) true).length)), (7, I64 ((i + 1) : Int))]) (bls := [(20, 0, .arr 3 1 (g.map iP) 0)]) (gens := [(20, 1)]) ⟨rfl, rfl, by first | rfl | exact congrArg (AV.os 20 0) (by (try simp) <;> (try omega)), rfl, trivial⟩ ⟨rfl, trivial⟩ ⟨rfl, trivial⟩ rfl, (i + 1), g, ⟨by omega, by rw [hg, show k = i by omega]; rfl⟩, rfl, rfl⟩
        ·
          replace c2 := of_decide_eq_false c2
          refine cw_exit ?_
          refine cw_seq ?_
          refine cw_reg0 tok rfl rfl ?_
          refine c0 rfl (w_v (I64 0) rfl ?_)
          refine cn ?_
          refine cw_seq ?_
          refine cw_seq ?_
          refine cw_reg0 tok rfl rfl ?_
          refine c0 rfl (w_v (I64 0) rfl ?_)
          refine cn ?_
          refine cw_block ?_
          refine cw_loopI (fun nn S => ∃ j : Nat, ∃ c : Int, (j ≤ (cellsOf (Sol.mk si sp sk) true).length ∧ c = (card (g.take j) : Int)) ∧ nn = (cellsOf (Sol.mk si sp sk) true).length - j ∧ S = mkS [(5, .os 20 0 ((cellsOf (Sol.mk si sp sk) true).length)), (12, I64 c), (13, I64 (j : Int))] [(20, 0, .arr 3 1 (g.map iP) 0)] [(20, 1)]) ((cellsOf (Sol.mk si sp sk) true).length - 0) ?_ ?_
          · exact ⟨_, wk_of (tms := [(5, .os 20 0 ((cellsOf (Sol.mk si sp sk) true).length)), (12, I64 0), (13, I64 (0 : Int))]) (bls := [(20, 0, .arr 3 1 (g.map iP) 0)]) (gens := [(20, 1)]) ⟨by first | rfl | exact congrArg (AV.os 20 0) (by (try simp) <;> (try omega)), rfl, rfl, trivial⟩ ⟨rfl, trivial⟩ ⟨rfl, trivial⟩ rfl, 0, 0, ⟨by omega, by simp [card, fo]⟩, rfl, rfl⟩
          · rintro nn _ ⟨j, c, ⟨hi, hc⟩, hn6, rfl⟩
            refine cw_seq ?_
            refine cw_seq ?_
            refine cw_reg0 tok rfl rfl ?_
            refine c0 rfl (w_v (I64 (j : Int)) rfl ?_)
            refine c0 rfl (w_v (.os 20 0 ((cellsOf (Sol.mk si sp sk) true).length)) rfl ?_)
            refine c0 rfl (w_leno rfl rfl rfl (by (try simp) <;> (try omega)) ?_)
            refine c0 rfl (w_v (BO (decide ((j : Int) < (((cellsOf (Sol.mk si sp sk) true).length : Nat) : Int)))) rfl ?_)
            refine cn ?_
            refine cw_cond (t := decide ((j : Int) < (((cellsOf (Sol.mk si sp sk) true).length : Nat) : Int))) rfl (fun c9 => ?_) (fun c9 => ?_)
            ·
              replace c9 := of_decide_eq_true c9
              refine cw_skip ?_
              refine cw_seq ?_
              refine cw_block ?_
              refine cw_seq ?_
              refine cw_reg0 tok rfl rfl ?_
              refine c0 rfl (w_v (BO true) rfl ?_)
              refine cn ?_
              refine cw_seq ?_
              refine cw_seq ?_
              refine cw_reg0 tok rfl rfl ?_
              refine c0 rfl (w_v (I64 0) rfl ?_)
              refine cn ?_
              refine cw_block ?_
              have hcc : card (g.take j) ≤ j := Nat.le_trans (card_le _) (by simp; omega)
              refine cw_loopI (fun nn S => ∃ k : Nat, ∃ f : Bool, (k ≤ j ∧ f = decide (g.getD j 0 ∉ g.take k)) ∧ nn = j - k ∧ S = mkS [(5, .os 20 0 ((cellsOf (Sol.mk si sp sk) true).length)), (12, I64 c), (13, I64 (j : Int)), (14, BO f), (15, I64 (k : Int))] [(20, 0, .arr 3 1 (g.map iP) 0)] [(20, 1)]) (j - 0) ?_ ?_
              · exact ⟨_, wk_of (tms := [(5, .os 20 0 ((cellsOf (Sol.mk si sp sk) true).length)), (12, I64 c), (13, I64 (j : Int)), (14, BO true), (15, I64 (0 : Int))]) (bls := [(20, 0, .arr 3 1 (g.map iP) 0)]) (gens := [(20, 1)]) ⟨by first | rfl | exact congrArg (AV.os 20 0) (by (try simp) <;> (try omega)), rfl, rfl, rfl, rfl, trivial⟩ ⟨rfl, trivial⟩ ⟨rfl, trivial⟩ rfl, 0, true, ⟨by omega, by simp⟩, rfl, rfl⟩
              · rintro nn _ ⟨k, f, ⟨hk, hf2⟩, hn7, rfl⟩
                refine cw_seq ?_
                refine cw_seq ?_
                refine cw_reg0 tok rfl rfl ?_
                refine c0 rfl (w_v (I64 (k : Int)) rfl ?_)
                refine c0 rfl (w_v (I64 (j : Int)) rfl ?_)
                refine c0 rfl (w_v (BO (decide ((k : Int) < (j : Int)))) rfl ?_)
                refine cn ?_
                refine cw_cond (t := decide ((k : Int) < (j : Int))) rfl (fun c10 => ?_) (fun c10 => ?_)
                ·
                  replace c10 := of_decide_eq_true c10
                  refine cw_skip ?_
                  refine cw_seq ?_
                  refine cw_block ?_
                  refine cw_reg1 tok mixed rfl rfl ?_
                  refine c0 rfl (w_v (BO f) rfl ?_)
                  refine c0 rfl (w_v (BO f) rfl ?_)
                  refine cgS (b := f) rfl rfl rfl (fun c11 => ?_) (fun c11 => ?_)
                  ·
                    refine cgT rfl rfl rfl (w_v (.os 20 0 ((cellsOf (Sol.mk si sp sk) true).length)) rfl ?_)
                    refine cgT rfl rfl rfl (w_v (I64 (k : Int)) rfl ?_)
                    refine cgT rfl rfl rfl (w_ixo ((k : Int)) rfl rfl rfl rfl (by (try simp) <;> (try omega)) (by omega) (by omega) ?_)
                    obtain ⟨u, hu⟩ := getE (l := g) (i := k) (by first | omega | (simp; omega))
                    refine cgT rfl rfl rfl (w_ldo (iP u) (iP u) rfl rfl (by (try simp) <;> (try omega)) (getM hu) rfl rfl ?_)
                    refine cgT rfl rfl rfl (w_v (.os 20 0 ((cellsOf (Sol.mk si sp sk) true).length)) rfl ?_)
                    refine cgT rfl rfl rfl (w_v (I64 (j : Int)) rfl ?_)
                    refine cgT rfl rfl rfl (w_ixo ((j : Int)) rfl rfl rfl rfl (by (try simp) <;> (try omega)) (by omega) (by omega) ?_)
                    obtain ⟨v, hv⟩ := getE (l := g) (i := j) (by first | omega | (simp; omega))
                    refine cgT rfl rfl rfl (w_ldo (iP v) (iP v) rfl rfl (by (try simp) <;> (try omega)) (getM hv) rfl rfl ?_)
                    refine cgT rfl rfl rfl (w_nei (u) (v) rfl rfl ?_)
                    refine c0 rfl (w_v (BO (decide (u ≠ v))) rfl ?_)
                    refine c0 rfl (w_v (BO (decide (u ≠ v))) rfl ?_)
                    refine cn ⟨by kernel_rfl, ?_⟩
                    refine cw_reg0 tok rfl rfl ?_
                    refine c0 rfl (w_v (I64 (k : Int)) rfl ?_)
                    refine c0 rfl (w_i (((k + 1 : Nat) : Int)) rfl (by unfold inI; omega) ?_)
                    refine c0 rfl (w_v (I64 ((k + 1 : Nat) : Int)) rfl ?_)
                    refine cn ?_
                    exact ⟨_, _, by omega, wk_of (tms := [(5, .os 20 0 ((cellsOf (Sol.mk si sp sk) true).length)), (12, I64 c), (13, I64 (j : Int)), (14, BO (decide (u ≠ v))), (15, I64 ((k + 1) : Int))]) (bls := [(20, 0, .arr 3 1 (g.map iP) 0)]) (gens := [(20, 1)]) ⟨by first | rfl | exact congrArg (AV.os 20 0) (by (try simp) <;> (try omega)), rfl, rfl, rfl, rfl, trivial⟩ ⟨rfl, trivial⟩ ⟨rfl, trivial⟩ rfl, (k + 1), (decide (u ≠ v)), ⟨by omega, by first | exact firstF (by rw [← hf2]; simp_all) | (rw [← getD_of hv]; exact firstT (by rw [← hf2]; simp_all) hu)⟩, rfl, rfl⟩
                  ·
                    refine cgF (v := .bool false) rfl rfl rfl rfl ?_
                    refine cgF (v := .bool false) rfl rfl rfl rfl ?_
                    refine cgF (v := .bool false) rfl rfl rfl rfl ?_
                    refine cgF (v := .bool false) rfl rfl rfl rfl ?_
                    refine cgF (v := .bool false) rfl rfl rfl rfl ?_
                    refine cgF (v := .bool false) rfl rfl rfl rfl ?_
                    refine cgF (v := .bool false) rfl rfl rfl rfl ?_
                    refine cgF (v := .bool false) rfl rfl rfl rfl ?_
                    refine cgF (v := .bool false) rfl rfl rfl rfl ?_
                    refine c0 rfl (w_v (BO false) rfl ?_)
                    refine c0 rfl (w_v (BO false) rfl ?_)
                    refine cn ⟨by kernel_rfl, ?_⟩
                    refine cw_reg0 tok rfl rfl ?_
                    refine c0 rfl (w_v (I64 (k : Int)) rfl ?_)
                    refine c0 rfl (w_i (((k + 1 : Nat) : Int)) rfl (by unfold inI; omega) ?_)
                    refine c0 rfl (w_v (I64 ((k + 1 : Nat) : Int)) rfl ?_)
                    refine cn ?_
                    exact ⟨_, _, by omega, wk_of (tms := [(5, .os 20 0 ((cellsOf (Sol.mk si sp sk) true).length)), (12, I64 c), (13, I64 (j : Int)), (14, BO false), (15, I64 ((k + 1) : Int))]) (bls := [(20, 0, .arr 3 1 (g.map iP) 0)]) (gens := [(20, 1)]) ⟨by first | rfl | exact congrArg (AV.os 20 0) (by (try simp) <;> (try omega)), rfl, rfl, rfl, rfl, trivial⟩ ⟨rfl, trivial⟩ ⟨rfl, trivial⟩ rfl, (k + 1), false, ⟨by omega, by first | exact firstF (by rw [← hf2]; simp_all) | (rw [← getD_of hv]; exact firstT (by rw [← hf2]; simp_all) hu)⟩, rfl, rfl⟩
                ·
                  replace c10 := of_decide_eq_false c10
                  refine cw_exit ?_
                  refine cw_seq ?_
                  refine cw_reg0 tok rfl rfl ?_
                  refine c0 rfl (w_v (BO f) rfl ?_)
                  refine cn ?_
                  refine cw_cond (t := f) rfl (fun c12 => ?_) (fun c12 => ?_)
                  ·
                    refine cw_reg0 tok rfl rfl ?_
                    refine c0 rfl (w_v (I64 c) rfl ?_)
                    refine c0 rfl (w_i (c + 1) rfl (by unfold inI; omega) ?_)
                    refine c0 rfl (w_v (I64 (c + 1)) rfl ?_)
                    refine cn ?_
                    refine cw_reg0 tok rfl rfl ?_
                    refine c0 rfl (w_v (I64 (j : Int)) rfl ?_)
                    refine c0 rfl (w_i (((j + 1 : Nat) : Int)) rfl (by unfold inI; omega) ?_)
                    refine c0 rfl (w_v (I64 ((j + 1 : Nat) : Int)) rfl ?_)
                    refine cn ?_
                    exact ⟨_, _, by omega, wk_of (tms := [(5, .os 20 0 ((cellsOf (Sol.mk si sp sk) true).length)), (12, I64 (c + 1)), (13, I64 ((j + 1) : Int))]) (bls := [(20, 0, .arr 3 1 (g.map iP) 0)]) (gens := [(20, 1)]) ⟨by first | rfl | exact congrArg (AV.os 20 0) (by (try simp) <;> (try omega)), rfl, rfl, trivial⟩ ⟨rfl, trivial⟩ ⟨rfl, trivial⟩ rfl, (j + 1), (c + 1), ⟨by omega, by rw [cardS (i := j) (f := f) (by omega) (by rw [hf2, show k = j by omega]), hc]; simp_all⟩, rfl, rfl⟩
                  ·
                    refine cw_skip ?_
                    refine cw_reg0 tok rfl rfl ?_
                    refine c0 rfl (w_v (I64 (j : Int)) rfl ?_)
                    refine c0 rfl (w_i (((j + 1 : Nat) : Int)) rfl (by unfold inI; omega) ?_)
                    refine c0 rfl (w_v (I64 ((j + 1 : Nat) : Int)) rfl ?_)
                    refine cn ?_
                    exact ⟨_, _, by omega, wk_of (tms := [(5, .os 20 0 ((cellsOf (Sol.mk si sp sk) true).length)), (12, I64 c), (13, I64 ((j + 1) : Int))]) (bls := [(20, 0, .arr 3 1 (g.map iP) 0)]) (gens := [(20, 1)]) ⟨by first | rfl | exact congrArg (AV.os 20 0) (by (try simp) <;> (try omega)), rfl, rfl, trivial⟩ ⟨rfl, trivial⟩ ⟨rfl, trivial⟩ rfl, (j + 1), c, ⟨by omega, by rw [cardS (i := j) (f := f) (by omega) (by rw [hf2, show k = j by omega]), hc]; simp_all⟩, rfl, rfl⟩
            ·
              replace c9 := of_decide_eq_false c9
              refine cw_exit ?_
              refine cw_seq ?_
              refine cw_reg0 tok rfl rfl ?_
              refine c0 rfl (w_v (I64 c) rfl ?_)
              refine c0 rfl (w_v (I64 c) rfl ?_)
              refine cn ?_
              refine cw_ret ?_
              exact fin1 (iP c) (iP (piecesS (Sol.mk si sp sk) : Int)) rfl (congrArg iP (by rw [hc, List.take_of_length_le (by omega), hg, show i = (cellsOf (Sol.mk si sp sk) true).length by omega]; rfl : c = (piecesS (Sol.mk si sp sk) : Int))) rfl
theorem ipieces (s : Sol) : Fn PP 18 [.p (encS s)] (.p (iP (piecesI s : Int))) [] := by
  cases s; exact ipieces_fn _ _ _
theorem spieces (s : Sol) (hf : fits s) : Fn PP 17 [.p (encS s)] (.p (iP (piecesS s : Int))) [] := by
  cases s; exact spieces_fn _ _ _ hf
theorem xPieces_fn (si : Bool) (sp : Pl) (sk : List Sol) (hlen : lens (Sol.mk si sp sk)) : Fn PP 4 [.p (encS (Sol.mk si sp sk))] (.p (bP true)) [] := by
  refine fn_intro tok Go.Proofs.Try.func4 (c := _) rfl rfl (Nat.le_of_ble_eq_true rfl) ?_
  refine cw_seq ?_
  refine cw_reg0 tok rfl rfl ?_
  refine c0 rfl (w_box (g := 0) [BO si, I64 sp.a, I64 sp.b, I64 sp.c, I64 sp.d, .p (.sl 6 (encSs sk))] rfl rfl rfl ?_)
  refine c0 rfl (w_v (BO false) rfl ?_)
  refine cn ?_
  refine cw_seq ?_
  refine cw_reg0 tok rfl rfl ?_
  refine c0 rfl (w_v (I64 1048576) rfl ?_)
  refine cn ?_
  refine cw_seq ?_
  refine cw_reg0 tok rfl rfl ?_
  refine c0 rfl (w_v (.p (encS (Sol.mk si sp sk))) rfl ?_)
  refine c0 rfl (w_v (I64 1048576) rfl ?_)
  refine c0 rfl (w_call_2 (szSolid_rec (Sol.mk si sp sk) 1048576 ⟨by omega, by omega⟩ hlen) rfl rfl rfl ?_)
  refine c0 rfl (w_v (I64 (szT (Sol.mk si sp sk) 1048576)) rfl ?_)
  refine cn ?_
  refine cw_seq ?_
  refine cw_seq ?_
  refine cw_reg0 tok rfl rfl ?_
  refine c0 rfl (w_v (I64 (szT (Sol.mk si sp sk) 1048576)) rfl ?_)
  refine c0 rfl (w_v (BO (decide (szT (Sol.mk si sp sk) 1048576 < 0))) rfl ?_)
  refine cn ?_
  refine cw_cond (t := decide (szT (Sol.mk si sp sk) 1048576 < 0)) rfl (fun c1 => ?_) (fun c1 => ?_)
  ·
    replace c1 := of_decide_eq_true c1
    refine cw_seq ?_
    refine cw_reg0 tok rfl rfl ?_
    refine c0 rfl (w_v (BO true) rfl ?_)
    refine cn ?_
    refine cw_ret ?_
    exact fin1 (bP true) (bP true) rfl (congrArg bP (by first | rfl | (exfalso; simp_all [pieces_eq, eqS_refl]) : true = true)) rfl
  ·
    replace c1 := of_decide_eq_false c1
    refine cw_skip ?_
    refine cw_seq ?_
    refine cw_reg0 tok rfl rfl ?_
    have hfit := szT_fits (Sol.mk si sp sk) 1048576 (by omega) (by omega) (by omega)
    refine c0 rfl (w_v (.p (encS (Sol.mk si sp sk))) rfl ?_)
    refine c0 rfl (w_call_1 (toSolid_rec (Sol.mk si sp sk) hfit) rfl rfl ?_)
    refine c0 rfl (w_call_1 (spieces (Sol.mk si sp sk) hfit) rfl rfl ?_)
    refine c0 rfl (w_v (I64 (piecesS (Sol.mk si sp sk) : Int)) rfl ?_)
    refine cn ?_
    refine cw_seq ?_
    refine cw_reg0 tok rfl rfl ?_
    refine c0 rfl (w_v (.p (encS (Sol.mk si sp sk))) rfl ?_)
    refine c0 rfl (w_call_1 (toSolid_rec (Sol.mk si sp sk) hfit) rfl rfl ?_)
    refine c0 rfl (w_alloc (g := 0) [BO false, I64 0, I64 0, I64 0, I64 0, .p (.lit nilSl)] rfl rfl rfl ?_)
    refine c0 rfl (w_st [BO si, I64 sp.a, I64 sp.b, I64 sp.c, I64 sp.d, .p (.sl 6 (encSs sk))] rfl rfl rfl rfl rfl (Nat.le_of_ble_eq_true rfl) rfl ?_)
    refine cn ?_
    refine cw_seq ?_
    refine cw_reg0 tok rfl rfl ?_
    refine c0 rfl (w_v (.p (encS (Sol.mk si sp sk))) rfl ?_)
    refine c0 rfl (w_call_1 (ipieces (Sol.mk si sp sk)) rfl rfl ?_)
    refine c0 rfl (w_v (I64 (piecesI (Sol.mk si sp sk) : Int)) rfl ?_)
    refine cn ?_
    refine cw_seq ?_
    refine cw_seq ?_
    refine cw_reg0 tok rfl rfl ?_
    refine c0 rfl (w_v (I64 (piecesI (Sol.mk si sp sk) : Int)) rfl ?_)
    refine c0 rfl (w_v (I64 (piecesS (Sol.mk si sp sk) : Int)) rfl ?_)
    refine c0 rfl (w_nei ((piecesI (Sol.mk si sp sk) : Int)) ((piecesS (Sol.mk si sp sk) : Int)) rfl rfl ?_)
    refine cn ?_
    refine cw_cond (t := decide ((piecesI (Sol.mk si sp sk) : Int) ≠ (piecesS (Sol.mk si sp sk) : Int))) rfl (fun c2 => ?_) (fun c2 => ?_)
    ·
      replace c2 := of_decide_eq_true c2
      refine cw_seq ?_
      refine cw_reg0 tok rfl rfl ?_
      refine c0 rfl (w_v (BO false) rfl ?_)
      refine cn ?_
      refine cw_ret ?_
      exact fin1 (bP false) (bP true) rfl (congrArg bP (by first | rfl | (exfalso; simp_all [pieces_eq, eqS_refl]) : false = true)) rfl
    ·
      replace c2 := of_decide_eq_false c2
      refine cw_skip ?_
      refine cw_seq ?_
      refine cw_seq ?_
      refine cw_reg1 tok mixed rfl rfl ?_
      refine c0 rfl (w_v (.p (encS (Sol.mk si sp sk))) rfl ?_)
      refine c0 rfl (w_v (.p (encS (Sol.mk si sp sk))) rfl ?_)
      refine c0 rfl (w_call_1 (toSolid_rec (Sol.mk si sp sk) hfit) rfl rfl ?_)
      refine c0 rfl (w_call_2 (eqSolid_rec (Sol.mk si sp sk) (Sol.mk si sp sk) hlen) rfl rfl rfl ?_)
      refine c0 rfl (w_v (BO (!(eqS (Sol.mk si sp sk) (Sol.mk si sp sk)))) rfl ?_)
      refine cn ⟨by kernel_rfl, ?_⟩
      refine cw_cond (t := !(eqS (Sol.mk si sp sk) (Sol.mk si sp sk))) rfl (fun c3 => ?_) (fun c3 => ?_)
      ·
        replace c3 := nt c3
        refine cw_seq ?_
        refine cw_reg0 tok rfl rfl ?_
        refine c0 rfl (w_v (BO false) rfl ?_)
        refine cn ?_
        refine cw_ret ?_
        exact fin1 (bP false) (bP true) rfl (congrArg bP (by first | rfl | (exfalso; simp_all [pieces_eq, eqS_refl]) : false = true)) rfl
      ·
        replace c3 := nf c3
        refine cw_skip ?_
        refine cw_seq ?_
        refine cw_reg0 tok rfl rfl ?_
        refine c0 rfl (w_v (BO true) rfl ?_)
        refine cn ?_
        refine cw_ret ?_
        exact fin1 (bP true) (bP true) rfl (congrArg bP (by first | rfl | (exfalso; simp_all [pieces_eq, eqS_refl]) : true = true)) rfl
end Go.Proofs.Ytablmbhnimnccaa.Pw
