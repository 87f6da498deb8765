/- A part of that proof: contracts of the functions that are called, one theorem a function. No condition. -/
import Derived.Test.YtablmbhnimnccaaZqF4
set_option maxRecDepth 20000
set_option maxHeartbeats 4000000
namespace Go.Proofs.Ytablmbhnimnccaa.Pw
theorem room_fn (list : List Pl) (p : Pl) (hl : ∀ q ∈ list, okc q) (hp : okc p) (hn : list.length ≤ 1048576) : Fn PP 155 [.p (.sl 4 (list.map encP)), .p (encP p)] (.p (bP (room list p))) [] := by
  refine fn_intro tok Go.Proofs.Try.func155 (c := _) rfl rfl (Nat.le_of_ble_eq_true rfl) ?_
  refine cw_seq ?_
  refine cw_reg0 tok rfl rfl ?_
  refine c0 rfl (w_box (g := 0) [I64 p.a, I64 p.b, I64 p.c, I64 p.d] rfl rfl rfl ?_)
  refine c0 rfl (w_v (BO false) rfl ?_)
  refine cn ?_
  refine cw_seq ?_
  refine cw_seq ?_
  refine cw_reg0 tok rfl rfl ?_
  refine c0 rfl (w_v (.p (.sl 4 (list.map encP))) rfl ?_)
  refine c0 rfl (w_len (list.length) rfl rfl (by simp) ?_)
  refine c0 rfl (w_v (I64 0) rfl ?_)
  refine cn ?_
  refine cw_block ?_
  refine cw_loopI (fun n S => ∃ i : Nat, (i ≤ list.length ∧ R2 list p i) ∧ n = list.length - i ∧ S = mkS [(0, .p (.sl 4 (list.map encP))), (3, .pt 3 0 0), (11, .p (.sl 4 (list.map encP))), (12, I64 ((list.length : Int))), (13, I64 ((i : Int)))] [(3, 0, .var [I64 p.a, I64 p.b, I64 p.c, I64 p.d] false)] [(3, 1)]) (list.length - 0) ?_ ?_
  · exact ⟨_, wk_of (tms := [(0, .p (.sl 4 (list.map encP))), (3, .pt 3 0 0), (11, .p (.sl 4 (list.map encP))), (12, I64 ((list.length : Int))), (13, I64 ((0 : Int)))]) (bls := [(3, 0, .var [I64 p.a, I64 p.b, I64 p.c, I64 p.d] false)]) (gens := [(3, 1)]) ⟨rfl, rfl, rfl, rfl, rfl, trivial⟩ ⟨rfl, trivial⟩ ⟨rfl, trivial⟩ rfl, 0, ⟨by omega, R2.z⟩, rfl, rfl⟩
  · rintro n _ ⟨i, ⟨hi, h2⟩, hn1, rfl⟩
    refine cw_seq ?_
    refine cw_reg0 tok rfl rfl ?_
    refine c0 rfl (w_v (BO (decide ((i : Int) < (list.length : Int)))) rfl ?_)
    refine cn ?_
    refine cw_seq ?_
    refine cw_cond (t := decide ((i : Int) < (list.length : Int))) rfl (fun c1 => ?_) (fun c1 => ?_)
    ·
      replace c1 := of_decide_eq_true c1
      refine cw_skip ?_
      refine cw_seq ?_
      refine cw_block ?_
      refine cw_seq ?_
      refine cw_reg0 tok rfl rfl ?_
      refine c0 rfl (w_v (I64 ((i : Int))) rfl ?_)
      obtain ⟨q, hq⟩ := getE (l := list) (i := i) (by first | omega | (simp; omega))
      refine c0 rfl (w_ix ((i : Int)) (encP q) rfl rfl rfl (by omega) (getM hq) ?_)
      refine c0 rfl (w_v (.p (encP q)) rfl ?_)
      refine c0 rfl (w_alloc (g := 1) [I64 0, I64 0, I64 0, I64 0] rfl rfl rfl ?_)
      refine c0 rfl (w_v (I64 ((i : Int))) rfl ?_)
      refine c0 rfl (w_st [I64 q.a, I64 q.b, I64 q.c, I64 q.d] rfl rfl rfl rfl rfl (Nat.le_of_ble_eq_true rfl) rfl ?_)
      refine cn ?_
      refine cw_seq ?_
      refine cw_seq ?_
      refine cw_reg0 tok rfl rfl ?_
      refine c0 rfl (w_v (.p (encP q)) rfl ?_)
      refine c0 rfl (w_v (.p (encP p)) rfl ?_)
      refine c0 rfl (w_call_2 (iclash2_fn q p (hl _ (List.mem_of_getElem? hq)) hp) rfl rfl rfl ?_)
      refine cn ?_
      refine cw_cond (t := clash2 q p) rfl (fun c2 => ?_) (fun c2 => ?_)
      ·
        refine cw_seq ?_
        refine cw_reg0 tok rfl rfl ?_
        refine c0 rfl (w_v (BO false) rfl ?_)
        refine cn ?_
        refine cw_ret ?_
        exact fin1 (bP false) (bP (room list p)) rfl (congrArg bP (by first | exact rf4 hq hr hs (by assumption) | exact rf3 hq hr (by assumption) | exact rf2 hq (by assumption) : false = (room list p))) rfl
      ·
        refine cw_skip ?_
        refine cw_seq ?_
        refine cw_reg0 tok rfl rfl ?_
        refine c0 rfl (w_v (.p (.sl 4 (list.map encP))) rfl ?_)
        refine c0 rfl (w_v (I64 ((i : Int))) rfl ?_)
        refine c0 rfl (w_sub (0) (i) ((list.take i).map encP) rfl rfl rfl rfl rfl rfl rfl (by omega) (by simp; omega) mapT ?_)
        refine c0 rfl (w_len (i) rfl rfl (by simp; omega) ?_)
        refine c0 rfl (w_v (I64 0) rfl ?_)
        refine cn ?_
        refine cw_block ?_
        refine cw_loopI (fun n S => ∃ j : Nat, (j ≤ i ∧ R3 list p q j) ∧ n = i - j ∧ S = mkS [(0, .p (.sl 4 (list.map encP))), (3, .pt 3 0 0), (6, .pt 6 1 0), (11, .p (.sl 4 (list.map encP))), (12, I64 ((list.length : Int))), (13, I64 ((i : Int))), (23, .p (.sl 4 ((list.take i).map encP))), (24, I64 ((i : Int))), (25, I64 ((j : Int)))] [(3, 0, .var [I64 p.a, I64 p.b, I64 p.c, I64 p.d] false), (6, 1, .var [I64 q.a, I64 q.b, I64 q.c, I64 q.d] false)] [(3, 1), (6, 2)]) (i - 0) ?_ ?_
        · exact ⟨_, wk_of (tms := [(0, .p (.sl 4 (list.map encP))), (3, .pt 3 0 0), (6, .pt 6 1 0), (11, .p (.sl 4 (list.map encP))), (12, I64 ((list.length : Int))), (13, I64 ((i : Int))), (23, .p (.sl 4 ((list.take i).map encP))), (24, I64 ((i : Int))), (25, I64 ((0 : Int)))]) (bls := [(3, 0, .var [I64 p.a, I64 p.b, I64 p.c, I64 p.d] false), (6, 1, .var [I64 q.a, I64 q.b, I64 q.c, I64 q.d] false)]) (gens := [(3, 1), (6, 2)]) ⟨rfl, rfl, rfl, rfl, rfl, rfl, rfl, rfl, rfl, trivial⟩ ⟨rfl, rfl, trivial⟩ ⟨rfl, rfl, trivial⟩ rfl, 0, ⟨by omega, R3.z⟩, rfl, rfl⟩
        · rintro n _ ⟨j, ⟨hj, h3⟩, hn2, rfl⟩
          refine cw_seq ?_
          refine cw_reg0 tok rfl rfl ?_
          refine c0 rfl (w_v (BO (decide ((j : Int) < (i : Int)))) rfl ?_)
          refine cn ?_
          refine cw_seq ?_
          refine cw_cond (t := decide ((j : Int) < (i : Int))) rfl (fun c3 => ?_) (fun c3 => ?_)
          ·
            replace c3 := of_decide_eq_true c3
            refine cw_skip ?_
            refine cw_seq ?_
            refine cw_block ?_
            refine cw_seq ?_
            refine cw_reg0 tok rfl rfl ?_
            refine c0 rfl (w_v (I64 ((j : Int))) rfl ?_)
            obtain ⟨r, hr⟩ := getE (l := list.take i) (i := j) (by first | omega | (simp; omega))
            refine c0 rfl (w_ix ((j : Int)) (encP r) rfl rfl rfl (by omega) (getM hr) ?_)
            refine c0 rfl (w_v (.p (encP r)) rfl ?_)
            refine c0 rfl (w_alloc (g := 1) [I64 0, I64 0, I64 0, I64 0] rfl rfl rfl ?_)
            refine c0 rfl (w_v (I64 ((j : Int))) rfl ?_)
            refine c0 rfl (w_st [I64 r.a, I64 r.b, I64 r.c, I64 r.d] rfl rfl rfl rfl rfl (Nat.le_of_ble_eq_true rfl) rfl ?_)
            refine cn ?_
            refine cw_seq ?_
            refine cw_seq ?_
            refine cw_reg0 tok rfl rfl ?_
            refine c0 rfl (w_v (.p (encP r)) rfl ?_)
            refine c0 rfl (w_v (.p (encP q)) rfl ?_)
            refine c0 rfl (w_v (.p (encP p)) rfl ?_)
            refine c0 rfl (w_call_3 (iclash3_fn r q p (hl _ (List.mem_of_getElem? (tkE hr).2)) (hl _ (List.mem_of_getElem? hq)) hp) rfl rfl rfl rfl ?_)
            refine cn ?_
            refine cw_cond (t := clash3 r q p) rfl (fun c4 => ?_) (fun c4 => ?_)
            ·
              refine cw_seq ?_
              refine cw_reg0 tok rfl rfl ?_
              refine c0 rfl (w_v (BO false) rfl ?_)
              refine cn ?_
              refine cw_ret ?_
              exact fin1 (bP false) (bP (room list p)) rfl (congrArg bP (by first | exact rf4 hq hr hs (by assumption) | exact rf3 hq hr (by assumption) | exact rf2 hq (by assumption) : false = (room list p))) rfl
            ·
              refine cw_skip ?_
              refine cw_seq ?_
              refine cw_reg0 tok rfl rfl ?_
              refine c0 rfl (w_v (.p (.sl 4 (list.map encP))) rfl ?_)
              refine c0 rfl (w_v (I64 ((j : Int))) rfl ?_)
              refine c0 rfl (w_sub (0) (j) ((list.take j).map encP) rfl rfl rfl rfl rfl rfl rfl (by omega) (by simp; omega) mapT ?_)
              refine c0 rfl (w_len (j) rfl rfl (by simp; omega) ?_)
              refine c0 rfl (w_v (I64 0) rfl ?_)
              refine cn ?_
              refine cw_block ?_
              refine cw_loopI (fun n S => ∃ k : Nat, (k ≤ j ∧ R4 list p q r k) ∧ n = j - k ∧ S = mkS [(0, .p (.sl 4 (list.map encP))), (3, .pt 3 0 0), (6, .pt 6 1 0), (8, .pt 8 1 0), (11, .p (.sl 4 (list.map encP))), (12, I64 ((list.length : Int))), (13, I64 ((i : Int))), (23, .p (.sl 4 ((list.take i).map encP))), (24, I64 ((i : Int))), (25, I64 ((j : Int))), (36, .p (.sl 4 ((list.take j).map encP))), (37, I64 ((j : Int))), (38, I64 ((k : Int)))] [(3, 0, .var [I64 p.a, I64 p.b, I64 p.c, I64 p.d] false), (6, 1, .var [I64 q.a, I64 q.b, I64 q.c, I64 q.d] false), (8, 1, .var [I64 r.a, I64 r.b, I64 r.c, I64 r.d] false)] [(3, 1), (6, 2), (8, 2)]) (j - 0) ?_ ?_
              · exact ⟨_, wk_of (tms := [(0, .p (.sl 4 (list.map encP))), (3, .pt 3 0 0), (6, .pt 6 1 0), (8, .pt 8 1 0), (11, .p (.sl 4 (list.map encP))), (12, I64 ((list.length : Int))), (13, I64 ((i : Int))), (23, .p (.sl 4 ((list.take i).map encP))), (24, I64 ((i : Int))), (25, I64 ((j : Int))), (36, .p (.sl 4 ((list.take j).map encP))), (37, I64 ((j : Int))), (38, I64 ((0 : Int)))]) (bls := [(3, 0, .var [I64 p.a, I64 p.b, I64 p.c, I64 p.d] false), (6, 1, .var [I64 q.a, I64 q.b, I64 q.c, I64 q.d] false), (8, 1, .var [I64 r.a, I64 r.b, I64 r.c, I64 r.d] false)]) (gens := [(3, 1), (6, 2), (8, 2)]) ⟨rfl, rfl, rfl, rfl, rfl, rfl, rfl, rfl, rfl, rfl, rfl, rfl, rfl, trivial⟩ ⟨rfl, rfl, rfl, trivial⟩ ⟨rfl, rfl, rfl, trivial⟩ rfl, 0, ⟨by omega, R4.z⟩, rfl, rfl⟩
              · rintro n _ ⟨k, ⟨hk, h4⟩, hn3, rfl⟩
                refine cw_seq ?_
                refine cw_reg0 tok rfl rfl ?_
                refine c0 rfl (w_v (BO (decide ((k : Int) < (j : Int)))) rfl ?_)
                refine cn ?_
                refine cw_seq ?_
                refine cw_cond (t := decide ((k : Int) < (j : Int))) rfl (fun c5 => ?_) (fun c5 => ?_)
                ·
                  replace c5 := of_decide_eq_true c5
                  refine cw_skip ?_
                  refine cw_seq ?_
                  refine cw_block ?_
                  refine cw_seq ?_
                  refine cw_reg0 tok rfl rfl ?_
                  obtain ⟨s, hs⟩ := getE (l := list.take j) (i := k) (by first | omega | (simp; omega))
                  refine c0 rfl (w_ix ((k : Int)) (encP s) rfl rfl rfl (by omega) (getM hs) ?_)
                  refine c0 rfl (w_v (.p (encP s)) rfl ?_)
                  refine c0 rfl (w_alloc (g := 1) [I64 0, I64 0, I64 0, I64 0] rfl rfl rfl ?_)
                  refine c0 rfl (w_st [I64 s.a, I64 s.b, I64 s.c, I64 s.d] rfl rfl rfl rfl rfl (Nat.le_of_ble_eq_true rfl) rfl ?_)
                  refine cn ?_
                  refine cw_seq ?_
                  refine cw_reg0 tok rfl rfl ?_
                  refine c0 rfl (w_v (.p (encP s)) rfl ?_)
                  refine c0 rfl (w_v (.p (encP r)) rfl ?_)
                  refine c0 rfl (w_v (.p (encP q)) rfl ?_)
                  refine c0 rfl (w_v (.p (encP p)) rfl ?_)
                  refine c0 rfl (w_call_4 (iclash4_fn s r q p (hl _ (List.mem_of_getElem? (tkE hs).2)) (hl _ (List.mem_of_getElem? (tkE hr).2)) (hl _ (List.mem_of_getElem? hq)) hp) rfl rfl rfl rfl rfl ?_)
                  refine cn ?_
                  refine cw_cond (t := clash4 s r q p) rfl (fun c6 => ?_) (fun c6 => ?_)
                  ·
                    refine cw_seq ?_
                    refine cw_reg0 tok rfl rfl ?_
                    refine c0 rfl (w_v (BO false) rfl ?_)
                    refine cn ?_
                    refine cw_ret ?_
                    exact fin1 (bP false) (bP (room list p)) rfl (congrArg bP (by first | exact rf4 hq hr hs (by assumption) | exact rf3 hq hr (by assumption) | exact rf2 hq (by assumption) : false = (room list p))) rfl
                  ·
                    refine cw_skip ?_
                    refine cw_reg0 tok rfl rfl ?_
                    refine c0 rfl (w_i (((k + 1 : Nat) : Int)) rfl (by unfold inI; omega) ?_)
                    refine c0 rfl (w_v (I64 (((k + 1 : Nat) : Int))) rfl ?_)
                    refine cn ?_
                    exact ⟨_, _, by omega, wk_of (tms := [(0, .p (.sl 4 (list.map encP))), (3, .pt 3 0 0), (6, .pt 6 1 0), (8, .pt 8 1 0), (11, .p (.sl 4 (list.map encP))), (12, I64 ((list.length : Int))), (13, I64 ((i : Int))), (23, .p (.sl 4 ((list.take i).map encP))), (24, I64 ((i : Int))), (25, I64 ((j : Int))), (36, .p (.sl 4 ((list.take j).map encP))), (37, I64 ((j : Int))), (38, I64 (((k + 1) : Int)))]) (bls := [(3, 0, .var [I64 p.a, I64 p.b, I64 p.c, I64 p.d] false), (6, 1, .var [I64 q.a, I64 q.b, I64 q.c, I64 q.d] false), (8, 1, .var [I64 r.a, I64 r.b, I64 r.c, I64 r.d] false)]) (gens := [(3, 1), (6, 2), (8, 2)]) ⟨rfl, rfl, rfl, rfl, rfl, rfl, rfl, rfl, rfl, rfl, rfl, rfl, rfl, trivial⟩ ⟨rfl, rfl, rfl, trivial⟩ ⟨rfl, rfl, rfl, trivial⟩ rfl, (k + 1), ⟨by omega, h4.su hs (by assumption)⟩, rfl, rfl⟩
                ·
                  replace c5 := of_decide_eq_false c5
                  refine cw_exit ?_
                  refine cw_reg0 tok rfl rfl ?_
                  refine c0 rfl (w_i (((j + 1 : Nat) : Int)) rfl (by unfold inI; omega) ?_)
                  refine c0 rfl (w_v (I64 (((j + 1 : Nat) : Int))) rfl ?_)
                  refine cn ?_
                  exact ⟨_, _, by omega, wk_of (tms := [(0, .p (.sl 4 (list.map encP))), (3, .pt 3 0 0), (6, .pt 6 1 0), (11, .p (.sl 4 (list.map encP))), (12, I64 ((list.length : Int))), (13, I64 ((i : Int))), (23, .p (.sl 4 ((list.take i).map encP))), (24, I64 ((i : Int))), (25, I64 (((j + 1) : Int)))]) (bls := [(3, 0, .var [I64 p.a, I64 p.b, I64 p.c, I64 p.d] false), (6, 1, .var [I64 q.a, I64 q.b, I64 q.c, I64 q.d] false)]) (gens := [(3, 1), (6, 2)]) ⟨rfl, rfl, rfl, rfl, rfl, rfl, rfl, rfl, rfl, trivial⟩ ⟨rfl, rfl, trivial⟩ ⟨rfl, rfl, trivial⟩ rfl, (j + 1), ⟨by omega, h3.su hr (by assumption) (by rw [show j = k by omega]; assumption)⟩, rfl, rfl⟩
          ·
            replace c3 := of_decide_eq_false c3
            refine cw_exit ?_
            refine cw_reg0 tok rfl rfl ?_
            refine c0 rfl (w_i (((i + 1 : Nat) : Int)) rfl (by unfold inI; omega) ?_)
            refine c0 rfl (w_v (I64 (((i + 1 : Nat) : Int))) rfl ?_)
            refine cn ?_
            exact ⟨_, _, by omega, wk_of (tms := [(0, .p (.sl 4 (list.map encP))), (3, .pt 3 0 0), (11, .p (.sl 4 (list.map encP))), (12, I64 ((list.length : Int))), (13, I64 (((i + 1) : Int)))]) (bls := [(3, 0, .var [I64 p.a, I64 p.b, I64 p.c, I64 p.d] false)]) (gens := [(3, 1)]) ⟨rfl, rfl, rfl, rfl, rfl, trivial⟩ ⟨rfl, trivial⟩ ⟨rfl, trivial⟩ rfl, (i + 1), ⟨by omega, h2.su hq (by assumption) (by rw [show i = j by omega]; assumption)⟩, rfl, rfl⟩
    ·
      replace c1 := of_decide_eq_false c1
      refine cw_exit ?_
      refine cw_seq ?_
      refine cw_reg0 tok rfl rfl ?_
      refine c0 rfl (w_v (BO true) rfl ?_)
      refine cn ?_
      refine cw_ret ?_
      exact fin1 (bP true) (bP (room list p)) rfl (congrArg bP (by exact rtr h2 (by omega) : true = (room list p))) rfl
theorem l6With_fn (list : List Pl) (p : Pl) (hl : ∀ q ∈ list, okc q) (hp : okc p) (hn : list.length ≤ 1048576) : Fn PP 143 [.p (.sl 4 (list.map encP)), .p (encP p)] (.p (bP (!room list p))) [] := by
  refine fn_intro tok Go.Proofs.Try.func143 (c := _) rfl rfl (Nat.le_of_ble_eq_true rfl) ?_
  refine cw_seq ?_
  refine cw_reg0 tok rfl rfl ?_
  refine c0 rfl (w_box (g := 0) [I64 p.a, I64 p.b, I64 p.c, I64 p.d] rfl rfl rfl ?_)
  refine c0 rfl (w_v (BO false) rfl ?_)
  refine cn ?_
  refine cw_seq ?_
  refine cw_reg0 tok rfl rfl ?_
  refine c0 rfl (w_v (.p (.sl 4 (list.map encP))) rfl ?_)
  refine c0 rfl (w_len (list.length) rfl rfl (by simp) ?_)
  refine c0 rfl (w_v (I64 ((list.length : Int))) rfl ?_)
  refine cn ?_
  refine cw_seq ?_
  refine cw_seq ?_
  refine cw_reg0 tok rfl rfl ?_
  refine c0 rfl (w_v (I64 0) rfl ?_)
  refine cn ?_
  refine cw_block ?_
  refine cw_loopI (fun n S => ∃ i : Nat, (i ≤ list.length ∧ W2 list p i) ∧ n = list.length - i ∧ S = mkS [(0, .p (.sl 4 (list.map encP))), (3, .pt 3 0 0), (5, I64 ((list.length : Int))), (6, I64 ((i : Int)))] [(3, 0, .var [I64 p.a, I64 p.b, I64 p.c, I64 p.d] false)] [(3, 1)]) (list.length - 0) ?_ ?_
  · exact ⟨_, wk_of (tms := [(0, .p (.sl 4 (list.map encP))), (3, .pt 3 0 0), (5, I64 ((list.length : Int))), (6, I64 ((0 : Int)))]) (bls := [(3, 0, .var [I64 p.a, I64 p.b, I64 p.c, I64 p.d] false)]) (gens := [(3, 1)]) ⟨rfl, rfl, rfl, rfl, trivial⟩ ⟨rfl, trivial⟩ ⟨rfl, trivial⟩ rfl, 0, ⟨by omega, W2.z⟩, rfl, rfl⟩
  · rintro n _ ⟨i, ⟨hi, h2⟩, hn1, rfl⟩
    refine cw_seq ?_
    refine cw_seq ?_
    refine cw_reg0 tok rfl rfl ?_
    refine c0 rfl (w_v (I64 ((i : Int))) rfl ?_)
    refine c0 rfl (w_v (I64 ((list.length : Int))) rfl ?_)
    refine c0 rfl (w_v (BO (decide ((i : Int) < (list.length : Int)))) rfl ?_)
    refine cn ?_
    refine cw_cond (t := decide ((i : Int) < (list.length : Int))) rfl (fun c1 => ?_) (fun c1 => ?_)
    ·
      replace c1 := of_decide_eq_true c1
      refine cw_skip ?_
      refine cw_seq ?_
      refine cw_block ?_
      refine cw_seq ?_
      refine cw_seq ?_
      refine cw_reg1 tok mixed rfl rfl ?_
      refine c0 rfl (w_v (.p (.sl 4 (list.map encP))) rfl ?_)
      refine c0 rfl (w_v (I64 ((i : Int))) rfl ?_)
      obtain ⟨q, hq⟩ := getE (l := list) (i := i) (by first | omega | (simp; omega))
      refine c0 rfl (w_ix ((i : Int)) (encP q) rfl rfl rfl (by omega) (getM hq) ?_)
      refine c0 rfl (w_v (.p (encP q)) rfl ?_)
      refine c0 rfl (w_v (.p (encP p)) rfl ?_)
      refine c0 rfl (w_call_2 (sclash2_fn q p (hl _ (List.mem_of_getElem? hq)) hp) rfl rfl rfl ?_)
      refine cn ⟨by kernel_rfl, ?_⟩
      refine cw_cond (t := clash2 q p) rfl (fun c2 => ?_) (fun c2 => ?_)
      ·
        refine cw_seq ?_
        refine cw_reg0 tok rfl rfl ?_
        refine c0 rfl (w_v (BO true) rfl ?_)
        refine cn ?_
        refine cw_ret ?_
        exact fin1 (bP true) (bP (!room list p)) rfl (congrArg bP (by first | exact wf4 hq hr hs (by omega) (by omega) (by assumption) | exact wf3 hq hr (by omega) (by assumption) | exact wf2 hq (by assumption) : true = (!room list p))) rfl
      ·
        refine cw_skip ?_
        refine cw_seq ?_
        refine cw_reg0 tok rfl rfl ?_
        refine c0 rfl (w_v (I64 ((i : Int))) rfl ?_)
        refine c0 rfl (w_i (((i + 1 : Nat) : Int)) rfl (by unfold inI; omega) ?_)
        refine c0 rfl (w_v (I64 (((i + 1 : Nat) : Int))) rfl ?_)
        refine cn ?_
        refine cw_block ?_
        refine cw_loopI (fun n S => ∃ k : Nat, ((i < k ∧ k ≤ list.length) ∧ W3 list p q i k) ∧ n = list.length - k ∧ S = mkS [(0, .p (.sl 4 (list.map encP))), (3, .pt 3 0 0), (5, I64 ((list.length : Int))), (6, I64 ((i : Int))), (7, I64 ((k : Int)))] [(3, 0, .var [I64 p.a, I64 p.b, I64 p.c, I64 p.d] false)] [(3, 1)]) (list.length - (i + 1)) ?_ ?_
        · exact ⟨_, wk_of (tms := [(0, .p (.sl 4 (list.map encP))), (3, .pt 3 0 0), (5, I64 ((list.length : Int))), (6, I64 ((i : Int))), (7, I64 (((i + 1) : Int)))]) (bls := [(3, 0, .var [I64 p.a, I64 p.b, I64 p.c, I64 p.d] false)]) (gens := [(3, 1)]) ⟨rfl, rfl, rfl, rfl, rfl, trivial⟩ ⟨rfl, trivial⟩ ⟨rfl, trivial⟩ rfl, i + 1, ⟨by omega, W3.z⟩, rfl, rfl⟩
        · rintro n _ ⟨k, ⟨hk, h3⟩, hn2, rfl⟩
          refine cw_seq ?_
          refine cw_seq ?_
          refine cw_reg0 tok rfl rfl ?_
          refine c0 rfl (w_v (I64 ((k : Int))) rfl ?_)
          refine c0 rfl (w_v (I64 ((list.length : Int))) rfl ?_)
          refine c0 rfl (w_v (BO (decide ((k : Int) < (list.length : Int)))) rfl ?_)
          refine cn ?_
          refine cw_cond (t := decide ((k : Int) < (list.length : Int))) rfl (fun c3 => ?_) (fun c3 => ?_)
          ·
            replace c3 := of_decide_eq_true c3
            refine cw_skip ?_
            refine cw_seq ?_
            refine cw_block ?_
            refine cw_seq ?_
            refine cw_seq ?_
            refine cw_reg1 tok mixed rfl rfl ?_
            refine c0 rfl (w_v (.p (.sl 4 (list.map encP))) rfl ?_)
            refine c0 rfl (w_v (I64 ((i : Int))) rfl ?_)
            refine c0 rfl (w_ix ((i : Int)) (encP q) rfl rfl rfl (by omega) (getM hq) ?_)
            refine c0 rfl (w_v (.p (encP q)) rfl ?_)
            refine c0 rfl (w_v (.p (.sl 4 (list.map encP))) rfl ?_)
            refine c0 rfl (w_v (I64 ((k : Int))) rfl ?_)
            obtain ⟨r, hr⟩ := getE (l := list) (i := k) (by first | omega | (simp; omega))
            refine c0 rfl (w_ix ((k : Int)) (encP r) rfl rfl rfl (by omega) (getM hr) ?_)
            refine c0 rfl (w_v (.p (encP r)) rfl ?_)
            refine c0 rfl (w_v (.p (encP p)) rfl ?_)
            refine c0 rfl (w_call_3 (sclash3_fn q r p (hl _ (List.mem_of_getElem? hq)) (hl _ (List.mem_of_getElem? hr)) hp) rfl rfl rfl rfl ?_)
            refine cn ⟨by kernel_rfl, ?_⟩
            refine cw_cond (t := clash3 q r p) rfl (fun c4 => ?_) (fun c4 => ?_)
            ·
              refine cw_seq ?_
              refine cw_reg0 tok rfl rfl ?_
              refine c0 rfl (w_v (BO true) rfl ?_)
              refine cn ?_
              refine cw_ret ?_
              exact fin1 (bP true) (bP (!room list p)) rfl (congrArg bP (by first | exact wf4 hq hr hs (by omega) (by omega) (by assumption) | exact wf3 hq hr (by omega) (by assumption) | exact wf2 hq (by assumption) : true = (!room list p))) rfl
            ·
              refine cw_skip ?_
              refine cw_seq ?_
              refine cw_reg0 tok rfl rfl ?_
              refine c0 rfl (w_v (I64 ((k : Int))) rfl ?_)
              refine c0 rfl (w_i (((k + 1 : Nat) : Int)) rfl (by unfold inI; omega) ?_)
              refine c0 rfl (w_v (I64 (((k + 1 : Nat) : Int))) rfl ?_)
              refine cn ?_
              refine cw_block ?_
              refine cw_loopI (fun n S => ∃ m : Nat, ((k < m ∧ m ≤ list.length) ∧ W4 list p q r k m) ∧ n = list.length - m ∧ S = mkS [(0, .p (.sl 4 (list.map encP))), (3, .pt 3 0 0), (5, I64 ((list.length : Int))), (6, I64 ((i : Int))), (7, I64 ((k : Int))), (8, I64 ((m : Int)))] [(3, 0, .var [I64 p.a, I64 p.b, I64 p.c, I64 p.d] false)] [(3, 1)]) (list.length - (k + 1)) ?_ ?_
              · exact ⟨_, wk_of (tms := [(0, .p (.sl 4 (list.map encP))), (3, .pt 3 0 0), (5, I64 ((list.length : Int))), (6, I64 ((i : Int))), (7, I64 ((k : Int))), (8, I64 (((k + 1) : Int)))]) (bls := [(3, 0, .var [I64 p.a, I64 p.b, I64 p.c, I64 p.d] false)]) (gens := [(3, 1)]) ⟨rfl, rfl, rfl, rfl, rfl, rfl, trivial⟩ ⟨rfl, trivial⟩ ⟨rfl, trivial⟩ rfl, k + 1, ⟨by omega, W4.z⟩, rfl, rfl⟩
              · rintro n _ ⟨m, ⟨hm, h4⟩, hn3, rfl⟩
                refine cw_seq ?_
                refine cw_seq ?_
                refine cw_reg0 tok rfl rfl ?_
                refine c0 rfl (w_v (I64 ((m : Int))) rfl ?_)
                refine c0 rfl (w_v (I64 ((list.length : Int))) rfl ?_)
                refine c0 rfl (w_v (BO (decide ((m : Int) < (list.length : Int)))) rfl ?_)
                refine cn ?_
                refine cw_cond (t := decide ((m : Int) < (list.length : Int))) rfl (fun c5 => ?_) (fun c5 => ?_)
                ·
                  replace c5 := of_decide_eq_true c5
                  refine cw_skip ?_
                  refine cw_seq ?_
                  refine cw_block ?_
                  refine cw_seq ?_
                  refine cw_reg1 tok mixed rfl rfl ?_
                  refine c0 rfl (w_v (.p (.sl 4 (list.map encP))) rfl ?_)
                  refine c0 rfl (w_v (I64 ((i : Int))) rfl ?_)
                  refine c0 rfl (w_ix ((i : Int)) (encP q) rfl rfl rfl (by omega) (getM hq) ?_)
                  refine c0 rfl (w_v (.p (encP q)) rfl ?_)
                  refine c0 rfl (w_v (.p (.sl 4 (list.map encP))) rfl ?_)
                  refine c0 rfl (w_v (I64 ((k : Int))) rfl ?_)
                  refine c0 rfl (w_ix ((k : Int)) (encP r) rfl rfl rfl (by omega) (getM hr) ?_)
                  refine c0 rfl (w_v (.p (encP r)) rfl ?_)
                  refine c0 rfl (w_v (.p (.sl 4 (list.map encP))) rfl ?_)
                  refine c0 rfl (w_v (I64 ((m : Int))) rfl ?_)
                  obtain ⟨s, hs⟩ := getE (l := list) (i := m) (by first | omega | (simp; omega))
                  refine c0 rfl (w_ix ((m : Int)) (encP s) rfl rfl rfl (by omega) (getM hs) ?_)
                  refine c0 rfl (w_v (.p (encP s)) rfl ?_)
                  refine c0 rfl (w_v (.p (encP p)) rfl ?_)
                  refine c0 rfl (w_call_4 (sclash4_fn q r s p (hl _ (List.mem_of_getElem? hq)) (hl _ (List.mem_of_getElem? hr)) (hl _ (List.mem_of_getElem? hs)) hp) rfl rfl rfl rfl rfl ?_)
                  refine cn ⟨by kernel_rfl, ?_⟩
                  refine cw_cond (t := clash4 q r s p) rfl (fun c6 => ?_) (fun c6 => ?_)
                  ·
                    refine cw_seq ?_
                    refine cw_reg0 tok rfl rfl ?_
                    refine c0 rfl (w_v (BO true) rfl ?_)
                    refine cn ?_
                    refine cw_ret ?_
                    exact fin1 (bP true) (bP (!room list p)) rfl (congrArg bP (by first | exact wf4 hq hr hs (by omega) (by omega) (by assumption) | exact wf3 hq hr (by omega) (by assumption) | exact wf2 hq (by assumption) : true = (!room list p))) rfl
                  ·
                    refine cw_skip ?_
                    refine cw_reg0 tok rfl rfl ?_
                    refine c0 rfl (w_v (I64 ((m : Int))) rfl ?_)
                    refine c0 rfl (w_i (((m + 1 : Nat) : Int)) rfl (by unfold inI; omega) ?_)
                    refine c0 rfl (w_v (I64 (((m + 1 : Nat) : Int))) rfl ?_)
                    refine cn ?_
                    exact ⟨_, _, by omega, wk_of (tms := [(0, .p (.sl 4 (list.map encP))), (3, .pt 3 0 0), (5, I64 ((list.length : Int))), (6, I64 ((i : Int))), (7, I64 ((k : Int))), (8, I64 (((m + 1) : Int)))]) (bls := [(3, 0, .var [I64 p.a, I64 p.b, I64 p.c, I64 p.d] false)]) (gens := [(3, 1)]) ⟨rfl, rfl, rfl, rfl, rfl, rfl, trivial⟩ ⟨rfl, trivial⟩ ⟨rfl, trivial⟩ rfl, (m + 1), ⟨by omega, h4.su hs (by assumption)⟩, rfl, rfl⟩
                ·
                  replace c5 := of_decide_eq_false c5
                  refine cw_exit ?_
                  refine cw_reg0 tok rfl rfl ?_
                  refine c0 rfl (w_v (I64 ((k : Int))) rfl ?_)
                  refine c0 rfl (w_i (((k + 1 : Nat) : Int)) rfl (by unfold inI; omega) ?_)
                  refine c0 rfl (w_v (I64 (((k + 1 : Nat) : Int))) rfl ?_)
                  refine cn ?_
                  exact ⟨_, _, by omega, wk_of (tms := [(0, .p (.sl 4 (list.map encP))), (3, .pt 3 0 0), (5, I64 ((list.length : Int))), (6, I64 ((i : Int))), (7, I64 (((k + 1) : Int)))]) (bls := [(3, 0, .var [I64 p.a, I64 p.b, I64 p.c, I64 p.d] false)]) (gens := [(3, 1)]) ⟨rfl, rfl, rfl, rfl, rfl, trivial⟩ ⟨rfl, trivial⟩ ⟨rfl, trivial⟩ rfl, (k + 1), ⟨by omega, h3.su hr (by assumption) (by rw [show list.length = m by omega]; assumption)⟩, rfl, rfl⟩
          ·
            replace c3 := of_decide_eq_false c3
            refine cw_exit ?_
            refine cw_reg0 tok rfl rfl ?_
            refine c0 rfl (w_v (I64 ((i : Int))) rfl ?_)
            refine c0 rfl (w_i (((i + 1 : Nat) : Int)) rfl (by unfold inI; omega) ?_)
            refine c0 rfl (w_v (I64 (((i + 1 : Nat) : Int))) rfl ?_)
            refine cn ?_
            exact ⟨_, _, by omega, wk_of (tms := [(0, .p (.sl 4 (list.map encP))), (3, .pt 3 0 0), (5, I64 ((list.length : Int))), (6, I64 (((i + 1) : Int)))]) (bls := [(3, 0, .var [I64 p.a, I64 p.b, I64 p.c, I64 p.d] false)]) (gens := [(3, 1)]) ⟨rfl, rfl, rfl, rfl, trivial⟩ ⟨rfl, trivial⟩ ⟨rfl, trivial⟩ rfl, (i + 1), ⟨by omega, h2.su hq (by assumption) (by rw [show list.length = k by omega]; assumption)⟩, rfl, rfl⟩
    ·
      replace c1 := of_decide_eq_false c1
      refine cw_exit ?_
      refine cw_seq ?_
      refine cw_reg0 tok rfl rfl ?_
      refine c0 rfl (w_v (BO false) rfl ?_)
      refine cn ?_
      refine cw_ret ?_
      exact fin1 (bP false) (bP (!room list p)) rfl (congrArg bP (by exact wtr h2 (by omega) : false = (!room list p))) rfl
end Go.Proofs.Ytablmbhnimnccaa.Pw
