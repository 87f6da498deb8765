/- A part of that proof: contracts of the functions that are called, one theorem a function. No condition. -/
import Derived.Test.YtablmbhnimnccaaZqF2
set_option maxRecDepth 20000
set_option maxHeartbeats 4000000
namespace Go.Proofs.Ytablmbhnimnccaa.Pw
theorem l6Sum_fn (f : List Int) (d : List Int) (hw : ∀ x ∈ f, -1000000000000 ≤ x ∧ x ≤ 1000000000000) (hd : ∀ y ∈ d, -500 ≤ y ∧ y ≤ 500) (hl : f.length = d.length) (hn : f.length ≤ 4) : Fn PP 218 [.p (.sl 1 (f.map iP)), .p (.sl 1 (d.map iP))] (.p (bP (sumB f d))) [] := by
  refine fn_intro tok Go.Proofs.Try.func218 (c := _) rfl rfl (Nat.le_of_ble_eq_true rfl) ?_
  refine cw_seq ?_
  refine cw_reg0 tok rfl rfl ?_
  refine c0 rfl (w_v (BO false) rfl ?_)
  refine cn ?_
  refine cw_seq ?_
  refine cw_reg0 tok rfl rfl ?_
  refine c0 rfl (w_v (BO true) rfl ?_)
  refine cn ?_
  refine cw_seq ?_
  refine cw_reg0 tok rfl rfl ?_
  refine c0 rfl (w_v (BO true) rfl ?_)
  refine cn ?_
  refine cw_seq ?_
  refine cw_reg0 tok rfl rfl ?_
  refine c0 rfl (w_v (I64 0) rfl ?_)
  refine cn ?_
  refine cw_seq ?_
  refine cw_seq ?_
  refine cw_reg0 tok rfl rfl ?_
  refine c0 rfl (w_v (I64 0) rfl ?_)
  refine cn ?_
  refine cw_block ?_
  refine cw_loopI (fun n S => ∃ i : Nat, ∃ up : Bool, ∃ dn : Bool, ∃ sm : Int, (i ≤ f.length ∧ up = upT f i ∧ dn = dnT f i ∧ sm = sumT f d i ∧ -(500000000000000 * i) ≤ sm ∧ sm ≤ 500000000000000 * i) ∧ n = f.length - i ∧ S = mkS [(0, .p (.sl 1 (f.map iP))), (1, .p (.sl 1 (d.map iP))), (5, BO up), (6, BO dn), (7, I64 sm), (8, I64 ((i : Int)))] [] []) (f.length - 0) ?_ ?_
  · exact ⟨_, wk_of (tms := [(0, .p (.sl 1 (f.map iP))), (1, .p (.sl 1 (d.map iP))), (5, BO true), (6, BO true), (7, I64 0), (8, I64 ((0 : Int)))]) (bls := []) (gens := []) ⟨rfl, rfl, rfl, rfl, rfl, rfl, trivial⟩ trivial trivial rfl, 0, true, true, 0, ⟨by omega, rfl, rfl, rfl, by omega, by omega⟩, rfl, rfl⟩
  · rintro n _ ⟨i, up, dn, sm, ⟨hi, hup, hdn, hsm, hs1, hs2⟩, hn1, rfl⟩
    refine cw_seq ?_
    refine cw_seq ?_
    refine cw_reg0 tok rfl rfl ?_
    refine c0 rfl (w_v (I64 ((i : Int))) rfl ?_)
    refine c0 rfl (w_v (.p (.sl 1 (f.map iP))) rfl ?_)
    refine c0 rfl (w_len (f.length) rfl rfl (by simp) ?_)
    refine c0 rfl (w_v (BO (decide ((i : Int) < (f.length : Int)))) rfl ?_)
    refine cn ?_
    refine cw_cond (t := decide ((i : Int) < (f.length : Int))) rfl (fun c1 => ?_) (fun c1 => ?_)
    ·
      replace c1 := of_decide_eq_true c1
      refine cw_skip ?_
      refine cw_seq ?_
      refine cw_block ?_
      refine cw_seq ?_
      refine cw_reg0 tok rfl rfl ?_
      refine c0 rfl (w_v (BO up) rfl ?_)
      refine c0 rfl (w_v (BO up) rfl ?_)
      refine cgS (b := up) rfl rfl rfl (fun c2 => ?_) (fun c2 => ?_)
      ·
        refine cgT rfl rfl rfl (w_v (.p (.sl 1 (f.map iP))) rfl ?_)
        refine cgT rfl rfl rfl (w_v (I64 ((i : Int))) rfl ?_)
        obtain ⟨x, hx⟩ := getE (l := f) (i := i) (by first | omega | (simp; omega))
        refine cgT rfl rfl rfl (w_ix ((i : Int)) (iP x) rfl rfl rfl (by omega) (getM hx) ?_)
        refine cgT rfl rfl rfl (w_v (I64 x) rfl ?_)
        refine cgT rfl rfl rfl (w_v (BO (decide (x > 0))) rfl ?_)
        refine c0 rfl (w_v (BO (decide (x > 0))) rfl ?_)
        refine c0 rfl (w_v (BO (decide (x > 0))) rfl ?_)
        refine cn ?_
        refine cw_seq ?_
        refine cw_reg0 tok rfl rfl ?_
        refine c0 rfl (w_v (BO dn) rfl ?_)
        refine c0 rfl (w_v (BO dn) rfl ?_)
        refine cgS (b := dn) rfl rfl rfl (fun c3 => ?_) (fun c3 => ?_)
        ·
          refine cgT rfl rfl rfl (w_v (.p (.sl 1 (f.map iP))) rfl ?_)
          refine cgT rfl rfl rfl (w_v (I64 ((i : Int))) rfl ?_)
          refine cgT rfl rfl rfl (w_ix ((i : Int)) (iP x) rfl rfl rfl (by omega) (getM hx) ?_)
          refine cgT rfl rfl rfl (w_v (I64 x) rfl ?_)
          refine cgT rfl rfl rfl (w_v (BO (decide (x < 0))) rfl ?_)
          refine c0 rfl (w_v (BO (decide (x < 0))) rfl ?_)
          refine c0 rfl (w_v (BO (decide (x < 0))) rfl ?_)
          refine cn ?_
          refine cw_reg1 tok mixed rfl rfl ?_
          refine c0 rfl (w_v (I64 sm) rfl ?_)
          refine c0 rfl (w_v (.p (.sl 1 (f.map iP))) rfl ?_)
          refine c0 rfl (w_v (I64 ((i : Int))) rfl ?_)
          refine c0 rfl (w_ix ((i : Int)) (iP x) rfl rfl rfl (by omega) (getM hx) ?_)
          refine c0 rfl (w_v (I64 x) rfl ?_)
          skip
          refine c0 rfl (w_call_1 (l3Abs_fn x (by have := hw x (List.mem_of_getElem? hx); omega)) rfl rfl ?_)
          refine c0 rfl (w_v (.p (.sl 1 (d.map iP))) rfl ?_)
          refine c0 rfl (w_v (I64 ((i : Int))) rfl ?_)
          obtain ⟨y, hy⟩ := getE (l := d) (i := i) (by first | omega | (simp; omega))
          refine c0 rfl (w_ix ((i : Int)) (iP y) rfl rfl rfl (by omega) (getM hy) ?_)
          refine c0 rfl (w_v (I64 y) rfl ?_)
          have hwx := hw x (List.mem_of_getElem? hx); have hdy := hd y (List.mem_of_getElem? hy); have m1 := mulB (a := (x.natAbs : Int)) (b := y) (B := 1000000000000) (C := 500) (by omega) (by omega)
          refine c0 rfl (w_i (((x.natAbs : Int)) * y) rfl (by unfold inI; omega) ?_)
          refine c0 rfl (w_i (sm + (((x.natAbs : Int)) * y)) rfl (by unfold inI; omega) ?_)
          refine c0 rfl (w_v (I64 (sm + (((x.natAbs : Int)) * y))) rfl ?_)
          refine cn ⟨by kernel_rfl, ?_⟩
          refine cw_reg0 tok rfl rfl ?_
          refine c0 rfl (w_v (I64 ((i : Int))) rfl ?_)
          refine c0 rfl (w_i (((i + 1 : Nat) : Int)) rfl (by unfold inI; omega) ?_)
          refine c0 rfl (w_v (I64 (((i + 1 : Nat) : Int))) rfl ?_)
          refine cn ?_
          exact ⟨_, _, by omega, wk_of (tms := [(0, .p (.sl 1 (f.map iP))), (1, .p (.sl 1 (d.map iP))), (5, BO ((decide (x > 0)))), (6, BO ((decide (x < 0)))), (7, I64 ((sm + (((x.natAbs : Int)) * y)))), (8, I64 (((i + 1) : Int)))]) (bls := []) (gens := []) ⟨rfl, rfl, rfl, rfl, rfl, rfl, trivial⟩ trivial trivial rfl, (i + 1), (decide (x > 0)), (decide (x < 0)), (sm + (((x.natAbs : Int)) * y)), ⟨by omega, by rw [← upS hup hx]; cases up <;> simp_all, by rw [← dnS hdn hx]; cases dn <;> simp_all, by rw [sumT, ← hsm, getD_of hx, getD_of hy], by omega, by omega⟩, rfl, rfl⟩
        ·
          refine cgF (v := .bool false) rfl rfl rfl rfl ?_
          refine cgF (v := .bool false) rfl rfl rfl rfl ?_
          refine cgF (v := .bool false) rfl rfl rfl rfl ?_
          refine cgF (v := .bool false) rfl rfl rfl rfl ?_
          refine cgF (v := .bool false) rfl rfl rfl rfl ?_
          refine c0 rfl (w_v (BO false) rfl ?_)
          refine c0 rfl (w_v (BO false) rfl ?_)
          refine cn ?_
          refine cw_reg1 tok mixed rfl rfl ?_
          refine c0 rfl (w_v (I64 sm) rfl ?_)
          refine c0 rfl (w_v (.p (.sl 1 (f.map iP))) rfl ?_)
          refine c0 rfl (w_v (I64 ((i : Int))) rfl ?_)
          refine c0 rfl (w_ix ((i : Int)) (iP x) rfl rfl rfl (by omega) (getM hx) ?_)
          refine c0 rfl (w_v (I64 x) rfl ?_)
          skip
          refine c0 rfl (w_call_1 (l3Abs_fn x (by have := hw x (List.mem_of_getElem? hx); omega)) rfl rfl ?_)
          refine c0 rfl (w_v (.p (.sl 1 (d.map iP))) rfl ?_)
          refine c0 rfl (w_v (I64 ((i : Int))) rfl ?_)
          obtain ⟨y, hy⟩ := getE (l := d) (i := i) (by first | omega | (simp; omega))
          refine c0 rfl (w_ix ((i : Int)) (iP y) rfl rfl rfl (by omega) (getM hy) ?_)
          refine c0 rfl (w_v (I64 y) rfl ?_)
          have hwx := hw x (List.mem_of_getElem? hx); have hdy := hd y (List.mem_of_getElem? hy); have m1 := mulB (a := (x.natAbs : Int)) (b := y) (B := 1000000000000) (C := 500) (by omega) (by omega)
          refine c0 rfl (w_i (((x.natAbs : Int)) * y) rfl (by unfold inI; omega) ?_)
          refine c0 rfl (w_i (sm + (((x.natAbs : Int)) * y)) rfl (by unfold inI; omega) ?_)
          refine c0 rfl (w_v (I64 (sm + (((x.natAbs : Int)) * y))) rfl ?_)
          refine cn ⟨by kernel_rfl, ?_⟩
          refine cw_reg0 tok rfl rfl ?_
          refine c0 rfl (w_v (I64 ((i : Int))) rfl ?_)
          refine c0 rfl (w_i (((i + 1 : Nat) : Int)) rfl (by unfold inI; omega) ?_)
          refine c0 rfl (w_v (I64 (((i + 1 : Nat) : Int))) rfl ?_)
          refine cn ?_
          exact ⟨_, _, by omega, wk_of (tms := [(0, .p (.sl 1 (f.map iP))), (1, .p (.sl 1 (d.map iP))), (5, BO ((decide (x > 0)))), (6, BO false), (7, I64 ((sm + (((x.natAbs : Int)) * y)))), (8, I64 (((i + 1) : Int)))]) (bls := []) (gens := []) ⟨rfl, rfl, rfl, rfl, rfl, rfl, trivial⟩ trivial trivial rfl, (i + 1), (decide (x > 0)), false, (sm + (((x.natAbs : Int)) * y)), ⟨by omega, by rw [← upS hup hx]; cases up <;> simp_all, by rw [← dnS hdn hx]; cases dn <;> simp_all, by rw [sumT, ← hsm, getD_of hx, getD_of hy], by omega, by omega⟩, rfl, rfl⟩
      ·
        refine cgF (v := .bool false) rfl rfl rfl rfl ?_
        refine cgF (v := .bool false) rfl rfl rfl rfl ?_
        refine cgF (v := .bool false) rfl rfl rfl rfl ?_
        refine cgF (v := .bool false) rfl rfl rfl rfl ?_
        refine cgF (v := .bool false) rfl rfl rfl rfl ?_
        refine c0 rfl (w_v (BO false) rfl ?_)
        refine c0 rfl (w_v (BO false) rfl ?_)
        refine cn ?_
        refine cw_seq ?_
        refine cw_reg0 tok rfl rfl ?_
        refine c0 rfl (w_v (BO dn) rfl ?_)
        refine c0 rfl (w_v (BO dn) rfl ?_)
        refine cgS (b := dn) rfl rfl rfl (fun c4 => ?_) (fun c4 => ?_)
        ·
          refine cgT rfl rfl rfl (w_v (.p (.sl 1 (f.map iP))) rfl ?_)
          refine cgT rfl rfl rfl (w_v (I64 ((i : Int))) rfl ?_)
          obtain ⟨x, hx⟩ := getE (l := f) (i := i) (by first | omega | (simp; omega))
          refine cgT rfl rfl rfl (w_ix ((i : Int)) (iP x) rfl rfl rfl (by omega) (getM hx) ?_)
          refine cgT rfl rfl rfl (w_v (I64 x) rfl ?_)
          refine cgT rfl rfl rfl (w_v (BO (decide (x < 0))) rfl ?_)
          refine c0 rfl (w_v (BO (decide (x < 0))) rfl ?_)
          refine c0 rfl (w_v (BO (decide (x < 0))) rfl ?_)
          refine cn ?_
          refine cw_reg1 tok mixed rfl rfl ?_
          refine c0 rfl (w_v (I64 sm) rfl ?_)
          refine c0 rfl (w_v (.p (.sl 1 (f.map iP))) rfl ?_)
          refine c0 rfl (w_v (I64 ((i : Int))) rfl ?_)
          refine c0 rfl (w_ix ((i : Int)) (iP x) rfl rfl rfl (by omega) (getM hx) ?_)
          refine c0 rfl (w_v (I64 x) rfl ?_)
          skip
          refine c0 rfl (w_call_1 (l3Abs_fn x (by have := hw x (List.mem_of_getElem? hx); omega)) rfl rfl ?_)
          refine c0 rfl (w_v (.p (.sl 1 (d.map iP))) rfl ?_)
          refine c0 rfl (w_v (I64 ((i : Int))) rfl ?_)
          obtain ⟨y, hy⟩ := getE (l := d) (i := i) (by first | omega | (simp; omega))
          refine c0 rfl (w_ix ((i : Int)) (iP y) rfl rfl rfl (by omega) (getM hy) ?_)
          refine c0 rfl (w_v (I64 y) rfl ?_)
          have hwx := hw x (List.mem_of_getElem? hx); have hdy := hd y (List.mem_of_getElem? hy); have m1 := mulB (a := (x.natAbs : Int)) (b := y) (B := 1000000000000) (C := 500) (by omega) (by omega)
          refine c0 rfl (w_i (((x.natAbs : Int)) * y) rfl (by unfold inI; omega) ?_)
          refine c0 rfl (w_i (sm + (((x.natAbs : Int)) * y)) rfl (by unfold inI; omega) ?_)
          refine c0 rfl (w_v (I64 (sm + (((x.natAbs : Int)) * y))) rfl ?_)
          refine cn ⟨by kernel_rfl, ?_⟩
          refine cw_reg0 tok rfl rfl ?_
          refine c0 rfl (w_v (I64 ((i : Int))) rfl ?_)
          refine c0 rfl (w_i (((i + 1 : Nat) : Int)) rfl (by unfold inI; omega) ?_)
          refine c0 rfl (w_v (I64 (((i + 1 : Nat) : Int))) rfl ?_)
          refine cn ?_
          exact ⟨_, _, by omega, wk_of (tms := [(0, .p (.sl 1 (f.map iP))), (1, .p (.sl 1 (d.map iP))), (5, BO false), (6, BO ((decide (x < 0)))), (7, I64 ((sm + (((x.natAbs : Int)) * y)))), (8, I64 (((i + 1) : Int)))]) (bls := []) (gens := []) ⟨rfl, rfl, rfl, rfl, rfl, rfl, trivial⟩ trivial trivial rfl, (i + 1), false, (decide (x < 0)), (sm + (((x.natAbs : Int)) * y)), ⟨by omega, by rw [← upS hup hx]; cases up <;> simp_all, by rw [← dnS hdn hx]; cases dn <;> simp_all, by rw [sumT, ← hsm, getD_of hx, getD_of hy], by omega, by omega⟩, rfl, rfl⟩
        ·
          refine cgF (v := .bool false) rfl rfl rfl rfl ?_
          refine cgF (v := .bool false) rfl rfl rfl rfl ?_
          refine cgF (v := .bool false) rfl rfl rfl rfl ?_
          refine cgF (v := .bool false) rfl rfl rfl rfl ?_
          refine cgF (v := .bool false) rfl rfl rfl rfl ?_
          refine c0 rfl (w_v (BO false) rfl ?_)
          refine c0 rfl (w_v (BO false) rfl ?_)
          refine cn ?_
          refine cw_reg1 tok mixed rfl rfl ?_
          refine c0 rfl (w_v (I64 sm) rfl ?_)
          refine c0 rfl (w_v (.p (.sl 1 (f.map iP))) rfl ?_)
          refine c0 rfl (w_v (I64 ((i : Int))) rfl ?_)
          obtain ⟨x, hx⟩ := getE (l := f) (i := i) (by first | omega | (simp; omega))
          refine c0 rfl (w_ix ((i : Int)) (iP x) rfl rfl rfl (by omega) (getM hx) ?_)
          refine c0 rfl (w_v (I64 x) rfl ?_)
          skip
          refine c0 rfl (w_call_1 (l3Abs_fn x (by have := hw x (List.mem_of_getElem? hx); omega)) rfl rfl ?_)
          refine c0 rfl (w_v (.p (.sl 1 (d.map iP))) rfl ?_)
          refine c0 rfl (w_v (I64 ((i : Int))) rfl ?_)
          obtain ⟨y, hy⟩ := getE (l := d) (i := i) (by first | omega | (simp; omega))
          refine c0 rfl (w_ix ((i : Int)) (iP y) rfl rfl rfl (by omega) (getM hy) ?_)
          refine c0 rfl (w_v (I64 y) rfl ?_)
          have hwx := hw x (List.mem_of_getElem? hx); have hdy := hd y (List.mem_of_getElem? hy); have m1 := mulB (a := (x.natAbs : Int)) (b := y) (B := 1000000000000) (C := 500) (by omega) (by omega)
          refine c0 rfl (w_i (((x.natAbs : Int)) * y) rfl (by unfold inI; omega) ?_)
          refine c0 rfl (w_i (sm + (((x.natAbs : Int)) * y)) rfl (by unfold inI; omega) ?_)
          refine c0 rfl (w_v (I64 (sm + (((x.natAbs : Int)) * y))) rfl ?_)
          refine cn ⟨by kernel_rfl, ?_⟩
          refine cw_reg0 tok rfl rfl ?_
          refine c0 rfl (w_v (I64 ((i : Int))) rfl ?_)
          refine c0 rfl (w_i (((i + 1 : Nat) : Int)) rfl (by unfold inI; omega) ?_)
          refine c0 rfl (w_v (I64 (((i + 1 : Nat) : Int))) rfl ?_)
          refine cn ?_
          exact ⟨_, _, by omega, wk_of (tms := [(0, .p (.sl 1 (f.map iP))), (1, .p (.sl 1 (d.map iP))), (5, BO false), (6, BO false), (7, I64 ((sm + (((x.natAbs : Int)) * y)))), (8, I64 (((i + 1) : Int)))]) (bls := []) (gens := []) ⟨rfl, rfl, rfl, rfl, rfl, rfl, trivial⟩ trivial trivial rfl, (i + 1), false, false, (sm + (((x.natAbs : Int)) * y)), ⟨by omega, by rw [← upS hup hx]; cases up <;> simp_all, by rw [← dnS hdn hx]; cases dn <;> simp_all, by rw [sumT, ← hsm, getD_of hx, getD_of hy], by omega, by omega⟩, rfl, rfl⟩
    ·
      replace c1 := of_decide_eq_false c1
      refine cw_exit ?_
      refine cw_seq ?_
      refine cw_reg0 tok rfl rfl ?_
      refine c0 rfl (w_v (BO up) rfl ?_)
      refine c0 rfl (w_v (BO up) rfl ?_)
      refine cgS (b := up) rfl rfl rfl (fun c5 => ?_) (fun c5 => ?_)
      ·
        refine cgF (v := .bool true) rfl rfl rfl rfl ?_
        refine c0 rfl (w_v (BO true) rfl ?_)
        refine c0 rfl (w_v (BO true) rfl ?_)
        refine cgT rfl rfl rfl (w_v (I64 sm) rfl ?_)
        refine cgT rfl rfl rfl (w_v (BO (decide (sm ≤ 0))) rfl ?_)
        refine c0 rfl (w_v (BO (decide (sm ≤ 0))) rfl ?_)
        refine c0 rfl (w_v (BO (decide (sm ≤ 0))) rfl ?_)
        refine cn ?_
        refine cw_ret ?_
        have he : i = f.length := by omega
        subst he
        exact fin1 (bP (decide (sm ≤ 0))) (bP (sumB f d)) rfl (congrArg bP (by rw [← sumE hup hdn hsm]; cases up <;> cases dn <;> simp_all : (decide (sm ≤ 0)) = (sumB f d))) rfl
      ·
        refine cgT rfl rfl rfl (w_v (BO dn) rfl ?_)
        refine c0 rfl (w_v (BO dn) rfl ?_)
        refine c0 rfl (w_v (BO dn) rfl ?_)
        refine cgS (b := dn) rfl rfl rfl (fun c6 => ?_) (fun c6 => ?_)
        ·
          refine cgT rfl rfl rfl (w_v (I64 sm) rfl ?_)
          refine cgT rfl rfl rfl (w_v (BO (decide (sm ≤ 0))) rfl ?_)
          refine c0 rfl (w_v (BO (decide (sm ≤ 0))) rfl ?_)
          refine c0 rfl (w_v (BO (decide (sm ≤ 0))) rfl ?_)
          refine cn ?_
          refine cw_ret ?_
          have he : i = f.length := by omega
          subst he
          exact fin1 (bP (decide (sm ≤ 0))) (bP (sumB f d)) rfl (congrArg bP (by rw [← sumE hup hdn hsm]; cases up <;> cases dn <;> simp_all : (decide (sm ≤ 0)) = (sumB f d))) rfl
        ·
          refine cgF (v := .bool false) rfl rfl rfl rfl ?_
          refine cgF (v := .bool false) rfl rfl rfl rfl ?_
          refine c0 rfl (w_v (BO false) rfl ?_)
          refine c0 rfl (w_v (BO false) rfl ?_)
          refine cn ?_
          refine cw_ret ?_
          have he : i = f.length := by omega
          subst he
          exact fin1 (bP false) (bP (sumB f d)) rfl (congrArg bP (by rw [← sumE hup hdn hsm]; cases up <;> cases dn <;> simp_all : false = (sumB f d))) rfl
theorem weighs_fn (f : List Int) (d : List Int) (hw : ∀ x ∈ f, -1000000000000 ≤ x ∧ x ≤ 1000000000000) (hd : ∀ y ∈ d, -500 ≤ y ∧ y ≤ 500) (hl : f.length = d.length) (hn : f.length ≤ 4) (h0 : 0 < f.length) : Fn PP 225 [.p (.sl 1 (f.map iP)), .p (.sl 1 (d.map iP))] (.p (bP (wgh f d))) [] := by
  refine fn_intro tok Go.Proofs.Try.func225 (c := _) rfl rfl (Nat.le_of_ble_eq_true rfl) ?_
  refine cw_seq ?_
  refine cw_reg0 tok rfl rfl ?_
  refine c0 rfl (w_v (BO false) rfl ?_)
  refine cn ?_
  refine cw_seq ?_
  refine cw_reg0 tok rfl rfl ?_
  refine c0 rfl (w_v (.p (.sl 1 (f.map iP))) rfl ?_)
  obtain ⟨w0, hw0⟩ := getE (l := f) (i := 0) (by first | omega | (simp; omega))
  refine c0 rfl (w_ix (0) (iP w0) rfl rfl rfl (by omega) (getM hw0) ?_)
  refine c0 rfl (w_v (I64 w0) rfl ?_)
  refine c0 rfl (w_call_1 (isign_fn w0) rfl rfl ?_)
  refine c0 rfl (w_v (I64 (sgn w0)) rfl ?_)
  refine cn ?_
  refine cw_seq ?_
  refine cw_reg0 tok rfl rfl ?_
  refine c0 rfl (w_v (I64 0) rfl ?_)
  refine cn ?_
  refine cw_seq ?_
  refine cw_seq ?_
  refine cw_reg0 tok rfl rfl ?_
  refine c0 rfl (w_v (.p (.sl 1 (f.map iP))) rfl ?_)
  refine c0 rfl (w_len (f.length) rfl rfl (by simp) ?_)
  refine c0 rfl (w_v (I64 0) rfl ?_)
  refine cn ?_
  refine cw_block ?_
  refine cw_loopI (fun n S => ∃ i : Nat, ∃ sm : Int, (i ≤ f.length ∧ (∀ (j : Nat) z, j < i → f[j]? = some z → sgn w0 ≠ 0 ∧ sgn z = sgn w0) ∧ sm = dotT f d i ∧ -(500000000000000 * i) ≤ sm ∧ sm ≤ 500000000000000 * i) ∧ n = f.length - i ∧ S = mkS [(1, .p (.sl 1 (d.map iP))), (5, I64 (sgn w0)), (6, I64 sm), (13, .p (.sl 1 (f.map iP))), (14, I64 ((f.length : Int))), (15, I64 ((i : Int)))] [] []) (f.length - 0) ?_ ?_
  · exact ⟨_, wk_of (tms := [(1, .p (.sl 1 (d.map iP))), (5, I64 (sgn w0)), (6, I64 0), (13, .p (.sl 1 (f.map iP))), (14, I64 ((f.length : Int))), (15, I64 ((0 : Int)))]) (bls := []) (gens := []) ⟨rfl, rfl, rfl, rfl, rfl, rfl, trivial⟩ trivial trivial rfl, 0, 0, ⟨by omega, by intro j z h; omega, rfl, by omega, by omega⟩, rfl, rfl⟩
  · rintro n _ ⟨i, sm, ⟨hi, hall, hsm, hs1, hs2⟩, hn1, rfl⟩
    refine cw_seq ?_
    refine cw_reg0 tok rfl rfl ?_
    refine c0 rfl (w_v (BO (decide ((i : Int) < (f.length : Int)))) rfl ?_)
    refine cn ?_
    refine cw_seq ?_
    refine cw_cond (t := decide ((i : Int) < (f.length : Int))) rfl (fun c1 => ?_) (fun c1 => ?_)
    ·
      replace c1 := of_decide_eq_true c1
      refine cw_skip ?_
      refine cw_seq ?_
      refine cw_block ?_
      refine cw_seq ?_
      refine cw_reg0 tok rfl rfl ?_
      refine c0 rfl (w_v (I64 ((i : Int))) rfl ?_)
      obtain ⟨x, hx⟩ := getE (l := f) (i := i) (by first | omega | (simp; omega))
      refine c0 rfl (w_ix ((i : Int)) (iP x) rfl rfl rfl (by omega) (getM hx) ?_)
      refine c0 rfl (w_v (I64 x) rfl ?_)
      refine c0 rfl (w_v (I64 ((i : Int))) rfl ?_)
      refine c0 rfl (w_v (I64 x) rfl ?_)
      refine cn ?_
      refine cw_seq ?_
      refine cw_seq ?_
      refine cw_reg0 tok rfl rfl ?_
      refine c0 rfl (w_v (I64 (sgn w0)) rfl ?_)
      refine c0 rfl (w_eqi (sgn w0) (0) rfl rfl ?_)
      refine c0 rfl (w_v (BO (decide (sgn w0 = 0))) rfl ?_)
      refine cgS (b := decide (sgn w0 = 0)) rfl rfl rfl (fun c2 => ?_) (fun c2 => ?_)
      ·
        replace c2 := of_decide_eq_true c2
        refine cgF (v := .bool true) rfl rfl rfl rfl ?_
        refine cgF (v := .bool true) rfl rfl rfl rfl ?_
        refine cgF (v := .bool true) rfl rfl rfl rfl ?_
        refine cgF (v := .bool true) rfl rfl rfl rfl ?_
        refine c0 rfl (w_v (BO true) rfl ?_)
        refine cn ?_
        refine cw_cond (t := true) rfl (fun _ => ?_) (fun h => nomatch h)
        refine cw_seq ?_
        refine cw_reg0 tok rfl rfl ?_
        refine c0 rfl (w_v (BO false) rfl ?_)
        refine cn ?_
        refine cw_ret ?_
        exact fin1 (bP false) (bP (wgh f d)) rfl (congrArg bP (by first | exact wgh_end h0 (by omega) hw0 hall hsm | exact wgh_zero hw0 (by assumption) | exact wgh_ne hw0 hx (by assumption) : false = (wgh f d))) rfl
      ·
        replace c2 := of_decide_eq_false c2
        refine cgT rfl rfl rfl (w_v (I64 x) rfl ?_)
        refine cgT rfl rfl rfl (w_call_1 (isign_fn x) rfl rfl ?_)
        refine cgT rfl rfl rfl (w_v (I64 (sgn w0)) rfl ?_)
        refine cgT rfl rfl rfl (w_nei (sgn x) (sgn w0) rfl rfl ?_)
        refine c0 rfl (w_v (BO (decide (sgn x ≠ sgn w0))) rfl ?_)
        refine cn ?_
        refine cw_cond (t := decide (sgn x ≠ sgn w0)) rfl (fun c3 => ?_) (fun c3 => ?_)
        ·
          replace c3 := of_decide_eq_true c3
          refine cw_seq ?_
          refine cw_reg0 tok rfl rfl ?_
          refine c0 rfl (w_v (BO false) rfl ?_)
          refine cn ?_
          refine cw_ret ?_
          exact fin1 (bP false) (bP (wgh f d)) rfl (congrArg bP (by first | exact wgh_end h0 (by omega) hw0 hall hsm | exact wgh_zero hw0 (by assumption) | exact wgh_ne hw0 hx (by assumption) : false = (wgh f d))) rfl
        ·
          replace c3 := of_decide_eq_false c3
          refine cw_skip ?_
          refine cw_reg0 tok rfl rfl ?_
          refine c0 rfl (w_v (I64 sm) rfl ?_)
          refine c0 rfl (w_v (I64 x) rfl ?_)
          refine c0 rfl (w_v (.p (.sl 1 (d.map iP))) rfl ?_)
          refine c0 rfl (w_v (I64 ((i : Int))) rfl ?_)
          obtain ⟨y, hy⟩ := getE (l := d) (i := i) (by first | omega | (simp; omega))
          refine c0 rfl (w_ix ((i : Int)) (iP y) rfl rfl rfl (by omega) (getM hy) ?_)
          refine c0 rfl (w_v (I64 y) rfl ?_)
          have hwx := hw x (List.mem_of_getElem? hx); have hdy := hd y (List.mem_of_getElem? hy); have m1 := mulB (a := x) (b := y) (B := 1000000000000) (C := 500) (by omega) (by omega)
          refine c0 rfl (w_i (x * y) rfl (by unfold inI; omega) ?_)
          refine c0 rfl (w_i (sm + (x * y)) rfl (by unfold inI; omega) ?_)
          refine c0 rfl (w_v (I64 (sm + (x * y))) rfl ?_)
          refine cn ?_
          refine cw_reg0 tok rfl rfl ?_
          refine c0 rfl (w_i (((i + 1 : Nat) : Int)) rfl (by unfold inI; omega) ?_)
          refine c0 rfl (w_v (I64 (((i + 1 : Nat) : Int))) rfl ?_)
          refine cn ?_
          exact ⟨_, _, by omega, wk_of (tms := [(1, .p (.sl 1 (d.map iP))), (5, I64 (sgn w0)), (6, I64 ((sm + (x * y)))), (13, .p (.sl 1 (f.map iP))), (14, I64 ((f.length : Int))), (15, I64 (((i + 1) : Int)))]) (bls := []) (gens := []) ⟨rfl, rfl, rfl, rfl, rfl, rfl, trivial⟩ trivial trivial rfl, (i + 1), (sm + (x * y)), ⟨by omega, wgh_step hall hx (by assumption) (by assumption), by rw [dotT, ← hsm, getD_of hx, getD_of hy], by omega, by omega⟩, rfl, rfl⟩
    ·
      replace c1 := of_decide_eq_false c1
      refine cw_exit ?_
      refine cw_seq ?_
      refine cw_reg0 tok rfl rfl ?_
      refine c0 rfl (w_v (I64 sm) rfl ?_)
      refine c0 rfl (w_v (I64 (sgn w0)) rfl ?_)
      have m2 := mulB (a := sm) (b := sgn w0) (B := 2000000000000000) (C := 1) (by omega) (sgnB w0)
      refine c0 rfl (w_i (sm * (sgn w0)) rfl (by unfold inI; omega) ?_)
      refine c0 rfl (w_v (BO (decide (sm * (sgn w0) ≤ 0))) rfl ?_)
      refine c0 rfl (w_v (BO (decide (sm * (sgn w0) ≤ 0))) rfl ?_)
      refine cn ?_
      refine cw_ret ?_
      exact fin1 (bP (decide (sm * (sgn w0) ≤ 0))) (bP (wgh f d)) rfl (congrArg bP (by first | exact wgh_end h0 (by omega) hw0 hall hsm | exact wgh_zero hw0 (by assumption) | exact wgh_ne hw0 hx (by assumption) : (decide (sm * (sgn w0) ≤ 0)) = (wgh f d))) rfl
theorem sclash2_fn (p : Pl) (q : Pl) (hp : okc p) (hq : okc q) : Fn PP 187 [.p (encP p), .p (encP q)] (.p (bP (clash2 p q))) [] := by
  have hp0 := hp; have hq0 := hq; unfold okc at hp0 hq0
  refine fn_intro tok Go.Proofs.Try.func187 (c := _) rfl rfl (Nat.le_of_ble_eq_true rfl) ?_
  refine cw_seq ?_
  refine cw_reg0 tok rfl rfl ?_
  refine c0 rfl (w_box (g := 0) [I64 p.a, I64 p.b, I64 p.c, I64 p.d] rfl rfl rfl ?_)
  refine c0 rfl (w_box (g := 0) [I64 q.a, I64 q.b, I64 q.c, I64 q.d] rfl rfl rfl ?_)
  refine c0 rfl (w_v (BO false) rfl ?_)
  refine cn ?_
  refine cw_seq ?_
  refine cw_seq ?_
  refine cw_reg0 tok rfl rfl ?_
  refine c0 rfl (w_v (.p (encP p)) rfl ?_)
  refine c0 rfl (w_v (.p (encP q)) rfl ?_)
  refine c0 rfl (w_call_2 (l4Par_fn p q (by first | assumption | omega) (by first | assumption | omega)) rfl rfl rfl ?_)
  refine c0 rfl (w_v (BO (decide (par p q ≥ 0))) rfl ?_)
  refine cn ?_
  refine cw_cond (t := decide (par p q ≥ 0)) rfl (fun c1 => ?_) (fun c1 => ?_)
  ·
    replace c1 := of_decide_eq_true c1
    refine cw_seq ?_
    refine cw_reg0 tok rfl rfl ?_
    refine c0 rfl (w_v (BO false) rfl ?_)
    refine cn ?_
    refine cw_ret ?_
    exact fin1 (bP false) (bP (clash2 p q)) rfl (congrArg bP (by first | exact clash2_no (by assumption) | exact clash2_yes (by assumption) : false = (clash2 p q))) rfl
  ·
    replace c1 := of_decide_eq_false c1
    refine cw_skip ?_
    refine cw_seq ?_
    refine cw_reg1 tok mixed rfl rfl ?_
    have m1 := mulB (a := ((q.a.natAbs + q.b.natAbs + q.c.natAbs : Nat) : Int)) (b := p.d) (B := 1500) (C := 500) (by omega) hp0.2.2.2; have m2 := mulB (a := ((p.a.natAbs + p.b.natAbs + p.c.natAbs : Nat) : Int)) (b := q.d) (B := 1500) (C := 500) (by omega) hq0.2.2.2
    refine c0 rfl (w_v (.pt 3 0 0) rfl ?_)
    refine c0 rfl (w_v (I64 q.a) rfl ?_)
    refine c0 rfl (w_call_1 (l3Abs_fn q.a (by have := hp; have := hq; unfold okc at *; omega)) rfl rfl ?_)
    refine c0 rfl (w_v (.pt 3 0 1) rfl ?_)
    refine c0 rfl (w_v (I64 q.b) rfl ?_)
    refine c0 rfl (w_call_1 (l3Abs_fn q.b (by have := hp; have := hq; unfold okc at *; omega)) rfl rfl ?_)
    refine c0 rfl (w_i (((q.a.natAbs + q.b.natAbs : Nat) : Int)) rfl (by unfold inI; omega) ?_)
    refine c0 rfl (w_v (.pt 3 0 2) rfl ?_)
    refine c0 rfl (w_v (I64 q.c) rfl ?_)
    refine c0 rfl (w_call_1 (l3Abs_fn q.c (by have := hp; have := hq; unfold okc at *; omega)) rfl rfl ?_)
    refine c0 rfl (w_i ((((q.a.natAbs + q.b.natAbs) + q.c.natAbs : Nat) : Int)) rfl (by unfold inI; omega) ?_)
    refine c0 rfl (w_v (I64 ((((q.a.natAbs + q.b.natAbs) + q.c.natAbs : Nat) : Int))) rfl ?_)
    refine cn ⟨by kernel_rfl, ?_⟩
    refine cw_seq ?_
    refine cw_reg1 tok mixed rfl rfl ?_
    refine c0 rfl (w_v (.pt 2 0 0) rfl ?_)
    refine c0 rfl (w_v (I64 p.a) rfl ?_)
    refine c0 rfl (w_call_1 (l3Abs_fn p.a (by have := hp; have := hq; unfold okc at *; omega)) rfl rfl ?_)
    refine c0 rfl (w_v (.pt 2 0 1) rfl ?_)
    refine c0 rfl (w_v (I64 p.b) rfl ?_)
    refine c0 rfl (w_call_1 (l3Abs_fn p.b (by have := hp; have := hq; unfold okc at *; omega)) rfl rfl ?_)
    refine c0 rfl (w_i (((p.a.natAbs + p.b.natAbs : Nat) : Int)) rfl (by unfold inI; omega) ?_)
    refine c0 rfl (w_v (.pt 2 0 2) rfl ?_)
    refine c0 rfl (w_v (I64 p.c) rfl ?_)
    refine c0 rfl (w_call_1 (l3Abs_fn p.c (by have := hp; have := hq; unfold okc at *; omega)) rfl rfl ?_)
    refine c0 rfl (w_i ((((p.a.natAbs + p.b.natAbs) + p.c.natAbs : Nat) : Int)) rfl (by unfold inI; omega) ?_)
    refine c0 rfl (w_v (I64 ((((p.a.natAbs + p.b.natAbs) + p.c.natAbs : Nat) : Int))) rfl ?_)
    refine cn ⟨by kernel_rfl, ?_⟩
    refine cw_seq ?_
    refine cw_reg0 tok rfl rfl ?_
    refine c0 rfl (w_v (I64 ((((q.a.natAbs + q.b.natAbs) + q.c.natAbs : Nat) : Int))) rfl ?_)
    refine c0 rfl (w_v (.pt 2 0 3) rfl ?_)
    refine c0 rfl (w_v (I64 p.d) rfl ?_)
    refine c0 rfl (w_i (((((q.a.natAbs + q.b.natAbs) + q.c.natAbs : Nat) : Int)) * p.d) rfl (by unfold inI; omega) ?_)
    refine c0 rfl (w_v (I64 ((((p.a.natAbs + p.b.natAbs) + p.c.natAbs : Nat) : Int))) rfl ?_)
    refine c0 rfl (w_v (.pt 3 0 3) rfl ?_)
    refine c0 rfl (w_v (I64 q.d) rfl ?_)
    refine c0 rfl (w_i (((((p.a.natAbs + p.b.natAbs) + p.c.natAbs : Nat) : Int)) * q.d) rfl (by unfold inI; omega) ?_)
    refine c0 rfl (w_i ((((((q.a.natAbs + q.b.natAbs) + q.c.natAbs : Nat) : Int)) * p.d) + (((((p.a.natAbs + p.b.natAbs) + p.c.natAbs : Nat) : Int)) * q.d)) rfl (by unfold inI; omega) ?_)
    refine c0 rfl (w_v (BO (decide ((((((q.a.natAbs + q.b.natAbs) + q.c.natAbs : Nat) : Int)) * p.d) + (((((p.a.natAbs + p.b.natAbs) + p.c.natAbs : Nat) : Int)) * q.d) ≤ 0))) rfl ?_)
    refine c0 rfl (w_v (BO (decide ((((((q.a.natAbs + q.b.natAbs) + q.c.natAbs : Nat) : Int)) * p.d) + (((((p.a.natAbs + p.b.natAbs) + p.c.natAbs : Nat) : Int)) * q.d) ≤ 0))) rfl ?_)
    refine cn ?_
    refine cw_ret ?_
    exact fin1 (bP (decide ((((((q.a.natAbs + q.b.natAbs) + q.c.natAbs : Nat) : Int)) * p.d) + (((((p.a.natAbs + p.b.natAbs) + p.c.natAbs : Nat) : Int)) * q.d) ≤ 0))) (bP (clash2 p q)) rfl (congrArg bP (by first | exact clash2_no (by assumption) | exact clash2_yes (by assumption) : (decide ((((((q.a.natAbs + q.b.natAbs) + q.c.natAbs : Nat) : Int)) * p.d) + (((((p.a.natAbs + p.b.natAbs) + p.c.natAbs : Nat) : Int)) * q.d) ≤ 0)) = (clash2 p q))) rfl
theorem iclash2_fn (p : Pl) (q : Pl) (hp : okc p) (hq : okc q) : Fn PP 196 [.p (encP p), .p (encP q)] (.p (bP (clash2 p q))) [] := by
  refine fn_intro tok Go.Proofs.Try.func196 (c := _) rfl rfl (Nat.le_of_ble_eq_true rfl) ?_
  refine cw_seq ?_
  refine cw_reg0 tok rfl rfl ?_
  refine c0 rfl (w_box (g := 0) [I64 p.a, I64 p.b, I64 p.c, I64 p.d] rfl rfl rfl ?_)
  refine c0 rfl (w_box (g := 0) [I64 q.a, I64 q.b, I64 q.c, I64 q.d] rfl rfl rfl ?_)
  refine c0 rfl (w_v (BO false) rfl ?_)
  refine cn ?_
  refine cw_seq ?_
  refine cw_seq ?_
  refine cw_reg0 tok rfl rfl ?_
  refine c0 rfl (w_v (.p (encP p)) rfl ?_)
  refine c0 rfl (w_v (.p (encP q)) rfl ?_)
  refine c0 rfl (w_call_2 (par_fn p q (by first | assumption | omega) (by first | assumption | omega)) rfl rfl rfl ?_)
  refine c0 rfl (w_v (BO (decide (par p q ≥ 0))) rfl ?_)
  refine cn ?_
  refine cw_cond (t := decide (par p q ≥ 0)) rfl (fun c1 => ?_) (fun c1 => ?_)
  ·
    replace c1 := of_decide_eq_true c1
    refine cw_seq ?_
    refine cw_reg0 tok rfl rfl ?_
    refine c0 rfl (w_v (BO false) rfl ?_)
    refine cn ?_
    refine cw_ret ?_
    exact fin1 (bP false) (bP (clash2 p q)) rfl (congrArg bP (by first | exact clash2_no (by assumption) | exact clash2_z (by assumption) (by assumption) (by assumption) (by assumption) : false = (clash2 p q))) rfl
  ·
    replace c1 := of_decide_eq_false c1
    refine cw_skip ?_
    refine cw_seq ?_
    refine cw_reg1 tok mixed rfl rfl ?_
    refine c0 rfl (w_v (.p (encP p)) rfl ?_)
    refine c0 rfl (w_call_1 (normal_fn p) rfl rfl ?_)
    refine c0 rfl (w_v (.p (encP q)) rfl ?_)
    refine c0 rfl (w_call_1 (normal_fn q) rfl rfl ?_)
    refine c0 rfl (w_alloc (g := 0) [I64 0, I64 0, I64 0] rfl rfl rfl ?_)
    refine c0 rfl (w_alloc (g := 0) [I64 0, I64 0, I64 0] rfl rfl rfl ?_)
    refine c0 rfl (w_st [I64 ((nrm p).a), I64 ((nrm p).b), I64 ((nrm p).c)] rfl rfl rfl rfl rfl (Nat.le_of_ble_eq_true rfl) rfl ?_)
    refine c0 rfl (w_st [I64 ((nrm q).a), I64 ((nrm q).b), I64 ((nrm q).c)] rfl rfl rfl rfl rfl (Nat.le_of_ble_eq_true rfl) rfl ?_)
    refine cn ⟨by kernel_rfl, ?_⟩
    refine cw_seq ?_
    refine cw_seq ?_
    refine cw_reg0 tok rfl rfl ?_
    refine c0 rfl (w_v (I64 0) rfl ?_)
    refine cn ?_
    refine cw_block ?_
    refine cw_loopU ?_
    refine cwl_step ?_
    refine cw_seq ?_
    refine cw_reg0 tok rfl rfl ?_
    refine c0 rfl (w_v (BO true) rfl ?_)
    refine cn ?_
    refine cw_seq ?_
    refine cw_cond (t := true) rfl (fun _ => ?_) (fun h => nomatch h)
    refine cw_skip ?_
    refine cw_seq ?_
    refine cw_block ?_
    refine cw_seq ?_
    refine cw_reg0 tok rfl rfl ?_
    refine c0 rfl (w_v (I64 0) rfl ?_)
    refine c0 rfl (w_v (I64 0) rfl ?_)
    refine cn ?_
    refine cw_seq ?_
    refine cw_reg0 tok rfl rfl ?_
    refine c0 rfl (w_v (I64 0) rfl ?_)
    refine c0 rfl (w_v (.pt 5 0 0) rfl ?_)
    refine c0 rfl (w_v (I64 ((nrm p).a)) rfl ?_)
    refine c0 rfl (w_nei ((nrm p).a) (0) rfl rfl ?_)
    refine cn ?_
    refine cw_cond (t := decide ((nrm p).a ≠ 0)) rfl (fun c2 => ?_) (fun c2 => ?_)
    ·
      replace c2 := of_decide_eq_true c2
      refine cw_seq ?_
      refine cw_reg1 tok mixed rfl rfl ?_
      refine c0 rfl (w_v (.pt 2 0 3) rfl ?_)
      refine c0 rfl (w_v (I64 p.d) rfl ?_)
      refine c0 rfl (w_v (I64 0) rfl ?_)
      refine c0 rfl (w_v (.pt 6 0 0) rfl ?_)
      refine c0 rfl (w_v (I64 ((nrm q).a)) rfl ?_)
      refine c0 rfl (w_v (I64 0) rfl ?_)
      refine c0 rfl (w_v (.pt 6 0 0) rfl ?_)
      refine c0 rfl (w_v (I64 ((nrm q).a)) rfl ?_)
      have hp0 := hp; have hq0 := hq; unfold okc at hp0 hq0
      refine c0 rfl (w_i (0 - ((nrm q).a)) rfl (by unfold inI; simp only [nrm]; omega) ?_)
      refine c0 rfl (w_max2 ((nrm q).a) (0 - ((nrm q).a)) rfl rfl ?_)
      have n1 := mulB (a := p.d) (b := max (nrm q).a (0 - (nrm q).a)) (B := 500) (C := 500) hp0.2.2.2 (by simp only [nrm]; omega); have n2 := mulB (a := p.d) (b := max (nrm q).b (0 - (nrm q).b)) (B := 500) (C := 500) hp0.2.2.2 (by simp only [nrm]; omega); have n3 := mulB (a := p.d) (b := max (nrm q).c (0 - (nrm q).c)) (B := 500) (C := 500) hp0.2.2.2 (by simp only [nrm]; omega)
      have n4 := mulB (a := q.d) (b := max (nrm p).a (0 - (nrm p).a)) (B := 500) (C := 500) hq0.2.2.2 (by simp only [nrm]; omega); have n5 := mulB (a := q.d) (b := max (nrm p).b (0 - (nrm p).b)) (B := 500) (C := 500) hq0.2.2.2 (by simp only [nrm]; omega); have n6 := mulB (a := q.d) (b := max (nrm p).c (0 - (nrm p).c)) (B := 500) (C := 500) hq0.2.2.2 (by simp only [nrm]; omega)
      refine c0 rfl (w_i (p.d * (max ((nrm q).a) (0 - ((nrm q).a)))) rfl (by unfold inI; omega) ?_)
      refine c0 rfl (w_v (.pt 3 0 3) rfl ?_)
      refine c0 rfl (w_v (I64 q.d) rfl ?_)
      refine c0 rfl (w_v (I64 0) rfl ?_)
      refine c0 rfl (w_v (.pt 5 0 0) rfl ?_)
      refine c0 rfl (w_v (I64 ((nrm p).a)) rfl ?_)
      refine c0 rfl (w_v (I64 0) rfl ?_)
      refine c0 rfl (w_v (.pt 5 0 0) rfl ?_)
      refine c0 rfl (w_v (I64 ((nrm p).a)) rfl ?_)
      refine c0 rfl (w_i (0 - ((nrm p).a)) rfl (by unfold inI; simp only [nrm]; omega) ?_)
      refine c0 rfl (w_max2 ((nrm p).a) (0 - ((nrm p).a)) rfl rfl ?_)
      refine c0 rfl (w_i (q.d * (max ((nrm p).a) (0 - ((nrm p).a)))) rfl (by unfold inI; omega) ?_)
      refine c0 rfl (w_i ((p.d * (max ((nrm q).a) (0 - ((nrm q).a)))) + (q.d * (max ((nrm p).a) (0 - ((nrm p).a))))) rfl (by unfold inI; omega) ?_)
      refine c0 rfl (w_v (BO (decide ((p.d * (max ((nrm q).a) (0 - ((nrm q).a)))) + (q.d * (max ((nrm p).a) (0 - ((nrm p).a)))) ≤ 0))) rfl ?_)
      refine c0 rfl (w_v (BO (decide ((p.d * (max ((nrm q).a) (0 - ((nrm q).a)))) + (q.d * (max ((nrm p).a) (0 - ((nrm p).a)))) ≤ 0))) rfl ?_)
      refine cn ⟨by kernel_rfl, ?_⟩
      refine cw_ret ?_
      exact fin1 (bP (decide ((p.d * (max ((nrm q).a) (0 - ((nrm q).a)))) + (q.d * (max ((nrm p).a) (0 - ((nrm p).a)))) ≤ 0))) (bP (clash2 p q)) rfl (congrArg bP (by exact clash2_a (by assumption) (by assumption) : (decide ((p.d * (max ((nrm q).a) (0 - ((nrm q).a)))) + (q.d * (max ((nrm p).a) (0 - ((nrm p).a)))) ≤ 0)) = (clash2 p q))) rfl
    ·
      replace c2 := of_decide_eq_false c2
      refine cw_skip ?_
      refine cw_reg0 tok rfl rfl ?_
      refine c0 rfl (w_i (1) rfl (by unfold inI; omega) ?_)
      refine c0 rfl (w_v (I64 1) rfl ?_)
      refine cn ?_
      refine cwl_step ?_
      refine cw_seq ?_
      refine cw_reg0 tok rfl rfl ?_
      refine c0 rfl (w_v (BO true) rfl ?_)
      refine cn ?_
      refine cw_seq ?_
      refine cw_cond (t := true) rfl (fun _ => ?_) (fun h => nomatch h)
      refine cw_skip ?_
      refine cw_seq ?_
      refine cw_block ?_
      refine cw_seq ?_
      refine cw_reg0 tok rfl rfl ?_
      refine c0 rfl (w_v (I64 1) rfl ?_)
      refine c0 rfl (w_v (I64 1) rfl ?_)
      refine cn ?_
      refine cw_seq ?_
      refine cw_reg0 tok rfl rfl ?_
      refine c0 rfl (w_v (I64 1) rfl ?_)
      refine c0 rfl (w_v (.pt 5 0 1) rfl ?_)
      refine c0 rfl (w_v (I64 ((nrm p).b)) rfl ?_)
      refine c0 rfl (w_nei ((nrm p).b) (0) rfl rfl ?_)
      refine cn ?_
      refine cw_cond (t := decide ((nrm p).b ≠ 0)) rfl (fun c3 => ?_) (fun c3 => ?_)
      ·
        replace c3 := of_decide_eq_true c3
        refine cw_seq ?_
        refine cw_reg1 tok mixed rfl rfl ?_
        refine c0 rfl (w_v (.pt 2 0 3) rfl ?_)
        refine c0 rfl (w_v (I64 p.d) rfl ?_)
        refine c0 rfl (w_v (I64 1) rfl ?_)
        refine c0 rfl (w_v (.pt 6 0 1) rfl ?_)
        refine c0 rfl (w_v (I64 ((nrm q).b)) rfl ?_)
        refine c0 rfl (w_v (I64 1) rfl ?_)
        refine c0 rfl (w_v (.pt 6 0 1) rfl ?_)
        refine c0 rfl (w_v (I64 ((nrm q).b)) rfl ?_)
        have hp0 := hp; have hq0 := hq; unfold okc at hp0 hq0
        refine c0 rfl (w_i (0 - ((nrm q).b)) rfl (by unfold inI; simp only [nrm]; omega) ?_)
        refine c0 rfl (w_max2 ((nrm q).b) (0 - ((nrm q).b)) rfl rfl ?_)
        have n1 := mulB (a := p.d) (b := max (nrm q).a (0 - (nrm q).a)) (B := 500) (C := 500) hp0.2.2.2 (by simp only [nrm]; omega); have n2 := mulB (a := p.d) (b := max (nrm q).b (0 - (nrm q).b)) (B := 500) (C := 500) hp0.2.2.2 (by simp only [nrm]; omega); have n3 := mulB (a := p.d) (b := max (nrm q).c (0 - (nrm q).c)) (B := 500) (C := 500) hp0.2.2.2 (by simp only [nrm]; omega)
        have n4 := mulB (a := q.d) (b := max (nrm p).a (0 - (nrm p).a)) (B := 500) (C := 500) hq0.2.2.2 (by simp only [nrm]; omega); have n5 := mulB (a := q.d) (b := max (nrm p).b (0 - (nrm p).b)) (B := 500) (C := 500) hq0.2.2.2 (by simp only [nrm]; omega); have n6 := mulB (a := q.d) (b := max (nrm p).c (0 - (nrm p).c)) (B := 500) (C := 500) hq0.2.2.2 (by simp only [nrm]; omega)
        refine c0 rfl (w_i (p.d * (max ((nrm q).b) (0 - ((nrm q).b)))) rfl (by unfold inI; omega) ?_)
        refine c0 rfl (w_v (.pt 3 0 3) rfl ?_)
        refine c0 rfl (w_v (I64 q.d) rfl ?_)
        refine c0 rfl (w_v (I64 1) rfl ?_)
        refine c0 rfl (w_v (.pt 5 0 1) rfl ?_)
        refine c0 rfl (w_v (I64 ((nrm p).b)) rfl ?_)
        refine c0 rfl (w_v (I64 1) rfl ?_)
        refine c0 rfl (w_v (.pt 5 0 1) rfl ?_)
        refine c0 rfl (w_v (I64 ((nrm p).b)) rfl ?_)
        refine c0 rfl (w_i (0 - ((nrm p).b)) rfl (by unfold inI; simp only [nrm]; omega) ?_)
        refine c0 rfl (w_max2 ((nrm p).b) (0 - ((nrm p).b)) rfl rfl ?_)
        refine c0 rfl (w_i (q.d * (max ((nrm p).b) (0 - ((nrm p).b)))) rfl (by unfold inI; omega) ?_)
        refine c0 rfl (w_i ((p.d * (max ((nrm q).b) (0 - ((nrm q).b)))) + (q.d * (max ((nrm p).b) (0 - ((nrm p).b))))) rfl (by unfold inI; omega) ?_)
        refine c0 rfl (w_v (BO (decide ((p.d * (max ((nrm q).b) (0 - ((nrm q).b)))) + (q.d * (max ((nrm p).b) (0 - ((nrm p).b)))) ≤ 0))) rfl ?_)
        refine c0 rfl (w_v (BO (decide ((p.d * (max ((nrm q).b) (0 - ((nrm q).b)))) + (q.d * (max ((nrm p).b) (0 - ((nrm p).b)))) ≤ 0))) rfl ?_)
        refine cn ⟨by kernel_rfl, ?_⟩
        refine cw_ret ?_
        exact fin1 (bP (decide ((p.d * (max ((nrm q).b) (0 - ((nrm q).b)))) + (q.d * (max ((nrm p).b) (0 - ((nrm p).b)))) ≤ 0))) (bP (clash2 p q)) rfl (congrArg bP (by exact clash2_b (by assumption) (by assumption) : (decide ((p.d * (max ((nrm q).b) (0 - ((nrm q).b)))) + (q.d * (max ((nrm p).b) (0 - ((nrm p).b)))) ≤ 0)) = (clash2 p q))) rfl
      ·
        replace c3 := of_decide_eq_false c3
        refine cw_skip ?_
        refine cw_reg0 tok rfl rfl ?_
        refine c0 rfl (w_i (2) rfl (by unfold inI; omega) ?_)
        refine c0 rfl (w_v (I64 2) rfl ?_)
        refine cn ?_
        refine cwl_step ?_
        refine cw_seq ?_
        refine cw_reg0 tok rfl rfl ?_
        refine c0 rfl (w_v (BO true) rfl ?_)
        refine cn ?_
        refine cw_seq ?_
        refine cw_cond (t := true) rfl (fun _ => ?_) (fun h => nomatch h)
        refine cw_skip ?_
        refine cw_seq ?_
        refine cw_block ?_
        refine cw_seq ?_
        refine cw_reg0 tok rfl rfl ?_
        refine c0 rfl (w_v (I64 2) rfl ?_)
        refine c0 rfl (w_v (I64 2) rfl ?_)
        refine cn ?_
        refine cw_seq ?_
        refine cw_reg0 tok rfl rfl ?_
        refine c0 rfl (w_v (I64 2) rfl ?_)
        refine c0 rfl (w_v (.pt 5 0 2) rfl ?_)
        refine c0 rfl (w_v (I64 ((nrm p).c)) rfl ?_)
        refine c0 rfl (w_nei ((nrm p).c) (0) rfl rfl ?_)
        refine cn ?_
        refine cw_cond (t := decide ((nrm p).c ≠ 0)) rfl (fun c4 => ?_) (fun c4 => ?_)
        ·
          replace c4 := of_decide_eq_true c4
          refine cw_seq ?_
          refine cw_reg1 tok mixed rfl rfl ?_
          refine c0 rfl (w_v (.pt 2 0 3) rfl ?_)
          refine c0 rfl (w_v (I64 p.d) rfl ?_)
          refine c0 rfl (w_v (I64 2) rfl ?_)
          refine c0 rfl (w_v (.pt 6 0 2) rfl ?_)
          refine c0 rfl (w_v (I64 ((nrm q).c)) rfl ?_)
          refine c0 rfl (w_v (I64 2) rfl ?_)
          refine c0 rfl (w_v (.pt 6 0 2) rfl ?_)
          refine c0 rfl (w_v (I64 ((nrm q).c)) rfl ?_)
          have hp0 := hp; have hq0 := hq; unfold okc at hp0 hq0
          refine c0 rfl (w_i (0 - ((nrm q).c)) rfl (by unfold inI; simp only [nrm]; omega) ?_)
          refine c0 rfl (w_max2 ((nrm q).c) (0 - ((nrm q).c)) rfl rfl ?_)
          have n1 := mulB (a := p.d) (b := max (nrm q).a (0 - (nrm q).a)) (B := 500) (C := 500) hp0.2.2.2 (by simp only [nrm]; omega); have n2 := mulB (a := p.d) (b := max (nrm q).b (0 - (nrm q).b)) (B := 500) (C := 500) hp0.2.2.2 (by simp only [nrm]; omega); have n3 := mulB (a := p.d) (b := max (nrm q).c (0 - (nrm q).c)) (B := 500) (C := 500) hp0.2.2.2 (by simp only [nrm]; omega)
          have n4 := mulB (a := q.d) (b := max (nrm p).a (0 - (nrm p).a)) (B := 500) (C := 500) hq0.2.2.2 (by simp only [nrm]; omega); have n5 := mulB (a := q.d) (b := max (nrm p).b (0 - (nrm p).b)) (B := 500) (C := 500) hq0.2.2.2 (by simp only [nrm]; omega); have n6 := mulB (a := q.d) (b := max (nrm p).c (0 - (nrm p).c)) (B := 500) (C := 500) hq0.2.2.2 (by simp only [nrm]; omega)
          refine c0 rfl (w_i (p.d * (max ((nrm q).c) (0 - ((nrm q).c)))) rfl (by unfold inI; omega) ?_)
          refine c0 rfl (w_v (.pt 3 0 3) rfl ?_)
          refine c0 rfl (w_v (I64 q.d) rfl ?_)
          refine c0 rfl (w_v (I64 2) rfl ?_)
          refine c0 rfl (w_v (.pt 5 0 2) rfl ?_)
          refine c0 rfl (w_v (I64 ((nrm p).c)) rfl ?_)
          refine c0 rfl (w_v (I64 2) rfl ?_)
          refine c0 rfl (w_v (.pt 5 0 2) rfl ?_)
          refine c0 rfl (w_v (I64 ((nrm p).c)) rfl ?_)
          refine c0 rfl (w_i (0 - ((nrm p).c)) rfl (by unfold inI; simp only [nrm]; omega) ?_)
          refine c0 rfl (w_max2 ((nrm p).c) (0 - ((nrm p).c)) rfl rfl ?_)
          refine c0 rfl (w_i (q.d * (max ((nrm p).c) (0 - ((nrm p).c)))) rfl (by unfold inI; omega) ?_)
          refine c0 rfl (w_i ((p.d * (max ((nrm q).c) (0 - ((nrm q).c)))) + (q.d * (max ((nrm p).c) (0 - ((nrm p).c))))) rfl (by unfold inI; omega) ?_)
          refine c0 rfl (w_v (BO (decide ((p.d * (max ((nrm q).c) (0 - ((nrm q).c)))) + (q.d * (max ((nrm p).c) (0 - ((nrm p).c)))) ≤ 0))) rfl ?_)
          refine c0 rfl (w_v (BO (decide ((p.d * (max ((nrm q).c) (0 - ((nrm q).c)))) + (q.d * (max ((nrm p).c) (0 - ((nrm p).c)))) ≤ 0))) rfl ?_)
          refine cn ⟨by kernel_rfl, ?_⟩
          refine cw_ret ?_
          exact fin1 (bP (decide ((p.d * (max ((nrm q).c) (0 - ((nrm q).c)))) + (q.d * (max ((nrm p).c) (0 - ((nrm p).c)))) ≤ 0))) (bP (clash2 p q)) rfl (congrArg bP (by exact clash2_c (by assumption) (by assumption) : (decide ((p.d * (max ((nrm q).c) (0 - ((nrm q).c)))) + (q.d * (max ((nrm p).c) (0 - ((nrm p).c)))) ≤ 0)) = (clash2 p q))) rfl
        ·
          replace c4 := of_decide_eq_false c4
          refine cw_skip ?_
          refine cw_reg0 tok rfl rfl ?_
          refine c0 rfl (w_i (3) rfl (by unfold inI; omega) ?_)
          refine c0 rfl (w_v (I64 3) rfl ?_)
          refine cn ?_
          refine cwl_step ?_
          refine cw_seq ?_
          refine cw_reg0 tok rfl rfl ?_
          refine c0 rfl (w_v (BO false) rfl ?_)
          refine cn ?_
          refine cw_seq ?_
          refine cw_cond (t := false) rfl (fun h => nomatch h) (fun _ => ?_)
          refine cw_exit ?_
          refine cw_seq ?_
          refine cw_reg0 tok rfl rfl ?_
          refine c0 rfl (w_v (BO false) rfl ?_)
          refine cn ?_
          refine cw_ret ?_
          exact fin1 (bP false) (bP (clash2 p q)) rfl (congrArg bP (by first | exact clash2_no (by assumption) | exact clash2_z (by assumption) (by assumption) (by assumption) (by assumption) : false = (clash2 p q))) rfl
theorem sclash4_fn (p : Pl) (q : Pl) (r : Pl) (s : Pl) (hp : okc p) (hq : okc q) (hr : okc r) (hs : okc s) : Fn PP 189 [.p (encP p), .p (encP q), .p (encP r), .p (encP s)] (.p (bP (clash4 p q r s))) [] := by
  have d1 := det3B hq hr hs; have d2 := det3B hp hr hs; have d3 := det3B hp hq hs; have d4 := det3B hp hq hr
  have k1 := hp.2.2.2; have k2 := hq.2.2.2; have k3 := hr.2.2.2; have k4 := hs.2.2.2
  refine fn_intro tok Go.Proofs.Try.func189 (c := _) rfl rfl (Nat.le_of_ble_eq_true rfl) ?_
  refine cw_seq ?_
  refine cw_reg0 tok rfl rfl ?_
  refine c0 rfl (w_box (g := 0) [I64 p.a, I64 p.b, I64 p.c, I64 p.d] rfl rfl rfl ?_)
  refine c0 rfl (w_box (g := 0) [I64 q.a, I64 q.b, I64 q.c, I64 q.d] rfl rfl rfl ?_)
  refine c0 rfl (w_box (g := 0) [I64 r.a, I64 r.b, I64 r.c, I64 r.d] rfl rfl rfl ?_)
  refine c0 rfl (w_box (g := 0) [I64 s.a, I64 s.b, I64 s.c, I64 s.d] rfl rfl rfl ?_)
  refine c0 rfl (w_v (BO false) rfl ?_)
  refine cn ?_
  refine cw_seq ?_
  refine cw_reg1 tok mixed rfl rfl ?_
  refine c0 rfl (w_v (.p (encP q)) rfl ?_)
  refine c0 rfl (w_v (.p (encP r)) rfl ?_)
  refine c0 rfl (w_v (.p (encP s)) rfl ?_)
  refine c0 rfl (w_call_3 (sdet3_fn q r s (by first | assumption | omega) (by first | assumption | omega) (by first | assumption | omega)) rfl rfl rfl rfl ?_)
  refine c0 rfl (w_v (.p (encP p)) rfl ?_)
  refine c0 rfl (w_v (.p (encP r)) rfl ?_)
  refine c0 rfl (w_v (.p (encP s)) rfl ?_)
  refine c0 rfl (w_call_3 (sdet3_fn p r s (by first | assumption | omega) (by first | assumption | omega) (by first | assumption | omega)) rfl rfl rfl rfl ?_)
  refine c0 rfl (w_i (0 - (det3 p r s)) rfl (by unfold inI; omega) ?_)
  refine c0 rfl (w_v (.p (encP p)) rfl ?_)
  refine c0 rfl (w_v (.p (encP q)) rfl ?_)
  refine c0 rfl (w_v (.p (encP s)) rfl ?_)
  refine c0 rfl (w_call_3 (sdet3_fn p q s (by first | assumption | omega) (by first | assumption | omega) (by first | assumption | omega)) rfl rfl rfl rfl ?_)
  refine c0 rfl (w_v (.p (encP p)) rfl ?_)
  refine c0 rfl (w_v (.p (encP q)) rfl ?_)
  refine c0 rfl (w_v (.p (encP r)) rfl ?_)
  refine c0 rfl (w_call_3 (sdet3_fn p q r (by first | assumption | omega) (by first | assumption | omega) (by first | assumption | omega)) rfl rfl rfl rfl ?_)
  refine c0 rfl (w_i (0 - (det3 p q r)) rfl (by unfold inI; omega) ?_)
  refine c0 rfl (w_bsl (g := 0) [iP (det3 q r s), iP (0 - (det3 p r s)), iP (det3 p q s), iP (0 - (det3 p q r))] rfl rfl rfl rfl (Nat.le_of_ble_eq_true rfl) (Nat.le_of_ble_eq_true rfl) (Nat.le_of_ble_eq_true rfl) (.cons _ _ _ _ _ _ _ [] [] (.one _ _ _ _ _ (.p _ _)) (.cons _ _ _ _ _ _ _ [] [] (.one _ _ _ _ _ (.p _ _)) (.cons _ _ _ _ _ _ _ [] [] (.one _ _ _ _ _ (.p _ _)) (.cons _ _ _ _ _ _ _ [] [] (.one _ _ _ _ _ (.p _ _)) (.nil _))))) rfl rfl ?_)
  refine c0 rfl (w_v (.os 28 0 4) rfl ?_)
  refine cn ⟨by kernel_rfl, ?_⟩
  refine cw_seq ?_
  refine cw_reg0 tok rfl rfl ?_
  refine c0 rfl (w_v (.os 28 0 4) rfl ?_)
  refine c0 rfl (w_v (.pt 4 0 3) rfl ?_)
  refine c0 rfl (w_v (I64 p.d) rfl ?_)
  refine c0 rfl (w_v (.pt 5 0 3) rfl ?_)
  refine c0 rfl (w_v (I64 q.d) rfl ?_)
  refine c0 rfl (w_v (.pt 6 0 3) rfl ?_)
  refine c0 rfl (w_v (I64 r.d) rfl ?_)
  refine c0 rfl (w_v (.pt 7 0 3) rfl ?_)
  refine c0 rfl (w_v (I64 s.d) rfl ?_)
  refine c0 rfl (w_bsl (g := 0) [iP p.d, iP q.d, iP r.d, iP s.d] rfl rfl rfl rfl (Nat.le_of_ble_eq_true rfl) (Nat.le_of_ble_eq_true rfl) (Nat.le_of_ble_eq_true rfl) (.cons _ _ _ _ _ _ _ [] [] (.one _ _ _ _ _ (.p _ _)) (.cons _ _ _ _ _ _ _ [] [] (.one _ _ _ _ _ (.p _ _)) (.cons _ _ _ _ _ _ _ [] [] (.one _ _ _ _ _ (.p _ _)) (.cons _ _ _ _ _ _ _ [] [] (.one _ _ _ _ _ (.p _ _)) (.nil _))))) rfl rfl ?_)
  refine c0 rfl (w_call (BO (sumB ([det3 q r s, 0 - (det3 p r s), det3 p q s, 0 - (det3 p q r)]) ([p.d, q.d, r.d, s.d]))) (l6Sum_fn ([det3 q r s, 0 - (det3 p r s), det3 p q s, 0 - (det3 p q r)]) ([p.d, q.d, r.d, s.d]) (by simp; omega) (by simp; omega) (by simp) (by simp)) rfl (.cons _ _ _ _ _ _ _ [] _ (.one _ _ _ _ _ (passOs (xs := ([det3 q r s, 0 - (det3 p r s), det3 p q s, 0 - (det3 p q r)]).map iP) rfl rfl)) (.cons _ _ _ _ _ _ _ [] _ (.one _ _ _ _ _ (passOs (xs := ([p.d, q.d, r.d, s.d]).map iP) rfl rfl)) (.nil _))) rfl (.one _ _ _ _ (.p _ _)) ?_)
  refine c0 rfl (w_v (BO (sumB ([det3 q r s, 0 - (det3 p r s), det3 p q s, 0 - (det3 p q r)]) ([p.d, q.d, r.d, s.d]))) rfl ?_)
  refine cn ?_
  refine cw_ret ?_
  exact fin1 (bP (sumB ([det3 q r s, 0 - (det3 p r s), det3 p q s, 0 - (det3 p q r)]) ([p.d, q.d, r.d, s.d]))) (bP (clash4 p q r s)) rfl (congrArg bP (by exact clash4_s : (sumB ([det3 q r s, 0 - (det3 p r s), det3 p q s, 0 - (det3 p q r)]) ([p.d, q.d, r.d, s.d])) = (clash4 p q r s))) rfl
theorem iclash4_fn (p : Pl) (q : Pl) (r : Pl) (s : Pl) (hp : okc p) (hq : okc q) (hr : okc r) (hs : okc s) : Fn PP 198 [.p (encP p), .p (encP q), .p (encP r), .p (encP s)] (.p (bP (clash4 p q r s))) [] := by
  have d1 := det3B hq hr hs; have d2 := det3B hp hr hs; have d3 := det3B hp hq hs; have d4 := det3B hp hq hr
  have k1 := hp.2.2.2; have k2 := hq.2.2.2; have k3 := hr.2.2.2; have k4 := hs.2.2.2
  refine fn_intro tok Go.Proofs.Try.func198 (c := _) rfl rfl (Nat.le_of_ble_eq_true rfl) ?_
  refine cw_seq ?_
  refine cw_reg0 tok rfl rfl ?_
  refine c0 rfl (w_box (g := 0) [I64 p.a, I64 p.b, I64 p.c, I64 p.d] rfl rfl rfl ?_)
  refine c0 rfl (w_box (g := 0) [I64 q.a, I64 q.b, I64 q.c, I64 q.d] rfl rfl rfl ?_)
  refine c0 rfl (w_box (g := 0) [I64 r.a, I64 r.b, I64 r.c, I64 r.d] rfl rfl rfl ?_)
  refine c0 rfl (w_box (g := 0) [I64 s.a, I64 s.b, I64 s.c, I64 s.d] rfl rfl rfl ?_)
  refine c0 rfl (w_v (BO false) rfl ?_)
  refine cn ?_
  refine cw_seq ?_
  refine cw_reg1 tok mixed rfl rfl ?_
  refine c0 rfl (w_v (.p (encP q)) rfl ?_)
  refine c0 rfl (w_v (.p (encP r)) rfl ?_)
  refine c0 rfl (w_v (.p (encP s)) rfl ?_)
  refine c0 rfl (w_call_3 (idet3_fn q r s (by first | assumption | omega) (by first | assumption | omega) (by first | assumption | omega)) rfl rfl rfl rfl ?_)
  refine c0 rfl (w_v (.p (encP p)) rfl ?_)
  refine c0 rfl (w_v (.p (encP r)) rfl ?_)
  refine c0 rfl (w_v (.p (encP s)) rfl ?_)
  refine c0 rfl (w_call_3 (idet3_fn p r s (by first | assumption | omega) (by first | assumption | omega) (by first | assumption | omega)) rfl rfl rfl rfl ?_)
  refine c0 rfl (w_i (0 - (det3 p r s)) rfl (by unfold inI; omega) ?_)
  refine c0 rfl (w_v (.p (encP p)) rfl ?_)
  refine c0 rfl (w_v (.p (encP q)) rfl ?_)
  refine c0 rfl (w_v (.p (encP s)) rfl ?_)
  refine c0 rfl (w_call_3 (idet3_fn p q s (by first | assumption | omega) (by first | assumption | omega) (by first | assumption | omega)) rfl rfl rfl rfl ?_)
  refine c0 rfl (w_v (.p (encP p)) rfl ?_)
  refine c0 rfl (w_v (.p (encP q)) rfl ?_)
  refine c0 rfl (w_v (.p (encP r)) rfl ?_)
  refine c0 rfl (w_call_3 (idet3_fn p q r (by first | assumption | omega) (by first | assumption | omega) (by first | assumption | omega)) rfl rfl rfl rfl ?_)
  refine c0 rfl (w_i (0 - (det3 p q r)) rfl (by unfold inI; omega) ?_)
  refine c0 rfl (w_bsl (g := 0) [iP (det3 q r s), iP (0 - (det3 p r s)), iP (det3 p q s), iP (0 - (det3 p q r))] rfl rfl rfl rfl (Nat.le_of_ble_eq_true rfl) (Nat.le_of_ble_eq_true rfl) (Nat.le_of_ble_eq_true rfl) (.cons _ _ _ _ _ _ _ [] [] (.one _ _ _ _ _ (.p _ _)) (.cons _ _ _ _ _ _ _ [] [] (.one _ _ _ _ _ (.p _ _)) (.cons _ _ _ _ _ _ _ [] [] (.one _ _ _ _ _ (.p _ _)) (.cons _ _ _ _ _ _ _ [] [] (.one _ _ _ _ _ (.p _ _)) (.nil _))))) rfl rfl ?_)
  refine c0 rfl (w_v (.os 28 0 4) rfl ?_)
  refine cn ⟨by kernel_rfl, ?_⟩
  refine cw_seq ?_
  refine cw_reg0 tok rfl rfl ?_
  refine c0 rfl (w_v (.os 28 0 4) rfl ?_)
  refine c0 rfl (w_v (.pt 4 0 3) rfl ?_)
  refine c0 rfl (w_v (I64 p.d) rfl ?_)
  refine c0 rfl (w_v (.pt 5 0 3) rfl ?_)
  refine c0 rfl (w_v (I64 q.d) rfl ?_)
  refine c0 rfl (w_v (.pt 6 0 3) rfl ?_)
  refine c0 rfl (w_v (I64 r.d) rfl ?_)
  refine c0 rfl (w_v (.pt 7 0 3) rfl ?_)
  refine c0 rfl (w_v (I64 s.d) rfl ?_)
  refine c0 rfl (w_bsl (g := 0) [iP p.d, iP q.d, iP r.d, iP s.d] rfl rfl rfl rfl (Nat.le_of_ble_eq_true rfl) (Nat.le_of_ble_eq_true rfl) (Nat.le_of_ble_eq_true rfl) (.cons _ _ _ _ _ _ _ [] [] (.one _ _ _ _ _ (.p _ _)) (.cons _ _ _ _ _ _ _ [] [] (.one _ _ _ _ _ (.p _ _)) (.cons _ _ _ _ _ _ _ [] [] (.one _ _ _ _ _ (.p _ _)) (.cons _ _ _ _ _ _ _ [] [] (.one _ _ _ _ _ (.p _ _)) (.nil _))))) rfl rfl ?_)
  refine c0 rfl (w_call (BO (wgh ([det3 q r s, 0 - (det3 p r s), det3 p q s, 0 - (det3 p q r)]) ([p.d, q.d, r.d, s.d]))) (weighs_fn ([det3 q r s, 0 - (det3 p r s), det3 p q s, 0 - (det3 p q r)]) ([p.d, q.d, r.d, s.d]) (by simp; omega) (by simp; omega) (by simp) (by simp) (by simp)) rfl (.cons _ _ _ _ _ _ _ [] _ (.one _ _ _ _ _ (passOs (xs := ([det3 q r s, 0 - (det3 p r s), det3 p q s, 0 - (det3 p q r)]).map iP) rfl rfl)) (.cons _ _ _ _ _ _ _ [] _ (.one _ _ _ _ _ (passOs (xs := ([p.d, q.d, r.d, s.d]).map iP) rfl rfl)) (.nil _))) rfl (.one _ _ _ _ (.p _ _)) ?_)
  refine c0 rfl (w_v (BO (wgh ([det3 q r s, 0 - (det3 p r s), det3 p q s, 0 - (det3 p q r)]) ([p.d, q.d, r.d, s.d]))) rfl ?_)
  refine cn ?_
  refine cw_ret ?_
  exact fin1 (bP (wgh ([det3 q r s, 0 - (det3 p r s), det3 p q s, 0 - (det3 p q r)]) ([p.d, q.d, r.d, s.d]))) (bP (clash4 p q r s)) rfl (congrArg bP (by exact clash4_i : (wgh ([det3 q r s, 0 - (det3 p r s), det3 p q s, 0 - (det3 p q r)]) ([p.d, q.d, r.d, s.d])) = (clash4 p q r s))) rfl
end Go.Proofs.Ytablmbhnimnccaa.Pw
