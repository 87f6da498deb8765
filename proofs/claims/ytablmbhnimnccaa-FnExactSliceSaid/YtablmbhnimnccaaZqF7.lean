/- A part of that proof: contracts of the functions that are called, one theorem a function. No condition. -/
import Derived.Test.YtablmbhnimnccaaZqF6
import Derived.Test.YtablmbhnimnccaaZqPure2
set_option maxRecDepth 20000
set_option maxHeartbeats 4000000
namespace Go.Proofs.Ytablmbhnimnccaa.Pw
theorem l8Look_fn (si : Bool) (sp : Pl) (sk : List Sol) (path : List Pl) (hp : ∀ q ∈ path, okc q) (hn : path.length ≤ 24) (H : ∀ q ∈ sk, ∀ l : List Pl, (∀ x ∈ l, okc x) → l.length ≤ 24 → Fn PP 132 [.p (encS q), .p (.sl 4 (l.map encP))] (.p (bP (look q l))) []) : Fn PP 132 [.p (encS (Sol.mk si sp sk)), .p (.sl 4 (path.map encP))] (.p (bP (look (Sol.mk si sp sk) path))) [] := by
  refine fn_intro tok Go.Proofs.Try.func132 (c := _) rfl rfl (Nat.le_of_ble_eq_true rfl) ?_
  refine cw_seq ?_
  refine cw_reg0 tok rfl rfl ?_
  refine c0 rfl (w_box (g := 0) [BO si, I64 sp.a, I64 sp.b, I64 sp.c, I64 sp.d, .p (.sl 6 (encSs sk))] rfl rfl rfl ?_)
  refine c0 rfl (w_v (BO false) rfl ?_)
  refine cn ?_
  refine cw_seq ?_
  refine cw_seq ?_
  refine cw_reg0 tok rfl rfl ?_
  refine c0 rfl (w_v (.p (encS (Sol.mk si sp sk))) rfl ?_)
  refine c0 rfl (w_call_1 (l8Leaf_fn si sp sk) rfl rfl ?_)
  refine cn ?_
  refine cw_cond (t := decide ((sk.length : Int) = 0)) rfl (fun c1 => ?_) (fun c1 => ?_)
  ·
    replace c1 := of_decide_eq_true c1
    refine cw_seq ?_
    refine cw_reg0 tok rfl rfl ?_
    refine c0 rfl (w_v (.pt 2 0 1) rfl ?_)
    refine c0 rfl (w_v (.p (encP sp)) rfl ?_)
    refine c0 rfl (w_build (.p (encP (Pl.mk 0 0 0 0))) rfl rfl rfl rfl ?_)
    refine c0 rfl (w_eqag (decide (sp = (Pl.mk 0 0 0 0))) rfl rfl rfl eqPl (dqPl sp (Pl.mk 0 0 0 0)) ?_)
    refine c0 rfl (w_v (BO (decide (sp = (Pl.mk 0 0 0 0)))) rfl ?_)
    refine cn ?_
    refine cw_ret ?_
    exact fin1 (bP (decide (sp = (Pl.mk 0 0 0 0)))) (bP (look (Sol.mk si sp sk) path)) rfl (congrArg bP (by exact look_0 (by assumption) : (decide (sp = (Pl.mk 0 0 0 0))) = (look (Sol.mk si sp sk) path))) rfl
  ·
    replace c1 := of_decide_eq_false c1
    refine cw_skip ?_
    refine cw_seq ?_
    refine cw_seq ?_
    refine cw_reg0 tok rfl rfl ?_
    refine c0 rfl (w_v (.pt 2 0 5) rfl ?_)
    refine c0 rfl (w_v (.p (.sl 6 (encSs sk))) rfl ?_)
    refine c0 rfl (w_len (sk.length) rfl rfl (by simp) ?_)
    refine c0 rfl (w_nei ((sk.length : Int)) (2) rfl rfl ?_)
    refine c0 rfl (w_v (BO (decide ((sk.length : Int) ≠ 2))) rfl ?_)
    refine cgS (b := decide ((sk.length : Int) ≠ 2)) rfl rfl rfl (fun c2 => ?_) (fun c2 => ?_)
    ·
      replace c2 := of_decide_eq_true c2
      refine cgF (v := .bool true) rfl rfl rfl rfl ?_
      refine cgF (v := .bool true) rfl rfl rfl rfl ?_
      refine c0 rfl (w_v (BO true) rfl ?_)
      refine c0 rfl (w_v (BO true) rfl ?_)
      refine cgF (v := .bool true) rfl rfl rfl rfl ?_
      refine cgF (v := .bool true) rfl rfl rfl rfl ?_
      refine cgF (v := .bool true) rfl rfl rfl rfl ?_
      refine cgF (v := .bool true) rfl rfl rfl rfl ?_
      refine c0 rfl (w_v (BO true) rfl ?_)
      refine c0 rfl (w_v (BO true) rfl ?_)
      refine cgF (v := .bool true) rfl rfl rfl rfl ?_
      refine cgF (v := .bool true) rfl rfl rfl rfl ?_
      refine cgF (v := .bool true) rfl rfl rfl rfl ?_
      refine c0 rfl (w_v (BO true) rfl ?_)
      refine c0 rfl (w_v (BO true) rfl ?_)
      refine cgF (v := .bool true) rfl rfl rfl rfl ?_
      refine cgF (v := .bool true) rfl rfl rfl rfl ?_
      refine cgF (v := .bool true) rfl rfl rfl rfl ?_
      refine cgF (v := .bool true) rfl rfl rfl rfl ?_
      refine c0 rfl (w_v (BO true) rfl ?_)
      refine c0 rfl (w_v (BO true) rfl ?_)
      refine cgF (v := .bool true) rfl rfl rfl rfl ?_
      refine cgF (v := .bool true) rfl rfl rfl rfl ?_
      refine cgF (v := .bool true) rfl rfl rfl rfl ?_
      refine cgF (v := .bool true) rfl rfl rfl rfl ?_
      refine cgF (v := .bool true) rfl rfl rfl rfl ?_
      refine c0 rfl (w_v (BO true) rfl ?_)
      refine cn ?_
      refine cw_cond (t := true) rfl (fun _ => ?_) (fun h => nomatch h)
      refine cw_seq ?_
      refine cw_reg0 tok rfl rfl ?_
      refine c0 rfl (w_v (BO false) rfl ?_)
      refine cn ?_
      refine cw_ret ?_
      exact fin1 (bP false) (bP (look (Sol.mk si sp sk) path)) rfl (congrArg bP (by exact look_f (by assumption) (by simp [*]) : false = (look (Sol.mk si sp sk) path))) rfl
    ·
      replace c2 := of_decide_eq_false c2
      refine cgT rfl rfl rfl (w_v (.pt 2 0 0) rfl ?_)
      refine cgT rfl rfl rfl (w_v (BO si) rfl ?_)
      refine c0 rfl (w_v (BO si) rfl ?_)
      refine c0 rfl (w_v (BO si) rfl ?_)
      refine cgS (b := si) rfl rfl rfl (fun c3 => ?_) (fun c3 => ?_)
      ·
        refine cgF (v := .bool true) rfl rfl rfl rfl ?_
        refine cgF (v := .bool true) rfl rfl rfl rfl ?_
        refine cgF (v := .bool true) rfl rfl rfl rfl ?_
        refine cgF (v := .bool true) rfl rfl rfl rfl ?_
        refine c0 rfl (w_v (BO true) rfl ?_)
        refine c0 rfl (w_v (BO true) rfl ?_)
        refine cgF (v := .bool true) rfl rfl rfl rfl ?_
        refine cgF (v := .bool true) rfl rfl rfl rfl ?_
        refine cgF (v := .bool true) rfl rfl rfl rfl ?_
        refine c0 rfl (w_v (BO true) rfl ?_)
        refine c0 rfl (w_v (BO true) rfl ?_)
        refine cgF (v := .bool true) rfl rfl rfl rfl ?_
        refine cgF (v := .bool true) rfl rfl rfl rfl ?_
        refine cgF (v := .bool true) rfl rfl rfl rfl ?_
        refine cgF (v := .bool true) rfl rfl rfl rfl ?_
        refine c0 rfl (w_v (BO true) rfl ?_)
        refine c0 rfl (w_v (BO true) rfl ?_)
        refine cgF (v := .bool true) rfl rfl rfl rfl ?_
        refine cgF (v := .bool true) rfl rfl rfl rfl ?_
        refine cgF (v := .bool true) rfl rfl rfl rfl ?_
        refine cgF (v := .bool true) rfl rfl rfl rfl ?_
        refine cgF (v := .bool true) rfl rfl rfl rfl ?_
        refine c0 rfl (w_v (BO true) rfl ?_)
        refine cn ?_
        refine cw_cond (t := true) rfl (fun _ => ?_) (fun h => nomatch h)
        refine cw_seq ?_
        refine cw_reg0 tok rfl rfl ?_
        refine c0 rfl (w_v (BO false) rfl ?_)
        refine cn ?_
        refine cw_ret ?_
        exact fin1 (bP false) (bP (look (Sol.mk si sp sk) path)) rfl (congrArg bP (by exact look_f (by assumption) (by simp [*]) : false = (look (Sol.mk si sp sk) path))) rfl
      ·
        refine cgT rfl rfl rfl (w_v (.pt 2 0 1) rfl ?_)
        refine cgT rfl rfl rfl (w_v (.p (encP sp)) rfl ?_)
        refine cgT rfl rfl rfl (w_call_1 (sPlaneOk_fn sp) rfl rfl ?_)
        refine cgT rfl rfl rfl (w_v (BO (!(plok sp))) rfl ?_)
        refine c0 rfl (w_v (BO (!(plok sp))) rfl ?_)
        refine c0 rfl (w_v (BO (!(plok sp))) rfl ?_)
        refine cgS (b := !(plok sp)) rfl rfl rfl (fun c4 => ?_) (fun c4 => ?_)
        ·
          replace c4 := nt c4
          refine cgF (v := .bool true) rfl rfl rfl rfl ?_
          refine cgF (v := .bool true) rfl rfl rfl rfl ?_
          refine cgF (v := .bool true) rfl rfl rfl rfl ?_
          refine c0 rfl (w_v (BO true) rfl ?_)
          refine c0 rfl (w_v (BO true) rfl ?_)
          refine cgF (v := .bool true) rfl rfl rfl rfl ?_
          refine cgF (v := .bool true) rfl rfl rfl rfl ?_
          refine cgF (v := .bool true) rfl rfl rfl rfl ?_
          refine cgF (v := .bool true) rfl rfl rfl rfl ?_
          refine c0 rfl (w_v (BO true) rfl ?_)
          refine c0 rfl (w_v (BO true) rfl ?_)
          refine cgF (v := .bool true) rfl rfl rfl rfl ?_
          refine cgF (v := .bool true) rfl rfl rfl rfl ?_
          refine cgF (v := .bool true) rfl rfl rfl rfl ?_
          refine cgF (v := .bool true) rfl rfl rfl rfl ?_
          refine cgF (v := .bool true) rfl rfl rfl rfl ?_
          refine c0 rfl (w_v (BO true) rfl ?_)
          refine cn ?_
          refine cw_cond (t := true) rfl (fun _ => ?_) (fun h => nomatch h)
          refine cw_seq ?_
          refine cw_reg0 tok rfl rfl ?_
          refine c0 rfl (w_v (BO false) rfl ?_)
          refine cn ?_
          refine cw_ret ?_
          exact fin1 (bP false) (bP (look (Sol.mk si sp sk) path)) rfl (congrArg bP (by exact look_f (by assumption) (by simp [*]) : false = (look (Sol.mk si sp sk) path))) rfl
        ·
          replace c4 := nf c4
          refine cgT rfl rfl rfl (w_v (.p (.sl 4 (path.map encP))) rfl ?_)
          refine cgT rfl rfl rfl (w_len (path.length) rfl rfl (by simp) ?_)
          refine cgT rfl rfl rfl (w_eqi ((path.length : Int)) (24) rfl rfl ?_)
          refine c0 rfl (w_v (BO (decide ((path.length : Int) = 24))) rfl ?_)
          refine c0 rfl (w_v (BO (decide ((path.length : Int) = 24))) rfl ?_)
          refine cgS (b := decide ((path.length : Int) = 24)) rfl rfl rfl (fun c5 => ?_) (fun c5 => ?_)
          ·
            replace c5 := of_decide_eq_true c5
            refine cgF (v := .bool true) rfl rfl rfl rfl ?_
            refine cgF (v := .bool true) rfl rfl rfl rfl ?_
            refine cgF (v := .bool true) rfl rfl rfl rfl ?_
            refine cgF (v := .bool true) rfl rfl rfl rfl ?_
            refine c0 rfl (w_v (BO true) rfl ?_)
            refine c0 rfl (w_v (BO true) rfl ?_)
            refine cgF (v := .bool true) rfl rfl rfl rfl ?_
            refine cgF (v := .bool true) rfl rfl rfl rfl ?_
            refine cgF (v := .bool true) rfl rfl rfl rfl ?_
            refine cgF (v := .bool true) rfl rfl rfl rfl ?_
            refine cgF (v := .bool true) rfl rfl rfl rfl ?_
            refine c0 rfl (w_v (BO true) rfl ?_)
            refine cn ?_
            refine cw_cond (t := true) rfl (fun _ => ?_) (fun h => nomatch h)
            refine cw_seq ?_
            refine cw_reg0 tok rfl rfl ?_
            refine c0 rfl (w_v (BO false) rfl ?_)
            refine cn ?_
            refine cw_ret ?_
            exact fin1 (bP false) (bP (look (Sol.mk si sp sk) path)) rfl (congrArg bP (by exact look_f (by assumption) (by simp [*]) : false = (look (Sol.mk si sp sk) path))) rfl
          ·
            replace c5 := of_decide_eq_false c5
            refine cgT rfl rfl rfl (w_v (.p (.sl 4 (path.map encP))) rfl ?_)
            refine cgT rfl rfl rfl (w_v (.pt 2 0 1) rfl ?_)
            refine cgT rfl rfl rfl (w_v (.p (encP sp)) rfl ?_)
            refine cgT rfl rfl rfl (w_call_2 (l6With_fn path sp hp (plok_okc (by assumption)) (by omega)) rfl rfl rfl ?_)
            refine c0 rfl (w_v (BO (!room path sp)) rfl ?_)
            refine c0 rfl (w_v (BO (!room path sp)) rfl ?_)
            refine cgS (b := !room path sp) rfl rfl rfl (fun c6 => ?_) (fun c6 => ?_)
            ·
              replace c6 := nt c6
              refine cgF (v := .bool true) rfl rfl rfl rfl ?_
              refine cgF (v := .bool true) rfl rfl rfl rfl ?_
              refine cgF (v := .bool true) rfl rfl rfl rfl ?_
              refine cgF (v := .bool true) rfl rfl rfl rfl ?_
              refine cgF (v := .bool true) rfl rfl rfl rfl ?_
              refine c0 rfl (w_v (BO true) rfl ?_)
              refine cn ?_
              refine cw_cond (t := true) rfl (fun _ => ?_) (fun h => nomatch h)
              refine cw_seq ?_
              refine cw_reg0 tok rfl rfl ?_
              refine c0 rfl (w_v (BO false) rfl ?_)
              refine cn ?_
              refine cw_ret ?_
              exact fin1 (bP false) (bP (look (Sol.mk si sp sk) path)) rfl (congrArg bP (by exact look_f (by assumption) (by simp [*]) : false = (look (Sol.mk si sp sk) path))) rfl
            ·
              replace c6 := nf c6
              refine cgT rfl rfl rfl (w_v (.p (.sl 4 (path.map encP))) rfl ?_)
              refine cgT rfl rfl rfl (w_v (.pt 2 0 1) rfl ?_)
              refine cgT rfl rfl rfl (w_v (.p (encP sp)) rfl ?_)
              refine cgT rfl rfl rfl (w_call_1 (l3Flip_fn sp (plok_okc (by assumption))) rfl rfl ?_)
              refine cgT rfl rfl rfl (w_call_2 (l6With_fn path (flip sp) hp (okc_flip (plok_okc (by assumption))) (by omega)) rfl rfl rfl ?_)
              refine c0 rfl (w_v (BO (!room path (flip sp))) rfl ?_)
              refine cn ?_
              refine cw_cond (t := !room path (flip sp)) rfl (fun c7 => ?_) (fun c7 => ?_)
              ·
                replace c7 := nt c7
                refine cw_seq ?_
                refine cw_reg0 tok rfl rfl ?_
                refine c0 rfl (w_v (BO false) rfl ?_)
                refine cn ?_
                refine cw_ret ?_
                exact fin1 (bP false) (bP (look (Sol.mk si sp sk) path)) rfl (congrArg bP (by exact look_f (by assumption) (by simp [*]) : false = (look (Sol.mk si sp sk) path))) rfl
              ·
                replace c7 := nf c7
                refine cw_skip ?_
                refine cw_seq ?_
                refine cw_reg1 tok mixed rfl rfl ?_
                refine c0 rfl (w_v (.pt 2 0 5) rfl ?_)
                refine c0 rfl (w_v (.p (.sl 6 (encSs sk))) rfl ?_)
                obtain ⟨qa, hqa⟩ := getE (l := sk) (i := 0) (by first | omega | (simp; omega))
                obtain ⟨qai, qap, qak⟩ := qa
                refine c0 rfl (w_ix (0) (encS (Sol.mk qai qap qak)) rfl rfl rfl (by omega) (getSs hqa) ?_)
                refine c0 rfl (w_v (.p (encS (Sol.mk qai qap qak))) rfl ?_)
                refine c0 rfl (w_v (.p (.sl 4 (path.map encP))) rfl ?_)
                refine c0 rfl (w_v (.pt 2 0 1) rfl ?_)
                refine c0 rfl (w_v (.p (encP sp)) rfl ?_)
                refine c0 rfl (w_call_2 (l8Path_fn path sp (by omega)) rfl rfl rfl ?_)
                refine c0 rfl (w_call_2 (H _ (List.mem_of_getElem? hqa) (path ++ [sp]) (ok_app hp (plok_okc (by assumption))) (by simp; omega)) rfl rfl rfl ?_)
                refine c0 rfl (w_v (BO (look (Sol.mk qai qap qak) (path ++ [sp]))) rfl ?_)
                refine cgS (b := look (Sol.mk qai qap qak) (path ++ [sp])) rfl rfl rfl (fun c8 => ?_) (fun c8 => ?_)
                ·
                  refine cgT rfl rfl rfl (w_v (.pt 2 0 5) rfl ?_)
                  refine cgT rfl rfl rfl (w_v (.p (.sl 6 (encSs sk))) rfl ?_)
                  obtain ⟨qb, hqb⟩ := getE (l := sk) (i := 1) (by first | omega | (simp; omega))
                  obtain ⟨qbi, qbp, qbk⟩ := qb
                  refine cgT rfl rfl rfl (w_ix (1) (encS (Sol.mk qbi qbp qbk)) rfl rfl rfl (by omega) (getSs hqb) ?_)
                  refine cgT rfl rfl rfl (w_v (.p (encS (Sol.mk qbi qbp qbk))) rfl ?_)
                  refine cgT rfl rfl rfl (w_v (.p (.sl 4 (path.map encP))) rfl ?_)
                  refine cgT rfl rfl rfl (w_v (.pt 2 0 1) rfl ?_)
                  refine cgT rfl rfl rfl (w_v (.p (encP sp)) rfl ?_)
                  refine cgT rfl rfl rfl (w_call_1 (l3Flip_fn sp (plok_okc (by assumption))) rfl rfl ?_)
                  refine cgT rfl rfl rfl (w_call_2 (l8Path_fn path (flip sp) (by omega)) rfl rfl rfl ?_)
                  refine cgT rfl rfl rfl (w_call_2 (H _ (List.mem_of_getElem? hqb) (path ++ [flip sp]) (ok_app hp (okc_flip (plok_okc (by assumption)))) (by simp; omega)) rfl rfl rfl ?_)
                  refine c0 rfl (w_v (BO (look (Sol.mk qbi qbp qbk) (path ++ [(flip sp)]))) rfl ?_)
                  refine c0 rfl (w_v (BO (look (Sol.mk qbi qbp qbk) (path ++ [(flip sp)]))) rfl ?_)
                  refine cn ⟨by kernel_rfl, ?_⟩
                  refine cw_ret ?_
                  exact fin1 (bP (look (Sol.mk qbi qbp qbk) (path ++ [(flip sp)]))) (bP (look (Sol.mk si sp sk) path)) rfl (congrArg bP (by rw [(look_n (by assumption) hqa hqb (by assumption) (by assumption) (by assumption) (by assumption) (by assumption))]; simp [*] : (look (Sol.mk qbi qbp qbk) (path ++ [(flip sp)])) = (look (Sol.mk si sp sk) path))) rfl
                ·
                  refine cgF (v := .bool false) rfl rfl rfl rfl ?_
                  refine cgF (v := .bool false) rfl rfl rfl rfl ?_
                  refine cgF (v := .bool false) rfl rfl rfl rfl ?_
                  refine cgF (v := .bool false) rfl rfl rfl rfl ?_
                  refine cgF (v := .bool false) rfl rfl rfl rfl ?_
                  refine cgF (v := .bool false) rfl rfl rfl rfl ?_
                  refine cgF (v := .bool false) rfl rfl rfl rfl ?_
                  refine cgF (v := .bool false) rfl rfl rfl rfl ?_
                  refine cgF (v := .bool false) rfl rfl rfl rfl ?_
                  refine cgF (v := .bool false) rfl rfl rfl rfl ?_
                  refine c0 rfl (w_v (BO false) rfl ?_)
                  refine c0 rfl (w_v (BO false) rfl ?_)
                  refine cn ⟨by kernel_rfl, ?_⟩
                  refine cw_ret ?_
                  exact fin1 (bP false) (bP (look (Sol.mk si sp sk) path)) rfl (congrArg bP (by obtain ⟨qb, hqb⟩ := getE (l := sk) (i := 1) (by omega); rw [(look_n (by assumption) hqa hqb (by assumption) (by assumption) (by assumption) (by assumption) (by assumption))]; simp [*] : false = (look (Sol.mk si sp sk) path))) rfl
theorem right_fn (c : Int) (si : Bool) (sp : Pl) (sk : List Sol) (path : List Pl) (hp : ∀ q ∈ path, okc q) (hn : path.length ≤ 24) (hc : 0 ≤ c ∧ c ≤ 300) (H : ∀ q ∈ sk, ∀ (l : List Pl) (m : Int), (∀ x ∈ l, okc x) → l.length ≤ 24 → 0 ≤ m ∧ m ≤ 300 → Fn PP 120 [.rf [iP m], .p (encS q), .p (.sl 4 (l.map encP))] (.p (bP (rgt q l m).1)) [[iP (rgt q l m).2]]) : Fn PP 120 [.rf [iP c], .p (encS (Sol.mk si sp sk)), .p (.sl 4 (path.map encP))] (.p (bP ((rgt (Sol.mk si sp sk) path c).1))) [[iP ((rgt (Sol.mk si sp sk) path c).2)]] := by
  refine fn_intro tok Go.Proofs.Try.func120 (c := _) rfl rfl (Nat.le_of_ble_eq_true rfl) ?_
  refine cw_seq ?_
  refine cw_reg0 tok rfl rfl ?_
  refine c0 rfl (w_box (g := 0) [BO si, I64 sp.a, I64 sp.b, I64 sp.c, I64 sp.d, .p (.sl 6 (encSs sk))] rfl rfl rfl ?_)
  refine c0 rfl (w_v (BO false) rfl ?_)
  refine cn ?_
  refine cw_seq ?_
  refine cw_seq ?_
  refine cw_reg0 tok rfl rfl ?_
  refine c0 rfl (w_call (BO (decide ((sk.length : Int) = 0))) (isLeaf_fn si sp sk) rfl (.cons _ _ _ _ _ _ _ [] _ (.one _ _ _ _ _ (.ro _ _ _ _ [bP si, iP sp.a, iP sp.b, iP sp.c, iP sp.d, .sl 6 (encSs sk)] _ rfl)) (.nil _)) rfl (.one _ _ _ _ (.p _ _)) ?_)
  refine cn ?_
  refine cw_cond (t := decide ((sk.length : Int) = 0)) rfl (fun c1 => ?_) (fun c1 => ?_)
  ·
    replace c1 := of_decide_eq_true c1
    refine cw_seq ?_
    refine cw_reg0 tok rfl rfl ?_
    refine c0 rfl (w_v (.pt 4 0 1) rfl ?_)
    refine c0 rfl (w_v (.p (encP sp)) rfl ?_)
    refine c0 rfl (w_build (.p (encP (Pl.mk 0 0 0 0))) rfl rfl rfl rfl ?_)
    refine c0 rfl (w_eqag (decide (sp = (Pl.mk 0 0 0 0))) rfl rfl rfl eqPl (dqPl sp (Pl.mk 0 0 0 0)) ?_)
    refine c0 rfl (w_v (BO (decide (sp = (Pl.mk 0 0 0 0)))) rfl ?_)
    refine cn ?_
    refine cw_ret ?_
    exact fin1 (bP (decide (sp = (Pl.mk 0 0 0 0)))) (bP ((rgt (Sol.mk si sp sk) path c).1)) rfl (congrArg bP (by rw [rgt_0 (by assumption)] : (decide (sp = (Pl.mk 0 0 0 0))) = ((rgt (Sol.mk si sp sk) path c).1))) ⟨congrArg (fun z => some (Blk.var [I64 z] false)) (by rw [rgt_0 (by assumption)] : c = ((rgt (Sol.mk si sp sk) path c).2)), rfl⟩
  ·
    replace c1 := of_decide_eq_false c1
    refine cw_skip ?_
    refine cw_seq ?_
    refine cw_reg0 tok rfl rfl ?_
    refine c0 rfl (w_v (.pt 0 0 0) rfl ?_)
    refine c0 rfl (w_v (.pt 0 0 0) rfl ?_)
    refine c0 rfl (w_v (.pt 0 0 0) rfl ?_)
    refine c0 rfl (w_v (I64 c) rfl ?_)
    refine c0 rfl (w_i (c + 1) rfl (by unfold inI; omega) ?_)
    refine c0 rfl (w_v (.pt 0 0 0) rfl ?_)
    refine c0 rfl (w_v (.pt 0 0 0) rfl ?_)
    refine c0 rfl (w_st [I64 (c + 1)] rfl rfl rfl rfl rfl (Nat.le_of_ble_eq_true rfl) rfl ?_)
    refine cn ?_
    refine cw_seq ?_
    refine cw_seq ?_
    refine cw_reg0 tok rfl rfl ?_
    refine c0 rfl (w_v (.pt 4 0 0) rfl ?_)
    refine c0 rfl (w_v (BO si) rfl ?_)
    refine c0 rfl (w_v (BO si) rfl ?_)
    refine cgS (b := si) rfl rfl rfl (fun c2 => ?_) (fun c2 => ?_)
    ·
      refine cgF (v := .bool true) rfl rfl rfl rfl ?_
      refine cgF (v := .bool true) rfl rfl rfl rfl ?_
      refine cgF (v := .bool true) rfl rfl rfl rfl ?_
      refine cgF (v := .bool true) rfl rfl rfl rfl ?_
      refine c0 rfl (w_v (BO true) rfl ?_)
      refine c0 rfl (w_v (BO true) rfl ?_)
      refine cgF (v := .bool true) rfl rfl rfl rfl ?_
      refine cgF (v := .bool true) rfl rfl rfl rfl ?_
      refine cgF (v := .bool true) rfl rfl rfl rfl ?_
      refine cgF (v := .bool true) rfl rfl rfl rfl ?_
      refine cgF (v := .bool true) rfl rfl rfl rfl ?_
      refine c0 rfl (w_v (BO true) rfl ?_)
      refine c0 rfl (w_v (BO true) rfl ?_)
      refine cgF (v := .bool true) rfl rfl rfl rfl ?_
      refine cgF (v := .bool true) rfl rfl rfl rfl ?_
      refine cgF (v := .bool true) rfl rfl rfl rfl ?_
      refine c0 rfl (w_v (BO true) rfl ?_)
      refine c0 rfl (w_v (BO true) rfl ?_)
      refine cgF (v := .bool true) rfl rfl rfl rfl ?_
      refine cgF (v := .bool true) rfl rfl rfl rfl ?_
      refine cgF (v := .bool true) rfl rfl rfl rfl ?_
      refine cgF (v := .bool true) rfl rfl rfl rfl ?_
      refine c0 rfl (w_v (BO true) rfl ?_)
      refine cn ?_
      refine cw_cond (t := true) rfl (fun _ => ?_) (fun h => nomatch h)
      refine cw_seq ?_
      refine cw_reg0 tok rfl rfl ?_
      refine c0 rfl (w_v (BO false) rfl ?_)
      refine cn ?_
      refine cw_ret ?_
      exact fin1 (bP false) (bP ((rgt (Sol.mk si sp sk) path c).1)) rfl (congrArg bP (by rw [rgt_f (by assumption) (by simp [*]; try omega)] : false = ((rgt (Sol.mk si sp sk) path c).1))) ⟨congrArg (fun z => some (Blk.var [I64 z] false)) (by rw [rgt_f (by assumption) (by simp [*]; try omega)] : (c + 1) = ((rgt (Sol.mk si sp sk) path c).2)), rfl⟩
    ·
      refine cgT rfl rfl rfl (w_v (.pt 4 0 5) rfl ?_)
      refine cgT rfl rfl rfl (w_v (.p (.sl 6 (encSs sk))) rfl ?_)
      refine cgT rfl rfl rfl (w_len (sk.length) rfl rfl (by simp) ?_)
      refine cgT rfl rfl rfl (w_nei ((sk.length : Int)) (2) rfl rfl ?_)
      refine c0 rfl (w_v (BO (decide ((sk.length : Int) ≠ 2))) rfl ?_)
      refine c0 rfl (w_v (BO (decide ((sk.length : Int) ≠ 2))) rfl ?_)
      refine cgS (b := decide ((sk.length : Int) ≠ 2)) rfl rfl rfl (fun c3 => ?_) (fun c3 => ?_)
      ·
        replace c3 := of_decide_eq_true c3
        refine cgF (v := .bool true) rfl rfl rfl rfl ?_
        refine cgF (v := .bool true) rfl rfl rfl rfl ?_
        refine cgF (v := .bool true) rfl rfl rfl rfl ?_
        refine cgF (v := .bool true) rfl rfl rfl rfl ?_
        refine cgF (v := .bool true) rfl rfl rfl rfl ?_
        refine c0 rfl (w_v (BO true) rfl ?_)
        refine c0 rfl (w_v (BO true) rfl ?_)
        refine cgF (v := .bool true) rfl rfl rfl rfl ?_
        refine cgF (v := .bool true) rfl rfl rfl rfl ?_
        refine cgF (v := .bool true) rfl rfl rfl rfl ?_
        refine c0 rfl (w_v (BO true) rfl ?_)
        refine c0 rfl (w_v (BO true) rfl ?_)
        refine cgF (v := .bool true) rfl rfl rfl rfl ?_
        refine cgF (v := .bool true) rfl rfl rfl rfl ?_
        refine cgF (v := .bool true) rfl rfl rfl rfl ?_
        refine cgF (v := .bool true) rfl rfl rfl rfl ?_
        refine c0 rfl (w_v (BO true) rfl ?_)
        refine cn ?_
        refine cw_cond (t := true) rfl (fun _ => ?_) (fun h => nomatch h)
        refine cw_seq ?_
        refine cw_reg0 tok rfl rfl ?_
        refine c0 rfl (w_v (BO false) rfl ?_)
        refine cn ?_
        refine cw_ret ?_
        exact fin1 (bP false) (bP ((rgt (Sol.mk si sp sk) path c).1)) rfl (congrArg bP (by rw [rgt_f (by assumption) (by simp [*]; try omega)] : false = ((rgt (Sol.mk si sp sk) path c).1))) ⟨congrArg (fun z => some (Blk.var [I64 z] false)) (by rw [rgt_f (by assumption) (by simp [*]; try omega)] : (c + 1) = ((rgt (Sol.mk si sp sk) path c).2)), rfl⟩
      ·
        replace c3 := of_decide_eq_false c3
        refine cgT rfl rfl rfl (w_v (.pt 0 0 0) rfl ?_)
        refine cgT rfl rfl rfl (w_v (.pt 0 0 0) rfl ?_)
        refine cgT rfl rfl rfl (w_v (.pt 0 0 0) rfl ?_)
        refine cgT rfl rfl rfl (w_v (I64 (c + 1)) rfl ?_)
        refine cgT rfl rfl rfl (w_v (BO (decide (c + 1 > 300))) rfl ?_)
        refine c0 rfl (w_v (BO (decide (c + 1 > 300))) rfl ?_)
        refine c0 rfl (w_v (BO (decide (c + 1 > 300))) rfl ?_)
        refine cgS (b := decide (c + 1 > 300)) rfl rfl rfl (fun c4 => ?_) (fun c4 => ?_)
        ·
          replace c4 := of_decide_eq_true c4
          refine cgF (v := .bool true) rfl rfl rfl rfl ?_
          refine cgF (v := .bool true) rfl rfl rfl rfl ?_
          refine cgF (v := .bool true) rfl rfl rfl rfl ?_
          refine c0 rfl (w_v (BO true) rfl ?_)
          refine c0 rfl (w_v (BO true) rfl ?_)
          refine cgF (v := .bool true) rfl rfl rfl rfl ?_
          refine cgF (v := .bool true) rfl rfl rfl rfl ?_
          refine cgF (v := .bool true) rfl rfl rfl rfl ?_
          refine cgF (v := .bool true) rfl rfl rfl rfl ?_
          refine c0 rfl (w_v (BO true) rfl ?_)
          refine cn ?_
          refine cw_cond (t := true) rfl (fun _ => ?_) (fun h => nomatch h)
          refine cw_seq ?_
          refine cw_reg0 tok rfl rfl ?_
          refine c0 rfl (w_v (BO false) rfl ?_)
          refine cn ?_
          refine cw_ret ?_
          exact fin1 (bP false) (bP ((rgt (Sol.mk si sp sk) path c).1)) rfl (congrArg bP (by rw [rgt_f (by assumption) (by simp [*]; try omega)] : false = ((rgt (Sol.mk si sp sk) path c).1))) ⟨congrArg (fun z => some (Blk.var [I64 z] false)) (by rw [rgt_f (by assumption) (by simp [*]; try omega)] : (c + 1) = ((rgt (Sol.mk si sp sk) path c).2)), rfl⟩
        ·
          replace c4 := of_decide_eq_false c4
          refine cgT rfl rfl rfl (w_v (.p (.sl 4 (path.map encP))) rfl ?_)
          refine cgT rfl rfl rfl (w_len (path.length) rfl rfl (by simp) ?_)
          refine cgT rfl rfl rfl (w_v (BO (decide ((path.length : Int) ≥ 24))) rfl ?_)
          refine c0 rfl (w_v (BO (decide ((path.length : Int) ≥ 24))) rfl ?_)
          refine c0 rfl (w_v (BO (decide ((path.length : Int) ≥ 24))) rfl ?_)
          refine cgS (b := decide ((path.length : Int) ≥ 24)) rfl rfl rfl (fun c5 => ?_) (fun c5 => ?_)
          ·
            replace c5 := of_decide_eq_true c5
            refine cgF (v := .bool true) rfl rfl rfl rfl ?_
            refine cgF (v := .bool true) rfl rfl rfl rfl ?_
            refine cgF (v := .bool true) rfl rfl rfl rfl ?_
            refine cgF (v := .bool true) rfl rfl rfl rfl ?_
            refine c0 rfl (w_v (BO true) rfl ?_)
            refine cn ?_
            refine cw_cond (t := true) rfl (fun _ => ?_) (fun h => nomatch h)
            refine cw_seq ?_
            refine cw_reg0 tok rfl rfl ?_
            refine c0 rfl (w_v (BO false) rfl ?_)
            refine cn ?_
            refine cw_ret ?_
            exact fin1 (bP false) (bP ((rgt (Sol.mk si sp sk) path c).1)) rfl (congrArg bP (by rw [rgt_f (by assumption) (by simp [*]; try omega)] : false = ((rgt (Sol.mk si sp sk) path c).1))) ⟨congrArg (fun z => some (Blk.var [I64 z] false)) (by rw [rgt_f (by assumption) (by simp [*]; try omega)] : (c + 1) = ((rgt (Sol.mk si sp sk) path c).2)), rfl⟩
          ·
            replace c5 := of_decide_eq_false c5
            refine cgT rfl rfl rfl (w_v (.pt 4 0 1) rfl ?_)
            refine cgT rfl rfl rfl (w_v (.p (encP sp)) rfl ?_)
            refine cgT rfl rfl rfl (w_call_1 (iPlaneOk_fn sp) rfl rfl ?_)
            refine cgT rfl rfl rfl (w_v (BO (!(plok sp))) rfl ?_)
            refine c0 rfl (w_v (BO (!(plok sp))) rfl ?_)
            refine cn ?_
            refine cw_cond (t := !(plok sp)) rfl (fun c6 => ?_) (fun c6 => ?_)
            ·
              replace c6 := nt c6
              refine cw_seq ?_
              refine cw_reg0 tok rfl rfl ?_
              refine c0 rfl (w_v (BO false) rfl ?_)
              refine cn ?_
              refine cw_ret ?_
              exact fin1 (bP false) (bP ((rgt (Sol.mk si sp sk) path c).1)) rfl (congrArg bP (by rw [rgt_f (by assumption) (by simp [*]; try omega)] : false = ((rgt (Sol.mk si sp sk) path c).1))) ⟨congrArg (fun z => some (Blk.var [I64 z] false)) (by rw [rgt_f (by assumption) (by simp [*]; try omega)] : (c + 1) = ((rgt (Sol.mk si sp sk) path c).2)), rfl⟩
            ·
              replace c6 := nf c6
              refine cw_skip ?_
              refine cw_seq ?_
              refine cw_reg0 tok rfl rfl ?_
              refine c0 rfl (w_v (.pt 4 0 1) rfl ?_)
              refine c0 rfl (w_v (.p (encP sp)) rfl ?_)
              refine c0 rfl (w_call_1 (flip_fn sp (plok_okc (by assumption))) rfl rfl ?_)
              refine c0 rfl (w_alloc (g := 0) [I64 0, I64 0, I64 0, I64 0] rfl rfl rfl ?_)
              refine c0 rfl (w_st [I64 ((flip sp).a), I64 ((flip sp).b), I64 ((flip sp).c), I64 ((flip sp).d)] rfl rfl rfl rfl rfl (Nat.le_of_ble_eq_true rfl) rfl ?_)
              refine cn ?_
              refine cw_seq ?_
              refine cw_seq ?_
              refine cw_reg0 tok rfl rfl ?_
              refine c0 rfl (w_v (.p (.sl 4 (path.map encP))) rfl ?_)
              refine c0 rfl (w_v (.pt 4 0 1) rfl ?_)
              refine c0 rfl (w_v (.p (encP sp)) rfl ?_)
              refine c0 rfl (w_call_2 (room_fn path sp hp (plok_okc (by assumption)) (by omega)) rfl rfl rfl ?_)
              refine c0 rfl (w_v (BO (!(room path sp))) rfl ?_)
              refine c0 rfl (w_v (BO (!(room path sp))) rfl ?_)
              refine cgS (b := !(room path sp)) rfl rfl rfl (fun c7 => ?_) (fun c7 => ?_)
              ·
                replace c7 := nt c7
                refine cgF (v := .bool true) rfl rfl rfl rfl ?_
                refine cgF (v := .bool true) rfl rfl rfl rfl ?_
                refine cgF (v := .bool true) rfl rfl rfl rfl ?_
                refine cgF (v := .bool true) rfl rfl rfl rfl ?_
                refine c0 rfl (w_v (BO true) rfl ?_)
                refine cn ?_
                refine cw_cond (t := true) rfl (fun _ => ?_) (fun h => nomatch h)
                refine cw_seq ?_
                refine cw_reg0 tok rfl rfl ?_
                refine c0 rfl (w_v (BO false) rfl ?_)
                refine cn ?_
                refine cw_ret ?_
                exact fin1 (bP false) (bP ((rgt (Sol.mk si sp sk) path c).1)) rfl (congrArg bP (by rw [rgt_f (by assumption) (by simp [*]; try omega)] : false = ((rgt (Sol.mk si sp sk) path c).1))) ⟨congrArg (fun z => some (Blk.var [I64 z] false)) (by rw [rgt_f (by assumption) (by simp [*]; try omega)] : (c + 1) = ((rgt (Sol.mk si sp sk) path c).2)), rfl⟩
              ·
                replace c7 := nf c7
                refine cgT rfl rfl rfl (w_v (.p (.sl 4 (path.map encP))) rfl ?_)
                refine cgT rfl rfl rfl (w_v (.p (encP (flip sp))) rfl ?_)
                refine cgT rfl rfl rfl (w_call_2 (room_fn path (flip sp) hp (okc_flip (plok_okc (by assumption))) (by omega)) rfl rfl rfl ?_)
                refine cgT rfl rfl rfl (w_v (BO (!(room path (flip sp)))) rfl ?_)
                refine c0 rfl (w_v (BO (!(room path (flip sp)))) rfl ?_)
                refine cn ?_
                refine cw_cond (t := !(room path (flip sp))) rfl (fun c8 => ?_) (fun c8 => ?_)
                ·
                  replace c8 := nt c8
                  refine cw_seq ?_
                  refine cw_reg0 tok rfl rfl ?_
                  refine c0 rfl (w_v (BO false) rfl ?_)
                  refine cn ?_
                  refine cw_ret ?_
                  exact fin1 (bP false) (bP ((rgt (Sol.mk si sp sk) path c).1)) rfl (congrArg bP (by rw [rgt_f (by assumption) (by simp [*]; try omega)] : false = ((rgt (Sol.mk si sp sk) path c).1))) ⟨congrArg (fun z => some (Blk.var [I64 z] false)) (by rw [rgt_f (by assumption) (by simp [*]; try omega)] : (c + 1) = ((rgt (Sol.mk si sp sk) path c).2)), rfl⟩
                ·
                  replace c8 := nf c8
                  refine cw_skip ?_
                  refine cw_seq ?_
                  refine cw_reg1 tok mixed rfl rfl ?_
                  refine c0 rfl (w_v (.pt 0 0 0) rfl ?_)
                  refine c0 rfl (w_v (.pt 4 0 5) rfl ?_)
                  refine c0 rfl (w_v (.p (.sl 6 (encSs sk))) rfl ?_)
                  obtain ⟨qa, hqa⟩ := getE (l := sk) (i := 0) (by first | omega | (simp; omega))
                  obtain ⟨qai, qap, qak⟩ := qa
                  refine c0 rfl (w_ix (0) (encS (Sol.mk qai qap qak)) rfl rfl rfl (by omega) (getSs hqa) ?_)
                  refine c0 rfl (w_v (.p (encS (Sol.mk qai qap qak))) rfl ?_)
                  refine c0 rfl (w_v (.p (.sl 4 (path.map encP))) rfl ?_)
                  refine c0 rfl (w_v (.pt 4 0 1) rfl ?_)
                  refine c0 rfl (w_v (.p (encP sp)) rfl ?_)
                  refine c0 rfl (w_call_2 (with_fn path sp (by omega)) rfl rfl rfl ?_)
                  refine c0 rfl (w_call (BO ((rgt (Sol.mk qai qap qak) (path ++ [sp]) (c + 1)).1)) (H _ (List.mem_of_getElem? hqa) (path ++ [sp]) (c + 1) (ok_app hp (plok_okc (by assumption))) (by simp; omega) (by omega)) rfl (.cons _ _ _ _ _ _ _ [(0, 0)] _ (.one _ _ _ _ _ (.rf _ _ _ [iP (c + 1)] rfl)) (.cons _ _ _ _ _ _ _ [] _ (.one _ _ _ _ _ (.p _ _)) (.cons _ _ _ _ _ _ _ [] _ (.one _ _ _ _ _ (.p _ _)) (.nil _)))) rfl (.one _ _ _ _ (.p _ _)) ?_)
                  refine c0 rfl (w_v (BO ((rgt (Sol.mk qai qap qak) (path ++ [sp]) (c + 1)).1)) rfl ?_)
                  refine cgS (b := (rgt (Sol.mk qai qap qak) (path ++ [sp]) (c + 1)).1) rfl rfl rfl (fun c9 => ?_) (fun c9 => ?_)
                  ·
                    refine cgT rfl rfl rfl (w_v (.pt 0 0 0) rfl ?_)
                    refine cgT rfl rfl rfl (w_v (.pt 4 0 5) rfl ?_)
                    refine cgT rfl rfl rfl (w_v (.p (.sl 6 (encSs sk))) rfl ?_)
                    obtain ⟨qb, hqb⟩ := getE (l := sk) (i := 1) (by first | omega | (simp; omega))
                    obtain ⟨qbi, qbp, qbk⟩ := qb
                    refine cgT rfl rfl rfl (w_ix (1) (encS (Sol.mk qbi qbp qbk)) rfl rfl rfl (by omega) (getSs hqb) ?_)
                    refine cgT rfl rfl rfl (w_v (.p (encS (Sol.mk qbi qbp qbk))) rfl ?_)
                    refine cgT rfl rfl rfl (w_v (.p (.sl 4 (path.map encP))) rfl ?_)
                    refine cgT rfl rfl rfl (w_v (.p (encP (flip sp))) rfl ?_)
                    refine cgT rfl rfl rfl (w_call_2 (with_fn path (flip sp) (by omega)) rfl rfl rfl ?_)
                    refine cgT rfl rfl rfl (w_call (BO ((rgt (Sol.mk qbi qbp qbk) (path ++ [(flip sp)]) ((rgt (Sol.mk qai qap qak) (path ++ [sp]) (c + 1)).2)).1)) (H _ (List.mem_of_getElem? hqb) (path ++ [flip sp]) (rgt (Sol.mk qai qap qak) (path ++ [sp]) (c + 1)).2 (ok_app hp (okc_flip (plok_okc (by assumption)))) (by simp; omega) (by have := rgt_le (Sol.mk qai qap qak) (path ++ [sp]) (c + 1) (by omega) (by assumption); omega)) rfl (.cons _ _ _ _ _ _ _ [(0, 0)] _ (.one _ _ _ _ _ (.rf _ _ _ [iP ((rgt (Sol.mk qai qap qak) (path ++ [sp]) (c + 1)).2)] rfl)) (.cons _ _ _ _ _ _ _ [] _ (.one _ _ _ _ _ (.p _ _)) (.cons _ _ _ _ _ _ _ [] _ (.one _ _ _ _ _ (.p _ _)) (.nil _)))) rfl (.one _ _ _ _ (.p _ _)) ?_)
                    refine c0 rfl (w_v (BO ((rgt (Sol.mk qbi qbp qbk) (path ++ [(flip sp)]) ((rgt (Sol.mk qai qap qak) (path ++ [sp]) (c + 1)).2)).1)) rfl ?_)
                    refine c0 rfl (w_v (BO ((rgt (Sol.mk qbi qbp qbk) (path ++ [(flip sp)]) ((rgt (Sol.mk qai qap qak) (path ++ [sp]) (c + 1)).2)).1)) rfl ?_)
                    refine cn ⟨by kernel_rfl, ?_⟩
                    refine cw_ret ?_
                    exact fin1 (bP ((rgt (Sol.mk qbi qbp qbk) (path ++ [(flip sp)]) ((rgt (Sol.mk qai qap qak) (path ++ [sp]) (c + 1)).2)).1)) (bP ((rgt (Sol.mk si sp sk) path c).1)) rfl (congrArg bP (by rw [(rgt_n (by assumption) hqa hqb (by assumption) (by assumption) (by assumption) (by assumption) (by assumption) (by assumption)), if_pos (by assumption)] : ((rgt (Sol.mk qbi qbp qbk) (path ++ [(flip sp)]) ((rgt (Sol.mk qai qap qak) (path ++ [sp]) (c + 1)).2)).1) = ((rgt (Sol.mk si sp sk) path c).1))) ⟨congrArg (fun z => some (Blk.var [I64 z] false)) (by rw [(rgt_n (by assumption) hqa hqb (by assumption) (by assumption) (by assumption) (by assumption) (by assumption) (by assumption)), if_pos (by assumption)] : ((rgt (Sol.mk qbi qbp qbk) (path ++ [(flip sp)]) ((rgt (Sol.mk qai qap qak) (path ++ [sp]) (c + 1)).2)).2) = ((rgt (Sol.mk si sp sk) path c).2)), rfl⟩
                  ·
                    refine cgF (v := .bool false) rfl rfl rfl rfl ?_
                    refine cgF (v := .bool false) rfl rfl rfl rfl ?_
                    refine cgF (v := .bool false) rfl rfl rfl rfl ?_
                    refine cgF (v := .bool false) rfl rfl rfl rfl ?_
                    refine cgF (v := .bool false) rfl rfl rfl rfl ?_
                    refine cgF (v := .bool false) rfl rfl rfl rfl ?_
                    refine cgF (v := .bool false) rfl rfl rfl rfl ?_
                    refine cgF (v := .bool false) rfl rfl rfl rfl ?_
                    refine cgF (v := .bool false) rfl rfl rfl rfl ?_
                    refine c0 rfl (w_v (BO false) rfl ?_)
                    refine c0 rfl (w_v (BO false) rfl ?_)
                    refine cn ⟨by kernel_rfl, ?_⟩
                    refine cw_ret ?_
                    exact fin1 (bP false) (bP ((rgt (Sol.mk si sp sk) path c).1)) rfl (congrArg bP (by obtain ⟨qb, hqb⟩ := getE (l := sk) (i := 1) (by omega); rw [(rgt_n (by assumption) hqa hqb (by assumption) (by assumption) (by assumption) (by assumption) (by assumption) (by assumption)), if_neg (by simp [*])] : false = ((rgt (Sol.mk si sp sk) path c).1))) ⟨congrArg (fun z => some (Blk.var [I64 z] false)) (by obtain ⟨qb, hqb⟩ := getE (l := sk) (i := 1) (by omega); rw [(rgt_n (by assumption) hqa hqb (by assumption) (by assumption) (by assumption) (by assumption) (by assumption) (by assumption)), if_neg (by simp [*])] : ((rgt (Sol.mk qai qap qak) (path ++ [sp]) (c + 1)).2) = ((rgt (Sol.mk si sp sk) path c).2)), rfl⟩
theorem look_rec : ∀ (s : Sol) (path : List Pl), (∀ q ∈ path, okc q) → path.length ≤ 24 → Fn PP 132 [.p (encS s), .p (.sl 4 (path.map encP))] (.p (bP (look s path))) []
  | .mk i p k, path, hp, hn => l8Look_fn i p k path hp hn fun q hq l hl hn => look_rec q l hl hn
  termination_by s => SizeOf.sizeOf s
  decreasing_by exact sz_kid hq
theorem rgt_rec : ∀ (s : Sol) (path : List Pl) (c : Int), (∀ q ∈ path, okc q) → path.length ≤ 24 → 0 ≤ c ∧ c ≤ 300 → Fn PP 120 [.rf [iP c], .p (encS s), .p (.sl 4 (path.map encP))] (.p (bP (rgt s path c).1)) [[iP (rgt s path c).2]]
  | .mk i p k, path, c, hp, hn, hc => right_fn c i p k path hp hn hc fun q hq l m hl hn hm => rgt_rec q l m hl hn hm
  termination_by s => SizeOf.sizeOf s
  decreasing_by exact sz_kid hq
theorem sSolidOk_fn (si : Bool) (sp : Pl) (sk : List Sol) (hf : fits (Sol.mk si sp sk)) : Fn PP 54 [.p (encS (Sol.mk si sp sk))] (.p (bP (sok (Sol.mk si sp sk)))) [] := by
  refine fn_intro tok Go.Proofs.Try.func54 (c := _) rfl rfl (Nat.le_of_ble_eq_true rfl) ?_
  refine cw_seq ?_
  refine cw_reg0 tok rfl rfl ?_
  refine c0 rfl (w_box (g := 0) [BO si, I64 sp.a, I64 sp.b, I64 sp.c, I64 sp.d, .p (.sl 6 (encSs sk))] rfl rfl rfl ?_)
  refine c0 rfl (w_v (BO false) rfl ?_)
  refine cn ?_
  refine cw_seq ?_
  refine cw_reg0 tok rfl rfl ?_
  refine c0 rfl (w_v (.p (encS (Sol.mk si sp sk))) rfl ?_)
  refine c0 rfl (w_call_2 (count_rec (Sol.mk si sp sk) 301 (by omega) hf) rfl rfl rfl ?_)
  refine c0 rfl (w_v (BO (decide (count (Sol.mk si sp sk) 301 ≤ 300))) rfl ?_)
  refine c0 rfl (w_v (BO (decide (count (Sol.mk si sp sk) 301 ≤ 300))) rfl ?_)
  refine cgS (b := decide (count (Sol.mk si sp sk) 301 ≤ 300)) rfl rfl rfl (fun c1 => ?_) (fun c1 => ?_)
  ·
    replace c1 := of_decide_eq_true c1
    refine cgT rfl rfl rfl (w_v (.p (encS (Sol.mk si sp sk))) rfl ?_)
    refine cgT rfl rfl rfl (w_bsl (g := 0) [] rfl rfl rfl rfl (Nat.le_of_ble_eq_true rfl) (Nat.le_of_ble_eq_true rfl) (Nat.le_of_ble_eq_true rfl) (.nil _) rfl rfl ?_)
    refine cgT rfl rfl rfl (w_call (BO (look (Sol.mk si sp sk) ([]))) (look_rec (Sol.mk si sp sk) ([]) (by simp) (by simp)) rfl (.cons _ _ _ _ _ _ _ [] _ (.one _ _ _ _ _ (.p _ _)) (.cons _ _ _ _ _ _ _ [] _ (.one _ _ _ _ _ (passOs (xs := ([]).map encP) rfl rfl)) (.nil _))) rfl (.one _ _ _ _ (.p _ _)) ?_)
    refine c0 rfl (w_v (BO (look (Sol.mk si sp sk) ([]))) rfl ?_)
    refine c0 rfl (w_v (BO (look (Sol.mk si sp sk) ([]))) rfl ?_)
    refine cn ?_
    refine cw_ret ?_
    exact fin1 (bP (look (Sol.mk si sp sk) ([]))) (bP (sok (Sol.mk si sp sk))) rfl (congrArg bP (by rw [← sok_s]; simp [*] : (look (Sol.mk si sp sk) ([])) = (sok (Sol.mk si sp sk)))) rfl
  ·
    replace c1 := of_decide_eq_false c1
    refine cgF (v := .bool false) rfl rfl rfl rfl ?_
    refine cgF (v := .bool false) rfl rfl rfl rfl ?_
    refine cgF (v := .bool false) rfl rfl rfl rfl ?_
    refine c0 rfl (w_v (BO false) rfl ?_)
    refine c0 rfl (w_v (BO false) rfl ?_)
    refine cn ?_
    refine cw_ret ?_
    exact fin1 (bP false) (bP (sok (Sol.mk si sp sk))) rfl (congrArg bP (by rw [← sok_s]; simp [*] : false = (sok (Sol.mk si sp sk)))) rfl
theorem iSolidOk_fn (si : Bool) (sp : Pl) (sk : List Sol) : Fn PP 45 [.p (encS (Sol.mk si sp sk))] (.p (bP (sok (Sol.mk si sp sk)))) [] := by
  refine fn_intro tok Go.Proofs.Try.func45 (c := _) rfl rfl (Nat.le_of_ble_eq_true rfl) ?_
  refine cw_seq ?_
  refine cw_reg0 tok rfl rfl ?_
  refine c0 rfl (w_box (g := 0) [BO si, I64 sp.a, I64 sp.b, I64 sp.c, I64 sp.d, .p (.sl 6 (encSs sk))] rfl rfl rfl ?_)
  refine c0 rfl (w_v (BO false) rfl ?_)
  refine cn ?_
  refine cw_seq ?_
  refine cw_reg0 tok rfl rfl ?_
  refine c0 rfl (w_alloc (g := 0) [I64 0] rfl rfl rfl ?_)
  refine cn ?_
  refine cw_seq ?_
  refine cw_reg0 tok rfl rfl ?_
  refine c0 rfl (w_v (.p (encS (Sol.mk si sp sk))) rfl ?_)
  refine c0 rfl (w_call (BO ((rgt (Sol.mk si sp sk) ([]) 0).1)) (rgt_rec (Sol.mk si sp sk) ([]) 0 (by simp) (by simp) (by omega)) rfl (.cons _ _ _ _ _ _ _ [(3, 0)] _ (.one _ _ _ _ _ (.rf _ _ _ [iP 0] rfl)) (.cons _ _ _ _ _ _ _ [] _ (.one _ _ _ _ _ (.p _ _)) (.cons _ _ _ _ _ _ _ [] _ (.one _ _ _ _ _ (.nil _ _)) (.nil _)))) rfl (.one _ _ _ _ (.p _ _)) ?_)
  refine c0 rfl (w_v (BO ((rgt (Sol.mk si sp sk) ([]) 0).1)) rfl ?_)
  refine cn ?_
  refine cw_ret ?_
  exact fin1 (bP ((rgt (Sol.mk si sp sk) ([]) 0).1)) (bP (sok (Sol.mk si sp sk))) rfl (congrArg bP (by exact sok_i _ : ((rgt (Sol.mk si sp sk) ([]) 0).1) = (sok (Sol.mk si sp sk)))) rfl
theorem iSolidOk (s : Sol) : Fn PP 45 [.p (encS s)] (.p (bP (sok s))) [] := by
  cases s; exact iSolidOk_fn _ _ _
theorem sSolidOk (s : Sol) (hf : fits s) : Fn PP 54 [.p (encS s)] (.p (bP (sok s))) [] := by
  cases s; exact sSolidOk_fn _ _ _ hf
end Go.Proofs.Ytablmbhnimnccaa.Pw
