/- Pw, part 22b: more steps: what is handed over as owned, elements that are written. No condition. -/
import Derived.Test.YtablmbhnimnccaaZqEnc
namespace Go.Proofs.Ytablmbhnimnccaa.Pw
section
variable {P : Program} {T : Nat → Option TI} {N : Nat} {S : St} {K : St → Prop} {d ty : Nat} {pos : String} {after : Array Edge} {gd : Option (Nat × Bool)}

theorem recvOw {E sz m n g : Nat} {xs : List PV} (hn : xs.length = n) (hg : S.gen d = g) : Recv d S (.ow E sz xs m) (.os d g n) (S.mk' d (.arr E sz xs m)) := by
  subst hn; subst hg; exact .ow _ _ _ _ _

theorem passOw {t g E sz m len : Nat} {xs ys : List PV} (h : S.bl t g = some (.arr E sz xs m)) (hm : m ≤ xs.length) (hl : xs.length = len) (hx : xs = ys) : Pass S (.os t g len) (.ow E sz ys m) (S.drop t g) [] := by
  subst hl; subst hx; exact .ow _ _ _ _ _ _ _ _ h (Nat.le_refl _) hm

/-- The ends of functions: what is owned is handed over. -/
theorem finOw {rv : List ResultVar} {args : List TV} {outs : List (List PV)} {S : St} {t g E0 sz len : Nat} {xs ys : List PV} (hr : rvA T S rv = some [.os t g len]) (hb : S.bl t g = some (.arr E0 sz xs 0)) (hl : xs.length = len) (e : xs = ys)
    (ho : outsOk (S.drop t g) args 0 outs) : FinOk T rv args (.ow E0 sz ys 0) outs S :=
  ⟨_, S.drop t g, hr, by subst e; subst hl; exact .one _ _ _ _ [] (.one _ _ _ _ _ (.ow _ _ _ _ _ _ _ _ hb (Nat.le_refl _) (Nat.zero_le _))), ho⟩
theorem finNw {rv : List ResultVar} {args : List TV} {outs : List (List PV)} {S : St} (E0 sz : Nat) {ys : List PV} (hr : rvA T S rv = some [.p (.lit nilSl)]) (e : [] = ys) (ho : outsOk S args 0 outs) : FinOk T rv args (.ow E0 sz ys 0) outs S :=
  ⟨_, S, hr, by subst e; exact .one _ _ _ _ [] (.one _ _ _ _ _ (.nilo _ _ _)), ho⟩

theorem w_stol {t t' g len i off E sz m : Nat} {ti : TI} {x y : Operand} {xs : List PV} (ys : List PV) (z z' : PV) (ps : List PV) (ht : T t = some ti) (h1 : cellsOk (S.ev y) = true) (h2 : (toCells (S.ev y)).length = ti.size) (hx : S.ev x = .pe t' g len i off)
    (hb : S.bl t' g = some (.arr E sz xs m)) (hz : xs[i]? = some z) (hp : allP (toCells (S.ev y)) = some ps) (hs : setCells z off ps = some z') (hl : xs.length = len) (hm : m ≤ i) (hzs : z'.size = z.size) (hq : xs.set i z' = ys) (hk : K (S.setBl t' g (.arr E sz ys m))) :
    opW P T ⟨none, .store t x y, ty, pos, after, gd⟩ S K := by
  subst hq; exact w_sto z z' ps ht h1 h2 hx hb hz hp hs hl hm hzs hk
end
/-- What has been shown of a row may be told as all of it. -/
theorem wk_seal {S : St} {t g E0 sz m n : Nat} {xs : List PV} (h : S.bl t g = some (.arr E0 sz xs m)) (hn : xs.length = n) : Wk S (S.setBl t g (.arr E0 sz xs n)) := fun E N A F a w hI => by
  subst hn
  refine ⟨A, F, hI.change (A' := A) (F' := F) ⟨.refl _ _, fun _ => Nat.le_refl _, fun t' g' b' _ hb hp => ?_, fun t' g' E1 sz1 ys m1 _ hb => ?_⟩ rfl (fun t' g' b hb => ?_) (fun t' g' b hb => ?_) (fun t1 g1 b1 t2 g2 b2 r h1 h2 q1 q2 => ?_) hI.Alt (.refl (fun _ => False) w) (fun _ h => h.elim) (fun _ _ ha _ => .inl ha) (fun t' g' b r hb hr => ?_)⟩
  · rcases setBl_bl hb with ⟨_, _, hq⟩ | ⟨_, hb⟩
    · subst hq; cases hp
    · exact ⟨b', hb, hp, rfl⟩
  · rcases setBl_bl hb with ⟨rfl, rfl, hq⟩ | ⟨_, hb⟩
    · simp only [Blk.arr.injEq] at hq
      obtain ⟨rfl, rfl, rfl, rfl⟩ := hq
      exact ⟨_, _, h, Nat.le_refl _, fun _ => rfl⟩
    · exact ⟨ys, m1, hb, Nat.le_refl _, fun _ => rfl⟩
  · rcases setBl_bl hb with ⟨rfl, rfl, _⟩ | ⟨_, hb⟩
    · exact hI.lt _ _ _ h
    · exact hI.lt _ _ _ hb
  · have e : Evo A A F F S (S.setBl t g (.arr E0 sz xs xs.length)) w w := ⟨.refl _ _, fun _ => Nat.le_refl _, fun t' g' b' _ hb hp => by
      rcases setBl_bl hb with ⟨_, _, hq⟩ | ⟨_, hb⟩
      · subst hq; cases hp
      · exact ⟨b', hb, hp, rfl⟩, fun t' g' E1 sz1 ys m1 _ hb => by
      rcases setBl_bl hb with ⟨rfl, rfl, hq⟩ | ⟨_, hb⟩
      · simp only [Blk.arr.injEq] at hq
        obtain ⟨rfl, rfl, rfl, rfl⟩ := hq
        exact ⟨_, _, h, Nat.le_refl _, fun _ => rfl⟩
      · exact ⟨ys, m1, hb, Nat.le_refl _, fun _ => rfl⟩⟩
    rcases setBl_bl hb with ⟨rfl, rfl, rfl⟩ | ⟨_, hb⟩
    · obtain ⟨us, ho, hr, hs, hm, hA⟩ := hI.bl _ _ _ h
      exact ⟨us, ho, hr, hs, Nat.le_refl _, fun r hr o ha => Nat.lt_of_lt_of_le (hA r hr o ha) (Nat.mul_le_mul_right _ hm)⟩
    · exact BlkOk.evo e (hI.bl _ _ _ hb) rfl fun r _ => ⟨rfl, fun _ h => h⟩
  · have old : ∀ {t' g' b}, (S.setBl t g (.arr E0 sz xs xs.length)).bl t' g' = some b → ∃ b0, S.bl t' g' = some b0 := fun {t' g' b} hb => by
      rcases setBl_bl hb with ⟨rfl, rfl, _⟩ | ⟨_, hb⟩
      · exact ⟨_, h⟩
      · exact ⟨_, hb⟩
    obtain ⟨_, k1⟩ := old h1
    obtain ⟨_, k2⟩ := old h2
    exact hI.inj _ _ _ _ _ _ r k1 k2 q1 q2
  · rcases setBl_bl hb with ⟨rfl, rfl, _⟩ | ⟨_, hb⟩
    · exact hI.own _ _ _ r h hr
    · exact hI.own _ _ _ r hb hr
theorem map_setP {α : Type} {f : α → PV} {l : List α} {i : Nat} {v : α} : (l.map f).set i (f v) = (l.set i v).map f := by rw [List.map_set]
theorem rep0 {n : Nat} : List.replicate n (iP 0) = (List.replicate n (0 : Int)).map iP := by simp
/-- A block of plain cells that is shown from now on. -/
theorem wk_sealv {S : St} {t g : Nat} (cs : List PV) (h : S.bl t g = some (.var (cs.map .p) false)) : Wk S (S.setBl t g (.var (cs.map .p) true)) := fun E N A F a w hI => by
  obtain ⟨A', h1, _⟩ := hI.sealVar h
  exact ⟨A', F, h1⟩
end Go.Proofs.Ytablmbhnimnccaa.Pw
