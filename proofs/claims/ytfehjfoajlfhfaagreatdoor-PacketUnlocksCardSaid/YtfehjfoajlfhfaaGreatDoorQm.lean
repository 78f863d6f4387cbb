import Derived.Test.YtfehjfoajlfhfaaGreatDoorQj
import Derived.Test.YtfehjfoajlfhfaaGreatDoorRows
import Derived.OpenShut
import Derived.LaidMore
import Derived.FnData
namespace Go.Proofs.YtfehjfoajlfhfaaGreatDoor
open Go.Sx
set_option maxRecDepth 100000
set_option pp.deepTerms false
set_option pp.maxSteps 300
set_option linter.unusedSimpArgs false
set_option linter.unusedVariables false
section
/- header: the law Proved, walked. -/
theorem decC_cases (b : List UInt8) : (decC b).2 = 0 ∧ (decC b).1.may = true ∨ (decC b).2 = 5 := by
  unfold decC
  by_cases h : (b.drop 12).any (· != 0) = false ∧ (cmdOf b).may = true
  · rw [if_pos h]; exact .inl ⟨rfl, h.2⟩
  · rw [if_neg h]; exact .inr rfl
theorem shared_2 (k u : List UInt8) : (sharedS k u).2 = 0 ∨ (sharedS k u).2 = 7 := by
  rcases shared_cases k u with h | h
  · rw [h]; exact .inr rfl
  · rw [h]; exact .inl rfl
attribute [local irreducible] macD deriveS strS streamH sharedS chainS timesS pointS publicS blindH openB proofH decC routeS fillerH buildS unwrapS tagH leB unwrap1 unwrap2 unwrap3
theorem unw_cases {own : List UInt8} {h : HdrS} (e : (sharedS own h.alpha).2 = 0) (p : proofH (sharedS own h.alpha).1 h.beta = h.gamma) :
    ((unwrapS own h).2 = 0 ∧ (unwrapS own h).1.secret = (sharedS own h.alpha).1 ∧ (unwrapS own h).1.cmd.may = true) ∨ (((unwrapS own h).2 = 5 ∨ (unwrapS own h).2 = 7) ∧ (unwrapS own h).1 = step0) := by
  rw [uw_b e]
  generalize (sharedS own h.alpha).1 = s at p ⊢
  rw [uw_d p]
  rcases decC_cases ((openB s h.beta).take 16) with h3 | h3
  · rw [uw_f h3.1]
    rcases shared_2 (blindH s h.alpha) h.alpha with h4 | h4
    · rw [uw_h h4]
      exact .inl ⟨rfl, rfl, h3.2⟩
    · rw [uw_g (by rw [h4]; decide)]
      exact .inr ⟨.inr h4, rfl⟩
  · rw [uw_e (by rw [h3]; decide)]
    exact .inr ⟨.inl h3, rfl⟩
end
section
/- header: the law One, walked. -/
attribute [local irreducible] macD deriveS strS streamH sharedS chainS timesS pointS publicS blindH openB proofH decC routeS fillerH buildS unwrapS tagH leB unwrap1 unwrap2 unwrap3
end
section
/- header: hops as they are; the law First (plain). -/
theorem gd31_le {l : List UInt8} (h : l.length = 32) : gd l 31 = le l / 256 ^ 31 := by
  have h1 := leB_get 32 (le l) 31 (by decide)
  have hb : leB (le l) 32 = l := by rw [← h, leB_le]
  have hlt := le_lt l
  rw [h] at hlt
  rw [hb] at h1
  have hq : le l / 256 ^ 31 < 256 := by
    rw [Nat.div_lt_iff_lt_mul (by decide)]
    exact Nat.lt_of_lt_of_le hlt (by decide)
  unfold gd
  rw [h1]
  simp
  omega
theorem set_self {l : List UInt8} {i : Nat} (h : i < l.length) : l.set i (UInt8.ofNat (gd l i)) = l := by
  rw [gd_eq h]
  apply List.ext_getElem
  · simp
  intro j h1 h2
  rw [List.getElem_set]
  split
  · next e => subst e; simp
  · rfl
theorem point_twice (u : List UInt8) : pointS (pointS u) = pointS u := by
  obtain ⟨v, hv, hp⟩ : ∃ v, v < Pm ∧ pointS u = leB v 32 := ⟨_, Nat.mod_lt _ Pm_pos, rfl⟩
  rw [hp]
  have h256 : v < 256 ^ 32 := by unfold Pm at hv; exact Nat.lt_trans hv (by decide)
  have hg : gd (leB v 32) 31 < 128 := by
    rw [gd31_le (leB_len _ _), le_leB 32 v h256, Nat.div_lt_iff_lt_mul (by decide)]
    unfold Pm at hv
    exact Nat.lt_trans hv (by decide)
  show leB (le ((leB v 32).set 31 (UInt8.ofNat (gd (leB v 32) 31 % 128))) % Pm) 32 = leB v 32
  rw [Nat.mod_eq_of_lt hg, set_self (by rw [leB_len]; decide), le_leB 32 v h256, Nat.mod_eq_of_lt hv]
theorem shared_point (k u : List UInt8) : sharedS k (pointS u) = sharedS k u := by
  have e : sharedS k (pointS u) = if timesS (clampS k) (pointS (pointS u)) = zk then (zk, 7) else (timesS (clampS k) (pointS (pointS u)), 0) := rfl
  rw [e, point_twice]
  rfl
attribute [local irreducible] macD deriveS strS streamH sharedS chainS timesS pointS publicS blindH openB proofH decC routeS fillerH buildS unwrapS tagH leB unwrap1 unwrap2 unwrap3 agreeS
theorem chain_one {u x : List UInt8} (h : (chainS u [x]).2 = 0) : chainS u [x] = sharedS x u := by
  by_cases h1 : pointS u = zk
  · rw [chain_zero (by show ¬ 8 < 1; decide) h1] at h; exact absurd h (by show ¬ (7 : Int) = 0; decide)
  rw [chain_go (by show ¬ 8 < 1; decide) h1] at h ⊢
  by_cases h2 : (sharedS x (pointS u)).2 = 0
  · rw [chainGo_eq h2, ← shared_point x u]
    show ((sharedS x (pointS u)).1, (0 : Int)) = _
    rw [← h2]
  · rw [chainGo_ne h2] at h; exact absurd h h2
theorem agreeG_pre : ∀ (l : List HopS) (chain out : List (List UInt8)) (alpha : List UInt8), (agreeG chain alpha out l).2 = 0 → ∃ r, (agreeG chain alpha out l).1 = out ++ r
  | [], _, out, _, _ => ⟨[], (List.append_nil _).symm⟩
  | h :: r, chain, out, alpha, e0 => by
    by_cases e : (chainS h.key chain).2 = 0
    · by_cases e2 : (sharedS (blindH (chainS h.key chain).1 alpha) alpha).2 = 0
      · rw [agree_c e e2] at e0 ⊢
        obtain ⟨q, hq⟩ := agreeG_pre r _ _ _ e0
        exact ⟨(chainS h.key chain).1 :: q, by rw [hq]; simp⟩
      · rw [agree_b e e2] at e0; exact absurd e0 (by show ¬ (7 : Int) = 0; decide)
    · rw [agree_a e] at e0; exact absurd e0 (by show ¬ (7 : Int) = 0; decide)
theorem agree_first {x : List UInt8} {h : HopS} {r : List HopS} (e : (agreeS x (h :: r)).2 = 0) : (sharedS x h.key).2 = 0 ∧ kAt (agreeS x (h :: r)).1 0 = (sharedS x h.key).1 := by
  have e : (agreeG [x] (publicS x) [] (h :: r)).2 = 0 := by unfold agreeS at e; exact e
  have eq : agreeS x (h :: r) = agreeG [x] (publicS x) [] (h :: r) := by unfold agreeS; rfl
  rw [eq]
  by_cases e1 : (chainS h.key [x]).2 = 0
  · by_cases e2 : (sharedS (blindH (chainS h.key [x]).1 (publicS x)) (publicS x)).2 = 0
    · rw [agree_c e1 e2] at e ⊢
      obtain ⟨q, hq⟩ := agreeG_pre r _ _ _ e
      rw [hq]
      have hc := chain_one e1
      rw [hc] at e1 ⊢
      exact ⟨e1, rfl⟩
    · rw [agree_b e1 e2] at e; exact absurd e (by show ¬ (7 : Int) = 0; decide)
  · rw [agree_a e1] at e; exact absurd e (by show ¬ (7 : Int) = 0; decide)
/-- What a built header is. -/
structure Built (x : List UInt8) (hs : List HopS) (B : HdrS × List (List UInt8) × Int) : Prop where
  ok : B.1.ok
  ks : okK B.2.1
  bad : B.2.2 ≠ 0 → B.1 = hdr0 ∧ B.2.1 = []
  len : B.2.2 = 0 → B.2.1.length = hs.length ∧ 1 ≤ hs.length
  alpha : B.2.2 = 0 → B.1.alpha = publicS x
  gamma : B.2.2 = 0 → proofH (kAt B.2.1 0) B.1.beta = B.1.gamma
  first : B.2.2 = 0 → ∀ h : 0 < hs.length, (sharedS x hs[0].key).2 = 0 ∧ kAt B.2.1 0 = (sharedS x hs[0].key).1
theorem built {x : List UInt8} {hs : List HopS} (ho : okHs hs) : Built x hs (buildS x hs) := by
  obtain ⟨q1, q2, _⟩ := buildS_ok x ho
  cases hr : routeS hs with
  | false =>
    rw [build_a hr] at q1 q2 ⊢
    have h14 : ¬ (14 : Int) = 0 := by decide
    exact ⟨q1, q2, fun _ => ⟨rfl, rfl⟩, fun e => absurd e h14, fun e => absurd e h14, fun e => absurd e h14, fun e => absurd e h14⟩
  | true =>
    obtain ⟨h1, h5⟩ := route_len hr
    obtain ⟨ha, hb, hc⟩ := agreeS_ok x hs
    by_cases h2 : (agreeS x hs).2 = 0
    · rw [build_c hr h2] at q1 q2 ⊢
      refine ⟨q1, q2, fun e => absurd rfl e, fun _ => ⟨hc h2, h1⟩, fun _ => rfl, fun _ => rfl, fun _ h => ?_⟩
      cases hs with
      | nil => exact absurd h (by decide)
      | cons k r => exact agree_first h2
    · rw [build_b hr h2] at q1 q2 ⊢
      exact ⟨q1, q2, fun _ => ⟨rfl, rfl⟩, fun e => absurd e h2, fun e => absurd e h2, fun e => absurd e h2, fun e => absurd e h2⟩
end
section
/- header: the law First, walked. -/
attribute [local irreducible] macD deriveS strS streamH sharedS chainS timesS pointS publicS blindH openB proofH decC routeS fillerH buildS unwrapS tagH leB unwrap1 unwrap2 unwrap3 agreeS
theorem rowH_snoc (l : List HopS) (h : HopS) : rowH (l ++ [h]) = rowH l ++ h.cs := by rw [rowH_append]; simp [rowH]
theorem hops_c (A R : HProp) (hE : Ent A R) (a : Option Addr) (cap : Nat) (l : List HopS) (hl : okHs l) (hr : Rd R a (rowH l)) (hn : l.length ≤ 100000) :
    Con Tryz.prog 18 [.c (.rs a l.length cap)] [] [] A (fun t : Option Addr × Nat => l.length ≤ t.2 ∧ (t.1 = none → l.length = 0)) (fun t => .c (.rs t.1 l.length t.2)) (fun _ => []) (fun t => [Own t.1 t.2 96 43 (rowH l)]) := by
  have hr := hr.ent hE
  refine Con.of' tt_ok Tryz.func18 rfl (by decide) [.c (.rs a l.length cap)] [] [] rfl rfl trivial kk rfl ?_
  conv => whnf
  refine LoopOb.mk' (σ := Nat × Option Addr × Nat) (fun s => [(3, .c (.rs s.2.1 s.1 s.2.2)), (6, .c (.rs a l.length cap)), (7, .c (.int .i64 l.length)), (8, .c (.int .i64 s.1))])
    (fun s => ⟨[], [], [Own s.2.1 s.2.2 96 43 (rowH (l.take s.1)), A]⟩) (fun s => s.1 ≤ l.length ∧ s.1 ≤ s.2.2 ∧ (s.2.1 = none → s.1 = 0)) (fun s => l.length - s.1) (0, none, 0) ⟨Nat.zero_le _, Nat.le_refl _, fun _ => rfl⟩ ?_ ?_
  · refine Wk.own0 96 43 ?_
    exact Wk.mk' [] [0, 0] kk trivial ⟨rfl, rfl⟩
  rintro ⟨i, a3, c3⟩ ⟨hi, hc, hz⟩
  dsimp only at hi hc hz ⊢
  conv => whnf
  refine Cond.dec (fun h => ?_) (fun h => ?_)
  · have hi' : i < l.length := by omega
    have o : l[i].ok := hl _ (List.getElem_mem hi')
    conv => whnf
    refine ⟨by omega, PtrOb.rd (A := A) (by simp) hr (by rw [rowH_len hl]; omega) fun p hp => ?_⟩
    subst hp
    conv => whnf
    refine ldh (A := A) (l := l) i (by simp) hr hl hi' rfl rfl rfl (by show _ + (i : Int).toNat * 43 = _; omega) ?_
    conv => whnf
    intro b5
    conv => whnf
    refine Draw.all (by kernel_rfl) tt_ok (Tv.of (List.range 10) .nil) 8 (by kernel_rfl) ?_
    conv => whnf
    refine CallOb.pu (theirs9_c _ l[i].cmd o.c) rfl ?_
    conv => whnf
    refine Sub.whole ?_
    conv => whnf
    intro b19
    conv => whnf
    refine Sub.parts [5] [0, 0] ⟨rfl, rfl⟩ ?_
    conv => whnf
    have htl : (l.take i).length = i := by rw [List.length_take]; omega
    refine append_own (a := a3) (n := i) (cap := c3) (xs := rowH (l.take i)) (k := 1) (ys := l[i].cs) (src := .c (.slc 19 0 1 1)) (F' := [A]) (.refl _) (by rw [rowH_len (okHs_take hl i), htl]) (by rw [HopS.cs_len o]; rfl) (Src.slc (by exact ⟨[], by show _ = l[i].cs ++ []; simp [HopS.cs, dens, Seg.den, SC.den]⟩)) (HopS.one o) (by show (i + 1 + (i + 1) / 4 + 192) * 64 ≤ 281474976710656; omega) (by omega) (by decide) 48 (.inr rfl) ?_
    intro a4 c4 hc4 hn4
    rw [← rowH_snoc, ← List.take_succ_eq_append_getElem hi']
    conv => whnf
    refine Ar.i64 (by omega) ?_
    conv => whnf
    exact ⟨(i + 1, a4, c4), ⟨by dsimp only; omega, hc4, fun e => absurd (hn4 e) (by omega)⟩, by dsimp only; omega, Wk.mk' [] [0, 0] kk trivial ⟨rfl, rfl⟩⟩
  obtain rfl : i = l.length := by omega
  rw [List.take_length]
  conv => whnf
  exact Ret.mk' (a3, c3) [] [0, 0] ⟨hc, hz⟩ rfl kk kk ⟨rfl, rfl⟩
end
section
/- header: the constants that are laid; laws at any arguments. -/
open Go.RowKit (Below)
abbrev kLaid : List (String × DataW Unit) := [("pigeonry/sha.k", Rows.laid_pigeonry_sha_k)]
theorem gK : Tryz.prog.globalNamed "pigeonry/sha.k" = some 0 := by kernel_rfl
theorem tK : (Tryz.prog.globals[0]?).map (·.type) = some 267 := by kernel_rfl
theorem kLits : (Rows.laid_pigeonry_sha_k : DataW Unit) = .agg (kW.map fun x => .lit (.int .u32 (x.toNat : Int))) := rfl
theorem gl_of_laid {W : World} (h : laidMetH Tryz.prog kLaid W) : Gl (old W) := by
  rw [MakeChecks.laidMetH_plain _ _ _ (by kernel_rfl)] at h
  obtain ⟨ps, ⟨g0, t0, cs0, f0, p0, q0, hg0, ht0, hv0, hd0, _, _⟩, _, _⟩ := h
  obtain rfl := Option.some.inj (gK.symm.trans hg0)
  obtain rfl := Option.some.inj (tK.symm.trans ht0)
  obtain ⟨xs, m1, rfl, hx1, hlen, hn, hel⟩ := DataW.trod_array Tryz.underlying267 hd0
  have c1 : Tryz.prog.cellsOf 193 = 1 := by kernel_rfl
  have c64 : Tryz.prog.cellsOf 267 = 64 := by kernel_rfl
  rw [c1] at hel
  simp only [Prod.mk.injEq] at hx1
  have hx1 := hx1.1
  rw [kLits] at hx1
  have hxs : xs.map (·.1) = kW.map fun x => DataW.lit (.int .u32 (x.toNat : Int)) := by simpa using hx1.symm
  refine rd_old (a := ⟨0, 0, none⟩) fun i hi => ?_
  rw [w32s_length, kW_len] at hi
  rw [w32s_get (by rw [kW_len]; exact hi)]
  have h1 := hel i hi
  rw [List.getElem?_eq_getElem (by omega)] at h1
  obtain ⟨k, e1, e2, _⟩ := DataW.trod_int Tryz.underlying193 h1
  have e3 : (xs.map (·.1))[i]? = some (DataW.lit (.int .u32 k)) := by rw [List.getElem?_map, List.getElem?_eq_getElem (by omega), Option.map_some, e2]
  rw [hxs, List.getElem?_map, List.getElem?_eq_getElem (by rw [kW_len]; exact hi)] at e3
  have e4 : DataW.lit (.int .u32 (kW[i].toNat : Int)) = (DataW.lit (.int .u32 k) : DataW Unit) := Option.some.inj e3
  injection e4 with e4
  injection e4 with _ e4
  subst e4
  have := World.var?_cell hg0 hv0 i
  rw [show (⟨0, 0, none⟩ : Addr).add i = ⟨0, i, none⟩ by rw [addr_add, Nat.zero_add], this]
  have e5 : cs0.toList[i]? = some (.int .u32 (kW[i].toNat : Int)) := by
    have := congrArg (fun l => l[0]?) e1
    simp only [List.getElem?_take, List.getElem?_drop] at this
    simpa using this
  rw [← Array.getElem?_toList]; exact e5
section
variable {H : Type} {enc : TypeId × Value → H} {base : Nat} {v0 v1 v2 : Value} {d0 d1 d2 : DataW H} {p0 p1 p2 : List MemPlace}
theorem arg_key (W : World) (ok0 : Value.okWide Tryz.prog W .any base 23 v0) (h0 : DataW.Trod enc Tryz.prog W 0 (fun _ => true) true 23 v0 d0 p0) : ∃ k : List UInt8, v0 = (SV.agg [.many 32 (u8s k)]).den [] ∧ k.length = 32 := by
  obtain ⟨x, cs, rfl, h, rfl⟩ := arg_agg (s := .barr 32) ⟨.unit, .unit, .inr ⟨32, .inl rfl⟩⟩ fitsBarr32 ok0 h0
  exact ⟨x, by show Value.agg (List.toArray (u8s x)) = Value.agg (List.toArray (u8s x ++ [])); rw [List.append_nil], h⟩
end
end
section
/- header: the law First at any arguments. -/
open Go.RowKit (Below)
def hopSh : Sh := .pair (.barr 32) (.pair cmdShH .unit)
def hopOf (z : hopSh.T) : HopS := ⟨z.1, ⟨z.2.1.1, z.2.1.2.1, z.2.1.2.2.1, z.2.1.2.2.2.1⟩⟩
def HopR (h : HopS) (cs : List Value) : Prop := cs = h.cs ∧ h.ok
theorem hop_of {R : HProp} (z : hopSh.T) (cs : List Value) (h : Go.Sx.Good R hopSh z cs) : HopR (hopOf z) cs := by
  obtain ⟨k, ⟨ck, cn, cd, id, u0⟩, u⟩ := z
  obtain ⟨c1, c2, rfl, ⟨h1, rfl⟩, c3, c4, rfl, ⟨d1, d2, rfl, ⟨rfl, w1⟩, d3, d4, rfl, ⟨rfl, w2⟩, d5, d6, rfl, ⟨rfl, w3⟩, d7, d8, rfl, ⟨h2, rfl⟩, rfl⟩, rfl⟩ := h
  exact ⟨by simp [HopS.cs, hopOf, dens, Seg.den, SC.den], ⟨h1, h2⟩⟩
theorem fitsHops : Fits Tryz.prog (.slice hopSh) 45 = true := by simp only [Fits, FitsFs, hopSh, cmdShH, Tryz.underlying45, Tryz.underlying117, Tryz.underlying38, Tryz.underlying23, Tryz.underlying26, Tryz.underlying3, Tryz.underlying5]; kernel_rfl
theorem row_cells : ∀ (l : List HopS) (xs : List Value), xs.length = l.length * 43 → (∀ i (h : i < l.length), HopR l[i] ((xs.drop (i * 43)).take 43)) → xs = rowH l ∧ okHs l
  | [], xs, hn, _ => by
    have : xs = [] := List.eq_nil_of_length_eq_zero (by simpa using hn)
    subst this
    exact ⟨rfl, fun h hh => absurd hh (by simp)⟩
  | y :: r, xs, hn, h => by
    have h0 := h 0 (by simp)
    have hl : xs.length = r.length * 43 + 43 := by rw [hn, List.length_cons]; omega
    obtain ⟨e, ok⟩ := row_cells r (xs.drop 43) (by rw [List.length_drop, hl]; omega) fun i hi => by
      have := h (i + 1) (by simpa using hi)
      rw [show (i + 1) * 43 = 43 + i * 43 by omega, ← List.drop_drop] at this
      exact this
    have e0 : xs.take 43 = y.cs := by
      have := h0.1
      rw [Nat.zero_mul, List.drop_zero] at this
      exact this
    refine ⟨?_, fun k hk => ?_⟩
    · rw [← List.take_append_drop 43 xs, e0, e]; rfl
    · rcases List.mem_cons.1 hk with rfl | hk
      · exact h0.2
      · exact ok k hk
section
variable {H : Type} {enc : TypeId × Value → H} {base : Nat} {v0 v1 v2 : Value} {d0 d1 d2 : DataW H} {p0 p1 p2 : List MemPlace}
theorem arg_hops (W : World) (ok0 : Value.okWide Tryz.prog W .any base 45 v0) (h0 : DataW.Trod enc Tryz.prog W 0 (fun _ => true) true 45 v0 d0 p0) :
    ∃ a cap l, v0 = .slice a l.length cap ∧ Rd (old W) a (rowH l) ∧ okHs l := by
  obtain ⟨a, cap, l, rfl, _, h⟩ := arg_slice (s := hopSh) fitsHops ok0 h0
  have hrow : Row (old W) a 43 HopR (l.map hopOf) := (Vals.row h).map hopOf hop_of
  obtain ⟨xs, h1, h2, h3⟩ := hrow.at
  obtain ⟨rfl, hok⟩ := row_cells (l.map hopOf) xs h2 h3
  exact ⟨a, cap, l.map hopOf, by rw [List.length_map], h1, hok⟩
end
end
end Go.Proofs.YtfehjfoajlfhfaaGreatDoor
