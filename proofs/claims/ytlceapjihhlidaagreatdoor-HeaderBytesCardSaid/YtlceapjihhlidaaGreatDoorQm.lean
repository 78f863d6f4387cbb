import Derived.Test.YtlceapjihhlidaaGreatDoorQj
import Derived.Test.YtlceapjihhlidaaGreatDoorRows
import Derived.OpenShut
import Derived.LaidMore
import Derived.FnData
namespace Go.Proofs.YtlceapjihhlidaaGreatDoor
open Go.Sx
set_option maxRecDepth 100000
set_option pp.deepTerms false
set_option pp.maxSteps 300
set_option linter.unusedSimpArgs false
set_option linter.unusedVariables false
section
/- header: the law Proved, walked. -/
attribute [local irreducible] macD deriveS strS streamH sharedS chainS timesS pointS publicS blindH openB proofH decC routeS fillerH buildS unwrapS tagH leB unwrap1 unwrap2 unwrap3
end
section
/- header: the law One, walked. -/
attribute [local irreducible] macD deriveS strS streamH sharedS chainS timesS pointS publicS blindH openB proofH decC routeS fillerH buildS unwrapS tagH leB unwrap1 unwrap2 unwrap3
end
section
/- header: hops as they are; the law First (plain). -/
theorem gd31_le {l : List UInt8} (h : l.length = 32) : gd l 31 = le l / 256 ^ 31 := by
  have h1 := leB_get 32 (le l) 31 (by decide)
  have hb : leB (le l) 32 = l := by rw [← h, leB_le]
  have hlt := le_lt l
  rw [h] at hlt
  rw [hb] at h1
  have hq : le l / 256 ^ 31 < 256 := by
    rw [Nat.div_lt_iff_lt_mul (by decide)]
    exact Nat.lt_of_lt_of_le hlt (by decide)
  unfold gd
  rw [h1]
  simp
  omega
theorem set_self {l : List UInt8} {i : Nat} (h : i < l.length) : l.set i (UInt8.ofNat (gd l i)) = l := by
  rw [gd_eq h]
  apply List.ext_getElem
  · simp
  intro j h1 h2
  rw [List.getElem_set]
  split
  · next e => subst e; simp
  · rfl
theorem point_twice (u : List UInt8) : pointS (pointS u) = pointS u := by
  obtain ⟨v, hv, hp⟩ : ∃ v, v < Pm ∧ pointS u = leB v 32 := ⟨_, Nat.mod_lt _ Pm_pos, rfl⟩
  rw [hp]
  have h256 : v < 256 ^ 32 := by unfold Pm at hv; exact Nat.lt_trans hv (by decide)
  have hg : gd (leB v 32) 31 < 128 := by
    rw [gd31_le (leB_len _ _), le_leB 32 v h256, Nat.div_lt_iff_lt_mul (by decide)]
    unfold Pm at hv
    exact Nat.lt_trans hv (by decide)
  show leB (le ((leB v 32).set 31 (UInt8.ofNat (gd (leB v 32) 31 % 128))) % Pm) 32 = leB v 32
  rw [Nat.mod_eq_of_lt hg, set_self (by rw [leB_len]; decide), le_leB 32 v h256, Nat.mod_eq_of_lt hv]
theorem shared_point (k u : List UInt8) : sharedS k (pointS u) = sharedS k u := by
  have e : sharedS k (pointS u) = if timesS (clampS k) (pointS (pointS u)) = zk then (zk, 7) else (timesS (clampS k) (pointS (pointS u)), 0) := rfl
  rw [e, point_twice]
  rfl
attribute [local irreducible] macD deriveS strS streamH sharedS chainS timesS pointS publicS blindH openB proofH decC routeS fillerH buildS unwrapS tagH leB unwrap1 unwrap2 unwrap3 agreeS
theorem chain_one {u x : List UInt8} (h : (chainS u [x]).2 = 0) : chainS u [x] = sharedS x u := by
  by_cases h1 : pointS u = zk
  · rw [chain_zero (by show ¬ 8 < 1; decide) h1] at h; exact absurd h (by show ¬ (7 : Int) = 0; decide)
  rw [chain_go (by show ¬ 8 < 1; decide) h1] at h ⊢
  by_cases h2 : (sharedS x (pointS u)).2 = 0
  · rw [chainGo_eq h2, ← shared_point x u]
    show ((sharedS x (pointS u)).1, (0 : Int)) = _
    rw [← h2]
  · rw [chainGo_ne h2] at h; exact absurd h h2
theorem agreeG_pre : ∀ (l : List HopS) (chain out : List (List UInt8)) (alpha : List UInt8), (agreeG chain alpha out l).2 = 0 → ∃ r, (agreeG chain alpha out l).1 = out ++ r
  | [], _, out, _, _ => ⟨[], (List.append_nil _).symm⟩
  | h :: r, chain, out, alpha, e0 => by
    by_cases e : (chainS h.key chain).2 = 0
    · by_cases e2 : (sharedS (blindH (chainS h.key chain).1 alpha) alpha).2 = 0
      · rw [agree_c e e2] at e0 ⊢
        obtain ⟨q, hq⟩ := agreeG_pre r _ _ _ e0
        exact ⟨(chainS h.key chain).1 :: q, by rw [hq]; simp⟩
      · rw [agree_b e e2] at e0; exact absurd e0 (by show ¬ (7 : Int) = 0; decide)
    · rw [agree_a e] at e0; exact absurd e0 (by show ¬ (7 : Int) = 0; decide)
theorem agree_first {x : List UInt8} {h : HopS} {r : List HopS} (e : (agreeS x (h :: r)).2 = 0) : (sharedS x h.key).2 = 0 ∧ kAt (agreeS x (h :: r)).1 0 = (sharedS x h.key).1 := by
  have e : (agreeG [x] (publicS x) [] (h :: r)).2 = 0 := by unfold agreeS at e; exact e
  have eq : agreeS x (h :: r) = agreeG [x] (publicS x) [] (h :: r) := by unfold agreeS; rfl
  rw [eq]
  by_cases e1 : (chainS h.key [x]).2 = 0
  · by_cases e2 : (sharedS (blindH (chainS h.key [x]).1 (publicS x)) (publicS x)).2 = 0
    · rw [agree_c e1 e2] at e ⊢
      obtain ⟨q, hq⟩ := agreeG_pre r _ _ _ e
      rw [hq]
      have hc := chain_one e1
      rw [hc] at e1 ⊢
      exact ⟨e1, rfl⟩
    · rw [agree_b e1 e2] at e; exact absurd e (by show ¬ (7 : Int) = 0; decide)
  · rw [agree_a e1] at e; exact absurd e (by show ¬ (7 : Int) = 0; decide)
/-- What a built header is. -/
structure Built (x : List UInt8) (hs : List HopS) (B : HdrS × List (List UInt8) × Int) : Prop where
  ok : B.1.ok
  ks : okK B.2.1
  bad : B.2.2 ≠ 0 → B.1 = hdr0 ∧ B.2.1 = []
  len : B.2.2 = 0 → B.2.1.length = hs.length ∧ 1 ≤ hs.length
  alpha : B.2.2 = 0 → B.1.alpha = publicS x
  gamma : B.2.2 = 0 → proofH (kAt B.2.1 0) B.1.beta = B.1.gamma
  first : B.2.2 = 0 → ∀ h : 0 < hs.length, (sharedS x hs[0].key).2 = 0 ∧ kAt B.2.1 0 = (sharedS x hs[0].key).1
theorem built {x : List UInt8} {hs : List HopS} (ho : okHs hs) : Built x hs (buildS x hs) := by
  obtain ⟨q1, q2, _⟩ := buildS_ok x ho
  cases hr : routeS hs with
  | false =>
    rw [build_a hr] at q1 q2 ⊢
    have h14 : ¬ (14 : Int) = 0 := by decide
    exact ⟨q1, q2, fun _ => ⟨rfl, rfl⟩, fun e => absurd e h14, fun e => absurd e h14, fun e => absurd e h14, fun e => absurd e h14⟩
  | true =>
    obtain ⟨h1, h5⟩ := route_len hr
    obtain ⟨ha, hb, hc⟩ := agreeS_ok x hs
    by_cases h2 : (agreeS x hs).2 = 0
    · rw [build_c hr h2] at q1 q2 ⊢
      refine ⟨q1, q2, fun e => absurd rfl e, fun _ => ⟨hc h2, h1⟩, fun _ => rfl, fun _ => rfl, fun _ h => ?_⟩
      cases hs with
      | nil => exact absurd h (by decide)
      | cons k r => exact agree_first h2
    · rw [build_b hr h2] at q1 q2 ⊢
      exact ⟨q1, q2, fun _ => ⟨rfl, rfl⟩, fun e => absurd e h2, fun e => absurd e h2, fun e => absurd e h2, fun e => absurd e h2⟩
end
section
/- header: the law First, walked. -/
attribute [local irreducible] macD deriveS strS streamH sharedS chainS timesS pointS publicS blindH openB proofH decC routeS fillerH buildS unwrapS tagH leB unwrap1 unwrap2 unwrap3 agreeS
end
section
/- header: the constants that are laid; laws at any arguments. -/
open Go.RowKit (Below)
abbrev kLaid : List (String × DataW Unit) := [("pigeonry/sha.k", Rows.laid_pigeonry_sha_k)]
theorem gK : Tryz.prog.globalNamed "pigeonry/sha.k" = some 0 := by kernel_rfl
theorem tK : (Tryz.prog.globals[0]?).map (·.type) = some 208 := by kernel_rfl
theorem kLits : (Rows.laid_pigeonry_sha_k : DataW Unit) = .agg (kW.map fun x => .lit (.int .u32 (x.toNat : Int))) := rfl
theorem gl_of_laid {W : World} (h : laidMetH Tryz.prog kLaid W) : Gl (old W) := by
  rw [MakeChecks.laidMetH_plain _ _ _ (by kernel_rfl)] at h
  obtain ⟨ps, ⟨g0, t0, cs0, f0, p0, q0, hg0, ht0, hv0, hd0, _, _⟩, _, _⟩ := h
  obtain rfl := Option.some.inj (gK.symm.trans hg0)
  obtain rfl := Option.some.inj (tK.symm.trans ht0)
  obtain ⟨xs, m1, rfl, hx1, hlen, hn, hel⟩ := DataW.trod_array Tryz.underlying208 hd0
  have c1 : Tryz.prog.cellsOf 123 = 1 := by kernel_rfl
  have c64 : Tryz.prog.cellsOf 208 = 64 := by kernel_rfl
  rw [c1] at hel
  simp only [Prod.mk.injEq] at hx1
  have hx1 := hx1.1
  rw [kLits] at hx1
  have hxs : xs.map (·.1) = kW.map fun x => DataW.lit (.int .u32 (x.toNat : Int)) := by simpa using hx1.symm
  refine rd_old (a := ⟨0, 0, none⟩) fun i hi => ?_
  rw [w32s_length, kW_len] at hi
  rw [w32s_get (by rw [kW_len]; exact hi)]
  have h1 := hel i hi
  rw [List.getElem?_eq_getElem (by omega)] at h1
  obtain ⟨k, e1, e2, _⟩ := DataW.trod_int Tryz.underlying123 h1
  have e3 : (xs.map (·.1))[i]? = some (DataW.lit (.int .u32 k)) := by rw [List.getElem?_map, List.getElem?_eq_getElem (by omega), Option.map_some, e2]
  rw [hxs, List.getElem?_map, List.getElem?_eq_getElem (by rw [kW_len]; exact hi)] at e3
  have e4 : DataW.lit (.int .u32 (kW[i].toNat : Int)) = (DataW.lit (.int .u32 k) : DataW Unit) := Option.some.inj e3
  injection e4 with e4
  injection e4 with _ e4
  subst e4
  have := World.var?_cell hg0 hv0 i
  rw [show (⟨0, 0, none⟩ : Addr).add i = ⟨0, i, none⟩ by rw [addr_add, Nat.zero_add], this]
  have e5 : cs0.toList[i]? = some (.int .u32 (kW[i].toNat : Int)) := by
    have := congrArg (fun l => l[0]?) e1
    simp only [List.getElem?_take, List.getElem?_drop] at this
    simpa using this
  rw [← Array.getElem?_toList]; exact e5
section
variable {H : Type} {enc : TypeId × Value → H} {base : Nat} {v0 v1 v2 : Value} {d0 d1 d2 : DataW H} {p0 p1 p2 : List MemPlace}
theorem arg_key (W : World) (ok0 : Value.okWide Tryz.prog W .any base 23 v0) (h0 : DataW.Trod enc Tryz.prog W 0 (fun _ => true) true 23 v0 d0 p0) : ∃ k : List UInt8, v0 = (SV.agg [.many 32 (u8s k)]).den [] ∧ k.length = 32 := by
  obtain ⟨x, cs, rfl, h, rfl⟩ := arg_agg (s := .barr 32) ⟨.unit, .unit, .inr ⟨32, .inl rfl⟩⟩ fitsBarr32 ok0 h0
  exact ⟨x, by show Value.agg (List.toArray (u8s x)) = Value.agg (List.toArray (u8s x ++ [])); rw [List.append_nil], h⟩
theorem arg_hdr (W : World) (ok0 : Value.okWide Tryz.prog W .any base 31 v0) (h0 : DataW.Trod enc Tryz.prog W 0 (fun _ => true) true 31 v0 d0 p0) : ∃ h : HdrS, v0 = (SV.agg h.sg).den [] ∧ h.ok := by
  obtain ⟨x, cs, rfl, h⟩ := arg_agg (s := hdrSh) ⟨_, _, .inl rfl⟩ fitsHdr ok0 h0
  obtain ⟨a, b, g, u⟩ := x
  obtain ⟨c1, c2, rfl, ⟨h1, rfl⟩, c3, c4, rfl, ⟨h2, rfl⟩, c5, c6, rfl, ⟨h3, rfl⟩, rfl⟩ := h
  exact ⟨⟨a, b, g⟩, rfl, ⟨h1, h2, h3⟩⟩
end
end
section
/- header: the law First at any arguments. -/
open Go.RowKit (Below)
section
variable {H : Type} {enc : TypeId × Value → H} {base : Nat} {v0 v1 v2 : Value} {d0 d1 d2 : DataW H} {p0 p1 p2 : List MemPlace}
end
end
end Go.Proofs.YtlceapjihhlidaaGreatDoor
