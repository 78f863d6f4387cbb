import Derived.Test.YtfehjfoajlfhfaaGreatDoorQj
import Derived.Test.YtfehjfoajlfhfaaGreatDoorRows
import Derived.OpenShut
import Derived.LaidMore
import Derived.FnData
namespace Go.Proofs.YtfehjfoajlfhfaaGreatDoor
open Go.Sx
set_option maxRecDepth 100000
set_option pp.deepTerms false
set_option pp.maxSteps 300
set_option linter.unusedSimpArgs false
set_option linter.unusedVariables false
section
theorem qh0 (b : List UInt8) : (decC b).2 = 0 ∧ (decC b).1.may = true ∨ (decC b).2 = 5 := by
  unfold decC
  by_cases h : (b.drop 12).any (· != 0) = false ∧ (cmdOf b).may = true
  · rw [if_pos h]; exact .inl ⟨rfl, h.2⟩
  · rw [if_neg h]; exact .inr rfl
theorem qlw (k u : List UInt8) : (q00 k u).2 = 0 ∨ (q00 k u).2 = 7 := by
  rcases q4m k u with h | h
  · rw [h]; exact .inr rfl
  · rw [h]; exact .inl rfl
attribute [local irreducible] macD q02 strS q05 q00 q04 q0f q06 q0a q08 openB q0m decC q0s q13 q0l q0c tagH leB q1d q1e q1f
end
section
attribute [local irreducible] macD q02 strS q05 q00 q04 q0f q06 q0a q08 openB q0m decC q0s q13 q0l q0c tagH leB q1d q1e q1f
end
section
theorem qnz {l : List UInt8} (h : l.length = 32) : gd l 31 = le l / 256 ^ 31 := by
  have h1 := qem 32 (le l) 31 (by decide); have hb : leB (le l) 32 = l := by rw [← h, qhf]
  have hlt := le_lt l; rw [h] at hlt; rw [hb] at h1
  have hq : le l / 256 ^ 31 < 256 := by
    rw [Nat.div_lt_iff_lt_mul (by decide)]; exact Nat.lt_of_lt_of_le hlt (by decide)
  unfold gd; rw [h1]
  simp
  omega
theorem ql7 {l : List UInt8} {i : Nat} (h : i < l.length) : l.set i (UInt8.ofNat (gd l i)) = l := by
  rw [gd_eq h]
  apply List.ext_getElem
  · simp
  intro j h1 h2; rw [List.getElem_set]
  split
  · next e => subst e; simp
  · rfl
theorem qe5 (u : List UInt8) : q06 (q06 u) = q06 u := by
  obtain ⟨v, hv, hp⟩ : ∃ v, v < Pm ∧ q06 u = leB v 32 := ⟨_, Nat.mod_lt _ q2l, rfl⟩; rw [hp]; have h256 : v < 256 ^ 32 := by unfold Pm at hv; exact Nat.lt_trans hv (by decide)
  have hg : gd (leB v 32) 31 < 128 := by
    rw [qnz (lbl _ _), qga 32 v h256, Nat.div_lt_iff_lt_mul (by decide)]; unfold Pm at hv; exact Nat.lt_trans hv (by decide)
  show leB (le ((leB v 32).set 31 (UInt8.ofNat (gd (leB v 32) 31 % 128))) % Pm) 32 = leB v 32; rw [Nat.mod_eq_of_lt hg, ql7 (by rw [lbl]; decide), qga 32 v h256, Nat.mod_eq_of_lt hv]
theorem qcy (k u : List UInt8) : q00 k (q06 u) = q00 k u := by
  have e : q00 k (q06 u) = if q0f (q18 k) (q06 (q06 u)) = zk then (zk, 7) else (q0f (q18 k) (q06 (q06 u)), 0) := rfl; rw [e, qe5]; rfl
attribute [local irreducible] macD q02 strS q05 q00 q04 q0f q06 q0a q08 openB q0m decC q0s q13 q0l q0c tagH leB q1d q1e q1f q0e
theorem qh8 {u x : List UInt8} (h : (q04 u [x]).2 = 0) : q04 u [x] = q00 x u := by
  by_cases h1 : q06 u = zk
  · rw [q78 (by show ¬ 8 < 1; decide) h1] at h; exact absurd h (by show ¬ (7 : Int) = 0; decide)
  rw [qb5 (by show ¬ 8 < 1; decide) h1] at h ⊢
  by_cases h2 : (q00 x (q06 u)).2 = 0
  · rw [q9o h2, ← qcy x u]; show ((q00 x (q06 u)).1, (0 : Int)) = _; rw [← h2]
  · rw [q9y h2] at h; exact absurd h h2
theorem qa1 : ∀ (l : List HopS) (chain out : List (List UInt8)) (alpha : List UInt8), (q35 chain alpha out l).2 = 0 → ∃ r, (q35 chain alpha out l).1 = out ++ r
  | [], _, out, _, _ => ⟨[], (List.append_nil _).symm⟩
  | h :: r, chain, out, alpha, e0 => by
    by_cases e : (q04 h.key chain).2 = 0
    · by_cases e2 : (q00 (q08 (q04 h.key chain).1 alpha) alpha).2 = 0
      · rw [q9e e e2] at e0 ⊢; obtain ⟨q, hq⟩ := qa1 r _ _ _ e0; exact ⟨(q04 h.key chain).1 :: q, by rw [hq]; simp⟩
      · rw [qc1 e e2] at e0; exact absurd e0 (by show ¬ (7 : Int) = 0; decide)
    · rw [qba e] at e0; exact absurd e0 (by show ¬ (7 : Int) = 0; decide)
theorem qep {x : List UInt8} {h : HopS} {r : List HopS} (e : (q0e x (h :: r)).2 = 0) : (q00 x h.key).2 = 0 ∧ kAt (q0e x (h :: r)).1 0 = (q00 x h.key).1 := by
  have e : (q35 [x] (q0a x) [] (h :: r)).2 = 0 := by unfold q0e at e; exact e
  have eq : q0e x (h :: r) = q35 [x] (q0a x) [] (h :: r) := by unfold q0e; rfl
  rw [eq]
  by_cases e1 : (q04 h.key [x]).2 = 0
  · by_cases e2 : (q00 (q08 (q04 h.key [x]).1 (q0a x)) (q0a x)).2 = 0
    · rw [q9e e1 e2] at e ⊢; obtain ⟨q, hq⟩ := qa1 r _ _ _ e; rw [hq]; have hc := qh8 e1; rw [hc] at e1 ⊢; exact ⟨e1, rfl⟩
    · rw [qc1 e1 e2] at e; exact absurd e (by show ¬ (7 : Int) = 0; decide)
  · rw [qba e1] at e; exact absurd e (by show ¬ (7 : Int) = 0; decide)
structure Built (x : List UInt8) (hs : List HopS) (B : HdrS × List (List UInt8) × Int) : Prop where
  ok : B.1.ok
  ks : okK B.2.1
  bad : B.2.2 ≠ 0 → B.1 = hdr0 ∧ B.2.1 = []
  len : B.2.2 = 0 → B.2.1.length = hs.length ∧ 1 ≤ hs.length
  alpha : B.2.2 = 0 → B.1.alpha = q0a x
  gamma : B.2.2 = 0 → q0m (kAt B.2.1 0) B.1.beta = B.1.gamma
  first : B.2.2 = 0 → ∀ h : 0 < hs.length, (q00 x hs[0].key).2 = 0 ∧ kAt B.2.1 0 = (q00 x hs[0].key).1
theorem built {x : List UInt8} {hs : List HopS} (ho : okHs hs) : Built x hs (q0l x hs) := by
  obtain ⟨q1, q2, _⟩ := qcm x ho
  cases hr : q0s hs with
  | false =>
    rw [qeb hr] at q1 q2 ⊢; have h14 : ¬ (14 : Int) = 0 := by decide
    exact ⟨q1, q2, fun _ => ⟨rfl, rfl⟩, fun e => absurd e h14, fun e => absurd e h14, fun e => absurd e h14, fun e => absurd e h14⟩
  | true =>
    obtain ⟨h1, h5⟩ := q8g hr; obtain ⟨ha, hb, hc⟩ := q8j x hs
    by_cases h2 : (q0e x hs).2 = 0
    · rw [qbf hr h2] at q1 q2 ⊢; refine ⟨q1, q2, fun e => absurd rfl e, fun _ => ⟨hc h2, h1⟩, fun _ => rfl, fun _ => rfl, fun _ h => ?_⟩
      cases hs with
      | nil => exact absurd h (by decide)
      | cons k r => exact qep h2
    · rw [qe2 hr h2] at q1 q2 ⊢; exact ⟨q1, q2, fun _ => ⟨rfl, rfl⟩, fun e => absurd e h2, fun e => absurd e h2, fun e => absurd e h2, fun e => absurd e h2⟩
end
section
attribute [local irreducible] macD q02 strS q05 q00 q04 q0f q06 q0a q08 openB q0m decC q0s q13 q0l q0c tagH leB q1d q1e q1f q0e
end
section
open Go.RowKit (Below)
abbrev kLaid : List (String × DataW Unit) := [("pigeonry/sha.k", Rows.laid_pigeonry_sha_k)]
theorem gK : Tryz.prog.globalNamed "pigeonry/sha.k" = some 0 := by kernel_rfl
theorem tK : (Tryz.prog.globals[0]?).map (·.type) = some 267 := by kernel_rfl
theorem kLits : (Rows.laid_pigeonry_sha_k : DataW Unit) = .agg (kW.map fun x => .lit (.int .u32 (x.toNat : Int))) := rfl
theorem qgj {W : World} (h : laidMetH Tryz.prog kLaid W) : Gl (old W) := by
  rw [MakeChecks.laidMetH_plain _ _ _ (by kernel_rfl)] at h; obtain ⟨ps, ⟨g0, t0, cs0, f0, p0, q0, hg0, ht0, hv0, hd0, _, _⟩, _, _⟩ := h; obtain rfl := Option.some.inj (gK.symm.trans hg0); obtain rfl := Option.some.inj (tK.symm.trans ht0); obtain ⟨xs, m1, rfl, hx1, hlen, hn, hel⟩ := DataW.trod_array Tryz.underlying267 hd0; have c1 : Tryz.prog.cellsOf 193 = 1 := by kernel_rfl
  have c64 : Tryz.prog.cellsOf 267 = 64 := by kernel_rfl
  rw [c1] at hel; simp only [Prod.mk.injEq] at hx1; have hx1 := hx1.1; rw [kLits] at hx1; have hxs : xs.map (·.1) = kW.map fun x => DataW.lit (.int .u32 (x.toNat : Int)) := by simpa using hx1.symm
  refine qmu (a := ⟨0, 0, none⟩) fun i hi => ?_; rw [q16, q9x] at hi; rw [q6i (by rw [q9x]; exact hi)]; have h1 := hel i hi; rw [List.getElem?_eq_getElem (by omega)] at h1; obtain ⟨k, e1, e2, _⟩ := DataW.trod_int Tryz.underlying193 h1; have e3 : (xs.map (·.1))[i]? = some (DataW.lit (.int .u32 k)) := by rw [List.getElem?_map, List.getElem?_eq_getElem (by omega), Option.map_some, e2]
  rw [hxs, List.getElem?_map, List.getElem?_eq_getElem (by rw [q9x]; exact hi)] at e3; have e4 : DataW.lit (.int .u32 (kW[i].toNat : Int)) = (DataW.lit (.int .u32 k) : DataW Unit) := Option.some.inj e3
  injection e4 with e4
  injection e4 with _ e4
  subst e4; have := World.var?_cell hg0 hv0 i; rw [show (⟨0, 0, none⟩ : Addr).add i = ⟨0, i, none⟩ by rw [q0i, Nat.zero_add], this]
  have e5 : cs0.toList[i]? = some (.int .u32 (kW[i].toNat : Int)) := by
    have := congrArg (fun l => l[0]?) e1; simp only [List.getElem?_take, List.getElem?_drop] at this
    simpa using this
  rw [← Array.getElem?_toList]; exact e5
section
variable {H : Type} {enc : TypeId × Value → H} {base : Nat} {v0 v1 v2 : Value} {d0 d1 d2 : DataW H} {p0 p1 p2 : List MemPlace}
theorem qoi (W : World) (ok0 : Value.okWide Tryz.prog W .any base 23 v0) (h0 : DataW.Trod enc Tryz.prog W 0 (fun _ => true) true 23 v0 d0 p0) : ∃ k : List UInt8, v0 = (SV.agg [.many 32 (u8s k)]).den [] ∧ k.length = 32 := by
  obtain ⟨x, cs, rfl, h, rfl⟩ := qoh (s := .barr 32) ⟨.unit, .unit, .inr ⟨32, .inl rfl⟩⟩ q9w ok0 h0; exact ⟨x, by show Value.agg (List.toArray (u8s x)) = Value.agg (List.toArray (u8s x ++ [])); rw [List.append_nil], h⟩
end
end
section
open Go.RowKit (Below)
section
variable {H : Type} {enc : TypeId × Value → H} {base : Nat} {v0 v1 v2 : Value} {d0 d1 d2 : DataW H} {p0 p1 p2 : List MemPlace}
end
end
end Go.Proofs.YtfehjfoajlfhfaaGreatDoor
