import Derived.Test.YtckkhagclfmmdaaDoorQl
import Derived.Test.YtckkhagclfmmdaaDoorRows
import Derived.OpenShut
import Derived.LaidMore
import Derived.FnData
namespace Go.Proofs.YtckkhagclfmmdaaDoor
open Go.Sx
set_option maxRecDepth 100000
set_option pp.deepTerms false
set_option pp.maxSteps 300
set_option linter.unusedSimpArgs false
set_option linter.unusedVariables false
section
attribute [local irreducible] macD q0h strS q0b q00 q05 q0v q0c q01 q08 openB q0f decC q0p q0n q1d q0w tagH leB q28 q29 q2a
end
section
attribute [local irreducible] macD q0h strS q0b q00 q05 q0v q0c q01 q08 openB q0f decC q0p q0n q1d q0w tagH leB q28 q29 q2a
end
section
theorem qko {l : List UInt8} (h : l.length = 32) : gd l 31 = le l / 256 ^ 31:=by
  have h1:=qb7 32 (le l) 31 (by decide);have hb : leB (le l) 32 = l:=by rw [← h,qj8]
  have hlt:=le_lt l;rw [h] at hlt;rw [hb] at h1
  have hq : le l / 256 ^ 31 < 256:=by
    rw [Nat.div_lt_iff_lt_mul (by decide)];exact Nat.lt_of_lt_of_le hlt (by decide)
  unfold gd;rw [h1]
  simp
  omega
theorem qhh {l : List UInt8} {i : Nat} (h : i < l.length) : l.set i (UInt8.ofNat (gd l i)) = l:=by
  rw [gd_eq h]
  apply List.ext_getElem
  · simp
  intro j h1 h2;rw [List.getElem_set]
  split
  · next e=>subst e;simp
  · rfl
theorem qbg (u : List UInt8) : q0c (q0c u) = q0c u:=by
  obtain ⟨v,hv,hp⟩ : ∃ v,v < Pm ∧ q0c u = leB v 32:=⟨_,Nat.mod_lt _ q4c,rfl⟩;rw [hp];have h256 : v < 256 ^ 32:=by unfold Pm at hv;exact Nat.lt_trans hv (by decide)
  have hg : gd (leB v 32) 31 < 128:=by
    rw [qko (lbl _ _),qd8 32 v h256,Nat.div_lt_iff_lt_mul (by decide)];unfold Pm at hv;exact Nat.lt_trans hv (by decide)
  show leB (le ((leB v 32).set 31 (UInt8.ofNat (gd (leB v 32) 31 % 128))) % Pm) 32 = leB v 32;rw [Nat.mod_eq_of_lt hg,qhh (by rw [lbl];decide),qd8 32 v h256,Nat.mod_eq_of_lt hv]
theorem qaw (k u : List UInt8) : q00 k (q0c u) = q00 k u:=by
  have e : q00 k (q0c u) = if q0v (q03 k) (q0c (q0c u)) = zk then (zk,7) else (q0v (q03 k) (q0c (q0c u)),0):=rfl;rw [e,qbg];rfl
attribute [local irreducible] macD q0h strS q0b q00 q05 q0v q0c q01 q08 openB q0f decC q0p q0n q1d q0w tagH leB q28 q29 q2a q0j
theorem qff {u x : List UInt8} (h : (q05 u [x]).2 = 0) : q05 u [x] = q00 x u:=by
  by_cases h1 : q0c u = zk
  · rw [q5s (by show ¬ 8 < 1;decide) h1] at h;exact absurd h (by show ¬ (7 : Int) = 0;decide)
  rw [q98 (by show ¬ 8 < 1;decide) h1] at h ⊢
  by_cases h2 : (q00 x (q0c u)).2 = 0
  · rw [q84 h2,← qaw x u];show ((q00 x (q0c u)).1,(0 : Int)) = _;rw [← h2]
  · rw [q8i h2] at h;exact absurd h h2
theorem q8m : ∀ (l : List HopS) (chain out : List (List UInt8)) (alpha : List UInt8),(q1y chain alpha out l).2 = 0 → ∃ r,(q1y chain alpha out l).1 = out ++ r
  | [],_,out,_,_=>⟨[],(List.append_nil _).symm⟩
  | h :: r,chain,out,alpha,e0=>by
    by_cases e : (q05 h.key chain).2 = 0
    · by_cases e2 : (q00 (q08 (q05 h.key chain).1 alpha) alpha).2 = 0
      · rw [q4k e e2] at e0 ⊢;obtain ⟨q,hq⟩:=q8m r _ _ _ e0;exact ⟨(q05 h.key chain).1 :: q,by rw [hq];simp⟩
      · rw [q9o e e2] at e0;exact absurd e0 (by show ¬ (7 : Int) = 0;decide)
    · rw [q92 e] at e0;exact absurd e0 (by show ¬ (7 : Int) = 0;decide)
theorem qbr {x : List UInt8} {h : HopS} {r : List HopS} (e : (q0j x (h :: r)).2 = 0) : (q00 x h.key).2 = 0 ∧ kAt (q0j x (h :: r)).1 0 = (q00 x h.key).1:=by
  have e : (q1y [x] (q01 x) [] (h :: r)).2 = 0:=by unfold q0j at e;exact e
  have eq : q0j x (h :: r) = q1y [x] (q01 x) [] (h :: r):=by unfold q0j;rfl
  rw [eq]
  by_cases e1 : (q05 h.key [x]).2 = 0
  · by_cases e2 : (q00 (q08 (q05 h.key [x]).1 (q01 x)) (q01 x)).2 = 0
    · rw [q4k e1 e2] at e ⊢;obtain ⟨q,hq⟩:=q8m r _ _ _ e;rw [hq];have hc:=qff e1;rw [hc] at e1 ⊢;exact ⟨e1,rfl⟩
    · rw [q9o e1 e2] at e;exact absurd e (by show ¬ (7 : Int) = 0;decide)
  · rw [q92 e1] at e;exact absurd e (by show ¬ (7 : Int) = 0;decide)
structure Built (x : List UInt8) (hs : List HopS) (B : HdrS × List (List UInt8) × Int) : Prop where
  ok : B.1.ok
  ks : okK B.2.1
  bad : B.2.2 ≠ 0 → B.1 = hdr0 ∧ B.2.1 = []
  len : B.2.2 = 0 → B.2.1.length = hs.length ∧ 1 ≤ hs.length
  alpha : B.2.2 = 0 → B.1.alpha = q01 x
  gamma : B.2.2 = 0 → q0f (kAt B.2.1 0) B.1.beta = B.1.gamma
  first : B.2.2 = 0 → ∀ h : 0 < hs.length,(q00 x hs[0].key).2 = 0 ∧ kAt B.2.1 0 = (q00 x hs[0].key).1
theorem built {x : List UInt8} {hs : List HopS} (ho : okHs hs) : Built x hs (q1d x hs):=by
  obtain ⟨q1,q2,_⟩:=q7f x ho
  cases hr : q0p hs with
  | false =>
    rw [q7x hr] at q1 q2 ⊢;have h14 : ¬ (14 : Int) = 0:=by decide
    exact ⟨q1,q2,fun _=>⟨rfl,rfl⟩,fun e=>absurd e h14,fun e=>absurd e h14,fun e=>absurd e h14,fun e=>absurd e h14⟩
  | true =>
    obtain ⟨h1,h5⟩:=q40 hr;obtain ⟨ha,hb,hc⟩:=q54 x hs
    by_cases h2 : (q0j x hs).2 = 0
    · rw [q76 hr h2] at q1 q2 ⊢;refine ⟨q1,q2,fun e=>absurd rfl e,fun _=>⟨hc h2,h1⟩,fun _=>rfl,fun _=>rfl,fun _ h=>?_⟩
      cases hs with
      | nil=>exact absurd h (by decide)
      | cons k r=>exact qbr h2
    · rw [qb9 hr h2] at q1 q2 ⊢;exact ⟨q1,q2,fun _=>⟨rfl,rfl⟩,fun e=>absurd e h2,fun e=>absurd e h2,fun e=>absurd e h2,fun e=>absurd e h2⟩
end
section
attribute [local irreducible] macD q0h strS q0b q00 q05 q0v q0c q01 q08 openB q0f decC q0p q0n q1d q0w tagH leB q28 q29 q2a q0j
theorem qg8 (l : List HopS) (h : HopS) : rowH (l ++ [h]) = rowH l ++ h.cs:=by rw [q4m];simp [rowH]
end
section
open Go.RowKit (Below)
abbrev kLaid : List (String × DataW Unit) := [("pigeonry/sha.k", Rows.laid_pigeonry_sha_k)]
theorem gK : Tryd.prog.globalNamed "pigeonry/sha.k" = some 0 := by kernel_rfl
theorem tK : (Tryd.prog.globals[0]?).map (·.type) = some 148:=by kernel_rfl
theorem kLits : (Rows.laid_pigeonry_sha_k : DataW Unit) = .agg (kW.map fun x=>.lit (.int .u32 (x.toNat : Int))):=rfl
theorem qe4 {W : World} (h : laidMetH Tryd.prog kLaid W) : Gl (old W):=by
  rw [MakeChecks.laidMetH_plain _ _ _ (by kernel_rfl)] at h;obtain ⟨ps,⟨g0,t0,cs0,f0,p0,q0,hg0,ht0,hv0,hd0,_,_⟩,_,_⟩:=h;obtain rfl:=Option.some.inj (gK.symm.trans hg0);obtain rfl:=Option.some.inj (tK.symm.trans ht0);obtain ⟨xs,m1,rfl,hx1,hlen,hn,hel⟩:=DataW.trod_array Tryd.underlying148 hd0;have c1 : Tryd.prog.cellsOf 95 = 1:=by kernel_rfl
  have c64 : Tryd.prog.cellsOf 148 = 64:=by kernel_rfl
  rw [c1] at hel;simp only [Prod.mk.injEq] at hx1;have hx1:=hx1.1;rw [kLits] at hx1;have hxs : xs.map (·.1) = kW.map fun x=>DataW.lit (.int .u32 (x.toNat : Int)):=by simpa using hx1.symm
  refine qiv (a:=⟨0,0,none⟩) fun i hi=>?_;rw [q2i,qar] at hi;rw [q6q (by rw [qar];exact hi)];have h1:=hel i hi;rw [List.getElem?_eq_getElem (by omega)] at h1;obtain ⟨k,e1,e2,_⟩:=DataW.trod_int Tryd.underlying95 h1;have e3 : (xs.map (·.1))[i]? = some (DataW.lit (.int .u32 k)):=by rw [List.getElem?_map,List.getElem?_eq_getElem (by omega),Option.map_some,e2]
  rw [hxs,List.getElem?_map,List.getElem?_eq_getElem (by rw [qar];exact hi)] at e3;have e4 : DataW.lit (.int .u32 (kW[i].toNat : Int)) = (DataW.lit (.int .u32 k) : DataW Unit):=Option.some.inj e3
  injection e4 with e4
  injection e4 with _ e4
  subst e4;have:=World.var?_cell hg0 hv0 i;rw [show (⟨0,0,none⟩ : Addr).add i = ⟨0,i,none⟩ by rw [q0g,Nat.zero_add],this]
  have e5 : cs0.toList[i]? = some (.int .u32 (kW[i].toNat : Int)):=by
    have:=congrArg (fun l=>l[0]?) e1;simp only [List.getElem?_take,List.getElem?_drop] at this
    simpa using this
  rw [← Array.getElem?_toList];exact e5
section
variable {H : Type} {enc : TypeId × Value → H} {base : Nat} {v0 v1 v2 : Value} {d0 d1 d2 : DataW H} {p0 p1 p2 : List MemPlace}
theorem qki (W : World) (ok0 : Value.okWide Tryd.prog W .any base 23 v0) (h0 : DataW.Trod enc Tryd.prog W 0 (fun _=>true) true 23 v0 d0 p0) : ∃ k : List UInt8,v0 = (SV.agg [.many 32 (u8s k)]).den [] ∧ k.length = 32:=by
  obtain ⟨x,cs,rfl,h,rfl⟩:=qkg (s:=.barr 32) ⟨.unit,.unit,.inr ⟨32,.inl rfl⟩⟩ q8e ok0 h0;exact ⟨x,by show Value.agg (List.toArray (u8s x)) = Value.agg (List.toArray (u8s x ++ []));rw [List.append_nil],h⟩
end
end
end Go.Proofs.YtckkhagclfmmdaaDoor
