import Derived.Test.YtfehjfoajlfhfaaGreatDoorQj
import Derived.Test.YtfehjfoajlfhfaaGreatDoorRows
import Derived.OpenShut
import Derived.LaidMore
import Derived.FnData
namespace Go.Proofs.YtfehjfoajlfhfaaGreatDoor
open Go.Sx
set_option maxRecDepth 100000
set_option pp.deepTerms false
set_option pp.maxSteps 300
set_option linter.unusedSimpArgs false
set_option linter.unusedVariables false
section
attribute [local irreducible] macD q01 strS q05 q00 q03 q0h q07 q06 q08 openB q0p decC q0j q13 q0g q0f tagH leB q0w q0x q0v
end
section
attribute [local irreducible] macD q01 strS q05 q00 q03 q0h q07 q06 q08 openB q0p decC q0j q13 q0g q0f tagH leB q0w q0x q0v
end
section
theorem qlk {l : List UInt8} (h : l.length = 32) : gd l 31 = le l / 256 ^ 31:=by
  have h1:=qdj 32 (le l) 31 (by decide);have hb : leB (le l) 32 = l:=by rw [← h,qjw]
  have hlt:=le_lt l;rw [h] at hlt;rw [hb] at h1
  have hq : le l / 256 ^ 31 < 256:=by
    rw [Nat.div_lt_iff_lt_mul (by decide)];exact Nat.lt_of_lt_of_le hlt (by decide)
  unfold gd;rw [h1]
  simp
  omega
theorem qi3 {l : List UInt8} {i : Nat} (h : i < l.length) : l.set i (UInt8.ofNat (gd l i)) = l:=by
  rw [gd_eq h]
  apply List.ext_getElem
  · simp
  intro j h1 h2;rw [List.getElem_set]
  split
  · next e=>subst e;simp
  · rfl
theorem qd7 (u : List UInt8) : q07 (q07 u) = q07 u:=by
  obtain ⟨v,hv,hp⟩ : ∃ v,v < Pm ∧ q07 u = leB v 32:=⟨_,Nat.mod_lt _ qb5,rfl⟩;rw [hp];have h256 : v < 256 ^ 32:=by unfold Pm at hv;exact Nat.lt_trans hv (by decide)
  have hg : gd (leB v 32) 31 < 128:=by
    rw [qlk (lbl _ _),qhl 32 v h256,Nat.div_lt_iff_lt_mul (by decide)];unfold Pm at hv;exact Nat.lt_trans hv (by decide)
  show leB (le ((leB v 32).set 31 (UInt8.ofNat (gd (leB v 32) 31 % 128))) % Pm) 32 = leB v 32;rw [Nat.mod_eq_of_lt hg,qi3 (by rw [lbl];decide),qhl 32 v h256,Nat.mod_eq_of_lt hv]
theorem qbk (k u : List UInt8) : q00 k (q07 u) = q00 k u:=by
  have e : q00 k (q07 u) = if q0h (q22 k) (q07 (q07 u)) = zk then (zk,7) else (q0h (q22 k) (q07 (q07 u)),0):=rfl;rw [e,qd7];rfl
attribute [local irreducible] macD q01 strS q05 q00 q03 q0h q07 q06 q08 openB q0p decC q0j q13 q0g q0f tagH leB q0w q0x q0v q0a
theorem qfy {u x : List UInt8} (h : (q03 u [x]).2 = 0) : q03 u [x] = q00 x u:=by
  by_cases h1 : q07 u = zk
  · rw [q6b (by show ¬ 8 < 1;decide) h1] at h;exact absurd h (by show ¬ (7 : Int) = 0;decide)
  rw [qaq (by show ¬ 8 < 1;decide) h1] at h ⊢
  by_cases h2 : (q00 x (q07 u)).2 = 0
  · rw [q9m h2,← qbk x u];show ((q00 x (q07 u)).1,(0 : Int)) = _;rw [← h2]
  · rw [q93 h2] at h;exact absurd h h2
theorem q9c : ∀ (l : List HopS) (chain out : List (List UInt8)) (alpha : List UInt8),(q2y chain alpha out l).2 = 0 → ∃ r,(q2y chain alpha out l).1 = out ++ r
  | [],_,out,_,_=>⟨[],(List.append_nil _).symm⟩
  | h :: r,chain,out,alpha,e0=>by
    by_cases e : (q03 h.key chain).2 = 0
    · by_cases e2 : (q00 (q08 (q03 h.key chain).1 alpha) alpha).2 = 0
      · rw [q82 e e2] at e0 ⊢;obtain ⟨q,hq⟩:=q9c r _ _ _ e0;exact ⟨(q03 h.key chain).1 :: q,by rw [hq];simp⟩
      · rw [qan e e2] at e0;exact absurd e0 (by show ¬ (7 : Int) = 0;decide)
    · rw [qal e] at e0;exact absurd e0 (by show ¬ (7 : Int) = 0;decide)
theorem qcr {x : List UInt8} {h : HopS} {r : List HopS} (e : (q0a x (h :: r)).2 = 0) : (q00 x h.key).2 = 0 ∧ kAt (q0a x (h :: r)).1 0 = (q00 x h.key).1:=by
  have e : (q2y [x] (q06 x) [] (h :: r)).2 = 0:=by unfold q0a at e;exact e
  have eq : q0a x (h :: r) = q2y [x] (q06 x) [] (h :: r):=by unfold q0a;rfl
  rw [eq]
  by_cases e1 : (q03 h.key [x]).2 = 0
  · by_cases e2 : (q00 (q08 (q03 h.key [x]).1 (q06 x)) (q06 x)).2 = 0
    · rw [q82 e1 e2] at e ⊢;obtain ⟨q,hq⟩:=q9c r _ _ _ e;rw [hq];have hc:=qfy e1;rw [hc] at e1 ⊢;exact ⟨e1,rfl⟩
    · rw [qan e1 e2] at e;exact absurd e (by show ¬ (7 : Int) = 0;decide)
  · rw [qal e1] at e;exact absurd e (by show ¬ (7 : Int) = 0;decide)
structure Built (x : List UInt8) (hs : List HopS) (B : HdrS × List (List UInt8) × Int) : Prop where
  ok : B.1.ok
  ks : okK B.2.1
  bad : B.2.2 ≠ 0 → B.1 = hdr0 ∧ B.2.1 = []
  len : B.2.2 = 0 → B.2.1.length = hs.length ∧ 1 ≤ hs.length
  alpha : B.2.2 = 0 → B.1.alpha = q06 x
  gamma : B.2.2 = 0 → q0p (kAt B.2.1 0) B.1.beta = B.1.gamma
  first : B.2.2 = 0 → ∀ h : 0 < hs.length,(q00 x hs[0].key).2 = 0 ∧ kAt B.2.1 0 = (q00 x hs[0].key).1
theorem built {x : List UInt8} {hs : List HopS} (ho : okHs hs) : Built x hs (q0g x hs):=by
  obtain ⟨q1,q2,_⟩:=qb8 x ho
  cases hr : q0j hs with
  | false =>
    rw [qdg hr] at q1 q2 ⊢;have h14 : ¬ (14 : Int) = 0:=by decide
    exact ⟨q1,q2,fun _=>⟨rfl,rfl⟩,fun e=>absurd e h14,fun e=>absurd e h14,fun e=>absurd e h14,fun e=>absurd e h14⟩
  | true =>
    obtain ⟨h1,h5⟩:=q83 hr;obtain ⟨ha,hb,hc⟩:=q7k x hs
    by_cases h2 : (q0a x hs).2 = 0
    · rw [q9w hr h2] at q1 q2 ⊢;refine ⟨q1,q2,fun e=>absurd rfl e,fun _=>⟨hc h2,h1⟩,fun _=>rfl,fun _=>rfl,fun _ h=>?_⟩
      cases hs with
      | nil=>exact absurd h (by decide)
      | cons k r=>exact qcr h2
    · rw [qdf hr h2] at q1 q2 ⊢;exact ⟨q1,q2,fun _=>⟨rfl,rfl⟩,fun e=>absurd e h2,fun e=>absurd e h2,fun e=>absurd e h2,fun e=>absurd e h2⟩
end
section
attribute [local irreducible] macD q01 strS q05 q00 q03 q0h q07 q06 q08 openB q0p decC q0j q13 q0g q0f tagH leB q0w q0x q0v q0a
end
section
open Go.RowKit (Below)
abbrev kLaid : List (String × DataW Unit) := [("pigeonry/sha.k", Rows.laid_pigeonry_sha_k)]
theorem gK : Tryz.prog.globalNamed "pigeonry/sha.k" = some 0 := by kernel_rfl
theorem tK : (Tryz.prog.globals[0]?).map (·.type) = some 267:=by kernel_rfl
theorem kLits : (Rows.laid_pigeonry_sha_k : DataW Unit) = .agg (kW.map fun x=>.lit (.int .u32 (x.toNat : Int))):=rfl
theorem q6i {W : World} (h : laidMetH Tryz.prog kLaid W) : Gl (old W):=by
  rw [MakeChecks.laidMetH_plain _ _ _ (by kernel_rfl)] at h;obtain ⟨ps,⟨g0,t0,cs0,f0,p0,q0,hg0,ht0,hv0,hd0,_,_⟩,_,_⟩:=h;obtain rfl:=Option.some.inj (gK.symm.trans hg0);obtain rfl:=Option.some.inj (tK.symm.trans ht0);obtain ⟨xs,m1,rfl,hx1,hlen,hn,hel⟩:=DataW.trod_array Tryz.underlying267 hd0;have c1 : Tryz.prog.cellsOf 193 = 1:=by kernel_rfl
  have c64 : Tryz.prog.cellsOf 267 = 64:=by kernel_rfl
  rw [c1] at hel;simp only [Prod.mk.injEq] at hx1;have hx1:=hx1.1;rw [kLits] at hx1;have hxs : xs.map (·.1) = kW.map fun x=>DataW.lit (.int .u32 (x.toNat : Int)):=by simpa using hx1.symm
  refine qjz (a:=⟨0,0,none⟩) fun i hi=>?_;rw [q15,q97] at hi;rw [q5a (by rw [q97];exact hi)];have h1:=hel i hi;rw [List.getElem?_eq_getElem (by omega)] at h1;obtain ⟨k,e1,e2,_⟩:=DataW.trod_int Tryz.underlying193 h1;have e3 : (xs.map (·.1))[i]? = some (DataW.lit (.int .u32 k)):=by rw [List.getElem?_map,List.getElem?_eq_getElem (by omega),Option.map_some,e2]
  rw [hxs,List.getElem?_map,List.getElem?_eq_getElem (by rw [q97];exact hi)] at e3;have e4 : DataW.lit (.int .u32 (kW[i].toNat : Int)) = (DataW.lit (.int .u32 k) : DataW Unit):=Option.some.inj e3
  injection e4 with e4
  injection e4 with _ e4
  subst e4;have:=World.var?_cell hg0 hv0 i;rw [show (⟨0,0,none⟩ : Addr).add i = ⟨0,i,none⟩ by rw [q0k,Nat.zero_add],this]
  have e5 : cs0.toList[i]? = some (.int .u32 (kW[i].toNat : Int)):=by
    have:=congrArg (fun l=>l[0]?) e1;simp only [List.getElem?_take,List.getElem?_drop] at this
    simpa using this
  rw [← Array.getElem?_toList];exact e5
section
variable {H : Type} {enc : TypeId × Value → H} {base : Nat} {v0 v1 v2 : Value} {d0 d1 d2 : DataW H} {p0 p1 p2 : List MemPlace}
end
end
section
open Go.RowKit (Below)
section
variable {H : Type} {enc : TypeId × Value → H} {base : Nat} {v0 v1 v2 : Value} {d0 d1 d2 : DataW H} {p0 p1 p2 : List MemPlace}
end
end
end Go.Proofs.YtfehjfoajlfhfaaGreatDoor
