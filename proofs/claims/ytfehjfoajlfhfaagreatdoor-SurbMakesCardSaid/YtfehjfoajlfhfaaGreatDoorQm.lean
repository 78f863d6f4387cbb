import Derived.Test.YtfehjfoajlfhfaaGreatDoorQj
import Derived.Test.YtfehjfoajlfhfaaGreatDoorRows
import Derived.OpenShut
import Derived.LaidMore
import Derived.FnData
namespace Go.Proofs.YtfehjfoajlfhfaaGreatDoor
open Go.Sx
set_option maxRecDepth 100000
set_option pp.deepTerms false
set_option pp.maxSteps 300
set_option linter.unusedSimpArgs false
set_option linter.unusedVariables false
section
attribute [local irreducible] macD q01 strS q03 q00 q02 q0e q06 q05 q08 openB q0j decC q0d q0u q0b q0h tagH leB q13 q12 q11
end
section
attribute [local irreducible] macD q01 strS q03 q00 q02 q0e q06 q05 q08 openB q0j decC q0d q0u q0b q0h tagH leB q13 q12 q11
end
section
theorem qo8 {l : List UInt8} (h : l.length = 32) : gd l 31 = le l / 256 ^ 31:=by
  have h1:=qen 32 (le l) 31 (by decide);have hb : leB (le l) 32 = l:=by rw [← h,qjg]
  have hlt:=le_lt l;rw [h] at hlt;rw [hb] at h1
  have hq : le l / 256 ^ 31 < 256:=by
    rw [Nat.div_lt_iff_lt_mul (by decide)];exact Nat.lt_of_lt_of_le hlt (by decide)
  unfold gd;rw [h1]
  simp
  omega
theorem qma {l : List UInt8} {i : Nat} (h : i < l.length) : l.set i (UInt8.ofNat (gd l i)) = l:=by
  rw [gd_eq h]
  apply List.ext_getElem
  · simp
  intro j h1 h2;rw [List.getElem_set]
  split
  · next e=>subst e;simp
  · rfl
theorem qed (u : List UInt8) : q06 (q06 u) = q06 u:=by
  obtain ⟨v,hv,hp⟩ : ∃ v,v < Pm ∧ q06 u = leB v 32:=⟨_,Nat.mod_lt _ q2k,rfl⟩;rw [hp];have h256 : v < 256 ^ 32:=by unfold Pm at hv;exact Nat.lt_trans hv (by decide)
  have hg : gd (leB v 32) 31 < 128:=by
    rw [qo8 (lbl _ _),qgp 32 v h256,Nat.div_lt_iff_lt_mul (by decide)];unfold Pm at hv;exact Nat.lt_trans hv (by decide)
  show leB (le ((leB v 32).set 31 (UInt8.ofNat (gd (leB v 32) 31 % 128))) % Pm) 32 = leB v 32;rw [Nat.mod_eq_of_lt hg,qma (by rw [lbl];decide),qgp 32 v h256,Nat.mod_eq_of_lt hv]
theorem qcf (k u : List UInt8) : q00 k (q06 u) = q00 k u:=by
  have e : q00 k (q06 u) = if q0e (q18 k) (q06 (q06 u)) = zk then (zk,7) else (q0e (q18 k) (q06 (q06 u)),0):=rfl;rw [e,qed];rfl
attribute [local irreducible] macD q01 strS q03 q00 q02 q0e q06 q05 q08 openB q0j decC q0d q0u q0b q0h tagH leB q13 q12 q11 q0a
theorem qk1 {u x : List UInt8} (h : (q02 u [x]).2 = 0) : q02 u [x] = q00 x u:=by
  by_cases h1 : q06 u = zk
  · rw [q54 (by show ¬ 8 < 1;decide) h1] at h;exact absurd h (by show ¬ (7 : Int) = 0;decide)
  rw [q8c (by show ¬ 8 < 1;decide) h1] at h ⊢
  by_cases h2 : (q00 x (q06 u)).2 = 0
  · rw [q6u h2,← qcf x u];show ((q00 x (q06 u)).1,(0 : Int)) = _;rw [← h2]
  · rw [q6x h2] at h;exact absurd h h2
theorem qak : ∀ (l : List HopS) (chain out : List (List UInt8)) (alpha : List UInt8),(q2l chain alpha out l).2 = 0 → ∃ r,(q2l chain alpha out l).1 = out ++ r
  | [],_,out,_,_=>⟨[],(List.append_nil _).symm⟩
  | h :: r,chain,out,alpha,e0=>by
    by_cases e : (q02 h.key chain).2 = 0
    · by_cases e2 : (q00 (q08 (q02 h.key chain).1 alpha) alpha).2 = 0
      · rw [q5w e e2] at e0 ⊢;obtain ⟨q,hq⟩:=qak r _ _ _ e0;exact ⟨(q02 h.key chain).1 :: q,by rw [hq];simp⟩
      · rw [q77 e e2] at e0;exact absurd e0 (by show ¬ (7 : Int) = 0;decide)
    · rw [q71 e] at e0;exact absurd e0 (by show ¬ (7 : Int) = 0;decide)
theorem qek {x : List UInt8} {h : HopS} {r : List HopS} (e : (q0a x (h :: r)).2 = 0) : (q00 x h.key).2 = 0 ∧ kAt (q0a x (h :: r)).1 0 = (q00 x h.key).1:=by
  have e : (q2l [x] (q05 x) [] (h :: r)).2 = 0:=by unfold q0a at e;exact e
  have eq : q0a x (h :: r) = q2l [x] (q05 x) [] (h :: r):=by unfold q0a;rfl
  rw [eq]
  by_cases e1 : (q02 h.key [x]).2 = 0
  · by_cases e2 : (q00 (q08 (q02 h.key [x]).1 (q05 x)) (q05 x)).2 = 0
    · rw [q5w e1 e2] at e ⊢;obtain ⟨q,hq⟩:=qak r _ _ _ e;rw [hq];have hc:=qk1 e1;rw [hc] at e1 ⊢;exact ⟨e1,rfl⟩
    · rw [q77 e1 e2] at e;exact absurd e (by show ¬ (7 : Int) = 0;decide)
  · rw [q71 e1] at e;exact absurd e (by show ¬ (7 : Int) = 0;decide)
structure Built (x : List UInt8) (hs : List HopS) (B : HdrS × List (List UInt8) × Int) : Prop where
  ok : B.1.ok
  ks : okK B.2.1
  bad : B.2.2 ≠ 0 → B.1 = hdr0 ∧ B.2.1 = []
  len : B.2.2 = 0 → B.2.1.length = hs.length ∧ 1 ≤ hs.length
  alpha : B.2.2 = 0 → B.1.alpha = q05 x
  gamma : B.2.2 = 0 → q0j (kAt B.2.1 0) B.1.beta = B.1.gamma
  first : B.2.2 = 0 → ∀ h : 0 < hs.length,(q00 x hs[0].key).2 = 0 ∧ kAt B.2.1 0 = (q00 x hs[0].key).1
theorem built {x : List UInt8} {hs : List HopS} (ho : okHs hs) : Built x hs (q0b x hs):=by
  obtain ⟨q1,q2,_⟩:=q68 x ho
  cases hr : q0d hs with
  | false =>
    rw [q7b hr] at q1 q2 ⊢;have h14 : ¬ (14 : Int) = 0:=by decide
    exact ⟨q1,q2,fun _=>⟨rfl,rfl⟩,fun e=>absurd e h14,fun e=>absurd e h14,fun e=>absurd e h14,fun e=>absurd e h14⟩
  | true =>
    obtain ⟨h1,h5⟩:=q3b hr;obtain ⟨ha,hb,hc⟩:=q6l x hs
    by_cases h2 : (q0a x hs).2 = 0
    · rw [q6q hr h2] at q1 q2 ⊢;refine ⟨q1,q2,fun e=>absurd rfl e,fun _=>⟨hc h2,h1⟩,fun _=>rfl,fun _=>rfl,fun _ h=>?_⟩
      cases hs with
      | nil=>exact absurd h (by decide)
      | cons k r=>exact qek h2
    · rw [q8m hr h2] at q1 q2 ⊢;exact ⟨q1,q2,fun _=>⟨rfl,rfl⟩,fun e=>absurd e h2,fun e=>absurd e h2,fun e=>absurd e h2,fun e=>absurd e h2⟩
end
section
attribute [local irreducible] macD q01 strS q03 q00 q02 q0e q06 q05 q08 openB q0j decC q0d q0u q0b q0h tagH leB q13 q12 q11 q0a
theorem qi3 (l : List HopS) (h : HopS) : rowH (l ++ [h]) = rowH l ++ h.cs:=by rw [q9h];simp [rowH]
theorem qco (A R : HP) (hE : Ent A R) (a : Option Addr) (cap : Nat) (l : List HopS) (hl : okHs l) (hr : Rd R a (rowH l)) (hn : l.length ≤ 100000) :
    Con Tryz.prog 18 [.c (.rs a l.length cap)] [] [] A (fun t : Option Addr × Nat=>l.length ≤ t.2 ∧ (t.1 = none → l.length = 0)) (fun t=>.c (.rs t.1 l.length t.2)) (fun _=>[]) (fun t=>[Own t.1 t.2 96 43 (rowH l)]):=by
  have hr:=hr.ent hE;refine Con.of' tt_ok Tryz.func18 rfl (by decide) [.c (.rs a l.length cap)] [] [] rfl rfl trivial kk rfl ?_;conv=>whnf
  refine LoopOb.m (σ:=Nat × Option Addr × Nat) (fun s=>[(3,.c (.rs s.2.1 s.1 s.2.2)),(6,.c (.rs a l.length cap)),(7,.c (.int .i64 l.length)),(8,.c (.int .i64 s.1))])
    (fun s=>⟨[],[],[Own s.2.1 s.2.2 96 43 (rowH (l.take s.1)),A]⟩) (fun s=>s.1 ≤ l.length ∧ s.1 ≤ s.2.2 ∧ (s.2.1 = none → s.1 = 0)) (fun s=>l.length - s.1) (0,none,0) ⟨Nat.zero_le _,Nat.le_refl _,fun _=>rfl⟩ ?_ ?_
  · refine Wk.own0 96 43 ?_;exact Wk.m [] [0,0] kk trivial ⟨rfl,rfl⟩
  rintro ⟨i,a3,c3⟩ ⟨hi,hc,hz⟩;dsimp only at hi hc hz ⊢;(conv=>whnf);refine Cond.d (fun h=>?_) (fun h=>?_)
  · have hi' : i < l.length:=by omega
    have o : l[i].ok:=hl _ (List.getElem_mem hi');(conv=>whnf);refine ⟨by omega,PtrOb.rd (A:=A) (by simp) hr (by rw [q1q hl];omega) fun p hp=>?_⟩;subst hp;(conv=>whnf);refine ldh (A:=A) (l:=l) i (by simp) hr hl hi' rfl rfl rfl (by show _ + (i : Int).toNat * 43 = _;omega) ?_;(conv=>whnf);intro b5;(conv=>whnf);refine Draw.a (by kernel_rfl) tt_ok (Tv.of (List.range 10) .nil) 8 (by kernel_rfl) ?_;(conv=>whnf);refine Cq.pu (qjj _ l[i].cmd o.c) rfl ?_;(conv=>whnf);refine Sub.whole ?_;(conv=>whnf);intro b19;conv=>whnf
    refine Sub.r [5] [0,0] ?_;(conv=>whnf);have htl : (l.take i).length = i:=by rw [List.length_take];omega
    refine q1a (a:=a3) (n:=i) (cap:=c3) (xs:=rowH (l.take i)) (k:=1) (ys:=l[i].cs) (src:=.c (.slc 19 0 1 1)) (F':=[A]) (.refl _) (by rw [q1q (qdh hl i),htl]) (by rw [HopS.cs_len o];rfl) (Src.slc (by exact ⟨[],by show _ = l[i].cs ++ [];simp [HopS.cs,dens,Seg.den,SC.den]⟩)) (HopS.one o) (by show (i + 1 + (i + 1) / 4 + 192) * 64 ≤ 281474976710656;omega) (by omega) (by decide) 48 (.inr rfl) ?_;intro a4 c4 hc4 hn4;rw [← qi3,← List.take_succ_eq_append_getElem hi'];(conv=>whnf);refine Ar.i64 (by omega) ?_;conv=>whnf
    exact ⟨(i + 1,a4,c4),⟨by dsimp only;omega,hc4,fun e=>absurd (hn4 e) (by omega)⟩,by dsimp only;omega,Wk.m [] [0,0] kk trivial ⟨rfl,rfl⟩⟩
  obtain rfl : i = l.length:=by omega
  rw [List.take_length];(conv=>whnf);exact Ret.m (a3,c3) [] [0,0] ⟨hc,hz⟩ rfl kk kk ⟨rfl,rfl⟩
theorem ldhk {t : Nat} {x : TyX} {b off : Nat} {m : M} {f : SV → Prop} {A : HP} {p : Nat × Nat} {l : List HopS} (i : Nat) (hA : A ∈ m.F) (hr : Rd A (some (radr p)) (rowH l)) (h : okHs l) (hi : i < l.length)
    (hx : x.k.agg = true) (hn : x.size = 32) (hb : b = p.1) (ho : off = p.2 + i * 43) (hf : f (.agg [.many 32 (u8s l[i].key)])) : With (Ty Tryz.prog t x) (LdOb Tryz.prog t ⟨b,off,none⟩ m f):=by
  have o : l[i].ok:=h _ (List.getElem_mem hi);have ed : ∀ B : Names,dens B [.many 32 (u8s l[i].key)] = u8s l[i].key:=fun B=>List.append_nil _;refine lds (A:=A) (i * 43) [.many 32 (u8s l[i].key)] hx hA hr hb ho ?_ ?_ (by omega) (q04 ⟨mok o.k _,trivial⟩) hf
  · rw [ed,hn,q4q h _ (by omega),List.drop_eq_getElem_cons hi];show _ = ((u8s l[i].key ++ dens [] l[i].cmd.sg) ++ rowH (l.drop (i + 1))).take 32;rw [List.append_assoc,← o.k,← u8l,List.take_left]
  · rw [ed,u8l,o.k,hn]
end
section
open Go.RowKit (Below)
abbrev kLaid : List (String × DataW Unit) := [("pigeonry/sha.k", Rows.laid_pigeonry_sha_k)]
theorem gK : Tryz.prog.globalNamed "pigeonry/sha.k" = some 0 := by kernel_rfl
theorem tK : (Tryz.prog.globals[0]?).map (·.type) = some 267:=by kernel_rfl
theorem kLits : (Rows.laid_pigeonry_sha_k : DataW Unit) = .agg (kW.map fun x=>.lit (.int .u32 (x.toNat : Int))):=rfl
theorem qh2 {W : World} (h : laidMetH Tryz.prog kLaid W) : Gl (old W):=by
  rw [MakeChecks.laidMetH_plain _ _ _ (by kernel_rfl)] at h;obtain ⟨ps,⟨g0,t0,cs0,f0,p0,q0,hg0,ht0,hv0,hd0,_,_⟩,_,_⟩:=h;obtain rfl:=Option.some.inj (gK.symm.trans hg0);obtain rfl:=Option.some.inj (tK.symm.trans ht0);obtain ⟨xs,m1,rfl,hx1,hlen,hn,hel⟩:=DataW.trod_array Tryz.underlying267 hd0;have c1 : Tryz.prog.cellsOf 193 = 1:=by kernel_rfl
  have c64 : Tryz.prog.cellsOf 267 = 64:=by kernel_rfl
  rw [c1] at hel;simp only [Prod.mk.injEq] at hx1;have hx1:=hx1.1;rw [kLits] at hx1;have hxs : xs.map (·.1) = kW.map fun x=>DataW.lit (.int .u32 (x.toNat : Int)):=by simpa using hx1.symm
  refine qni (a:=⟨0,0,none⟩) fun i hi=>?_;rw [q1b,qan] at hi;rw [q6g (by rw [qan];exact hi)];have h1:=hel i hi;rw [List.getElem?_eq_getElem (by omega)] at h1;obtain ⟨k,e1,e2,_⟩:=DataW.trod_int Tryz.underlying193 h1;have e3 : (xs.map (·.1))[i]? = some (DataW.lit (.int .u32 k)):=by rw [List.getElem?_map,List.getElem?_eq_getElem (by omega),Option.map_some,e2]
  rw [hxs,List.getElem?_map,List.getElem?_eq_getElem (by rw [qan];exact hi)] at e3;have e4 : DataW.lit (.int .u32 (kW[i].toNat : Int)) = (DataW.lit (.int .u32 k) : DataW Unit):=Option.some.inj e3
  injection e4 with e4
  injection e4 with _ e4
  subst e4;have:=World.var?_cell hg0 hv0 i;rw [show (⟨0,0,none⟩ : Addr).add i = ⟨0,i,none⟩ by rw [q0l,Nat.zero_add],this]
  have e5 : cs0.toList[i]? = some (.int .u32 (kW[i].toNat : Int)):=by
    have:=congrArg (fun l=>l[0]?) e1;simp only [List.getElem?_take,List.getElem?_drop] at this
    simpa using this
  rw [← Array.getElem?_toList];exact e5
section
variable {H : Type} {enc : TypeId × Value → H} {base : Nat} {v0 v1 v2 : Value} {d0 d1 d2 : DataW H} {p0 p1 p2 : List MemPlace}
theorem qp9 (W : World) (ok0 : Value.okWide Tryz.prog W .any base 23 v0) (h0 : DataW.Trod enc Tryz.prog W 0 (fun _=>true) true 23 v0 d0 p0) : ∃ k : List UInt8,v0 = (SV.agg [.many 32 (u8s k)]).den [] ∧ k.length = 32:=by
  obtain ⟨x,cs,rfl,h,rfl⟩:=qoe (s:=.barr 32) ⟨.unit,.unit,.inr ⟨32,.inl rfl⟩⟩ qac ok0 h0;exact ⟨x,by show Value.agg (List.toArray (u8s x)) = Value.agg (List.toArray (u8s x ++ []));rw [List.append_nil],h⟩
end
end
section
open Go.RowKit (Below)
def hopSh : Sh:=.pair (.barr 32) (.pair qnd .unit)
def hopOf (z : hopSh.T) : HopS:=⟨z.1,⟨z.2.1.1,z.2.1.2.1,z.2.1.2.2.1,z.2.1.2.2.2.1⟩⟩
def HopR (h : HopS) (cs : List Value) : Prop:=cs = h.cs ∧ h.ok
theorem qr3 {R : HP} (z : hopSh.T) (cs : List Value) (h : Go.Sx.Good R hopSh z cs) : HopR (hopOf z) cs:=by
  obtain ⟨k,⟨ck,cn,cd,id,u0⟩,u⟩:=z;obtain ⟨c1,c2,rfl,⟨h1,rfl⟩,c3,c4,rfl,⟨d1,d2,rfl,⟨rfl,w1⟩,d3,d4,rfl,⟨rfl,w2⟩,d5,d6,rfl,⟨rfl,w3⟩,d7,d8,rfl,⟨h2,rfl⟩,rfl⟩,rfl⟩:=h;exact ⟨by simp [HopS.cs,hopOf,dens,Seg.den,SC.den],⟨h1,h2⟩⟩
theorem qmk : Fits Tryz.prog (.slice hopSh) 45 = true:=by simp only [Fits,q26,hopSh,qnd,Tryz.underlying45,Tryz.underlying117,Tryz.underlying38,Tryz.underlying23,Tryz.underlying26,Tryz.underlying3,Tryz.underlying5];kernel_rfl
theorem qdj : ∀ (l : List HopS) (xs : List Value),xs.length = l.length * 43 → (∀ i (h : i < l.length),HopR l[i] ((xs.drop (i * 43)).take 43)) → xs = rowH l ∧ okHs l
  | [],xs,hn,_=>by
    have : xs = []:=List.eq_nil_of_length_eq_zero (by simpa using hn);subst this;exact ⟨rfl,fun h hh=>absurd hh (by simp)⟩
  | y :: r,xs,hn,h=>by
    have h0:=h 0 (by simp);have hl : xs.length = r.length * 43 + 43:=by rw [hn,List.length_cons];omega
    obtain ⟨e,ok⟩:=qdj r (xs.drop 43) (by rw [List.length_drop,hl];omega) fun i hi=>by
      have:=h (i + 1) (by simpa using hi);rw [show (i + 1) * 43 = 43 + i * 43 by omega,← List.drop_drop] at this;exact this
    have e0 : xs.take 43 = y.cs:=by
      have:=h0.1;rw [Nat.zero_mul,List.drop_zero] at this;exact this
    refine ⟨?_,fun k hk=>?_⟩
    · rw [← List.take_append_drop 43 xs,e0,e];rfl
    · rcases List.mem_cons.1 hk with rfl | hk
      · exact h0.2
      · exact ok k hk
section
variable {H : Type} {enc : TypeId × Value → H} {base : Nat} {v0 v1 v2 : Value} {d0 d1 d2 : DataW H} {p0 p1 p2 : List MemPlace}
theorem ql2 (W : World) (ok0 : Value.okWide Tryz.prog W .any base 45 v0) (h0 : DataW.Trod enc Tryz.prog W 0 (fun _=>true) true 45 v0 d0 p0) :
    ∃ a cap l,v0 = .slice a l.length cap ∧ Rd (old W) a (rowH l) ∧ okHs l:=by
  obtain ⟨a,cap,l,rfl,_,h⟩:=qk6 (s:=hopSh) qmk ok0 h0;have hrow : Row (old W) a 43 HopR (l.map hopOf):=(Vals.row h).map hopOf qr3;obtain ⟨xs,h1,h2,h3⟩:=hrow.at;obtain ⟨rfl,hok⟩:=qdj (l.map hopOf) xs h2 h3;exact ⟨a,cap,l.map hopOf,by rw [List.length_map],h1,hok⟩
end
end
end Go.Proofs.YtfehjfoajlfhfaaGreatDoor
