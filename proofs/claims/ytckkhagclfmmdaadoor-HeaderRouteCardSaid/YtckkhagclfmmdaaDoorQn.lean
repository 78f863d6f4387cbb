import Derived.Test.YtckkhagclfmmdaaDoorQk
import Derived.Test.YtckkhagclfmmdaaDoorQl
import Derived.Test.YtckkhagclfmmdaaDoorQm
/- header: the law Route, walked; at any arguments. -/
namespace Go.Proofs.YtckkhagclfmmdaaDoor
open Go.Sx
open Go.RowKit (Below)
set_option maxRecDepth 100000
set_option pp.deepTerms false
set_option pp.maxSteps 300
set_option linter.unusedSimpArgs false
set_option linter.unusedVariables false
theorem qec {own : List (List UInt8)} {cmds : List Cmd} (h : cmds.length = own.length) : keyed own (hopsS own cmds):=by
  refine ⟨(q7y h).symm,fun i hi=>?_⟩;have hl:=q7y h;rw [q6b (by omega) (by omega),q56 (by omega)]
theorem hdI_g (x : List UInt8) (hs : List HopS) (ss : List (List UInt8)) (i : Nat) : (hdI x hs ss i).gamma = q0f (kAt ss i) (hdI x hs ss i).beta:=rfl
attribute [local irreducible] macD q0h strS q0b q00 q05 q0v q0c q01 q08 openB q0f decC q0p q0n q1d q0w tagH leB q28 q29 q2a q0j hdI
set_option maxHeartbeats 4000000 in
theorem qi3 (W : World) (hK : Gl (old W)) (x : List UInt8) (hx : x.length = 32) (aO : Option Addr) (cO : Nat) (own : List (List UInt8)) (hO : okK own) (hrO : Rd (old W) aO (rowK own))
    (aC : Option Addr) (cC : Nat) (cmds : List Cmd) (hC : okCs cmds) (hrC : Rd (old W) aC (rowC cmds)) :
    LawC Tryd.prog 3 [.agg [.many 32 (u8s x)],.c (.rs aO own.length cO),.c (.rs aC cmds.length cC)] W:=by
  have hks:=mok hx;refine Con.of' tt_ok Tryd.func3 rfl (by decide) [.agg [.many 32 (u8s x)],.c (.rs aO own.length cO),.c (.rs aC cmds.length cC)] [] [] rfl rfl trivial ⟨⟨hks _,trivial⟩,trivial,trivial,trivial⟩ rfl ?_;(conv=>whnf);intro b3;(conv=>whnf);refine Cq.pu (qkw _ (hK.ent (Ent.a mm))) rfl ?_;(conv=>whnf);refine Cond.d (fun q1=>?_) (fun q1=>?_)
  · (conv=>whnf);exact Ret.m () [] [0] trivial rfl kk kk ⟨rfl,rfl⟩
  (conv=>whnf);refine Cond.neI (fun q2=>?_) (fun q2=>?_)
  · (conv=>whnf);exact Ret.m () [] [0] trivial rfl kk kk ⟨rfl,rfl⟩
  have hlen : cmds.length = own.length:=by omega
  have h5 : own.length ≤ 5:=by omega
  have hhl:=q7y hlen;have hho:=qi1 (own:=own) hC;have hky:=qec hlen;conv=>whnf
  refine LoopOb.m (σ:=Nat × Option Addr × Nat) (fun s=>[(1,.c (.rs aO own.length cO)),(2,.c (.rs aC cmds.length cC)),(3,.c (.ptr 3 0)),(7,.c (.rs s.2.1 s.1 s.2.2)),(29,.c (.rs aO own.length cO)),(30,.c (.int .i64 own.length)),(31,.c (.int .i64 s.1))])
    (fun s=>⟨[(3,b3)],[(3,[.many 32 (u8s x)],23)],[Own s.2.1 s.2.2 37 43 (rowH ((hopsS own cmds).take s.1)),old W]⟩) (fun s=>s.1 ≤ own.length ∧ s.1 ≤ s.2.2 ∧ (s.2.1 = none → s.1 = 0)) (fun s=>own.length - s.1) (0,none,0) ⟨Nat.zero_le _,Nat.le_refl _,fun _=>rfl⟩ ?_ ?_
  · refine Wk.own0 37 43 ?_;exact Wk.m [3] [0,0] kk ⟨⟨kk,hks _,trivial⟩,trivial⟩ ⟨rfl,rfl⟩
  rintro ⟨i,aH,cH⟩ ⟨hi,hcH,hzH⟩;dsimp only at hi hcH hzH ⊢;(conv=>whnf);refine Cond.d (fun h=>?_) (fun h=>?_)
  · have hi' : i < own.length:=by omega
    have hiC : i < cmds.length:=by omega
    have hki : own[i].length = 32:=hO _ (List.getElem_mem hi');have hwf:=hC _ (List.getElem_mem hiC);have hoh : (HopS.mk (q01 own[i]) cmds[i]).ok:=⟨q1h _,hwf.i⟩;(conv=>whnf);refine ⟨by omega,PtrOb.rd (A:=old W) (by simp) hrO (by rw [q0q hO];omega) fun p hp=>?_⟩;subst hp;(conv=>whnf);refine ldk (A:=old W) (l:=own) i (by simp) hrO hO hi' rfl rfl rfl (by show _ + (i : Int).toNat * 32 = _;omega) ?_;(conv=>whnf);intro b9;conv=>whnf
    refine Draw.free (by kernel_rfl) tt_ok (Tv.of [0,1,3,4,5,6,2,7,8,9,10,11] .nil) 1000000 _ _ (by kernel_rfl) (fun k=>k) (Sub.r [9,3] [1] ?_);(conv=>whnf);refine ⟨by omega,PtrOb.rd (A:=old W) (by simp) hrC (by rw [qcp hC];omega) fun p2 hp2=>?_⟩;subst hp2;(conv=>whnf);refine ldc (A:=old W) (l:=cmds) i (by simp) hrC hC hiC rfl rfl rfl (by show _ + (i : Int).toNat * 11 = _;omega) ?_;(conv=>whnf);refine Cq.pu (q4y _ own[i] hki) rfl ?_;(conv=>whnf);refine Sub.r [9,3] [1] ?_;conv=>whnf
    refine Cq.pu (qf7 _ cmds[i] hwf.i) rfl ?_;(conv=>whnf);refine Sub.r [9,3] [1] ?_;(conv=>whnf);intro b45;(conv=>whnf);refine Sub.r [9,3] [1] ?_;(conv=>whnf);have htl : ((hopsS own cmds).take i).length = i:=by rw [List.length_take];omega
    refine q12 (a:=aH) (n:=i) (cap:=cH) (xs:=rowH ((hopsS own cmds).take i)) (k:=1) (ys:=HopS.cs ⟨q01 own[i],cmds[i]⟩) (src:=.c (.slc 45 0 1 1)) (F':=[old W]) (.refl _) (by rw [q2d (q7m hho i),htl]) (by rw [HopS.cs_len hoh];rfl) (Src.slc (by exact ⟨[],by show _ = HopS.cs _ ++ [];simp [HopS.cs,dens,Seg.den,SC.den]⟩)) (HopS.one hoh) (by show (i + 1 + (i + 1) / 4 + 192) * 64 ≤ 281474976710656;omega) (by omega) (by decide) 27 (.inr rfl) ?_;intro aN cN hcN hnN;rw [← qg8,← qe9 hi' hiC];(conv=>whnf);refine Sub.r [9,3] [1] ?_
    (conv=>whnf);refine Ar.i64 (by omega) ?_;(conv=>whnf);exact ⟨(i + 1,aN,cN),⟨by dsimp only;omega,hcN,fun e=>absurd (hnN e) (by omega)⟩,by dsimp only;omega,Wk.m [3] [0,0] kk ⟨⟨kk,hks _,trivial⟩,trivial⟩ ⟨rfl,rfl⟩⟩
  obtain rfl : i = own.length:=by omega
  rw [List.take_of_length_le (by omega)];have hB:=qgy hx hky hO hho;have CB:=fun A R hE hK a c hr hn=>qb6 A R hE hK x hx a c (hopsS own cmds) hho hr hn;generalize hhs : hopsS own cmds = hs at hhl hho hky hB CB ⊢;generalize q1d x hs = B at hB CB;obtain ⟨h0,ss,e⟩:=B;dsimp only at hB CB;(conv=>whnf);refine Cq.new (CB _ (Own aH cH 37 43 (rowH hs)) (Ent.a mm) (hK.ent (Ent.a mm)) aH cH Own.rd (by omega)) (by rw [hhl];rfl) ?_;rintro ⟨a11,c11⟩ h11;dsimp only at h11 ⊢;(conv=>whnf);intro b10;conv=>whnf
  rcases hB with ⟨_,hB⟩ | ⟨ss2,hrt,hB,hl,l5,l1,oks,hop⟩
  · obtain ⟨rfl,rfl,rfl⟩ : h0 = hdr0 ∧ ss = [] ∧ e = 14:=by simpa using hB
    refine Cond.neI (fun _=>?_) (fun h=>absurd h (by decide));(conv=>whnf);exact Ret.m () [] [2] trivial rfl kk kk ⟨rfl,rfl⟩
  obtain ⟨rfl,rfl,rfl⟩ : h0 = hdI x hs ss2 0 ∧ ss = ss2 ∧ e = 0:=by simpa using hB
  refine Cond.neI (fun h=>absurd rfl h) (fun _=>?_);have oh0:=qm3 (x:=x) (ss:=ss) hho l1 l5 hl (i:=0) (by omega);conv=>whnf
  refine LoopOb.m (σ:=Nat × HdrS) (fun s=>[(7,.c (.rs aH own.length cH)),(10,.c (.ptr 10 0)),(11,.c (.rs a11 ss.length c11)),(59,.c (.rs aO own.length cO)),(60,.c (.int .i64 own.length)),(61,.c (.int .i64 s.1))])
    (fun s=>⟨[(10,b10)],[(10,s.2.sg,43)],[RowK a11 c11 23 ss,Own aH cH 37 43 (rowH hs),old W]⟩) (fun s=>s.1 ≤ own.length ∧ s.2.ok ∧ (s.1 < own.length → s.2 = hdI x hs ss s.1)) (fun s=>own.length - s.1) (0,hdI x hs ss 0) ⟨Nat.zero_le _,oh0,fun _=>rfl⟩ ?_ ?_
  · exact Wk.m [10] [0,0,0] kk ⟨⟨kk,HdrS.okL oh0 _⟩,trivial⟩ ⟨rfl,rfl⟩
  rintro ⟨i,hd⟩ ⟨hi,ohd,hdi⟩;dsimp only at hi ohd hdi ⊢;(conv=>whnf);refine Cond.d (fun h=>?_) (fun h=>?_)
  · have hi' : i < own.length:=by omega
    have his : i < ss.length:=by omega
    have hih : i < hs.length:=by omega
    have hki : own[i].length = 32:=hO _ (List.getElem_mem hi');have hdi:=hdi hi';have hg:=hdI_g x hs ss i;rw [← hdi] at hg;obtain ⟨st,u1,u2,u3,u4⟩:=hop i (by omega);rw [← hdi,q56 hi'] at u1;have oS:=q8j own[i] ohd;have wS:=qe8 own[i] ohd;rw [u1] at oS wS;dsimp only at oS wS
    have hcc : (hs[i]).cmd.wf:=by
      subst hhs;rw [q6b hi' (by omega)];exact hC _ (List.getElem_mem _)
    rw [qay hih] at u2;rw [q56 his] at u3 hg;have onx:=oS.n;have hhd:=ohd;(conv=>whnf);refine ⟨by omega,PtrOb.rd (A:=old W) (by simp) hrO (by rw [q0q hO];omega) fun p hp=>?_⟩;subst hp;(conv=>whnf);refine ldk (A:=old W) (l:=own) i (by simp) hrO hO hi' rfl rfl rfl (by show _ + (i : Int).toNat * 32 = _;omega) ?_;(conv=>whnf);intro b14;(conv=>whnf);refine Cq.pu (q9n _ (hK.ent (Ent.a mm)) own[i] hki hd ohd) rfl ?_;rw [u1];(conv=>whnf);intro b15;conv=>whnf
    refine Draw.a (by kernel_rfl) tt_ok (Tv.of [0,1,2,3,4,5,6,7,8,9,10,11,12,13,14,15,16,17,18,19,20,21,22,23,24,25,27,28,26,29,30] .nil) 1000000 (by kernel_rfl) ?_;(conv=>whnf);refine Cond.neI (fun h=>absurd rfl h) (fun _=>?_);(conv=>whnf);refine ⟨by omega,PtrOb.rd (A:=Own aH cH 37 43 (rowH hs)) (by simp) Own.rd (by rw [q2d hho];omega) fun p3 hp3=>?_⟩;subst hp3;(conv=>whnf);refine ldhc (A:=Own (some (radr p3)) cH 37 43 (rowH hs)) (l:=hs) i (by simp) Own.rd hho hih rfl rfl rfl (by show _ + (i : Int).toNat * 43 + _ = _;omega) ?_
    (conv=>whnf);refine qb8 (c:=st.cmd) (d:=hs[i].cmd) wS hcc rfl rfl fun bb hbb=>?_;obtain rfl : bb = true:=hbb.2 u2;(conv=>whnf);refine ⟨fun h=>(by cases h),fun _=>?_⟩;(conv=>whnf);refine ⟨by omega,PtrOb.rd (A:=RowK a11 c11 23 ss) (by simp) Own.rd (by rw [q0q oks];omega) fun p4 hp4=>?_⟩;subst hp4;(conv=>whnf);refine ldk (A:=RowK (some (radr p4)) c11 23 ss) (l:=ss) i (by simp) Own.rd oks his rfl rfl rfl (by show _ + (i : Int).toNat * 32 = _;omega) ?_;conv=>whnf
    refine qb2 (l:=st.secret) (m:=ss[i]) oS.s (oks _ (List.getElem_mem his)) (List.append_nil _) (List.append_nil _) ?_;rw [decide_eq_true u3];(conv=>whnf);refine ⟨fun h=>(by cases h),fun _=>?_⟩;(conv=>whnf);refine Cq.pu (qkv _ (hK.ent (Ent.a mm)) st.secret hd.beta oS.s ohd.b) rfl ?_;(conv=>whnf);refine Sub.r [15,14,10] [0,0,0] ?_;(conv=>whnf);refine qk0 (l:=q0f st.secret hd.beta) (m:=hd.gamma) (q0x _ _) ohd.g (List.append_nil _) (List.append_nil _) ?_;have hpg : q0f st.secret hd.beta = hd.gamma:=by rw [hg,u3]
    rw [decide_eq_true hpg];(conv=>whnf);refine ⟨fun h=>(by cases h),fun _=>?_⟩;(conv=>whnf);refine Ar.i64 (by omega) ?_;(conv=>whnf);refine ⟨(i + 1,st.next),⟨by dsimp only;omega,onx,fun h=>?_⟩,by dsimp only;omega,Wk.m [10] [0,0,0] kk ⟨⟨kk,HdrS.okL onx _⟩,trivial⟩ ⟨rfl,rfl⟩⟩;exact u4 (by dsimp only at h;omega)
  obtain rfl : i = own.length:=by omega
  (conv=>whnf);exact Ret.m () [] [2] trivial rfl kk kk ⟨rfl,rfl⟩
section
variable {H : Type} {enc : TypeId × Value → H} {base : Nat} {v0 v1 v2 : Value} {d0 d1 d2 : DataW H} {p0 p1 p2 : List MemPlace}
theorem headerRoute_law (W : World) (hL : laidMetH Tryd.prog kLaid W) (ok0 : Value.okWide Tryd.prog W .any base 23 v0) (ok1 : Value.okWide Tryd.prog W .any base 24 v1) (ok2 : Value.okWide Tryd.prog W .any base 25 v2)
    (h0 : DataW.Trod enc Tryd.prog W 0 (fun _=>true) true 23 v0 d0 p0) (h1 : DataW.Trod enc Tryd.prog W 0 (fun _=>true) true 24 v1 d1 p1) (h2 : DataW.Trod enc Tryd.prog W 0 (fun _=>true) true 25 v2 d2 p2) :
    Calls Tryd.prog 3 #[v0,v1,v2] W fun e w'=>e = .returned (.bool true) ∧ Below W.heap.size W w':=by
  obtain ⟨k,rfl,hk⟩:=qki W ok0 h0;obtain ⟨al,cl,ls,rfl,hrl,hls⟩:=qf0 W ok1 h1;obtain ⟨ac,cc,cs,rfl,hrc,hcs⟩:=qi6 W ok2 h2;exact qfs (qi3 W (qe4 hL) k hk al cl ls hls hrl ac cc cs hcs hrc) rfl
end
end Go.Proofs.YtckkhagclfmmdaaDoor
