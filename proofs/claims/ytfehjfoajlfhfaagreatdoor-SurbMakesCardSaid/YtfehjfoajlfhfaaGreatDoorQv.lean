import Derived.Test.YtfehjfoajlfhfaaGreatDoorQu
import Derived.Test.YtfehjfoajlfhfaaGreatDoorQn
import Derived.Test.YtfehjfoajlfhfaaGreatDoorQl
import Derived.Test.YtfehjfoajlfhfaaGreatDoorQm
import Derived.Test.YtfehjfoajlfhfaaGreatDoorQo
import Derived.Test.YtfehjfoajlfhfaaGreatDoorQj
namespace Go.Proofs.YtfehjfoajlfhfaaGreatDoor
open Go.Sx
set_option maxRecDepth 100000
set_option pp.deepTerms false
set_option pp.maxSteps 300
set_option linter.unusedSimpArgs false
set_option linter.unusedVariables false
section
attribute [local irreducible] macD q01 strS q03 q00 q02 q0e q06 q05 q08 q0a q0d q0b lionB lockS q09 openS sealS
abbrev rblk0 : List Seg:=[.one (.int .i64 0),.many 32 (u8s zk),.one (.rs none 0 0),.many 16 (u8s (List.replicate 16 0)),.many 32 (u8s zk)]
theorem q49 (B : Names) : okL B rblk0:=by
  have h16 : (List.replicate 16 (0 : UInt8)).length = 16:=List.length_replicate;exact ⟨trivial,mok q1h _,trivial,mok h16 _,mok q1h _,trivial⟩
end
section
attribute [local irreducible] macD q01 strS q03 q00 q02 q0e q06 q05 q08 q0a q0d q0b lionB lockS q09 openS sealS
abbrev rkey (k : KeyS) (a : Option Addr) (c : Nat) : List Seg:=[.many 8 (u8s k.id),.many 32 (u8s k.key),.one (.rs a k.ls.length c)]
theorem qk2 {x key : List UInt8} {first : Int} {hs : List HopS} (hn : nodeS first = true) (h : ¬(q0d hs = true ∧ 1 ≤ hs.length ∧ (lastC hs).k = 3)) : makeS x key first hs = (blk0,key0,14):=by
  rw [qa2 hn]
  by_cases h2 : 1 ≤ hs.length ∧ (lastC hs).k = 3
  · rw [qa0 h2]
    cases hr : q0d hs with
    | true=>exact absurd ⟨hr,h2⟩ h
    | false =>
      have hb:=q7b (x:=x) hr;rw [qdk (by rw [hb];decide),hb]
  · rw [qhh h2]
set_option maxHeartbeats 2000000 in
theorem qpl (A R : HP) (hE : Ent A R) (x : List UInt8) (hx : x.length = 32) (key : List UInt8) (hky : key.length = 32) (first : Int) (a : Option Addr) (cap : Nat) (hs : List HopS) (ho : okHs hs) (hr : Rd R a (rowH hs)) (hn : hs.length ≤ 1000000) (hz : (makeS x key first hs).2.2 ≠ 0) :
    Pu Tryz.prog 32 [.agg [.many 32 (u8s x)],.agg [.many 32 (u8s key)],.c (.int .i64 first),.c (.rs a hs.length cap)] A (.tup [.agg rblk0,.agg (rkey key0 none 0),.c (.int .i64 (makeS x key first hs).2.2)]):=by
  have hr:=hr.ent hE;have hxs:=mok hx;have hks:=mok hky;have hk0:=fun B=>q5t B none 0;have hA:=qfq (x:=x) (key:=key) (first:=first) (hs:=hs);have h14:=qk2 (x:=x) (key:=key) (first:=first) (hs:=hs);have hB:=qa2 (x:=x) (key:=key) (first:=first) (hs:=hs);have hD:=qa0 (x:=x) (key:=key) (first:=first) (hs:=hs);have hF:=qdk (x:=x) (key:=key) (first:=first) (hs:=hs);have hG:=qcy (x:=x) (key:=key) (first:=first) (hs:=hs)
  have hn0 : first < 0 → nodeS first = false:=fun h=>decide_eq_false fun k=>by omega
  have hn1 : first > 15 → nodeS first = false:=fun h=>decide_eq_false fun k=>by omega
  have hn2 : ¬first < 0 → ¬first > 15 → nodeS first = true:=fun h k=>decide_eq_true (by omega);generalize hZ : makeS x key first hs = Z at hA h14 hB hz ⊢;refine Con.of' tt_ok Tryz.func32 rfl (by decide) [.agg [.many 32 (u8s x)],.agg [.many 32 (u8s key)],.c (.int .i64 first),.c (.rs a hs.length cap)] [] [] rfl rfl trivial ⟨⟨hxs _,trivial⟩,⟨hks _,trivial⟩,trivial,trivial,trivial⟩ rfl ?_;(conv=>whnf);intro b4;(conv=>whnf);intro b5;(conv=>whnf);intro b8;(conv=>whnf);intro b9;(conv=>whnf);refine Cond.d (fun q1=>?_) (fun q1=>?_)
  · rw [hA (hn0 q1)];(conv=>whnf);exact Ret.m () [] [0] trivial rfl ⟨q49 _,hk0 _,trivial,trivial⟩ kk ⟨rfl,rfl⟩
  (conv=>whnf);refine Cond.d (fun q2=>?_) (fun q2=>?_)
  · rw [hA (hn1 q2)];(conv=>whnf);exact Ret.m () [] [0] trivial rfl ⟨q49 _,hk0 _,trivial,trivial⟩ kk ⟨rfl,rfl⟩
  have hnd:=hn2 q1 q2;have h14:=h14 hnd;have hB:=hB hnd;(conv=>whnf);refine Cq.pu (q8i _ A (Ent.a mm) a cap hs ho hr (by omega)) rfl ?_;(conv=>whnf);refine Cond.not ⟨fun hrt=>?_,fun hrt=>?_⟩
  case' refine_2 =>
    rw [h14 (fun k=>by rw [hrt] at k;exact absurd k.1 (by decide))];(conv=>whnf);exact Ret.m () [] [0] trivial rfl ⟨q49 _,hk0 _,trivial,trivial⟩ kk ⟨rfl,rfl⟩
  obtain ⟨h1l,h5l⟩:=q3b hrt;have hi : hs.length - 1 < hs.length:=by omega
  have ho1 : hs[hs.length - 1].ok:=ho _ (List.getElem_mem hi);have hlc : lastC hs = hs[hs.length - 1].cmd:=q7n hi;(conv=>whnf);refine Ar.to ((hs.length - 1 : Nat) : Int) (by omega) (Ar.i64 (by omega) ?_);(conv=>whnf);refine ⟨by omega,PtrOb.rd (A:=A) (by simp) hr (by rw [q1q ho];omega) fun p hp=>?_⟩;subst hp;(conv=>whnf);refine ldhkd (A:=A) (l:=hs) (hs.length - 1) (by simp) hr ho hi rfl rfl (by show _ + ((hs.length - 1 : Nat) : Int).toNat * 43 + _ + _ = _;omega) ?_;(conv=>whnf);refine Cond.neI (fun h3=>?_) (fun h3=>?_)
  · rw [h14 (fun k=>h3 (by rw [← hlc];exact k.2.2))];(conv=>whnf);exact Ret.m () [] [0] trivial rfl ⟨q49 _,hk0 _,trivial,trivial⟩ kk ⟨rfl,rfl⟩
  have hD:=hD ⟨h1l,by rw [hlc];exact h3⟩;have he : (q0b x hs).2.2 ≠ 0:=fun h=>hz (by rw [hB,hD,hG h]);rw [hB,hD,hF he];have CZ:=fun A R hE a c hr hn=>ql9 A R hE x hx a c hs ho hr hn he;generalize (q0b x hs).2.2 = e at he CZ ⊢;(conv=>whnf);refine Cq.pu (CZ _ A (Ent.a mm) (some (radr p)) cap hr hn) rfl ?_;(conv=>whnf);intro b12;(conv=>whnf);refine Cond.neI (fun _=>?_) (fun h=>absurd h he);(conv=>whnf);exact Ret.m () [] [0] trivial rfl ⟨q49 _,hk0 _,trivial,trivial⟩ kk ⟨rfl,rfl⟩
set_option maxHeartbeats 2000000 in
theorem qog (A R : HP) (hE : Ent A R) (x : List UInt8) (hx : x.length = 32) (key : List UInt8) (hky : key.length = 32) (first : Int) (a : Option Addr) (cap : Nat) (hs : List HopS) (ho : okHs hs) (hr : Rd R a (rowH hs)) (hn : hs.length ≤ 1000000) (hz : (makeS x key first hs).2.2 = 0) :
    Con Tryz.prog 32 [.agg [.many 32 (u8s x)],.agg [.many 32 (u8s key)],.c (.int .i64 first),.c (.rs a hs.length cap)] [] [] A (fun t : (Option Addr × Nat) × (Option Addr × Nat)=>160 ≤ t.1.2 ∧ Fc t.2.1 t.2.2 (makeS x key first hs).2.1.ls)
      (fun t=>.tup [.agg (rblk (makeS x key first hs).1 t.1.1 t.1.2),.agg (rkey (makeS x key first hs).2.1 t.2.1 t.2.2),.c (.int .i64 0)]) (fun _=>[]) (fun t=>[Own t.1.1 t.1.2 5 1 (u8s (makeS x key first hs).1.hdr.beta),RowK t.2.1 t.2.2 23 (makeS x key first hs).2.1.ls]):=by
  have hr:=hr.ent hE;have hxs:=mok hx;have hks:=mok hky;have hk0:=fun B=>q5t B none 0;have hA:=qfq (x:=x) (key:=key) (first:=first) (hs:=hs);have h14:=qk2 (x:=x) (key:=key) (first:=first) (hs:=hs);have hB:=qa2 (x:=x) (key:=key) (first:=first) (hs:=hs);have hD:=qa0 (x:=x) (key:=key) (first:=first) (hs:=hs);have hF:=qdk (x:=x) (key:=key) (first:=first) (hs:=hs);have hG:=qcy (x:=x) (key:=key) (first:=first) (hs:=hs)
  have hn0 : first < 0 → nodeS first = false:=fun h=>decide_eq_false fun k=>by omega
  have hn1 : first > 15 → nodeS first = false:=fun h=>decide_eq_false fun k=>by omega
  have hn2 : ¬first < 0 → ¬first > 15 → nodeS first = true:=fun h k=>decide_eq_true (by omega);generalize hZ : makeS x key first hs = Z at hA h14 hB hz ⊢;refine Con.of' tt_ok Tryz.func32 rfl (by decide) [.agg [.many 32 (u8s x)],.agg [.many 32 (u8s key)],.c (.int .i64 first),.c (.rs a hs.length cap)] [] [] rfl rfl trivial ⟨⟨hxs _,trivial⟩,⟨hks _,trivial⟩,trivial,trivial,trivial⟩ rfl ?_;(conv=>whnf);intro b4;(conv=>whnf);intro b5;(conv=>whnf);intro b8;(conv=>whnf);intro b9;(conv=>whnf);refine Cond.d (fun q1=>?_) (fun q1=>?_)
  · exact absurd hz (by rw [hA (hn0 q1)];decide)
  (conv=>whnf);refine Cond.d (fun q2=>?_) (fun q2=>?_)
  · exact absurd hz (by rw [hA (hn1 q2)];decide)
  have hnd:=hn2 q1 q2;have h14:=h14 hnd;have hB:=hB hnd;(conv=>whnf);refine Cq.pu (q8i _ A (Ent.a mm) a cap hs ho hr (by omega)) rfl ?_;(conv=>whnf);refine Cond.not ⟨fun hrt=>?_,fun hrt=>?_⟩
  case' refine_2 =>
    exact absurd hz (by rw [h14 (fun k=>by rw [hrt] at k;exact absurd k.1 (by decide))];decide)
  obtain ⟨h1l,h5l⟩:=q3b hrt;have hi : hs.length - 1 < hs.length:=by omega
  have ho1 : hs[hs.length - 1].ok:=ho _ (List.getElem_mem hi);have hlc : lastC hs = hs[hs.length - 1].cmd:=q7n hi;(conv=>whnf);refine Ar.to ((hs.length - 1 : Nat) : Int) (by omega) (Ar.i64 (by omega) ?_);(conv=>whnf);refine ⟨by omega,PtrOb.rd (A:=A) (by simp) hr (by rw [q1q ho];omega) fun p hp=>?_⟩;subst hp;(conv=>whnf);refine ldhkd (A:=A) (l:=hs) (hs.length - 1) (by simp) hr ho hi rfl rfl (by show _ + ((hs.length - 1 : Nat) : Int).toNat * 43 + _ + _ = _;omega) ?_;(conv=>whnf);refine Cond.neI (fun h3=>?_) (fun h3=>?_)
  · exact absurd hz (by rw [h14 (fun k=>h3 (by rw [← hlc];exact k.2.2))];decide)
  have hD:=hD ⟨h1l,by rw [hlc];exact h3⟩;have he : (q0b x hs).2.2 = 0:=Classical.byContradiction fun h=>absurd hz (by rw [hB,hD,hF h];exact h);rw [hB,hD,hG he];have CH:=fun A R hE a c hr hn=>qm1 A R hE x hx a c hs ho hr hn he;have hBd:=built (x:=x) ho;have hl5:=(q68 x ho).2.2;generalize q0b x hs = B at hBd hl5 CH he ⊢;obtain ⟨h,ss,e⟩:=B;have ok1:=hBd.ok;have oks:=hBd.ks;have hlen:=hBd.len;clear hBd;dsimp only at ok1 oks hlen hl5 CH he ⊢;subst he;obtain ⟨hsl,_⟩:=hlen rfl;obtain ⟨al,be,ga⟩:=h
  have oal:=ok1.a;have obe:=ok1.b;have oga:=ok1.g;dsimp only at oal obe oga CH ⊢;(conv=>whnf);refine Cq.new (CH _ A (Ent.a mm) (some (radr p)) cap hr hn) rfl ?_;rintro ⟨⟨ab,cb⟩,a13,c13⟩ h13;dsimp only at h13 ⊢;(conv=>whnf);intro b12;(conv=>whnf);refine Cond.neI (fun h=>absurd rfl h) (fun _=>?_);(conv=>whnf);refine Draw.a (by kernel_rfl) tt_ok (Tv.of (List.range 11) .nil) 10 (by kernel_rfl) ?_;(conv=>whnf);refine Ar.to ((hs.length - 1 : Nat) : Int) (by omega) (Ar.i64 (by omega) ?_);conv=>whnf
  refine ⟨by omega,PtrOb.rd (A:=A) (by simp) hr (by rw [q1q ho];omega) fun p2 hp2=>?_⟩;obtain rfl:=q1z hp2;(conv=>whnf);refine ldhid (A:=A) (l:=hs) (hs.length - 1) (by simp) hr ho hi rfl rfl rfl (by show _ + ((hs.length - 1 : Nat) : Int).toNat * 43 + _ + _ = _;omega) ?_;have hid : (lastC hs).id.length = 8:=by rw [hlc];exact ho1.c
  rw [← hlc];generalize hlcc : lastC hs = lc at hid ⊢;obtain ⟨lk,ln,ld,id⟩:=lc;dsimp only at hid ⊢;(conv=>whnf);intro b15;(conv=>whnf);refine Sub.r [12,9,8,5,4] [0,0,0] ?_;(conv=>whnf);have hLk : ∀ n,okK ((ss.take n).map q09):=fun n=>qea
  have hok : ∀ (a' : Option Addr) (n c' : Nat),okH [(15,b15),(12,b12),(9,b9),(8,b8),(5,b5),(4,b4)] [(15,[.many 8 (u8s id),.many 32 (u8s key),.one (.rs a' n c')],76),(12,rsg ⟨al,be,ga⟩ ab cb,72),(9,rkey key0 none 0,76),(8,rblk0,74),(5,[.many 32 (u8s key)],23),(4,[.many 32 (u8s x)],23)] :=
    fun _ _ _=>⟨⟨kk,mok hid _,hks _,trivial,trivial⟩,⟨kk,mok oal _,trivial,mok oga _,trivial⟩,⟨kk,hk0 _⟩,⟨kk,q49 _⟩,⟨kk,hks _,trivial⟩,⟨kk,hxs _,trivial⟩,trivial⟩
  refine LoopOb.m (σ:=Nat × Option Addr × Nat) (fun s=>[(2,.c (.int .i64 first)),(5,.c (.ptr 5 0)),(8,.c (.ptr 8 0)),(9,.c (.ptr 9 0)),(11,.c (.int .i64 hs.length)),(12,.c (.ptr 12 0)),(13,.c (.rs a13 ss.length c13)),(15,.c (.ptr 15 0)),(16,.c (.rs s.2.1 s.1 s.2.2)),(17,.c (.int .i64 s.1))])
    (fun s=>⟨[(15,b15),(12,b12),(9,b9),(8,b8),(5,b5),(4,b4)],[(15,[.many 8 (u8s id),.many 32 (u8s key),.one (.rs none 0 0)],76),(12,rsg ⟨al,be,ga⟩ ab cb,72),(9,rkey key0 none 0,76),(8,rblk0,74),(5,[.many 32 (u8s key)],23),(4,[.many 32 (u8s x)],23)],
      [RowK s.2.1 s.2.2 23 ((ss.take s.1).map q09),RowK a13 c13 23 ss,Own ab cb 5 1 (u8s be),A]⟩) (fun s=>s.1 ≤ ss.length ∧ s.1 ≤ s.2.2 ∧ (s.2.1 = none → s.1 = 0)) (fun s=>ss.length - s.1) (0,none,0) ⟨Nat.zero_le _,Nat.le_refl _,fun _=>rfl⟩ ?_ ?_
  · refine Wk.own0 23 32 ?_;exact Wk.m [15,12,9,8,5,4] [0,1,0,0] kk (hok none 0 0) ⟨rfl,rfl⟩
  rintro ⟨i,aL,cL⟩ ⟨hi2,hc2,hn2⟩;dsimp only at hi2 hc2 hn2 ⊢;(conv=>whnf);refine Cond.d (fun h=>?_) (fun h=>?_)
  · have hi3 : i < ss.length:=by omega
    have hki : ss[i].length = 32:=oks _ (List.getElem_mem hi3);(conv=>whnf);refine ⟨by omega,PtrOb.rd (A:=RowK a13 c13 23 ss) (by simp) Own.rd (by rw [q0k oks];omega) fun q hq=>?_⟩;subst hq;(conv=>whnf);refine ldk (A:=RowK (some (radr q)) c13 23 ss) (l:=ss) i (by simp) Own.rd oks hi3 rfl rfl rfl (by show _ + (i : Int).toNat * 32 = _;omega) ?_;(conv=>whnf);refine Cq.pu (ql7 _ ss[i] hki) rfl ?_;have hlk:=q2n ss[i]
    have hst : (ss.take (i + 1)).map q09 = (ss.take i).map q09 ++ [q09 ss[i]]:=by rw [List.take_succ_eq_append_getElem hi3,List.map_append];rfl
    generalize q09 ss[i] = lay at hlk hst ⊢;(conv=>whnf);intro b69;(conv=>whnf);have hll : ((ss.take i).map q09).length = i:=by rw [List.length_map,List.length_take,Nat.min_eq_left hi2]
    refine q1a (a:=aL) (n:=i) (cap:=cL) (xs:=rowK ((ss.take i).map q09)) (k:=1) (ys:=u8s lay) (src:=.c (.slc 75 0 1 1)) (F':=[RowK (some (radr q)) c13 23 ss,Own ab cb 5 1 (u8s be),A]) (.refl _) (by rw [q0k (hLk i),hll]) (by rw [u8l,hlk];rfl) (by exact Src.slc ⟨[],rfl⟩) (q0s _) (by show (i + 1 + (i + 1) / 4 + 192) * 32 ≤ 281474976710656;omega) (by omega) (by decide) 60 (.inr rfl) ?_;intro aN cN hcN hnN;(conv=>whnf);refine Ar.i64 (by omega) ?_;conv=>whnf
    refine ⟨(i + 1,aN,cN),⟨by dsimp only;omega,by dsimp only;omega,hnN⟩,by dsimp only;omega,?_⟩;dsimp only;rw [hst];refine Wk.m [15,12,9,8,5,4] [0,0,0,0] kk (hok none 0 0) ⟨rfl,?_⟩;show [Own aN cN _ 32 (rowK ((ss.take i).map q09) ++ u8s lay),_,_,A] = [Own aN cN _ 32 (rowK ((ss.take i).map q09 ++ [lay])),_,_,A];rw [q2r];show _ = [Own aN cN _ 32 (rowK ((ss.take i).map q09) ++ (u8s lay ++ [])),_,_,A];rw [List.append_nil]
  · obtain rfl : i = ss.length:=by omega
    rw [List.take_length];conv=>whnf
    refine Draw.free (by kernel_rfl) tt_ok (Tv.of (List.range 8) .nil) 7 [(15,[.many 8 (u8s id),.many 32 (u8s key),.one (.rs aL ss.length cL)],76),(12,rsg ⟨al,be,ga⟩ ab cb,72),(5,[.many 32 (u8s key)],23),(4,[.many 32 (u8s x)],23)] [RowK aL cL 23 (ss.map q09),RowK a13 c13 23 ss,Own ab cb 5 1 (u8s be),A] (by kernel_rfl) (fun k c hc=>k c (by simp only [List.mem_cons,List.not_mem_nil,or_false] at hc ⊢;rcases hc with h | h | h | h <;> simp [h])) (Sub.r [15,12,5,4] [0,0,0,0] ?_);(conv=>whnf);refine Sub.r [15,12,5,4] [0,0,0,0] ?_;conv=>whnf
    refine Sub.r [15,12,5,4] [0,0,0,0] ?_;(conv=>whnf);have hml : (ss.map q09).length = ss.length:=List.length_map _;refine Ret.m ((ab,cb),(aL,cL)) [] [2,0,1] ⟨h13.1,by dsimp only;omega,fun h=>by have:=hn2 h;exact List.eq_nil_of_length_eq_zero (by omega)⟩ ?_ ⟨⟨trivial,mok oal _,trivial,mok oga _,hks _,trivial⟩,⟨mok hid _,hks _,trivial,trivial⟩,trivial,trivial⟩ kk ⟨rfl,rfl⟩
    show _ = Value.tuple #[Value.agg (dens _ (rblk ⟨first,⟨al,be,ga⟩,key⟩ ab cb)).toArray,Value.agg (dens _ [.many 8 (u8s id),.many 32 (u8s key),.one (.rs aL (ss.map q09).length cL)]).toArray,_];rw [hml];rfl
end
section
attribute [local irreducible] macD q01 strS q03 q00 q02 q0e q06 q05 q08 q0a q0d q0b lionB lockS q09 openS sealS
theorem qpr (A R R' : HP) (hE : Ent A R) (hE' : Ent A R') (b : BlkS) (o : b.ok) (a a' : Option Addr) (c c' : Nat) (hb : Rd R a (u8s b.hdr.beta)) (hb' : Rd R' a' (u8s b.hdr.beta)) :
    Pu Tryz.prog 33 [.agg (rblk b a c),.agg (rblk b a' c')] A (.c .tt):=by
  obtain ⟨f,⟨al,be,ga⟩,k⟩:=b;have h1:=o.h;have h2:=o.k;have hal:=h1.a;have hbe:=h1.b;have hga:=h1.g;dsimp only at h1 h2 hal hbe hga hb hb';have hr:=hb.ent hE;have hr':=hb'.ent hE';refine Con.of' tt_ok Tryz.func33 rfl (by decide) [.agg [.one (.int .i64 f),.many 32 (u8s al),.one (.rs a be.length c),.many 16 (u8s ga),.many 32 (u8s k)],.agg [.one (.int .i64 f),.many 32 (u8s al),.one (.rs a' be.length c'),.many 16 (u8s ga),.many 32 (u8s k)]] [] [] rfl rfl trivial ⟨qbu o a c _,qbu o a' c' _,trivial⟩ rfl ?_;(conv=>whnf);intro b2;conv=>whnf
  intro b3;(conv=>whnf);refine Cond.eqI (fun h=>absurd h (by omega)) (fun h=>?_);(conv=>whnf);refine Cond.eqI (fun _=>?_) (fun h=>absurd rfl h);(conv=>whnf);refine Cq.pu (qk3 _ A A (Ent.a mm) (Ent.a mm) ⟨al,be,ga⟩ hal hga a a' c c' hr hr') rfl ?_;(conv=>whnf);refine q7o (l:=k) (m:=k) h2 h2 (by simp [dens,Seg.den]) (by simp [dens,Seg.den]) ?_;rw [decide_eq_true rfl];(conv=>whnf);exact Ret.m () [] [0] trivial rfl kk kk ⟨rfl,rfl⟩
theorem qpb (A R : HP) (hE : Ent A R) (a : Option Addr) (c : Nat) (hb : Rd R a (u8s blk0.hdr.beta)) :
    Pu Tryz.prog 33 [.agg (rblk blk0 a c),.agg rblk0] A (.c .tt):=by
  have hr:=hb.ent hE;have h160 : (List.replicate 160 (0 : UInt8)).length = 160:=List.length_replicate;refine Con.of' tt_ok Tryz.func33 rfl (by decide) [.agg (rblk blk0 a c),.agg rblk0] [] [] rfl rfl trivial ⟨qbu qe2 a c _,q49 _,trivial⟩ rfl ?_;(conv=>whnf);intro b2;(conv=>whnf);intro b3;(conv=>whnf);refine Cond.eqI (fun h=>?_) (fun h=>absurd rfl h);(conv=>whnf);refine ⟨by decide,?_⟩;intro b10;(conv=>whnf);refine Cond.eqI (fun _=>?_) (fun h=>absurd rfl h);(conv=>whnf);have hh0 : hdr0.beta = List.replicate 160 0:=rfl
  refine Cq.pu (qk3 _ A (blk b10 (.cells (List.replicate 160 (Value.int .u8 0) ++ []).toArray 5)) (Ent.a mm) (Ent.a mm) hdr0 hdr0_ok.a hdr0_ok.g a (some (radr (b10,0))) c 160 hr (by rw [hh0,q4k];exact q1p)) rfl ?_;(conv=>whnf);refine q7o (l:=zk) (m:=zk) q1h q1h (by show u8s zk ++ [] = _;rw [List.append_nil]) (by show u8s zk ++ [] = _;rw [List.append_nil]) ?_;rw [decide_eq_true rfl];(conv=>whnf);exact Ret.m () [] [0] trivial rfl kk kk ⟨rfl,rfl⟩
end
section
structure MadeS (Z : BlkS × KeyS × Int) : Prop where
  o : Z.1.ok
  i : Z.2.1.id.length = 8
  k : Z.2.1.key.length = 32
  l : okK Z.2.1.ls
  n : Z.2.1.ls.length ≤ 5
  bad : Z.2.2 ≠ 0 → Z.1 = blk0 ∧ Z.2.1 = key0
theorem made0 (e : Int) : MadeS (blk0,key0,e):=⟨qe2,List.length_replicate,q1h,q4j,Nat.zero_le _,fun _=>⟨rfl,rfl⟩⟩
theorem madeS (x : List UInt8) {key : List UInt8} (hk : key.length = 32) (first : Int) {hs : List HopS} (ho : okHs hs) : MadeS (makeS x key first hs):=by
  cases hn : nodeS first with
  | false=>rw [qfq hn];exact made0 _
  | true =>
    rw [qa2 hn]
    by_cases h : 1 ≤ hs.length ∧ (lastC hs).k = 3
    · rw [qa0 h]
      by_cases he : (q0b x hs).2.2 = 0
      · rw [qcy he];obtain ⟨h1,h2,h3⟩:=q68 x ho;refine ⟨⟨h1,hk⟩,?_,hk,qea,by dsimp only;rw [List.length_map];exact h3,fun k=>absurd rfl k⟩;exact qei ho (by omega)
      · rw [qdk he];exact made0 _
    · rw [qhh h];exact made0 _
attribute [local irreducible] macD q01 strS q03 q00 q02 q0e q06 q05 q08 q0a q0d q0b lionB lockS q0p q09 openB q0j decC tagH q13 q12 q11 q0h peelS openS sealS useS q4x makeS q18
theorem qid {l m : List UInt8} {xs ys : List Value} {f : Bool → Prop} (hl : l.length = 32) (hm : m.length = 32) (ex : xs = u8s l) (ey : ys = u8s m) (h : f (decide (l = m))) : EqAgg Tryz.prog 23 xs ys f:=q7o hl hm ex ey h
set_option maxHeartbeats 4000000 in
theorem qhk (W : World) (hK : Gl (old W)) (x : List UInt8) (hx : x.length = 32) (first : Int) (a : Option Addr) (cap : Nat) (l : List HopS) (hl : okHs l) (hr : Rd (old W) a (rowH l)) :
    LawC Tryz.prog 8 [.agg [.many 32 (u8s x)],.c (.int .i64 first),.c (.rs a l.length cap)] W:=by
  have hks:=mok hx;have hcl:=q1s hx;have CC:=fun A=>qbo A x hx;generalize q18 x = ck at hcl CC;have M:=madeS x hcl first hl;have CM:=fun A R hE hK a c hr hn=>qnc A R hE hK x hx ck hcl first a c l hl hr hn;have CZ:=fun A R hE a c hr hn hz=>qpl A R hE x hx ck hcl first a c l hl hr hn hz;have CH:=fun A R hE a c hr hn hz=>qog A R hE x hx ck hcl first a c l hl hr hn hz;generalize makeS x ck first l = Z at M CM CZ CH;obtain ⟨B,⟨id,ky,ls⟩,e⟩:=Z
  have ob:=M.o;have oi:=M.i;have ok:=M.k;have ol:=M.l;have on:=M.n;have hbad:=M.bad;clear M;dsimp only at ob oi ok ol on hbad CM CZ CH;refine Con.of' tt_ok Tryz.func8 rfl (by decide) [.agg [.many 32 (u8s x)],.c (.int .i64 first),.c (.rs a l.length cap)] [] [] rfl rfl trivial ⟨⟨hks _,trivial⟩,trivial,trivial,trivial⟩ rfl ?_;(conv=>whnf);intro b3;(conv=>whnf);refine Cq.pu (qjd _ (hK.ent (Ent.a mm))) rfl ?_;(conv=>whnf);refine Cond.d (fun q1=>?_) (fun q1=>?_)
  · (conv=>whnf);exact Ret.m () [] [0] trivial rfl kk kk ⟨rfl,rfl⟩
  (conv=>whnf);refine Cq.pu (CC _) rfl ?_;(conv=>whnf);intro b7;conv=>whnf
  refine Draw.cut (σ:=Nat × Nat × Option Addr × Nat) (fun s=>[(1,.c (.int .i64 first)),(2,.c (.rs a l.length cap)),(3,.c (.ptr 3 0)),(7,.c (.ptr 7 0)),(8,.c (.ptr 8 0)),(9,.c (.ptr 9 0)),(10,.c (.int .i64 e))])
    (fun s=>⟨[(9,s.1),(8,s.2.1),(7,b7),(3,b3)],[(9,[.many 8 (u8s id),.many 32 (u8s ky),.one (.rs s.2.2.1 ls.length s.2.2.2)],68),(8,B.sg,66),(7,[.many 32 (u8s ck)],23),(3,[.many 32 (u8s x)],23)],[RowK s.2.2.1 s.2.2.2 23 ls,old W]⟩) (fun s=>Fc s.2.2.1 s.2.2.2 ls) ?_ ?_
  · refine Draw.a (by kernel_rfl) tt_ok (Tv.of [0,1,2,3] (.tre 4 ((.tre 5 (Tv.of [6,7,8,9] (.two 10 (Tv.of [11,12,13,14] .nil) 11 (Tv.of [10,12,13,14] .nil))) 10 ((.two 5 (Tv.of [6,7,8,9,11,12,13,14] .nil) 11 (Tv.of [5,6,7,8,9,12,13,14] .nil))) 11 ((.two 5 (Tv.of [6,7,8,9,10,12,13,14] .nil) 10 (Tv.of [5,6,7,8,9,12,13,14] .nil))))) 10 ((.two 4 ((.two 5 (Tv.of [6,7,8,9,11,12,13,14] .nil) 11 (Tv.of [5,6,7,8,9,12,13,14] .nil))) 11 (Tv.of [4,5,6,7,8,9,12,13,14] .nil))) 11 ((.two 4 ((.two 5 (Tv.of [6,7,8,9,10,12,13,14] .nil) 10 (Tv.of [5,6,7,8,9,12,13,14] .nil))) 10 (Tv.of [4,5,6,7,8,9,12,13,14] .nil))))) 1000000 (by kernel_rfl) ?_
    (conv=>whnf);refine ⟨?_,?_,?_⟩
    · (conv=>whnf);refine Cq.new (qco _ (old W) (Ent.a mm) a cap l hl hr (by omega)) rfl ?_;rintro ⟨ah,ch⟩ hh;dsimp only at hh ⊢;refine Sub.r [7,3] [1] ?_;(conv=>whnf);refine ⟨?_,?_,?_⟩
      · (conv=>whnf);refine Cq.new (CM _ (Own ah ch 96 43 (rowH l)) (Ent.a mm) (hK.ent (Ent.a mm)) ah ch Own.rd (by omega)) rfl ?_;rintro ⟨aL,cL⟩ hL;dsimp only at hL ⊢;refine Sub.r [7,3] [2] ?_;(conv=>whnf);refine ⟨?_,?_⟩
        · (conv=>whnf);intro b8;refine Sub.r [7,3] [2] ?_;(conv=>whnf);intro b9;refine Sub.r [7,3] [2] ?_;(conv=>whnf);refine Sub.r [7,3] [2] ?_;(conv=>whnf);refine Sub.r [7,3] [2] ?_;(conv=>whnf);exact ⟨(b9,b8,aL,cL),hL,Wk.m [9,8,7,3] [0,1] kk ⟨⟨kk,mok oi _,mok ok _,trivial,trivial⟩,⟨kk,BlkS.okL ob _⟩,⟨kk,mok hcl _,trivial⟩,⟨kk,hks _,trivial⟩,trivial⟩ ⟨rfl,rfl⟩⟩
        · (conv=>whnf);intro b9;refine Sub.r [7,3] [2] ?_;(conv=>whnf);intro b8;refine Sub.r [7,3] [2] ?_;(conv=>whnf);refine Sub.r [7,3] [2] ?_;(conv=>whnf);refine Sub.r [7,3] [2] ?_;(conv=>whnf);exact ⟨(b9,b8,aL,cL),hL,Wk.m [9,8,7,3] [0,1] kk ⟨⟨kk,mok oi _,mok ok _,trivial,trivial⟩,⟨kk,BlkS.okL ob _⟩,⟨kk,mok hcl _,trivial⟩,⟨kk,hks _,trivial⟩,trivial⟩ ⟨rfl,rfl⟩⟩
      · (conv=>whnf);intro b8;refine Sub.r [7,3] [1] ?_;(conv=>whnf);refine ⟨?_,?_⟩
        · (conv=>whnf);refine Cq.new (CM _ (Own ah ch 96 43 (rowH l)) (Ent.a mm) (hK.ent (Ent.a mm)) ah ch Own.rd (by omega)) rfl ?_;rintro ⟨aL,cL⟩ hL;dsimp only at hL ⊢;refine Sub.r [7,3] [2] ?_;(conv=>whnf);intro b9;refine Sub.r [7,3] [2] ?_;(conv=>whnf);refine Sub.r [7,3] [2] ?_;(conv=>whnf);refine Sub.r [7,3] [2] ?_;(conv=>whnf);exact ⟨(b9,b8,aL,cL),hL,Wk.m [9,8,7,3] [0,1] kk ⟨⟨kk,mok oi _,mok ok _,trivial,trivial⟩,⟨kk,BlkS.okL ob _⟩,⟨kk,mok hcl _,trivial⟩,⟨kk,hks _,trivial⟩,trivial⟩ ⟨rfl,rfl⟩⟩
        · (conv=>whnf);intro b9;refine Sub.r [7,3] [1] ?_;(conv=>whnf);refine Cq.new (CM _ (Own ah ch 96 43 (rowH l)) (Ent.a mm) (hK.ent (Ent.a mm)) ah ch Own.rd (by omega)) rfl ?_;rintro ⟨aL,cL⟩ hL;dsimp only at hL ⊢;refine Sub.r [7,3] [2] ?_;(conv=>whnf);refine Sub.r [7,3] [2] ?_;(conv=>whnf);refine Sub.r [7,3] [2] ?_;(conv=>whnf);exact ⟨(b9,b8,aL,cL),hL,Wk.m [9,8,7,3] [0,1] kk ⟨⟨kk,mok oi _,mok ok _,trivial,trivial⟩,⟨kk,BlkS.okL ob _⟩,⟨kk,mok hcl _,trivial⟩,⟨kk,hks _,trivial⟩,trivial⟩ ⟨rfl,rfl⟩⟩
      · (conv=>whnf);intro b9;refine Sub.r [7,3] [1] ?_;(conv=>whnf);refine ⟨?_,?_⟩
        · (conv=>whnf);refine Cq.new (CM _ (Own ah ch 96 43 (rowH l)) (Ent.a mm) (hK.ent (Ent.a mm)) ah ch Own.rd (by omega)) rfl ?_;rintro ⟨aL,cL⟩ hL;dsimp only at hL ⊢;refine Sub.r [7,3] [2] ?_;(conv=>whnf);intro b8;refine Sub.r [7,3] [2] ?_;(conv=>whnf);refine Sub.r [7,3] [2] ?_;(conv=>whnf);refine Sub.r [7,3] [2] ?_;(conv=>whnf);exact ⟨(b9,b8,aL,cL),hL,Wk.m [9,8,7,3] [0,1] kk ⟨⟨kk,mok oi _,mok ok _,trivial,trivial⟩,⟨kk,BlkS.okL ob _⟩,⟨kk,mok hcl _,trivial⟩,⟨kk,hks _,trivial⟩,trivial⟩ ⟨rfl,rfl⟩⟩
        · (conv=>whnf);intro b8;refine Sub.r [7,3] [1] ?_;(conv=>whnf);refine Cq.new (CM _ (Own ah ch 96 43 (rowH l)) (Ent.a mm) (hK.ent (Ent.a mm)) ah ch Own.rd (by omega)) rfl ?_;rintro ⟨aL,cL⟩ hL;dsimp only at hL ⊢;refine Sub.r [7,3] [2] ?_;(conv=>whnf);refine Sub.r [7,3] [2] ?_;(conv=>whnf);refine Sub.r [7,3] [2] ?_;(conv=>whnf);exact ⟨(b9,b8,aL,cL),hL,Wk.m [9,8,7,3] [0,1] kk ⟨⟨kk,mok oi _,mok ok _,trivial,trivial⟩,⟨kk,BlkS.okL ob _⟩,⟨kk,mok hcl _,trivial⟩,⟨kk,hks _,trivial⟩,trivial⟩ ⟨rfl,rfl⟩⟩
    · (conv=>whnf);intro b8;refine Sub.r [7,3] [0] ?_;(conv=>whnf);refine ⟨?_,?_⟩
      · (conv=>whnf);refine Cq.new (qco _ (old W) (Ent.a mm) a cap l hl hr (by omega)) rfl ?_;rintro ⟨ah,ch⟩ hh;dsimp only at hh ⊢;refine Sub.r [7,3] [1] ?_;(conv=>whnf);refine ⟨?_,?_⟩
        · (conv=>whnf);refine Cq.new (CM _ (Own ah ch 96 43 (rowH l)) (Ent.a mm) (hK.ent (Ent.a mm)) ah ch Own.rd (by omega)) rfl ?_;rintro ⟨aL,cL⟩ hL;dsimp only at hL ⊢;refine Sub.r [7,3] [2] ?_;(conv=>whnf);intro b9;refine Sub.r [7,3] [2] ?_;(conv=>whnf);refine Sub.r [7,3] [2] ?_;(conv=>whnf);refine Sub.r [7,3] [2] ?_;(conv=>whnf);exact ⟨(b9,b8,aL,cL),hL,Wk.m [9,8,7,3] [0,1] kk ⟨⟨kk,mok oi _,mok ok _,trivial,trivial⟩,⟨kk,BlkS.okL ob _⟩,⟨kk,mok hcl _,trivial⟩,⟨kk,hks _,trivial⟩,trivial⟩ ⟨rfl,rfl⟩⟩
        · (conv=>whnf);intro b9;refine Sub.r [7,3] [1] ?_;(conv=>whnf);refine Cq.new (CM _ (Own ah ch 96 43 (rowH l)) (Ent.a mm) (hK.ent (Ent.a mm)) ah ch Own.rd (by omega)) rfl ?_;rintro ⟨aL,cL⟩ hL;dsimp only at hL ⊢;refine Sub.r [7,3] [2] ?_;(conv=>whnf);refine Sub.r [7,3] [2] ?_;(conv=>whnf);refine Sub.r [7,3] [2] ?_;(conv=>whnf);exact ⟨(b9,b8,aL,cL),hL,Wk.m [9,8,7,3] [0,1] kk ⟨⟨kk,mok oi _,mok ok _,trivial,trivial⟩,⟨kk,BlkS.okL ob _⟩,⟨kk,mok hcl _,trivial⟩,⟨kk,hks _,trivial⟩,trivial⟩ ⟨rfl,rfl⟩⟩
      · (conv=>whnf);intro b9;refine Sub.r [7,3] [0] ?_;(conv=>whnf);refine Cq.new (qco _ (old W) (Ent.a mm) a cap l hl hr (by omega)) rfl ?_;rintro ⟨ah,ch⟩ hh;dsimp only at hh ⊢;refine Sub.r [7,3] [1] ?_;(conv=>whnf);refine Cq.new (CM _ (Own ah ch 96 43 (rowH l)) (Ent.a mm) (hK.ent (Ent.a mm)) ah ch Own.rd (by omega)) rfl ?_;rintro ⟨aL,cL⟩ hL;dsimp only at hL ⊢;refine Sub.r [7,3] [2] ?_;(conv=>whnf);refine Sub.r [7,3] [2] ?_;(conv=>whnf);refine Sub.r [7,3] [2] ?_;conv=>whnf
        exact ⟨(b9,b8,aL,cL),hL,Wk.m [9,8,7,3] [0,1] kk ⟨⟨kk,mok oi _,mok ok _,trivial,trivial⟩,⟨kk,BlkS.okL ob _⟩,⟨kk,mok hcl _,trivial⟩,⟨kk,hks _,trivial⟩,trivial⟩ ⟨rfl,rfl⟩⟩
    · (conv=>whnf);intro b9;refine Sub.r [7,3] [0] ?_;(conv=>whnf);refine ⟨?_,?_⟩
      · (conv=>whnf);refine Cq.new (qco _ (old W) (Ent.a mm) a cap l hl hr (by omega)) rfl ?_;rintro ⟨ah,ch⟩ hh;dsimp only at hh ⊢;refine Sub.r [7,3] [1] ?_;(conv=>whnf);refine ⟨?_,?_⟩
        · (conv=>whnf);refine Cq.new (CM _ (Own ah ch 96 43 (rowH l)) (Ent.a mm) (hK.ent (Ent.a mm)) ah ch Own.rd (by omega)) rfl ?_;rintro ⟨aL,cL⟩ hL;dsimp only at hL ⊢;refine Sub.r [7,3] [2] ?_;(conv=>whnf);intro b8;refine Sub.r [7,3] [2] ?_;(conv=>whnf);refine Sub.r [7,3] [2] ?_;(conv=>whnf);refine Sub.r [7,3] [2] ?_;(conv=>whnf);exact ⟨(b9,b8,aL,cL),hL,Wk.m [9,8,7,3] [0,1] kk ⟨⟨kk,mok oi _,mok ok _,trivial,trivial⟩,⟨kk,BlkS.okL ob _⟩,⟨kk,mok hcl _,trivial⟩,⟨kk,hks _,trivial⟩,trivial⟩ ⟨rfl,rfl⟩⟩
        · (conv=>whnf);intro b8;refine Sub.r [7,3] [1] ?_;(conv=>whnf);refine Cq.new (CM _ (Own ah ch 96 43 (rowH l)) (Ent.a mm) (hK.ent (Ent.a mm)) ah ch Own.rd (by omega)) rfl ?_;rintro ⟨aL,cL⟩ hL;dsimp only at hL ⊢;refine Sub.r [7,3] [2] ?_;(conv=>whnf);refine Sub.r [7,3] [2] ?_;(conv=>whnf);refine Sub.r [7,3] [2] ?_;(conv=>whnf);exact ⟨(b9,b8,aL,cL),hL,Wk.m [9,8,7,3] [0,1] kk ⟨⟨kk,mok oi _,mok ok _,trivial,trivial⟩,⟨kk,BlkS.okL ob _⟩,⟨kk,mok hcl _,trivial⟩,⟨kk,hks _,trivial⟩,trivial⟩ ⟨rfl,rfl⟩⟩
      · (conv=>whnf);intro b8;refine Sub.r [7,3] [0] ?_;(conv=>whnf);refine Cq.new (qco _ (old W) (Ent.a mm) a cap l hl hr (by omega)) rfl ?_;rintro ⟨ah,ch⟩ hh;dsimp only at hh ⊢;refine Sub.r [7,3] [1] ?_;(conv=>whnf);refine Cq.new (CM _ (Own ah ch 96 43 (rowH l)) (Ent.a mm) (hK.ent (Ent.a mm)) ah ch Own.rd (by omega)) rfl ?_;rintro ⟨aL,cL⟩ hL;dsimp only at hL ⊢;refine Sub.r [7,3] [2] ?_;(conv=>whnf);refine Sub.r [7,3] [2] ?_;(conv=>whnf);refine Sub.r [7,3] [2] ?_;conv=>whnf
        exact ⟨(b9,b8,aL,cL),hL,Wk.m [9,8,7,3] [0,1] kk ⟨⟨kk,mok oi _,mok ok _,trivial,trivial⟩,⟨kk,BlkS.okL ob _⟩,⟨kk,mok hcl _,trivial⟩,⟨kk,hks _,trivial⟩,trivial⟩ ⟨rfl,rfl⟩⟩
  rintro ⟨b9,b8,aL,cL⟩ hL;dsimp only at hL ⊢;conv=>whnf
  by_cases he : e = 0
  · subst he;(conv=>whnf);refine Cq.new (CH _ (old W) (Ent.a mm) a cap hr (by omega) rfl) rfl ?_;rintro ⟨⟨ab,cb⟩,aM,cM⟩ hM;dsimp only at hM ⊢;(conv=>whnf);intro b11;(conv=>whnf);intro b12;(conv=>whnf);refine Draw.a (by kernel_rfl) tt_ok (Tv.of [0,2,1,3,4,5,6,7,8,9,10,11,12,13,14,15,16,17,18,19,20,21,22,23,24,25,26,27,28,29,30] .nil) 1000000 (by kernel_rfl) ?_;(conv=>whnf);refine Cq.new (qn4 _ B ob) rfl fun q _=>?_;(conv=>whnf);refine Sub.r [12,11,9,8,7,3] [1,1,1,1] ?_;conv=>whnf
    refine Cq.pu (qpr _ (OwnHd q B.hdr) (Own ab cb 5 1 (u8s B.hdr.beta)) (Ent.a mm) (Ent.a mm) B ob (some (radr (q,32))) ab 160 cb (OwnHd.rd ob.h) Own.rd) rfl ?_;(conv=>whnf);refine Sub.r [12,11,9,8,7,3] [1,1,1,1] ?_;(conv=>whnf);refine eq_id (l:=id) (m:=id) oi oi (List.append_nil _) (List.append_nil _) ?_;rw [decide_eq_true rfl];(conv=>whnf);refine ⟨fun _=>?_,fun h=>by cases h⟩;(conv=>whnf);refine qid (l:=ky) (m:=ky) ok ok (List.append_nil _) (List.append_nil _) ?_;rw [decide_eq_true rfl];conv=>whnf
    refine ⟨fun _=>?_,fun h=>by cases h⟩;(conv=>whnf);refine Cq.pu (qja _ (RowK aL cL 23 ls) (RowK aM cM 23 ls) (Ent.a mm) (Ent.a mm) aL aM cL cM ls ol Own.rd Own.rd (by omega)) rfl ?_;(conv=>whnf);refine Sub.r [12,11,9,8,7,3] [1,1,1,1] ?_;(conv=>whnf);exact Ret.m () [] [4] trivial rfl kk kk ⟨rfl,rfl⟩
  · obtain ⟨e1,e2⟩:=hbad he;subst e1;simp only [KeyS.mk.injEq,key0] at e2;obtain ⟨rfl,rfl,rfl⟩:=e2;(conv=>whnf);refine Cq.pu (CZ _ (old W) (Ent.a mm) a cap hr (by omega) he) rfl ?_;(conv=>whnf);intro b11;(conv=>whnf);intro b12;(conv=>whnf);refine Draw.a (by kernel_rfl) tt_ok (Tv.of [0,2,1,3,4,5,6,7,8,9,10,11,12,13,14,15,16,17,18,19,20,21,22,23,24,25,26,27,28,29,30] .nil) 1000000 (by kernel_rfl) ?_;(conv=>whnf);refine Cq.new (qn4 _ blk0 ob) rfl fun q _=>?_;conv=>whnf
    refine Sub.r [12,11,9,8,7,3] [1,1] ?_;(conv=>whnf);refine Cq.pu (qpb _ (OwnHd q blk0.hdr) (Ent.a mm) (some (radr (q,32))) 160 (OwnHd.rd hdr0_ok)) rfl ?_;(conv=>whnf);refine Sub.r [12,11,9,8,7,3] [1,1] ?_;(conv=>whnf);have hz8 : (List.replicate 8 (0 : UInt8)).length = 8:=List.length_replicate;refine eq_id (l:=List.replicate 8 0) (m:=List.replicate 8 0) hz8 hz8 (List.append_nil _) (List.append_nil _) ?_;rw [decide_eq_true rfl];(conv=>whnf);refine ⟨fun _=>?_,fun h=>by cases h⟩;conv=>whnf
    refine qid (l:=zk) (m:=zk) q1h q1h (List.append_nil _) (List.append_nil _) ?_;rw [decide_eq_true rfl];(conv=>whnf);refine ⟨fun _=>?_,fun h=>by cases h⟩;(conv=>whnf);refine Cq.pu (qja _ (old W) (old W) (Ent.a mm) (Ent.a mm) aL none cL 0 [] q4j (fun _ _=>.inl rfl) (fun _ _=>.inl rfl) (by decide)) rfl ?_;(conv=>whnf);refine Sub.r [12,11,9,8,7,3] [1,1] ?_;(conv=>whnf);exact Ret.m () [] [2] trivial (by show Value.bool (e == e) = Value.bool true;rw [beq_self_eq_true]) kk kk ⟨rfl,rfl⟩
end
section
attribute [local irreducible] macD q01 strS q03 q00 q02 q0e q06 q05 q08 q0a q0d q0b lionB lockS q0p q09 openB q0j decC tagH q13 q12 q11 q0h peelS openS sealS useS q4x makeS
end
section
open Go.RowKit (Below)
theorem qqe : Fits Tryz.prog (.int .i64) 3 = true:=by simp only [Fits,Tryz.underlying3];kernel_rfl
section
variable {H : Type} {enc : TypeId × Value → H} {base : Nat} {v0 v1 v2 : Value} {d0 d1 d2 : DataW H} {p0 p1 p2 : List MemPlace}
theorem surbMakes_law (W : World) (hL : laidMetH Tryz.prog kLaid W) (ok0 : Value.okWide Tryz.prog W .any base 23 v0) (ok1 : Value.okWide Tryz.prog W .any base 3 v1) (ok2 : Value.okWide Tryz.prog W .any base 45 v2)
    (h0 : DataW.Trod enc Tryz.prog W 0 (fun _=>true) true 23 v0 d0 p0) (h1 : DataW.Trod enc Tryz.prog W 0 (fun _=>true) true 3 v1 d1 p1) (h2 : DataW.Trod enc Tryz.prog W 0 (fun _=>true) true 45 v2 d2 p2) :
    Calls Tryz.prog 8 #[v0,v1,v2] W fun e w'=>e = .returned (.bool true) ∧ Below W.heap.size W w':=by
  obtain ⟨k,rfl,hk⟩:=qp9 W ok0 h0;obtain ⟨n,rfl,hn⟩:=qp7 qqe ok1 h1;obtain ⟨a,cap,l,rfl,hr,hl⟩:=ql2 W ok2 h2;exact qig (qhk W (qh2 hL) k hk n a cap l hl hr) rfl
end
end
end Go.Proofs.YtfehjfoajlfhfaaGreatDoor
