import Derived.Test.YtfehjfoajlfhfaaGreatDoorQl
import Derived.Test.YtfehjfoajlfhfaaGreatDoorQm
import Derived.Test.YtfehjfoajlfhfaaGreatDoorQb
namespace Go.Proofs.YtfehjfoajlfhfaaGreatDoor
open Go.Sx
set_option maxRecDepth 100000
set_option pp.deepTerms false
set_option pp.maxSteps 300
set_option linter.unusedSimpArgs false
set_option linter.unusedVariables false
section
attribute [local irreducible] macD q01 strS q03
theorem qhs (A R : HP) (hE : Ent A R) (a : Option Addr) (cap : Nat) (l : List (List UInt8)) (hl : okK l) (hr : Rd R a (rowK l)) (h1 : 1 ≤ l.length) (h5 : l.length ≤ 5) :
    FB Tryz.prog 95 [.c (.rs a l.length cap)] A 5 (q0u l):=by
  have hr:=hr.ent hE;refine Con.of' tt_ok Tryz.func95 rfl (by decide) [.c (.rs a l.length cap)] [] [] rfl rfl trivial kk rfl ?_;conv=>whnf
  refine LoopOb.m (σ:=Nat × Option Addr × Nat) (fun s=>[(0,.c (.rs a l.length cap)),(3,.c (.rs s.2.1 (fillG [] (l.take s.1)).length s.2.2)),(4,.c (.int .i64 ((s.1 + 1 : Nat) : Int)))])
    (fun s=>⟨[],[],[Own s.2.1 s.2.2 5 1 (u8s (fillG [] (l.take s.1))),A]⟩) (fun s=>s.1 ≤ l.length - 1 ∧ Fc s.2.1 s.2.2 (fillG [] (l.take s.1))) (fun s=>l.length - 1 - s.1) (0,none,0) ⟨Nat.zero_le _,Fc.nil⟩ ?_ ?_
  · refine Wk.own0 5 1 ?_;exact Wk.m [] [0,0] kk trivial ⟨rfl,rfl⟩
  rintro ⟨i,a3,c3⟩ ⟨hi,hc⟩;dsimp only at hi hc ⊢;(conv=>whnf);refine Cond.d (fun h=>?_) (fun h=>?_)
  · have hi' : i < l.length:=by omega
    have hk : l[i].length = 32:=hl _ (List.getElem_mem hi');have hfl:=q67 (l.take i) [] (by rw [List.length_take];show 0 + _ ≤ _;omega);have ht : (l.take i).length = i:=by rw [List.length_take];omega
    rw [ht] at hfl;have hfl : (fillG [] (l.take i)).length = 32 * i:=by rw [hfl];show 0 + _ = _;omega
    obtain ⟨f1,hf1⟩ : ∃ f1,fillG [] (l.take (i + 1)) = f1:=⟨_,rfl⟩;have es:=q75 (l.take i) [] l[i];rw [← List.take_succ_eq_append_getElem hi',hf1] at es;have hf1l : f1.length = 32 * i + 32:=by rw [es,q5x (by omega),hfl]
    generalize fillG [] (l.take i) = f at hfl hc es ⊢;(conv=>whnf);refine q3m (n:=f.length) (k:=32) (xs:=u8s f) (z0:=.int .u8 0) (.refl _) (u8l _) rfl ⟨rfl,by decide,by decide⟩ rfl (by omega) 3 rfl ?_;intro a4 c4 hc4 hn4;(conv=>whnf);refine Ar.to ((i : Nat) : Int) (by omega) (Ar.i64 (by omega) ?_);(conv=>whnf);refine ⟨by omega,PtrOb.rd (A:=A) (by simp) hr (by rw [q0k hl];omega) fun p hp=>?_⟩;subst hp;(conv=>whnf);refine ldk (A:=A) (l:=l) i (by simp) hr hl hi' rfl rfl rfl (by show _ + (i : Int).toNat * 32 = _;omega) ?_
    (conv=>whnf);refine Cq.new (q9a _ l[i] hk 192 (by decide)) rfl ?_;rintro ⟨a5,c5⟩ ht;dsimp only at ht ⊢;have hsl:=q1o l[i];generalize q03 l[i] = Y at hsl es ⊢;rw [List.take_of_length_le (by omega : Y.length ≤ 192)];(conv=>whnf);have e1 : (192 : Int) - ((f.length + 32 : Nat) : Int) = ((192 - (f.length + 32) : Nat) : Int):=by omega
    rw [e1];refine Ar.i64 (by omega) ?_;(conv=>whnf);refine ⟨by omega,?_⟩;(conv=>whnf);have hul : u8s f ++ List.replicate 32 (Value.int .u8 0) = u8s (f ++ List.replicate 32 0):=by rw [q0n];simp [u8s,u8]
    rw [hul];have hfz : (f ++ List.replicate 32 (0 : UInt8)).length = f.length + 32:=by simp
    have hdl : (Y.drop (192 - (f.length + 32))).length = f.length + 32:=by rw [List.length_drop];omega
    have hrd : Rd (Own a5 c5 5 1 (u8s Y)) (cutA a5 c5 (192 - (f.length + 32)) 1) (u8s (Y.drop (192 - (f.length + 32)))):=by
      have:=qox (l:=Y) (a:=a5) (Own.rd (a:=a5) (cap:=c5) (e:=5) (size:=1) (xs:=u8s Y)) c5 (192 - (f.length + 32)) (f.length + 32) (by omega);rw [List.take_of_length_le (by omega)] at this;exact this
    refine Cq.fb (qb6 _ (Own a5 c5 5 1 (u8s Y)) (Own a4 c4 5 1 (u8s (f ++ List.replicate 32 0))) (Ent.a mm) (Ent.a mm) (cutA a5 c5 (192 - (f.length + 32)) 1) (c5 - (192 - (f.length + 32))) (Y.drop (192 - (f.length + 32))) hrd a4 c4 (f ++ List.replicate 32 0) Own.rd (by omega) (by omega)) ?_ fun a6 c6 hc6=>?_
    · rw [hfz,hdl];show [Value.slice (cutA a5 c5 (192 - (f.length + 32)) 1) (192 - (192 - (f.length + 32))) (c5 - (192 - (f.length + 32))),Value.slice a4 (f.length + 32) c4] = [Value.slice (cutA a5 c5 (192 - (f.length + 32)) 1) (f.length + 32) (c5 - (192 - (f.length + 32))),Value.slice a4 (f.length + 32) c4];rw [show 192 - (192 - (f.length + 32)) = f.length + 32 by omega]
    rw [← es] at hc6 ⊢;(conv=>whnf);refine Ar.i64 (by omega) ?_;(conv=>whnf);refine ⟨(i + 1,a6,c6),⟨by dsimp only;omega,by dsimp only;rw [hf1];exact hc6⟩,by dsimp only;omega,?_⟩;dsimp only;rw [hf1];exact Wk.m [] [0,2] kk trivial ⟨rfl,rfl⟩
  obtain rfl : i = l.length - 1:=by omega
  (conv=>whnf);exact Ret.m (a3,c3) [] [0,0] hc rfl kk kk ⟨rfl,rfl⟩
end
section
theorem qcw (A : HP) (c : Cmd) (hc : c.id.length = 8) : FB Tryz.prog 94 [.agg c.sg] A 5 c.enc.1:=by
  have hel:=Cmd.enc_len hc;refine Con.of' tt_ok Tryz.func94 rfl (by decide) [.agg c.sg] [] [] rfl rfl trivial ⟨Seg.ok_cmd c hc _,trivial⟩ rfl ?_;(conv=>whnf);intro b1;(conv=>whnf);refine Cq.pu (qgv _ c hc) rfl ?_;generalize c.enc = E at hel ⊢;obtain ⟨k,e⟩:=E;dsimp only at hel ⊢;(conv=>whnf);intro b3;conv=>whnf
  refine LoopOb.m (σ:=Nat × Option Addr × Nat) (fun s=>[(3,.c (.ptr 3 0)),(5,.c (.rs s.2.1 (k.take s.1).length s.2.2)),(6,.c (.int .i64 s.1))]) (fun s=>⟨[(3,b3)],[(3,[.many 16 (u8s k)],30)],[Own s.2.1 s.2.2 5 1 (u8s (k.take s.1)),A]⟩)
    (fun s=>s.1 ≤ 16 ∧ Fc s.2.1 s.2.2 (k.take s.1)) (fun s=>16 - s.1) (0,none,0) ⟨Nat.zero_le _,Fc.nil⟩ ?_ ?_
  · refine Wk.own0 5 1 ?_;exact Wk.m [3] [0,0] kk ⟨⟨kk,mok hel _,trivial⟩,trivial⟩ ⟨rfl,rfl⟩
  rintro ⟨i,a,c⟩ ⟨hi,hcc⟩;dsimp only at hi hcc ⊢;have hl : (k.take i).length = i:=by rw [List.length_take];omega
  (conv=>whnf);refine Cond.d (fun h=>?_) (fun h=>?_)
  · have hi' : i < 16:=by omega
    (conv=>whnf);refine ⟨by omega,?_⟩;(conv=>whnf);refine q0v i (by show (i : Int).toNat * 1 = i;omega) (by omega) ?_;(conv=>whnf);intro b13;(conv=>whnf);refine appb (l:=k.take i) (m:=[k[i]]) (.refl _) (by exact Src.u8 _ (q45 (by omega)) rfl) rfl rfl ⟨rfl,by decide,by decide⟩ (by rw [hl];simp;omega) 24 (.inr rfl) ?_;intro a2 c2 hc2;rw [← List.take_succ_eq_append_getElem (by omega)] at hc2 ⊢;(conv=>whnf);refine Ar.i64 (by omega) ?_;conv=>whnf
    exact ⟨(i + 1,a2,c2),⟨by dsimp only;omega,hc2⟩,by dsimp only;omega,Wk.m [3] [0,0] kk ⟨⟨kk,mok hel _,trivial⟩,trivial⟩ ⟨rfl,rfl⟩⟩
  obtain rfl : i = 16:=by omega
  have e2 : k.take 16 = k:=List.take_of_length_le (by omega);rw [e2] at hcc ⊢;(conv=>whnf);exact Ret.m (a,c) [] [0,0] hcc rfl kk kk ⟨rfl,rfl⟩
attribute [local irreducible] macD q01 strS q03 q00 q02 q0e q06 q05 q08
theorem qa8 : ∀ (l : List HopS) (chain out : List (List UInt8)) (alpha : List UInt8),(q2l chain alpha out l).2 = 0 ∨ (q2l chain alpha out l).2 = 7
  | [],_,_,_=>.inl rfl
  | h :: r,chain,out,alpha=>by
    by_cases e : (q02 h.key chain).2 = 0
    · by_cases e2 : (q00 (q08 (q02 h.key chain).1 alpha) alpha).2 = 0
      · rw [q5w e e2];exact qa8 r _ _ _
      · rw [q77 e e2];exact .inr rfl
    · rw [q71 e];exact .inr rfl
theorem qjq (x : List UInt8) (l : List HopS) : (q0a x l).2 = 0 ∨ (q0a x l).2 = 7:=by
  have:=qa8 l [x] [] (q05 x);unfold q0a;exact this
theorem q91 : ∀ (y s : List UInt8) (n : Nat),y.length ≤ n → xorB y (s.take n) = xorB y s
  | [],_,_,_=>rfl
  | _ :: _,[],n,_=>by rw [List.take_nil]
  | _ :: _,_ :: _,0,h=>absurd h (by simp)
  | a :: y,b :: s,n + 1,h=>by
    have:=q91 y s n (by simpa using h);show (a ^^^ b) :: xorB y (s.take n) = (a ^^^ b) :: xorB y s;rw [this]
theorem qa3 (A R : HP) (hE : Ent A R) (secret : List UInt8) (hs : secret.length = 32) (a : Option Addr) (cap : Nat) (l : List HopS) (hl : okHs l) (hr : Rd R a (rowH l)) (hn : l.length ≤ 5) :
    Con Tryz.prog 93 [.agg [.many 32 (u8s secret)],.c (.rs a l.length cap)] [] [] A (fun t : Option Addr × Nat=>Fc t.1 t.2 (q0a secret l).1) (fun t=>.tup [.c (.rs t.1 (q0a secret l).1.length t.2),.c (.bool (decide ((q0a secret l).2 = 0)))]) (fun _=>[]) (fun t=>[RowK t.1 t.2 23 (q0a secret l).1]):=by
  have hr:=hr.ent hE;have hks:=mok hs;have hpl:=q2p secret;have hpub:=fun A=>qcu A secret hs;unfold q0a;generalize hZ : q2l [secret] (q05 secret) [] l = Z;generalize q05 secret = al at hpl hpub hZ;obtain ⟨Z1,Z2⟩:=Z;dsimp only;refine Con.of' tt_ok Tryz.func93 rfl (by decide) [.agg [.many 32 (u8s secret)],.c (.rs a l.length cap)] [] [] rfl rfl trivial ⟨⟨hks _,trivial⟩,trivial,trivial⟩ rfl ?_;(conv=>whnf);intro b2;(conv=>whnf);intro b16;(conv=>whnf);refine Cq.pu (hpub _) rfl ?_;(conv=>whnf);intro b7
  conv=>whnf
  refine LoopOb.m (σ:=AgS) (fun s=>[(1,.c (.rs a l.length cap)),(6,.c (.rs s.x6.1 s.chain.length s.x6.2)),(7,.c (.ptr 7 0)),(8,.c (.rs s.x8.1 s.out.length s.x8.2)),(9,.c (.int .i64 s.i))])
    (fun s=>⟨[(7,b7)],[(7,[.many 32 (u8s s.alpha)],23)],[RowK s.x8.1 s.x8.2 23 s.out,RowK s.x6.1 s.x6.2 23 s.chain,A]⟩)
    (AgI (Z1,Z2) l) (fun s=>l.length - s.i) ⟨0,[secret],al,[],(some (radr (b16,0)),1),(none,0)⟩ ⟨Nat.zero_le _,q4t hs,rfl,hpl,q4j,rfl,Fc.nil,hZ⟩ ?_ ?_
  · refine Wk.own 16 1 1 32 ⟨_,_,rfl,⟨rfl,Nat.le_refl _⟩,⟨hks _,trivial⟩,Wk.own0 23 32 ?_⟩;refine Wk.m [7] [0,0,0] kk ⟨⟨kk,mok hpl _,trivial⟩,trivial⟩ ⟨rfl,?_⟩;show [Own none 0 _ 32 [],Own (some (radr (b16,0))) 1 _ 32 ((u8s secret ++ []).take (1 * 32)),A] = [Own none 0 _ 32 [],Own (some (radr (b16,0))) 1 _ 32 (u8s secret ++ []),A];rw [List.take_of_length_le (by rw [List.append_nil,u8l];omega)]
  rintro ⟨i,chain,al,out,⟨a6,c6⟩,⟨a8,c8⟩⟩ I;have hi:=I.i;have hc:=I.c;have hcl:=I.cl;have ha:=I.a;have ho:=I.o;have hol:=I.ol;have hf:=I.f;have hz:=I.z;dsimp only at hi hc hcl ha ho hol hf hz ⊢;(conv=>whnf);refine Cond.d (fun h=>?_) (fun h=>?_)
  · have hi' : i < l.length:=by omega
    have o : l[i].ok:=hl _ (List.getElem_mem hi');rw [List.drop_eq_getElem_cons hi'] at hz;(conv=>whnf);have hA:=fun (h0 : (q02 l[i].key chain).2 ≠ 0)=>(q71 (alpha:=al) (out:=out) (r:=l.drop (i + 1)) h0).symm.trans hz;have hB:=fun (h0 : (q02 l[i].key chain).2 = 0) (h1 : (q00 (q08 (q02 l[i].key chain).1 al) al).2 ≠ 0)=>(q77 (out:=out) (r:=l.drop (i + 1)) h0 h1).symm.trans hz
    have hC:=fun (h0 : (q02 l[i].key chain).2 = 0) (h1 : (q00 (q08 (q02 l[i].key chain).1 al) al).2 = 0)=>(q5w (out:=out) (r:=l.drop (i + 1)) h0 h1).symm.trans hz;clear hz;refine ⟨by omega,PtrOb.rd (A:=A) (by simp) hr (by rw [q1q hl];omega) fun p hp=>?_⟩;subst hp;(conv=>whnf);refine ldhk (A:=A) (l:=l) i (by simp) hr hl hi' rfl rfl rfl (by show _ + (i : Int).toNat * 43 = _;omega) ?_;(conv=>whnf);refine Cq.pu (ql3 _ (RowK a6 c6 23 chain) (Ent.a mm) a6 c6 l[i].key chain o.k hc Own.rd (by omega)) rfl ?_
    have hk:=q41 l[i].key chain;generalize q02 l[i].key chain = y at hA hB hC hk ⊢;obtain ⟨k,e1⟩:=y;dsimp only at hA hB hC hk ⊢;(conv=>whnf);intro b10;(conv=>whnf);refine Cond.neI (fun h1=>?_) (fun h1=>?_)
    · have hq:=hA h1;have hz1 : [] = Z1:=congrArg Prod.fst hq;have hz2 : 7 = Z2:=congrArg Prod.snd hq;subst hz1 hz2;(conv=>whnf);refine Ret.own0 23 32 ?_;exact Ret.m (none,0) [] [0,2] Fc.nil rfl kk kk ⟨rfl,rfl⟩
    have hB:=hB h1;have hC:=hC h1;(conv=>whnf);intro b39;(conv=>whnf);refine q1a (a:=a8) (n:=out.length) (cap:=c8) (xs:=rowK out) (k:=1) (ys:=u8s k) (src:=.c (.slc 39 0 1 1)) (F':=[RowK a6 c6 23 chain,A]) (.refl _) (q0k ho) (by rw [u8l,hk];rfl) (by exact Src.slc ⟨[],rfl⟩) (q0s _) (by show (out.length + 1 + (out.length + 1) / 4 + 192) * 32 ≤ 281474976710656;omega) (by omega) (by decide) 60 (.inr rfl) ?_;intro a8n c8n h8 h8n;(conv=>whnf);refine Cq.pu (qf2 _ k al hk ha) rfl ?_;have hbl:=q43 k al
    generalize q08 k al = b at hB hC hbl ⊢;(conv=>whnf);intro b12;(conv=>whnf);intro b46;(conv=>whnf);refine q1a (a:=a6) (n:=chain.length) (cap:=c6) (xs:=rowK chain) (k:=1) (ys:=u8s b) (src:=.c (.slc 46 0 1 1)) (F':=[Own a8n c8n 23 32 (rowK out ++ u8s k),A]) (.swap _ _ _) (q0k hc) (by rw [u8l,hbl];rfl) (by exact Src.slc ⟨[],rfl⟩) (q0s _) (by show (chain.length + 1 + (chain.length + 1) / 4 + 192) * 32 ≤ 281474976710656;omega) (by omega) (by decide) 60 (.inr rfl) ?_;intro a6n c6n h6 h6n;conv=>whnf
    refine Cq.pu (qdb _ b al hbl ha) rfl ?_;have htl:=q1y b al;generalize q00 b al = y at hB hC htl ⊢;obtain ⟨t,e2⟩:=y;dsimp only at hB hC htl ⊢;(conv=>whnf);intro b13;(conv=>whnf);refine Cond.neI (fun h2=>?_) (fun h2=>?_)
    · have hq:=hB h2;have hz1 : [] = Z1:=congrArg Prod.fst hq;have hz2 : 7 = Z2:=congrArg Prod.snd hq;subst hz1 hz2;(conv=>whnf);refine Ret.own0 23 32 ?_;exact Ret.m (none,0) [] [0,2] Fc.nil rfl kk kk ⟨rfl,rfl⟩
    have hC:=hC h2;(conv=>whnf);refine Ar.i64 (by omega) ?_;(conv=>whnf);have er : ∀ (x : List (List UInt8)) (y : List UInt8),rowK (x ++ [y]) = rowK x ++ u8s y:=fun x y=>by rw [q2r];simp [rowK]
    refine ⟨⟨i + 1,chain ++ [b],t,out ++ [k],(a6n,c6n),(a8n,c8n)⟩,⟨by dsimp only;omega,q46 hc (q4t hbl),by simp [hcl],htl,q46 ho (q4t hk),by simp [hol],⟨by simp;omega,fun h=>absurd (h8n h) (by omega)⟩,hC⟩,by dsimp only;omega,?_⟩;refine Wk.m [7] [1,0,0] ⟨⟨rfl,kk⟩,⟨?_,kk⟩,⟨rfl,kk⟩,⟨?_,kk⟩,⟨rfl,kk⟩,trivial⟩ ⟨⟨kk,mok htl _,trivial⟩,trivial⟩ ⟨rfl,?_⟩
    · show Value.slice a6n (chain.length + 1) c6n = Value.slice a6n (chain ++ [b]).length c6n;rw [List.length_append];rfl
    · show Value.slice a8n (out.length + 1) c8n = Value.slice a8n (out ++ [k]).length c8n;rw [List.length_append];rfl
    · show [_,_,_] = [Own a8n c8n 23 32 (rowK (out ++ [k])),Own a6n c6n 23 32 (rowK (chain ++ [b])),A];rw [er,er]
  obtain rfl : i = l.length:=by omega
  rw [List.drop_length] at hz;have hz1 : out = Z1:=congrArg Prod.fst hz;have hz2 : 0 = Z2:=congrArg Prod.snd hz;subst hz1 hz2;(conv=>whnf);exact Ret.m (a8,c8) [] [0,1] hf rfl kk kk ⟨rfl,rfl⟩
end
section
attribute [local irreducible] macD q01 strS q03 q00 q02 q0e q06 q05 q08 q0a q0d
theorem ql9 (A R : HP) (hE : Ent A R) (x : List UInt8) (hx : x.length = 32) (a : Option Addr) (cap : Nat) (hs : List HopS) (ho : okHs hs) (hr : Rd R a (rowH hs)) (hn : hs.length ≤ 1000000) (hz : (q0b x hs).2.2 ≠ 0) :
    Pu Tryz.prog 57 [.agg [.many 32 (u8s x)],.c (.rs a hs.length cap)] A (.tup [.agg [.many 32 (u8s zk),.one (.rs none 0 0),.many 16 (u8s (List.replicate 16 0))],.c (.rs none 0 0),.c (.int .i64 (q0b x hs).2.2)]):=by
  have hr:=hr.ent hE;have hks:=mok hx;have hz16 : (List.replicate 16 (0 : UInt8)).length = 16:=List.length_replicate;refine Con.of' tt_ok Tryz.func57 rfl (by decide) [.agg [.many 32 (u8s x)],.c (.rs a hs.length cap)] [] [] rfl rfl trivial ⟨⟨hks _,trivial⟩,trivial,trivial⟩ rfl ?_;(conv=>whnf);intro b2;(conv=>whnf);intro b4;(conv=>whnf);refine Cq.pu (q8i _ A (Ent.a mm) a cap hs ho hr (by omega)) rfl ?_
  cases hrt : q0d hs with
  | false =>
    rw [q7b hrt];(conv=>whnf);refine ⟨(fun _=>?_),(fun e=>nomatch e)⟩;(conv=>whnf);exact Ret.m () [] [0] trivial rfl ⟨⟨mok q1h _,trivial,mok hz16 _,trivial⟩,trivial,trivial,trivial⟩ kk ⟨rfl,rfl⟩
  | true =>
  obtain ⟨h1,h5⟩:=q3b hrt;(conv=>whnf);refine ⟨(fun e=>nomatch e),(fun _=>?_)⟩;(conv=>whnf);refine Cq.new (qa3 _ A (Ent.a mm) x hx a cap hs ho hr h5) rfl ?_;rintro ⟨a7,c7⟩ hf7;have hB:=q8m (x:=x) hrt;have hC:=q6q (x:=x) hrt;have hag:=qjq x hs;generalize q0a x hs = Z at hf7 hB hC hag ⊢;obtain ⟨ss,e7⟩:=Z;dsimp only at hf7 hB hC hag ⊢;have h2 : e7 ≠ 0:=fun e=>hz (by rw [hC e]);rw [hB h2,decide_eq_false h2];have h7 : e7 = 7:=hag.resolve_left h2;subst h7;conv=>whnf
  refine ⟨(fun _=>?_),(fun e=>nomatch e)⟩;(conv=>whnf);exact Ret.m () [] [1] trivial rfl ⟨⟨mok q1h _,trivial,mok hz16 _,trivial⟩,trivial,trivial,trivial⟩ kk ⟨rfl,rfl⟩
set_option maxHeartbeats 2000000 in
theorem qm1 (A R : HP) (hE : Ent A R) (x : List UInt8) (hx : x.length = 32) (a : Option Addr) (cap : Nat) (hs : List HopS) (ho : okHs hs) (hr : Rd R a (rowH hs)) (hn : hs.length ≤ 1000000) (hz : (q0b x hs).2.2 = 0) :
    Con Tryz.prog 57 [.agg [.many 32 (u8s x)],.c (.rs a hs.length cap)] [] [] A (fun t : (Option Addr × Nat) × (Option Addr × Nat)=>160 ≤ t.1.2 ∧ Fc t.2.1 t.2.2 (q0b x hs).2.1)
      (fun t=>.tup [.agg (rsg (q0b x hs).1 t.1.1 t.1.2),.c (.rs t.2.1 (q0b x hs).2.1.length t.2.2),.c (.int .i64 0)]) (fun _=>[]) (fun t=>[Own t.1.1 t.1.2 5 1 (u8s (q0b x hs).1.beta),RowK t.2.1 t.2.2 23 (q0b x hs).2.1]):=by
  have hr:=hr.ent hE;have hks:=mok hx;have hz16 : (List.replicate 16 (0 : UInt8)).length = 16:=List.length_replicate
  have hrt : q0d hs = true:=by
    cases h : q0d hs with
    | true=>rfl
    | false=>rw [q7b h] at hz;exact absurd hz (by decide)
  obtain ⟨h1,h5⟩:=q3b hrt;obtain ⟨hak,hal,hae⟩:=q6l x hs;have hag0 : (q0a x hs).2 = 0:=Decidable.byContradiction fun h=>by rw [q8m hrt h] at hz;exact h hz
  rw [q6q hrt hag0];have CS:=fun A R hE c hr=>qa3 A R hE x hx a c hs ho hr h5;rw [hag0] at CS;have hsl:=hae hag0;generalize (q0a x hs).1 = ss at hak hal hsl CS ⊢;dsimp only;refine Con.of' tt_ok Tryz.func57 rfl (by decide) [.agg [.many 32 (u8s x)],.c (.rs a hs.length cap)] [] [] rfl rfl trivial ⟨⟨hks _,trivial⟩,trivial,trivial⟩ rfl ?_;(conv=>whnf);intro b2;(conv=>whnf);intro b4;(conv=>whnf);refine Cq.pu (q8i _ A (Ent.a mm) a cap hs ho hr (by omega)) rfl ?_;rw [hrt];(conv=>whnf);refine ⟨(fun e=>nomatch e),(fun _=>?_)⟩
  (conv=>whnf);refine Cq.new (CS _ A (Ent.a mm) cap hr) rfl ?_;rintro ⟨a7,c7⟩ hf7;dsimp only at hf7 ⊢;(conv=>whnf);refine ⟨(fun e=>nomatch e),(fun _=>?_)⟩;(conv=>whnf);have hih : hs.length - 1 < hs.length:=by omega
  have hi7 : hs.length - 1 < ss.length:=by omega
  have hkl : ss[hs.length - 1].length = 32:=hak _ (List.getElem_mem hi7);have hcl : hs[hs.length - 1].cmd.id.length = 8:=(ho _ (List.getElem_mem hih)).c;have hfl:=q5p (l:=ss) (by omega) (by omega);obtain ⟨m,hm⟩ : ∃ m,160 - (q0u ss).length - 16 = m:=⟨_,rfl⟩
  have hb0 : betaJ ss hs 0 = xorB (hs[hs.length - 1].cmd.enc.1 ++ List.replicate m 0) (q03 ss[hs.length - 1]) ++ q0u ss:=by
    show layH (kAt ss (hs.length - 1)) (cAt hs (hs.length - 1)) _ ++ _ = _;rw [q5d hi7,q7n hih,hm];rfl
  refine Ar.i64 (by omega) ?_;(conv=>whnf);refine Ar.to ((16 + m : Nat) : Int) (by omega) (Ar.i64 (by omega) ?_);(conv=>whnf);refine Ar.i64 (by omega) ?_;(conv=>whnf);have e0 : (hs.length : Int) - 1 = ((hs.length - 1 : Nat) : Int):=by omega
  rw [e0];refine ⟨by omega,PtrOb.rd (A:=A) (by simp) hr (by rw [q1q ho];omega) fun p hp=>?_⟩;subst hp;(conv=>whnf);refine ldhc (A:=A) (l:=hs) (hs.length - 1) (by simp) hr ho hih rfl rfl rfl (by show _ + ((hs.length - 1 : Nat) : Int).toNat * 43 + 32 = _;omega) ?_;(conv=>whnf);refine Cq.fb (qcw _ hs[hs.length - 1].cmd hcl) rfl fun a8 c8 hc8=>?_;have hel:=Cmd.enc_len hcl;(conv=>whnf);refine Ar.to ((m : Nat) : Int) (by omega) (Ar.i64 (by omega) ?_);(conv=>whnf);generalize hs[hs.length - 1].cmd.enc.1 = E at hb0 hc8 hel ⊢
  refine q3m (n:=E.length) (k:=m) (xs:=u8s E) (z0:=.int .u8 0) (.refl _) (u8l _) rfl ⟨rfl,by decide,by decide⟩ rfl (by omega) 3 rfl ?_;clear hc8;intro a8 c8 hc8 hn8;have hul : u8s E ++ List.replicate m (Value.int .u8 0) = u8s (E ++ List.replicate m 0):=by rw [q0n,q4k]
  rw [hul];have hEl : (E ++ List.replicate m 0).length = E.length + m:=by rw [List.length_append,List.length_replicate]
  have hsE:=q1o ss[hs.length - 1];have hxt:=q91 (E ++ List.replicate m 0) (q03 ss[hs.length - 1]) (16 + m) (by omega);rw [← hxt] at hb0;(conv=>whnf);refine Ar.i64 (by omega) ?_;(conv=>whnf);rw [e0];refine ⟨by omega,PtrOb.rd (A:=RowK a7 c7 23 ss) (by simp) Own.rd (by rw [q0k hak];omega) fun p7 hp7=>?_⟩;subst hp7;(conv=>whnf);refine ldk (A:=RowK (some (radr p7)) c7 23 ss) (l:=ss) (hs.length - 1) (by simp) Own.rd hak hi7 rfl rfl rfl (by show _ + ((hs.length - 1 : Nat) : Int).toNat * 32 = _;omega) ?_;conv=>whnf
  refine Cq.new (q9a _ ss[hs.length - 1] hkl (16 + m) (by omega)) rfl ?_;rintro ⟨a49,c49⟩ h49;dsimp only at h49 ⊢;have hYl : ((q03 ss[hs.length - 1]).take (16 + m)).length = 16 + m:=by rw [List.length_take];omega
  clear hxt;generalize (q03 ss[hs.length - 1]).take (16 + m) = Y at hb0 hYl ⊢;(conv=>whnf);refine Cq.fb (qb6 _ (Own a49 c49 5 1 (u8s Y)) (Own a8 c8 5 1 (u8s (E ++ List.replicate m 0))) (Ent.a mm) (Ent.a mm) a49 c49 Y Own.rd a8 c8 (E ++ List.replicate m 0) Own.rd (by omega) (by omega)) (by rw [hYl,hEl];rfl) fun a51 c51 h51=>?_;have hXl:=q16 (l:=E ++ List.replicate m 0) (y:=Y) (by omega);rw [hEl] at hXl;generalize xorB (E ++ List.replicate m 0) Y = X at hb0 h51 hXl ⊢;conv=>whnf
  refine Cq.fb (qhs _ (RowK (some (radr p7)) c7 23 ss) (Ent.a mm) (some (radr p7)) c7 ss hak Own.rd (by omega) (by omega)) rfl fun a53 c53 h53=>?_;(conv=>whnf);refine Cq.fb (q9w _ (Own a51 c51 5 1 (u8s X)) (Own a53 c53 5 1 (u8s (q0u ss))) (Ent.a mm) (Ent.a mm) a51 c51 X Own.rd (by omega) a53 c53 (q0u ss) Own.rd (by omega)) rfl fun a12 c12 h12=>?_;rw [← hb0] at h12 ⊢;(conv=>whnf);refine Ar.i64 (by omega) ?_;(conv=>whnf);obtain ⟨N,hN⟩ : ∃ N,hs.length - 1 = N:=⟨_,rfl⟩;have hbl:=q61 ho h1 h5 hsl;rw [hN] at hbl
  have hz32 : (List.replicate 32 (0 : UInt8)).length = 32:=List.length_replicate
  refine LoopOb.m (σ:=Nat × Option Addr × Nat) (fun s=>[(1,.c (.rs (some (radr p)) hs.length cap)),(2,.c (.ptr 2 0)),(4,.c (.ptr 4 0)),(7,.c (.rs (some (radr p7)) ss.length c7)),(12,.c (.rs s.2.1 (betaJ ss hs s.1).length s.2.2)),(13,.c (.int .i64 ((N : Int) - 1 - s.1)))])
    (fun s=>⟨[(4,b4),(2,b2)],[(4,[.many 32 (u8s zk),.one (.rs none 0 0),.many 16 (u8s (List.replicate 16 0))],72),(2,[.many 32 (u8s x)],23)],[Own s.2.1 s.2.2 5 1 (u8s (betaJ ss hs s.1)),RowK (some (radr p7)) c7 23 ss,A]⟩)
    (fun s=>s.1 ≤ N ∧ Fc s.2.1 s.2.2 (betaJ ss hs s.1)) (fun s=>N - s.1) (0,a12,c12) ⟨Nat.zero_le _,h12⟩ ?_ ?_
  · refine Wk.m [4,2] [0,4,4] ⟨⟨rfl,kk⟩,⟨rfl,kk⟩,⟨rfl,kk⟩,⟨rfl,kk⟩,⟨rfl,kk⟩,⟨?_,kk⟩,trivial⟩ ⟨⟨kk,mok q1h _,trivial,mok hz16 _,trivial⟩,⟨kk,hks _,trivial⟩,trivial⟩ ⟨rfl,rfl⟩
    · show Value.int .i64 _ = Value.int .i64 ((N : Int) - 1 - (0 : Nat));congr 1;omega
  clear h12 h53 h51 h49 hb0 hYl hXl;rintro ⟨j,a12,c12⟩ ⟨hj,h12⟩;dsimp only at hj h12 ⊢;have hbj:=hbl j hj;(conv=>whnf);refine Cond.d (fun h=>?_) (fun h=>?_)
  · obtain ⟨i,hi⟩ : ∃ i,N - 1 - j = i:=⟨_,rfl⟩;have hi2 : (N : Int) - 1 - j = (i : Int):=by omega
    have his : i + 1 < ss.length:=by omega
    have hih2 : i < hs.length:=by omega
    have hk1 : ss[i + 1].length = 32:=hak _ (List.getElem_mem his);have hk0 : ss[i].length = 32:=hak _ (List.getElem_mem (by omega : i < ss.length));have hci : hs[i].cmd.id.length = 8:=(ho _ (List.getElem_mem hih2)).c
    have hbs : betaJ ss hs (j + 1) = xorB (hs[i].cmd.enc.1 ++ (q0j ss[i + 1] (betaJ ss hs j) ++ (betaJ ss hs j).take 128)) (q03 ss[i]):=by
      show layH (kAt ss (hs.length - 2 - j)) (cAt hs (hs.length - 2 - j)) (q0j (kAt ss (hs.length - 2 - j + 1)) _ ++ _) = _;rw [show hs.length - 2 - j = i by omega,q5d (by omega),q5d his,q7n hih2];rfl
    have hbl1:=hbl (j + 1) (by omega);obtain ⟨B1,hB1⟩ : ∃ B1,betaJ ss hs (j + 1) = B1:=⟨_,rfl⟩;rw [hB1] at hbs hbl1;generalize betaJ ss hs j = Bj at hbj h12 hbs ⊢;rw [hi2];(conv=>whnf);refine Draw.a (by kernel_rfl) tt_ok (Tv.of [0,1,2,3,4,6,7,8,9,10,11,5,12,13,14,15] .nil) 1000000 (by kernel_rfl) ?_;(conv=>whnf);refine ⟨by omega,PtrOb.rd (A:=A) (by simp) hr (by rw [q1q ho];omega) fun q hq=>?_⟩;obtain rfl:=q1z hq;conv=>whnf
    refine ldhc (A:=A) (l:=hs) i (by simp) hr ho hih2 rfl rfl rfl (by show _ + (i : Int).toNat * 43 + 32 = _;omega) ?_;(conv=>whnf);refine Ar.i64 (by omega) ?_;(conv=>whnf);refine ⟨by omega,PtrOb.rd (A:=RowK (some (radr p7)) c7 23 ss) (by simp) Own.rd (by rw [q0k hak];omega) fun q hq=>?_⟩;obtain rfl:=q1z hq;(conv=>whnf);refine ldk (A:=RowK (some (radr p7)) c7 23 ss) (l:=ss) (i + 1) (by simp) Own.rd hak his rfl rfl rfl (by show _ + ((i : Int) + 1).toNat * 32 = _;omega) ?_;conv=>whnf
    refine Cq.fb (qcw _ hs[i].cmd hci) rfl fun a66 c66 h66=>?_;have hel2:=Cmd.enc_len hci;generalize hs[i].cmd.enc.1 = E at hbs h66 hel2 ⊢;(conv=>whnf);refine Sub.r [4,2] [1,1,1] ?_;(conv=>whnf);refine Cq.pu (qfg _ (Own a12 c12 5 1 (u8s Bj)) (Ent.a mm) ss[i + 1] hk1 a12 c12 Bj ⟨Own.rd,h12⟩ (by omega)) rfl ?_;have hpl:=q24 ss[i + 1] Bj;generalize q0j ss[i + 1] Bj = T at hpl hbs ⊢;(conv=>whnf);refine Sub.r [4,2] [1,1,1] ?_;(conv=>whnf);refine Cq.fb (qes _ T hpl) rfl fun a74 c74 h74=>?_;conv=>whnf
    refine Sub.r [4,2] [2,2,2] ?_;(conv=>whnf);refine appb (l:=E) (m:=T) (.swap _ _ _) (Src.rs (A:=Own a74 c74 5 1 (u8s T)) (by simp) Own.rd) rfl rfl ⟨rfl,by decide,by decide⟩ (by omega) 24 (.inr rfl) ?_;clear h66;intro a66 c66 h66;(conv=>whnf);refine Sub.r [4,2] [2,2,2] ?_;(conv=>whnf);have hcc:=h12.1;refine ⟨⟨by omega,by omega⟩,?_⟩;conv=>whnf
    have h128 : Rd (Own a12 c12 5 1 (u8s Bj)) (cutA a12 c12 0 1) (u8s (Bj.take 128)):=by
      have:=(Own.rd (a:=a12) (cap:=c12) (e:=5) (size:=1) (xs:=u8s Bj)).cut c12 0 128 (by omega)
      rwa [List.drop_zero,← q1e] at this
    have hl128 : (Bj.take 128).length = 128:=by rw [List.length_take];omega
    refine appb (l:=E ++ T) (m:=Bj.take 128) (.refl _) (Src.rs (A:=Own a12 c12 5 1 (u8s Bj)) (by simp) h128) rfl (by show 128 = (Bj.take 128).length;omega) ⟨rfl,by decide,by decide⟩ (by rw [List.length_append];omega) 24 (.inr rfl) ?_;clear h66;intro a66 c66 h66;rw [List.append_assoc] at h66 ⊢;have hEl : (E ++ (T ++ Bj.take 128)).length = 160:=by rw [List.length_append,List.length_append];omega
    have hsE:=q1o ss[i];have hxt:=q91 (E ++ (T ++ Bj.take 128)) (q03 ss[i]) 160 (by omega);rw [← hxt] at hbs;(conv=>whnf);refine ⟨by omega,PtrOb.rd (A:=RowK (some (radr p7)) c7 23 ss) (by simp) Own.rd (by rw [q0k hak];omega) fun q hq=>?_⟩;obtain rfl:=q1z hq;(conv=>whnf);refine ldk (A:=RowK (some (radr p7)) c7 23 ss) (l:=ss) i (by simp) Own.rd hak (by omega) rfl rfl rfl (by show _ + (i : Int).toNat * 32 = _;omega) ?_;(conv=>whnf);refine Cq.new (q9a _ ss[i] hk0 160 (by omega)) rfl ?_;rintro ⟨a84,c84⟩ h84
    dsimp only at h84 ⊢;have hYl : ((q03 ss[i]).take 160).length = 160:=by rw [List.length_take];omega
    clear hxt;generalize (q03 ss[i]).take 160 = Y at hbs hYl ⊢;(conv=>whnf);generalize E ++ (T ++ Bj.take 128) = V at hbs h66 hEl ⊢;refine Cq.fb (qb6 _ (Own a84 c84 5 1 (u8s Y)) (Own a66 c66 5 1 (u8s V)) (Ent.a mm) (Ent.a mm) a84 c84 Y Own.rd a66 c66 V Own.rd (by omega) (by omega)) (by rw [hYl];rfl) fun a15 c15 h15=>?_;rw [← hbs] at h15 ⊢;(conv=>whnf);refine Ar.i64 (by omega) ?_;(conv=>whnf);refine ⟨(j + 1,a15,c15),⟨by dsimp only;omega,by dsimp only;rw [hB1];exact h15⟩,by dsimp only;omega,?_⟩;dsimp only;rw [hB1]
    refine Wk.m [4,2] [0,4,4] ⟨⟨rfl,kk⟩,⟨rfl,kk⟩,⟨rfl,kk⟩,⟨rfl,kk⟩,⟨rfl,kk⟩,⟨?_,kk⟩,trivial⟩ ⟨⟨kk,mok q1h _,trivial,mok hz16 _,trivial⟩,⟨kk,hks _,trivial⟩,trivial⟩ ⟨rfl,rfl⟩;show Value.int .i64 ((i : Int) - 1) = Value.int .i64 ((N : Int) - 1 - (j + 1 : Nat));congr 1;omega
  obtain rfl : j = N:=by omega
  rw [hN];generalize betaJ ss hs j = B at hbj h12 ⊢;(conv=>whnf);refine Draw.a (by kernel_rfl) tt_ok (Tv.of [0,2,3,4,5,6,9,1,7,8,10,11,12] .nil) 10 (by kernel_rfl) ?_;(conv=>whnf);have h0s : 0 < ss.length:=by omega
  have hk0 : ss[0].length = 32:=hak _ (List.getElem_mem h0s);refine ⟨by omega,PtrOb.rd (A:=RowK (some (radr p7)) c7 23 ss) (by simp) Own.rd (by rw [q0k hak];omega) fun q hq=>?_⟩;obtain rfl:=q1z hq;(conv=>whnf);refine ldk (A:=RowK (some (radr p7)) c7 23 ss) (l:=ss) 0 (by simp) Own.rd hak h0s rfl rfl rfl rfl ?_;rw [q5d h0s];(conv=>whnf);refine Cq.pu (qcu _ x hx) rfl ?_;(conv=>whnf);refine Sub.r [4,2] [0,0,0] ?_;conv=>whnf
  refine Cq.pu (qfg _ (Own a12 c12 5 1 (u8s B)) (Ent.a mm) ss[0] hk0 a12 c12 B ⟨Own.rd,h12⟩ (by omega)) rfl ?_;have hpl:=q24 ss[0] B;have hxl:=q2p x;generalize q0j ss[0] B = T at hpl ⊢;generalize q05 x = al at hxl ⊢;(conv=>whnf);refine Sub.r [4,2] [0,0,0] ?_;(conv=>whnf);exact Ret.m ((a12,c12),(some (radr p7),c7)) [] [0,0,0] ⟨by have:=h12.1;dsimp only;omega,hf7⟩ rfl ⟨⟨mok hxl _,trivial,mok hpl _,trivial⟩,trivial,trivial,trivial⟩ kk ⟨rfl,rfl⟩
end
end Go.Proofs.YtfehjfoajlfhfaaGreatDoor
