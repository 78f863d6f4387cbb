import Derived.Test.YtfehjfoajlfhfaaGreatDoorQt
import Derived.Test.YtfehjfoajlfhfaaGreatDoorQp
import Derived.Test.YtfehjfoajlfhfaaGreatDoorQl
import Derived.Test.YtfehjfoajlfhfaaGreatDoorQk
import Derived.Test.YtfehjfoajlfhfaaGreatDoorQr
namespace Go.Proofs.YtfehjfoajlfhfaaGreatDoor
open Go.Sx
set_option maxRecDepth 100000
set_option pp.deepTerms false
set_option pp.maxSteps 300
set_option linter.unusedSimpArgs false
set_option linter.unusedVariables false
section
attribute [local irreducible] macD q01 strS q05 q00 q03 q0h q07 q06 q08 q0a q0j q0g lionB lockS q0e openS sealS
abbrev rblk (b : BlkS) (a : Option Addr) (c : Nat) : List Seg:=[.one (.int .i64 b.first),.many 32 (u8s b.hdr.alpha),.one (.rs a b.hdr.beta.length c),.many 16 (u8s b.hdr.gamma),.many 32 (u8s b.key)]
theorem q65 {b : BlkS} (o : b.ok) (a : Option Addr) (c : Nat) (B : Names) : okL B (rblk b a c):=⟨trivial,mok o.h.a _,trivial,mok o.h.g _,mok o.k _,trivial⟩
theorem qny (A R R' : HP) (hE : Ent A R) (hE' : Ent A R') (b : BlkS) (o : b.ok) (ah : Option Addr) (ch : Nat) (hh : Rd R' ah (u8s b.hdr.beta)) (a : Option Addr) (cap : Nat) (room : List UInt8) (hb : Bts R a cap room) (hn : room.length ≤ 1000000) :
    BXE 37 [.agg (rblk b ah ch),.c (.rs a room.length cap)] A (useS b room):=by
  have hb:=hb.ent hE;have hh:=hh.ent hE';obtain ⟨f,⟨al,be,ga⟩,k⟩:=b;have h1:=o.h;have h2:=o.k;have hal:=h1.a;have hbe:=h1.b;have hga:=h1.g;dsimp only at h1 h2 hal hbe hga hh;have CS:=fun A R hE a cap hb hn=>ql4 A R hE k h2 a cap room hb hn;have hS:=fun h=>q43 (key:=k) (room:=room) h;have hbad : room.length ≠ 512 → (sealS k room) = ([],5):=fun h=>by unfold sealS;exact if_neg h
  unfold useS;dsimp only;generalize sealS k room = S at CS hS hbad ⊢;obtain ⟨S,e⟩:=S;dsimp only at CS hS hbad ⊢;refine Con.of' tt_ok Tryz.func37 rfl (by decide) [.agg [.one (.int .i64 f),.many 32 (u8s al),.one (.rs ah be.length ch),.many 16 (u8s ga),.many 32 (u8s k)],.c (.rs a room.length cap)] [] [] rfl rfl trivial ⟨q65 o ah ch _,trivial,trivial⟩ rfl ?_;(conv=>whnf);intro b2;(conv=>whnf);refine Cq.new (CS _ A (Ent.a mm) a cap hb hn) rfl ?_;rintro ⟨a6,c6,X⟩ h6;dsimp only at h6 ⊢;(conv=>whnf);refine Cond.neI (fun he=>?_) (fun he=>?_)
  · rw [if_neg he];(conv=>whnf);refine Ret.own0 5 1 ?_;exact Ret.m (none,0,Own none 0 5 1 []) [] [0,1] q0u rfl kk kk ⟨rfl,rfl⟩
  subst he;rw [if_pos rfl]
  have h5 : room.length = 512:=Classical.byContradiction fun h=>by
    have:=congrArg Prod.snd (hbad h);exact absurd this (by show ¬(0 : Int) = 5;decide)
  obtain ⟨hSl,_⟩:=hS h5;(conv=>whnf);refine Cq.fb (q7p _ A (Ent.a mm) ⟨al,be,ga⟩ hal hga (by show be.length ≤ _;omega) ah ch hh) rfl fun a20 c20 h20=>?_;have hel:=q20 h1;(conv=>whnf);refine Cq.fb (q4a _ (Own a20 c20 5 1 (u8s (encH ⟨al,be,ga⟩))) X (Ent.a mm) (Ent.a mm) a20 c20 (encH ⟨al,be,ga⟩) Own.rd (by omega) a6 c6 S h6.1 (by omega)) rfl fun a22 c22 h22=>?_;(conv=>whnf);exact Ret.m (a22,c22,Own a22 c22 5 1 (u8s (encH ⟨al,be,ga⟩ ++ S))) [] [0,2] (q2i h22) rfl kk kk ⟨rfl,rfl⟩
theorem qhj {b t : Nat} {fz : Nat × Nat} {xs ys : List Value} (h : xs = ys) : Rd (blk b (.cells xs.toArray t fz)) (some (radr (b,0))) ys:=by
  subst h
  exact Rd.blk rfl fun j u hj=>by
    show xs.toArray[0 + j]? = some u;rw [List.getElem?_toArray,Nat.zero_add,hj]
theorem ql8 (A R' : HP) (hE' : Ent A R') (b : BlkS) (o : b.ok) (ah : Option Addr) (ch : Nat) (hh : Rd R' ah (u8s b.hdr.beta)) :
    BXE 41 [.agg (rblk b ah ch)] A (encBS b):=by
  have hh:=hh.ent hE';obtain ⟨f,⟨al,be,ga⟩,k⟩:=b;have h1:=o.h;have h2:=o.k;have hal:=h1.a;have hbe:=h1.b;have hga:=h1.g;dsimp only at h1 h2 hal hbe hga hh;have ha:=q63 (b:=⟨f,⟨al,be,ga⟩,k⟩);have hbb:=qcc (b:=⟨f,⟨al,be,ga⟩,k⟩);have hel:=q20 h1;dsimp only at ha hbb;have hn0 : f < 0 → nodeS f = false:=fun h=>decide_eq_false fun k=>by omega
  have hn1 : f > 15 → nodeS f = false:=fun h=>decide_eq_false fun k=>by omega
  have hn2 : ¬f < 0 → ¬f > 15 → nodeS f = true:=fun h k=>decide_eq_true (by omega);generalize encBS ⟨f,⟨al,be,ga⟩,k⟩ = Z at ha hbb ⊢;refine Con.of' tt_ok Tryz.func41 rfl (by decide) [.agg [.one (.int .i64 f),.many 32 (u8s al),.one (.rs ah be.length ch),.many 16 (u8s ga),.many 32 (u8s k)]] [] [] rfl rfl trivial ⟨q65 o ah ch _,trivial⟩ rfl ?_;(conv=>whnf);intro b1;(conv=>whnf);refine Cond.d (fun q1=>?_) (fun q1=>?_)
  · rw [hbb (hn0 q1)];(conv=>whnf);refine Ret.own0 5 1 ?_;exact Ret.m (none,0,Own none 0 5 1 []) [] [0,0] q0u rfl kk kk ⟨rfl,rfl⟩
  (conv=>whnf);refine Cond.d (fun q2=>?_) (fun q2=>?_)
  · rw [hbb (hn1 q2)];(conv=>whnf);refine Ret.own0 5 1 ?_;exact Ret.m (none,0,Own none 0 5 1 []) [] [0,0] q0u rfl kk kk ⟨rfl,rfl⟩
  rw [ha (hn2 q1 q2)];have hu1 : u8s [by8 f] = [Value.int .u8 (IntKind.u8.wrap f)]:=q8g f [];(conv=>whnf);refine Draw.a (by kernel_rfl) tt_ok (Tv.of [0,1,2,4,5] (.two 3 (Tv.of [6,7,8] .nil) 6 (Tv.of [3,7,8] .nil))) 1000000 (by kernel_rfl) ?_;(conv=>whnf);refine ⟨?_,?_⟩
  · (conv=>whnf);intro b12;(conv=>whnf);refine Sub.r [1] [0] ?_;(conv=>whnf);refine Cq.fb (q7p _ A (Ent.a mm) ⟨al,be,ga⟩ hal hga (by show be.length ≤ _;omega) ah ch hh) rfl fun a15 c15 h15=>?_;(conv=>whnf);refine Sub.r [1] [1] ?_;conv=>whnf
    refine Cq.fb (q4a _ (blk b12 (.cells ([Value.int .u8 (IntKind.u8.wrap f)] ++ []).toArray 5)) (Own a15 c15 5 1 (u8s (encH ⟨al,be,ga⟩))) (Ent.a mm) (Ent.a mm) (some (radr (b12,0))) 1 [by8 f] (by rw [hu1];exact qhj rfl) (by show 1 ≤ _;decide) a15 c15 (encH ⟨al,be,ga⟩) Own.rd (by omega)) rfl fun a20 c20 h20=>?_;(conv=>whnf);refine Sub.r [1] [2] ?_;(conv=>whnf);refine Cq.fb (q1y _ k h2) rfl fun a24 c24 h24=>?_;conv=>whnf
    refine appb (l:=[by8 f] ++ encH ⟨al,be,ga⟩) (m:=k) (.swap _ _ _) (Src.rs (A:=Own a24 c24 5 1 (u8s k)) (by simp) Own.rd) rfl rfl ⟨rfl,by decide,by decide⟩ (by rw [List.length_append];show 1 + _ + _ ≤ _;omega) 24 (.inr rfl) ?_;intro a25 c25 h25;(conv=>whnf);exact Ret.m (a25,c25,Own a25 c25 5 1 (u8s (by8 f :: (encH ⟨al,be,ga⟩ ++ k)))) [] [0,2] (q2i h25) rfl kk kk ⟨rfl,rfl⟩
  · (conv=>whnf);refine Cq.fb (q7p _ A (Ent.a mm) ⟨al,be,ga⟩ hal hga (by show be.length ≤ _;omega) ah ch hh) rfl fun a15 c15 h15=>?_;(conv=>whnf);refine Sub.r [1] [1] ?_;(conv=>whnf);intro b12;(conv=>whnf);refine Sub.r [1] [1] ?_;conv=>whnf
    refine Cq.fb (q4a _ (blk b12 (.cells ([Value.int .u8 (IntKind.u8.wrap f)] ++ []).toArray 5)) (Own a15 c15 5 1 (u8s (encH ⟨al,be,ga⟩))) (Ent.a mm) (Ent.a mm) (some (radr (b12,0))) 1 [by8 f] (by rw [hu1];exact qhj rfl) (by show 1 ≤ _;decide) a15 c15 (encH ⟨al,be,ga⟩) Own.rd (by omega)) rfl fun a20 c20 h20=>?_;(conv=>whnf);refine Sub.r [1] [2] ?_;(conv=>whnf);refine Cq.fb (q1y _ k h2) rfl fun a24 c24 h24=>?_;conv=>whnf
    refine appb (l:=[by8 f] ++ encH ⟨al,be,ga⟩) (m:=k) (.swap _ _ _) (Src.rs (A:=Own a24 c24 5 1 (u8s k)) (by simp) Own.rd) rfl rfl ⟨rfl,by decide,by decide⟩ (by rw [List.length_append];show 1 + _ + _ ≤ _;omega) 24 (.inr rfl) ?_;intro a25 c25 h25;(conv=>whnf);exact Ret.m (a25,c25,Own a25 c25 5 1 (u8s (by8 f :: (encH ⟨al,be,ga⟩ ++ k)))) [] [0,2] (q2i h25) rfl kk kk ⟨rfl,rfl⟩
end
section
def yS : List UInt8:=leB 47371584340190434397458396784519032097355506450803964851670834165077996928659 32
def yB : List UInt8:=leB 105991365953787104148501355336031109560706277261472932834829978090918445098656 32
def yL : List UInt8:=leB 950436945458596269233560777548935589443115095038540473484572424660469809581 32
def yR : List UInt8:=leB 100029567641555712401556018910590240453533776051034159060955394432410440606973 32
def yT : List UInt8:=leB 824078629372019450429776641997470831234491864765762117284113401491099291863499928828154056341928031643583348967079326906162473356283133259321496810056808301955017947010511470479092979736728625121408161932505436995128811170853285769707258921458812797303721982288470491245663386726553642754480758125801304865074589760103446204660069016981373851828835628137388005519470374749119398294581604563585219654800802678374180374161809865679206621085453407528435598515604266 192
def cm6 : Cmd:=⟨3,5,0,6 :: List.replicate 7 0⟩
def hopC : List HopS:=[⟨q06 ke1,cm6⟩]
def yE : List UInt8:=xorB (cm6.enc.1 ++ List.replicate 144 0) yT
theorem g_S : q03 zA1 [ke2] = (yS,0):=by decide +kernel
theorem g_K : q00 ke1 zA2 = (yS,0):=by decide +kernel
theorem g_B : q08 yS zA2 = yB:=by decide +kernel
theorem g_L : q00 yB zA2 = (yL,0):=by decide +kernel
theorem g_R : q01 yS [114,104,111] = yR:=by decide +kernel
theorem g_T : q05 yS = yT:=by
  unfold q05;rw [g_R];decide +kernel
theorem qkp : q0j hopC = true:=by decide +kernel
theorem qnm : yE.length = 160:=by decide +kernel
theorem g_D : decC ((openB yS yE).take 16) = (cm6,0):=by
  unfold openB;rw [g_T];decide +kernel
attribute [local irreducible] macD q01 strS q05 q00 q03 q0h q07 q06 q08 openB q0p decC q0j q13 lionB tagH yE
theorem qhy : q0a ke2 hopC = ([yS],0):=by
  unfold q0a hopC;rw [f_A1,f_A2];have e1 : (q03 (HopS.mk zA1 cm6).key [ke2]).2 = 0:=by rw [g_S]
  have e2 : (q00 (q08 (q03 (HopS.mk zA1 cm6).key [ke2]).1 zA2) zA2).2 = 0:=by rw [g_S,g_B,g_L]
  rw [q82 e1 e2];have g1 : (q03 (HopS.mk zA1 cm6).key [ke2]).1 = yS:=by rw [g_S]
  rw [g1];rfl
theorem g_E : betaJ [yS] hopC 0 = yE:=by
  have e0 : q13 [yS] = []:=by unfold q13;rfl
  show xorB (cm6.enc.1 ++ List.replicate (160 - (q13 [yS]).length - 16) 0) (q05 yS) ++ q13 [yS] = _;rw [e0,g_T,List.append_nil];unfold yE;rfl
def yH : HdrS:=⟨zA2,yE,q0p yS yE⟩
theorem qh2 : q0g ke2 hopC = (yH,[yS],0):=by
  rw [q9w qkp (by rw [qhy]),qhy];show (HdrS.mk (q06 ke2) (betaJ [yS] hopC 0) (q0p yS (betaJ [yS] hopC 0)),_,_) = _;rw [f_A2,g_E];rfl
theorem yH_ok : yH.ok:=⟨lbl _ _,qnm,q2f _ _⟩
theorem g_unw : ∃ n,q0f ke1 yH = (⟨cm6,n,yS,tagH yS⟩,0):=by
  refine ⟨⟨yL,((openB yS yE).drop 32).take 160,((openB yS yE).drop 16).take 16⟩,?_⟩;unfold yH;rw [uw_b (by rw [g_K]),g_K];rw [uw_d rfl];rw [uw_f (by rw [g_D])];rw [uw_h (by rw [g_B,g_L])];rw [g_D,g_B,g_L]
def ke3 : List UInt8:=3 :: List.replicate 31 0
def yBlk : BlkS:=⟨4,yH,ke3⟩
theorem qhk : yBlk.ok:=⟨yH_ok,by decide⟩
theorem qn1 : makeS ke2 ke3 4 hopC = (yBlk,⟨cm6.id,ke3,[q0e yS]⟩,0):=by
  have e : (lastC hopC) = cm6:=rfl;rw [qkc (by decide),qkb ⟨by decide,by rw [e];rfl⟩,qk5 (by rw [qh2]),qh2,e];rfl
theorem g_use {room : List UInt8} (h : room.length = 512) : useS yBlk room = (encH yH ++ (sealS ke3 room).1,0):=by
  have:=(q43 (key:=ke3) h).2;show (if (sealS ke3 room).2 = 0 then (encH yH ++ (sealS ke3 room).1,(0 : Int)) else _) = _;rw [if_pos this]
theorem qnq {b : List UInt8} (h : b.length = 528) : peelS ke1 (encH yH ++ b) = (⟨cm6,[],tagH yS,(q0m (q0e yS) b).1⟩,0):=by
  have he:=q20 yH_ok;have ht : (encH yH ++ b).take 208 = encH yH:=List.take_left' he;have hd : (encH yH ++ b).drop 208 = b:=List.drop_left' he;obtain ⟨n,hn⟩:=g_unw;have e:=qk9 (own:=ke1) (p:=encH yH ++ b) (by rw [List.length_append];omega) (by rw [ht,q8t yH_ok,hn]);rw [ht,hd,q8t yH_ok,hn] at e;rw [e];exact (if_neg (show ¬(3 : Int) = 1 by decide)).trans ((if_neg (show ¬(3 : Int) = 2 by decide)).trans (if_pos rfl))
end
section
theorem qdh {key b : List UInt8} (h1 : 33 ≤ b.length) (h2 : b.length ≤ 4096) : lockS key (q0m key b).1 = (b,0):=by
  have e1 : q0m key b = (lionB key b [4,3,2,1],0):=by
    show (if b.length < 33 then _ else if 4096 < b.length then _ else _) = _;rw [if_neg (by omega),if_neg (by omega)]
  have hl:=q3a [4,3,2,1] (key:=key) (b:=b) (by omega)
  have e2 : ∀ c : List UInt8,c.length = b.length → lockS key c = (lionB key c [1,2,3,4],0):=fun c hc=>by
    show (if c.length < 33 then _ else if 4096 < c.length then _ else _) = _;rw [if_neg (by omega),if_neg (by omega)]
  rw [e1];dsimp only;rw [e2 _ hl];have h3 : lionB key (lionB key b [4,3,2,1]) [1,2,3,4] = lionR key 4 (lionR key 3 (lionR key 2 (lionR key 1 (lionR key 1 (lionR key 2 (lionR key 3 (lionR key 4 b))))))):=rfl;have l4:=q39 (key:=key) (i:=4) (b:=b) (by omega);have l3:=q39 (key:=key) (i:=3) (b:=lionR key 4 b) (by omega);have l2:=q39 (key:=key) (i:=2) (b:=lionR key 3 (lionR key 4 b)) (by omega);rw [h3,q1x (by omega),q1x (by omega),q1x (by omega),q1x (by omega)]
attribute [local irreducible] macD q01 strS q05 q00 q03 q0h q07 q06 q08 q0a q0j q0g lionB lockS q0m q0e openB q0p decC tagH q0w q0x q0v q0f peelS leB openS sealS useS q4j makeS encBS
def room9 : List UInt8:=(List.replicate 512 0).set 9 9
theorem q7m : room9.length = 512:=by decide
theorem q7q (A : HP) (hK : Gl A) : Pu Tryz.prog 29 [] A (.c .tt):=by
  have k1l : ke1.length = 32:=by decide
  have k2l : ke2.length = 32:=by decide
  have k3l : ke3.length = 32:=by decide
  have p1l:=q42 ke1
  have hops : okHs hopC:=by
    intro h hh;simp only [hopC,List.mem_cons,List.not_mem_nil,or_false] at hh;subst hh;exact ⟨p1l,rfl⟩
  refine Con.of' tt_ok Tryz.func29 rfl (by decide) [] [] [] rfl rfl trivial trivial rfl ?_;(conv=>whnf);intro b1;(conv=>whnf);refine Cq.pu (qa9 _ ke1 k1l) rfl ?_;(conv=>whnf);intro b23;(conv=>whnf);refine Cq.new (qna _ _ (Ent.a (.head _)) (hK.ent (Ent.a mm)) ke2 k2l ke3 k3l 4 (some (radr (b23,0))) 1 hopC hops (qju (by show _ = HopS.cs _ ++ [];simp [HopS.cs,dens,Seg.den,SC.den];exact ⟨rfl,rfl,rfl,rfl⟩)) (by decide)) rfl ?_;rw [qn1];rintro ⟨aL,cL⟩ hL;dsimp only at hL ⊢;(conv=>whnf);intro b2;(conv=>whnf);intro b3
  (conv=>whnf);refine ⟨by decide,?_⟩;intro b5;(conv=>whnf);refine ⟨⟨by decide,by decide⟩,?_⟩;(conv=>whnf);refine ⟨⟨rfl,by decide⟩,?_⟩;(conv=>whnf);refine Cq.new (use_c _ _ (Ent.a (.head _)) (hK.ent (Ent.a mm)) yBlk qhk (some (radr (b5,0))) 512 room9 ⟨qju (by kernel_rfl),by decide,fun h=>by cases h⟩ (by decide)) rfl ?_;rw [g_use q7m];have hsl:=q43 (key:=ke3) q7m;have hop:=qbg (key:=ke3) q7m;generalize (sealS ke3 room9).1 = S9 at hsl hop ⊢;obtain ⟨hsl,_⟩:=hsl;have hel:=q20 yH_ok
  have hpk:=qnq hsl;have hPl : (encH yH ++ S9).length = 736:=by rw [List.length_append];omega
  generalize encH yH ++ S9 = Pk at hpk hPl ⊢;rintro ⟨a6,c6,X6⟩ h6;dsimp only at h6 ⊢;(conv=>whnf);refine Cq.new (qmo _ X6 (Ent.a mm) (hK.ent (Ent.a mm)) ke1 k1l a6 c6 Pk h6 (by omega)) rfl ?_;rw [hpk];have hul:=(q57 (key:=q0e yS) (b:=S9) (by omega) (by omega)).1
  have hlk : lockA (q0m (q0e yS) S9).1 [q0e yS] = S9:=by
    have:=qdh (key:=q0e yS) (b:=S9) (by omega) (by omega);show (lockS (q0e yS) (q0m (q0e yS) S9).1).1 = S9;rw [this]
  generalize (q0m (q0e yS) S9).1 = U9 at hul hlk ⊢;rintro ⟨an,cn,ar,cr,X8⟩ h8;dsimp only at h8 ⊢;(conv=>whnf);intro b8;(conv=>whnf);have hokL : okK [q0e yS]:=q85 (q3r _)
  have hoS : q4j ke3 [q0e yS] U9 = (room9,0):=by
    unfold q4j;rw [if_pos ⟨by omega,by decide,by decide⟩,hlk];have e : sealS ke3 room9 = ((sealS ke3 room9).1,(sealS ke3 room9).2):=rfl;exact hop
  refine Cq.by' [] [2] (qme _ X8 (Ent.a mm) (hK.ent (Ent.a mm)) cm6.id rfl ke3 k3l aL cL [q0e yS] hokL ar cr U9 h8.2 (by omega)) rfl ⟨rfl,rfl,rfl,?_⟩
  rw [hoS];rintro ⟨a10,c10,X10⟩ h10;dsimp only at h10 ⊢;refine ⟨rfl,?_⟩;(conv=>whnf);refine Cq.new (qe4 _ yBlk qhk) rfl ?_;have hen : encBS yBlk = (by8 4 :: (encH yH ++ ke3),0):=q63 (by decide)
  have hell : (by8 4 :: (encH yH ++ ke3)).length = 241:=by
    show (encH yH ++ ke3).length + 1 = 241;rw [List.length_append];omega
  rw [hen];rintro ⟨a12,c12,X12⟩ h12;dsimp only at h12 ⊢;(conv=>whnf);refine Cond.eqI (fun _=>?_) (fun h=>absurd rfl h);(conv=>whnf);refine Cond.eqI (fun _=>?_) (fun h=>absurd rfl h);(conv=>whnf);refine Cond.eqI (fun _=>?_) (fun h=>absurd rfl h);(conv=>whnf);refine Cond.eqI (fun _=>?_) (fun h=>absurd rfl h);(conv=>whnf);refine q0c (l:=room9) (k:=room9.length) rfl rfl rfl (Src.rs (A:=X10) (by simp) h10.1) rfl (fun s e=>by cases e) ?_;conv=>whnf
  refine q0c (l:=room9) (k:=512) rfl rfl rfl (Src.slc (by exact ⟨[],by kernel_rfl⟩)) rfl (fun s e=>by cases e) ?_;(conv=>whnf);refine Cond.str (fun _=>?_) (fun h=>absurd rfl h);(conv=>whnf);have h8 : cm6.id.length = 8:=rfl;refine eq_id (l:=cm6.id) (m:=cm6.id) h8 h8 (List.append_nil _) (List.append_nil _) ?_;rw [decide_eq_true rfl];(conv=>whnf);refine ⟨fun _=>?_,fun h=>by cases h⟩;(conv=>whnf);refine eq_id (l:=cm6.id) (m:=cm6.id) h8 h8 (List.append_nil _) rfl ?_;rw [decide_eq_true rfl];conv=>whnf
  refine ⟨fun _=>?_,fun h=>by cases h⟩;(conv=>whnf);refine Cond.eqI (fun _=>?_) (fun h=>absurd rfl h);(conv=>whnf);refine Cond.eqI (fun _=>?_) (fun h=>absurd (by omega) h);(conv=>whnf);refine ⟨by omega,PtrOb.rd (A:=X12) (by simp) h12.1 (by rw [u8l];omega) fun p hp=>?_⟩;subst hp;(conv=>whnf);refine ldb (A:=X12) (l:=by8 4 :: (encH yH ++ ke3)) 0 (by simp) h12.1 (by omega) rfl rfl (by show _ + (0 : Int).toNat * 1 = _;omega) ?_;(conv=>whnf);exact Ret.m () [] [4] trivial rfl kk kk ⟨rfl,rfl⟩
end
section
theorem qii {b : BlkS} (o : b.ok) {room : List UInt8} (h : (useS b room).2 = 0) : (useS b room).1.length = 736 ∧ room.length = 512:=by
  have h5 : room.length = 512:=Classical.byContradiction fun k=>by
    have e : sealS b.key room = ([],5):=if_neg k;have : (useS b room).2 = 5:=by unfold useS;rw [e];rfl
    rw [this] at h;cases h
  obtain ⟨h1,h2⟩:=q43 (key:=b.key) h5;refine ⟨?_,h5⟩;unfold useS;rw [if_pos h2];show (encH b.hdr ++ (sealS b.key room).1).length = 736;rw [List.length_append,q20 o.h,h1]
attribute [local irreducible] macD q01 strS q05 q00 q03 q0h q07 q06 q08 q0a q0j q0g lionB lockS q0m q0e openB q0p decC tagH q0w q0x q0v q0f peelS openS sealS useS q4j makeS
theorem q9n (A : HP) (b : BlkS) (o : b.ok) :
    Con Tryz.prog 34 [.agg b.sg] [] [] A (fun _ : Nat=>True) (fun q=>.agg (rblk b (some (radr (q,32))) 160)) (fun _=>[]) (fun q=>[OwnHd q b.hdr]):=by
  obtain ⟨f,⟨al,be,ga⟩,k⟩:=b;have h1:=o.h;have h2:=o.k;have hal:=h1.a;have hbe:=h1.b;have hga:=h1.g;dsimp only at h1 h2 hal hbe hga;show Con Tryz.prog 34 [.agg [.one (.int .i64 f),.many 32 (u8s al),.many 160 (u8s be),.many 16 (u8s ga),.many 32 (u8s k)]] [] [] A (fun _ : Nat=>True) (fun q=>.agg [.one (.int .i64 f),.many 32 (u8s al),.one (.rs (some (radr (q,32))) be.length 160),.many 16 (u8s ga),.many 32 (u8s k)]) (fun _=>[]) (fun q=>[OwnHd q ⟨al,be,ga⟩])
  refine Con.of' tt_ok Tryz.func34 rfl (by decide) [.agg [.one (.int .i64 f),.many 32 (u8s al),.many 160 (u8s be),.many 16 (u8s ga),.many 32 (u8s k)]] [] [] rfl rfl trivial ⟨BlkS.okL o _,trivial⟩ rfl ?_;(conv=>whnf);intro b1;(conv=>whnf);intro b2;(conv=>whnf);refine Draw.a (by kernel_rfl) tt_ok (Tv.of [0,1,2,3,5,6,4,7,8] .nil) 8 (by kernel_rfl) ?_;(conv=>whnf);refine Cq.new (qn4 _ ⟨al,be,ga⟩ h1) rfl fun q _=>?_;(conv=>whnf);refine Sub.r [2,1] [1] ?_;(conv=>whnf);exact Ret.m q [] [0,0] trivial rfl (q65 o _ _ _) kk ⟨rfl,rfl⟩
theorem qmx (W : World) (hK : Gl (old W)) (b : BlkS) (o : b.ok) (a : Option Addr) (cap : Nat) (room : List UInt8) (hb : Bts (old W) a cap room) : LawC Tryz.prog 9 [.agg b.sg,.c (.rs a room.length cap)] W:=by
  have CU:=fun A R hE hK a cap hb hn=>use_c A R hE hK b o a cap room hb hn;have RU:=fun A R R' hE hE' ah ch hh a cap hb hn=>qny A R R' hE hE' b o ah ch hh a cap room hb hn;have hlen:=fun h=>(qii o (room:=room) h).1;generalize useS b room = Z at CU RU hlen;obtain ⟨Z,e⟩:=Z;obtain ⟨f,⟨al,be,ga⟩,k⟩:=b;dsimp only at CU RU hlen
  refine Con.of' tt_ok Tryz.func9 rfl (by decide) [.agg [.one (.int .i64 f),.many 32 (u8s al),.many 160 (u8s be),.many 16 (u8s ga),.many 32 (u8s k)],.c (.rs a room.length cap)] [] [] rfl rfl trivial ⟨BlkS.okL o _,trivial,trivial⟩ rfl ?_;(conv=>whnf);intro b2;(conv=>whnf);refine Cq.pu (q7q _ (hK.ent (Ent.a mm))) rfl ?_;(conv=>whnf);refine Cond.d (fun hl=>?_) (fun hl=>?_)
  · (conv=>whnf);exact Ret.m () [] [0] trivial rfl kk kk ⟨rfl,rfl⟩
  (conv=>whnf);refine Cq.new (CU _ (old W) (Ent.a mm) (hK.ent (Ent.a mm)) a cap hb (by omega)) rfl ?_;rintro ⟨a5,c5,X5⟩ h5;dsimp only at h5 ⊢;(conv=>whnf);refine Cq.new (q9n _ ⟨f,⟨al,be,ga⟩,k⟩ o) rfl fun q _=>?_;(conv=>whnf);refine Cq.new (RU _ (old W) (OwnHd q ⟨al,be,ga⟩) (Ent.a mm) (Ent.a mm) (some (radr (q,32))) 160 (OwnHd.rd o.h) a cap hb (by omega)) rfl ?_;rintro ⟨a7,c7,X7⟩ h7;dsimp only at h7 ⊢;(conv=>whnf);refine q0c (l:=Z) (k:=Z.length) rfl rfl rfl (Src.rs (A:=X5) (by simp) h5.1) rfl (fun s e=>by cases e) ?_
  (conv=>whnf);refine q0c (l:=Z) (k:=Z.length) rfl rfl rfl (Src.rs (A:=X7) (by simp) h7.1) rfl (fun s e=>by cases e) ?_;(conv=>whnf);refine Cond.str (fun _=>?_) (fun h=>absurd rfl h);(conv=>whnf);refine Cond.eqI (fun _=>?_) (fun h=>absurd rfl h);(conv=>whnf);refine Cond.neI (fun he=>?_) (fun he=>?_)
  · (conv=>whnf);exact Ret.m () [] [3] trivial rfl kk kk ⟨rfl,rfl⟩
  (conv=>whnf);exact Ret.m () [] [3] trivial (by show Value.bool (((Z.length : Nat) : Int) == 736) = Value.bool true;rw [hlen he];rfl) kk kk ⟨rfl,rfl⟩
end
section
attribute [local irreducible] macD q01 strS q05 q00 q03 q0h q07 q06 q08 q0a q0j q0g lionB lockS q0m q0e openB q0p decC tagH q0w q0x q0v q0f peelS openS sealS q4j makeS
theorem qie {b : BlkS} {room : List UInt8} (h : room.length ≠ 512) : useS b room = ([],5):=by
  have e : sealS b.key room = ([],5):=by unfold sealS;exact if_neg h
  unfold useS;rw [e];rfl
theorem qg6 {b : BlkS} {room : List UInt8} (h : room.length = 512) : ∃ S,useS b room = (encH b.hdr ++ S,0) ∧ S.length = 528 ∧ openS b.key S = (room,0):=by
  obtain ⟨h1,h2⟩:=q43 (key:=b.key) h;refine ⟨(sealS b.key room).1,?_,h1,qbg h⟩;unfold useS;rw [if_pos h2]
attribute [local irreducible] useS
set_option maxHeartbeats 2000000 in
theorem ql2 (W : World) (hK : Gl (old W)) (b : BlkS) (o : b.ok) (a : Option Addr) (cap : Nat) (room : List UInt8) (hb : Bts (old W) a cap room) : LawC Tryz.prog 11 [.agg b.sg,.c (.rs a room.length cap)] W:=by
  have CU:=fun A R hE hK a cap hb hn=>use_c A R hE hK b o a cap room hb hn;have hbad:=qie (b:=b) (room:=room);have hgood:=qg6 (b:=b) (room:=room);generalize useS b room = Z at CU hbad hgood;obtain ⟨f,⟨al,be,ga⟩,k⟩:=b;have h1:=o.h;have h2:=o.k;dsimp only at CU hbad hgood h1 h2;have hel:=q20 h1;refine Con.of' tt_ok Tryz.func11 rfl (by decide) [.agg [.one (.int .i64 f),.many 32 (u8s al),.many 160 (u8s be),.many 16 (u8s ga),.many 32 (u8s k)],.c (.rs a room.length cap)] [] [] rfl rfl trivial ⟨BlkS.okL o _,trivial,trivial⟩ rfl ?_
  (conv=>whnf);intro b2;(conv=>whnf);refine Cq.pu (q7q _ (hK.ent (Ent.a mm))) rfl ?_;(conv=>whnf);refine Cond.d (fun hl=>?_) (fun hl=>?_)
  · (conv=>whnf);exact Ret.m () [] [0] trivial rfl kk kk ⟨rfl,rfl⟩
  (conv=>whnf);refine Cq.new (CU _ (old W) (Ent.a mm) (hK.ent (Ent.a mm)) a cap hb (by omega)) rfl ?_;rintro ⟨a5,c5,X5⟩ h5;dsimp only at h5 ⊢
  by_cases hr5 : room.length = 512
  case neg =>
    rw [hbad hr5] at h5 ⊢;(conv=>whnf);refine Cond.neI (fun _=>?_) (fun h=>absurd h (by decide));(conv=>whnf);refine Cond.eqI (fun _=>?_) (fun h=>absurd rfl h);(conv=>whnf);refine Cond.neI (fun _=>?_) (fun h=>absurd (by omega) hr5);(conv=>whnf);exact Ret.m () [] [1] trivial rfl kk kk ⟨rfl,rfl⟩
  obtain ⟨S,rfl,hSl,hop⟩:=hgood hr5;dsimp only at h5 ⊢;have hZl : (encH ⟨al,be,ga⟩ ++ S).length = 736:=by rw [List.length_append];omega
  have hcp:=h5.2.1
  have hb2 : Bts X5 (cutA a5 c5 208 1) (c5 - 208) S:=by
    have:=h5.drop 208 (by omega)
    rwa [List.drop_left' hel] at this
  have hpre : Bts X5 (cutA a5 c5 0 1) (c5 - 0) (encH ⟨al,be,ga⟩):=by
    have:=h5.sub 0 208 (by omega)
    rwa [List.drop_zero,List.take_left' hel] at this
  (conv=>whnf);refine Cond.neI (fun h=>absurd rfl h) (fun _=>?_);(conv=>whnf);refine Draw.a (by kernel_rfl) tt_ok (Tv.of (List.range 10) .nil) 1000000 (by kernel_rfl) ?_;(conv=>whnf);refine ⟨by omega,?_⟩;(conv=>whnf);refine Cq.new (qke _ X5 (Ent.a mm) (hK.ent (Ent.a mm)) k h2 (cutA a5 c5 208 1) (c5 - 208) S hb2 (by omega)) (by rw [hZl,hSl];rfl) ?_;rw [hop];rintro ⟨a7,c7,X7⟩ h7;dsimp only at h7 ⊢;(conv=>whnf);refine Sub.r [2] [1,1] ?_;conv=>whnf
  refine Draw.a (by kernel_rfl) tt_ok (Tv.of [0,1,2,3,4,5,7,8] (.two 6 (Tv.of [9,10,11,12,13,14,15,16,17,18,20] (.two 19 (Tv.of [21,22,23,24] .nil) 21 (Tv.of [19,22,23,24] .nil))) 9 ((.two 6 (Tv.of [10,11,12,13,14,15,16,17,18,20] (.two 19 (Tv.of [21,22,23,24] .nil) 21 (Tv.of [19,22,23,24] .nil))) 10 (Tv.of [6,11,12,13,14,15,16,17,18,20] (.two 19 (Tv.of [21,22,23,24] .nil) 21 (Tv.of [19,22,23,24] .nil))))))) 1000000 (by kernel_rfl) ?_;(conv=>whnf);refine Cond.eqI (fun _=>?_) (fun h=>absurd (by omega) h);conv=>whnf
  refine ⟨⟨by omega,by omega⟩,?_⟩;(conv=>whnf);refine ⟨?_,?_⟩
  · (conv=>whnf);refine q0c (l:=encH ⟨al,be,ga⟩) (k:=208) rfl rfl rfl (Src.rs (A:=X5) (by simp) hpre.1) hel (fun s e=>by cases e) ?_;(conv=>whnf);refine Sub.r [2] [0,0,0] ?_;(conv=>whnf);refine Cq.fb (q4t _ ⟨al,be,ga⟩ h1) rfl fun a51 c51 h51=>?_;(conv=>whnf);refine Sub.r [2] [1,1,1] ?_;(conv=>whnf);refine q0c (l:=encH ⟨al,be,ga⟩) (k:=(encH ⟨al,be,ga⟩).length) rfl rfl rfl (Src.rs (A:=Own a51 c51 5 1 (u8s (encH ⟨al,be,ga⟩))) (by simp) Own.rd) rfl (fun s e=>by cases e) ?_;(conv=>whnf);refine Sub.r [2] [1,1,1] ?_
    (conv=>whnf);refine Cond.str (fun _=>?_) (fun h=>absurd rfl h);(conv=>whnf);refine Cond.eqI (fun _=>?_) (fun h=>absurd rfl h);(conv=>whnf);refine ⟨?_,?_⟩
    · (conv=>whnf);refine q0c (l:=room) (k:=room.length) rfl rfl rfl (Src.rs (A:=X7) (by simp) h7.1) rfl (fun s e=>by cases e) ?_;(conv=>whnf);refine Sub.r [2] [1,1,1] ?_;(conv=>whnf);refine q0c (l:=room) (k:=room.length) rfl rfl rfl (Src.rs (A:=old W) (by simp) hb.1) rfl (fun s e=>by cases e) ?_;(conv=>whnf);refine Sub.r [2] [1,1,1] ?_;(conv=>whnf);exact Ret.m () [] [3] trivial (by show Value.bool ((bs room).toList == (bs room).toList) = Value.bool true;rw [beq_self_eq_true]) kk kk ⟨rfl,rfl⟩
    · (conv=>whnf);refine q0c (l:=room) (k:=room.length) rfl rfl rfl (Src.rs (A:=old W) (by simp) hb.1) rfl (fun s e=>by cases e) ?_;(conv=>whnf);refine Sub.r [2] [1,1,1] ?_;(conv=>whnf);refine q0c (l:=room) (k:=room.length) rfl rfl rfl (Src.rs (A:=X7) (by simp) h7.1) rfl (fun s e=>by cases e) ?_;(conv=>whnf);refine Sub.r [2] [1,1,1] ?_;(conv=>whnf);exact Ret.m () [] [3] trivial (by show Value.bool ((bs room).toList == (bs room).toList) = Value.bool true;rw [beq_self_eq_true]) kk kk ⟨rfl,rfl⟩
  · (conv=>whnf);refine Cq.fb (q4t _ ⟨al,be,ga⟩ h1) rfl fun a51 c51 h51=>?_;(conv=>whnf);refine Sub.r [2] [1,1,1] ?_;(conv=>whnf);refine ⟨?_,?_⟩
    · (conv=>whnf);refine q0c (l:=encH ⟨al,be,ga⟩) (k:=208) rfl rfl rfl (Src.rs (A:=X5) (by simp) hpre.1) hel (fun s e=>by cases e) ?_;(conv=>whnf);refine Sub.r [2] [1,1,1] ?_;(conv=>whnf);refine q0c (l:=encH ⟨al,be,ga⟩) (k:=(encH ⟨al,be,ga⟩).length) rfl rfl rfl (Src.rs (A:=Own a51 c51 5 1 (u8s (encH ⟨al,be,ga⟩))) (by simp) Own.rd) rfl (fun s e=>by cases e) ?_;(conv=>whnf);refine Sub.r [2] [1,1,1] ?_;(conv=>whnf);refine Cond.str (fun _=>?_) (fun h=>absurd rfl h);conv=>whnf
      refine Cond.eqI (fun _=>?_) (fun h=>absurd rfl h);(conv=>whnf);refine ⟨?_,?_⟩
      · (conv=>whnf);refine q0c (l:=room) (k:=room.length) rfl rfl rfl (Src.rs (A:=X7) (by simp) h7.1) rfl (fun s e=>by cases e) ?_;(conv=>whnf);refine Sub.r [2] [1,1,1] ?_;(conv=>whnf);refine q0c (l:=room) (k:=room.length) rfl rfl rfl (Src.rs (A:=old W) (by simp) hb.1) rfl (fun s e=>by cases e) ?_;(conv=>whnf);refine Sub.r [2] [1,1,1] ?_;(conv=>whnf);exact Ret.m () [] [3] trivial (by show Value.bool ((bs room).toList == (bs room).toList) = Value.bool true;rw [beq_self_eq_true]) kk kk ⟨rfl,rfl⟩
      · (conv=>whnf);refine q0c (l:=room) (k:=room.length) rfl rfl rfl (Src.rs (A:=old W) (by simp) hb.1) rfl (fun s e=>by cases e) ?_;(conv=>whnf);refine Sub.r [2] [1,1,1] ?_;(conv=>whnf);refine q0c (l:=room) (k:=room.length) rfl rfl rfl (Src.rs (A:=X7) (by simp) h7.1) rfl (fun s e=>by cases e) ?_;(conv=>whnf);refine Sub.r [2] [1,1,1] ?_;(conv=>whnf);exact Ret.m () [] [3] trivial (by show Value.bool ((bs room).toList == (bs room).toList) = Value.bool true;rw [beq_self_eq_true]) kk kk ⟨rfl,rfl⟩
    · (conv=>whnf);refine q0c (l:=encH ⟨al,be,ga⟩) (k:=(encH ⟨al,be,ga⟩).length) rfl rfl rfl (Src.rs (A:=Own a51 c51 5 1 (u8s (encH ⟨al,be,ga⟩))) (by simp) Own.rd) rfl (fun s e=>by cases e) ?_;(conv=>whnf);refine Sub.r [2] [1,1,1] ?_;(conv=>whnf);refine q0c (l:=encH ⟨al,be,ga⟩) (k:=208) rfl rfl rfl (Src.rs (A:=X5) (by simp) hpre.1) hel (fun s e=>by cases e) ?_;(conv=>whnf);refine Sub.r [2] [1,1,1] ?_;(conv=>whnf);refine Cond.str (fun _=>?_) (fun h=>absurd rfl h);conv=>whnf
      refine Cond.eqI (fun _=>?_) (fun h=>absurd rfl h);(conv=>whnf);refine ⟨?_,?_⟩
      · (conv=>whnf);refine q0c (l:=room) (k:=room.length) rfl rfl rfl (Src.rs (A:=X7) (by simp) h7.1) rfl (fun s e=>by cases e) ?_;(conv=>whnf);refine Sub.r [2] [1,1,1] ?_;(conv=>whnf);refine q0c (l:=room) (k:=room.length) rfl rfl rfl (Src.rs (A:=old W) (by simp) hb.1) rfl (fun s e=>by cases e) ?_;(conv=>whnf);refine Sub.r [2] [1,1,1] ?_;(conv=>whnf);exact Ret.m () [] [3] trivial (by show Value.bool ((bs room).toList == (bs room).toList) = Value.bool true;rw [beq_self_eq_true]) kk kk ⟨rfl,rfl⟩
      · (conv=>whnf);refine q0c (l:=room) (k:=room.length) rfl rfl rfl (Src.rs (A:=old W) (by simp) hb.1) rfl (fun s e=>by cases e) ?_;(conv=>whnf);refine Sub.r [2] [1,1,1] ?_;(conv=>whnf);refine q0c (l:=room) (k:=room.length) rfl rfl rfl (Src.rs (A:=X7) (by simp) h7.1) rfl (fun s e=>by cases e) ?_;(conv=>whnf);refine Sub.r [2] [1,1,1] ?_;(conv=>whnf);exact Ret.m () [] [3] trivial (by show Value.bool ((bs room).toList == (bs room).toList) = Value.bool true;rw [beq_self_eq_true]) kk kk ⟨rfl,rfl⟩
end
end Go.Proofs.YtfehjfoajlfhfaaGreatDoor
