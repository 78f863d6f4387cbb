import Derived.Test.YtfehjfoajlfhfaaGreatDoorQt
import Derived.Test.YtfehjfoajlfhfaaGreatDoorQp
import Derived.Test.YtfehjfoajlfhfaaGreatDoorQl
import Derived.Test.YtfehjfoajlfhfaaGreatDoorQk
import Derived.Test.YtfehjfoajlfhfaaGreatDoorQr
namespace Go.Proofs.YtfehjfoajlfhfaaGreatDoor
open Go.Sx
set_option maxRecDepth 100000
set_option pp.deepTerms false
set_option pp.maxSteps 300
set_option linter.unusedSimpArgs false
set_option linter.unusedVariables false
section
attribute [local irreducible] macD q01 strS q03 q00 q02 q0e q06 q05 q08 q0a q0d q0b lionB lockS q09 openS sealS
abbrev rblk (b : BlkS) (a : Option Addr) (c : Nat) : List Seg:=[.one (.int .i64 b.first),.many 32 (u8s b.hdr.alpha),.one (.rs a b.hdr.beta.length c),.many 16 (u8s b.hdr.gamma),.many 32 (u8s b.key)]
theorem qbu {b : BlkS} (o : b.ok) (a : Option Addr) (c : Nat) (B : Names) : okL B (rblk b a c):=⟨trivial,mok o.h.a _,trivial,mok o.h.g _,mok o.k _,trivial⟩
end
section
def yS : List UInt8:=leB 47371584340190434397458396784519032097355506450803964851670834165077996928659 32
def yB : List UInt8:=leB 105991365953787104148501355336031109560706277261472932834829978090918445098656 32
def yL : List UInt8:=leB 950436945458596269233560777548935589443115095038540473484572424660469809581 32
def yR : List UInt8:=leB 100029567641555712401556018910590240453533776051034159060955394432410440606973 32
def yT : List UInt8:=leB 824078629372019450429776641997470831234491864765762117284113401491099291863499928828154056341928031643583348967079326906162473356283133259321496810056808301955017947010511470479092979736728625121408161932505436995128811170853285769707258921458812797303721982288470491245663386726553642754480758125801304865074589760103446204660069016981373851828835628137388005519470374749119398294581604563585219654800802678374180374161809865679206621085453407528435598515604266 192
def cm6 : Cmd:=⟨3,5,0,6 :: List.replicate 7 0⟩
def hopC : List HopS:=[⟨q05 ke1,cm6⟩]
def yE : List UInt8:=xorB (cm6.enc.1 ++ List.replicate 144 0) yT
theorem g_S : q02 zA1 [ke2] = (yS,0):=by decide +kernel
theorem g_K : q00 ke1 zA2 = (yS,0):=by decide +kernel
theorem g_B : q08 yS zA2 = yB:=by decide +kernel
theorem g_L : q00 yB zA2 = (yL,0):=by decide +kernel
theorem g_R : q01 yS [114,104,111] = yR:=by decide +kernel
theorem g_T : q03 yS = yT:=by
  unfold q03;rw [g_R];decide +kernel
theorem qnr : q0d hopC = true:=by decide +kernel
theorem qr6 : yE.length = 160:=by decide +kernel
theorem g_D : decC ((openB yS yE).take 16) = (cm6,0):=by
  unfold openB;rw [g_T];decide +kernel
attribute [local irreducible] macD q01 strS q03 q00 q02 q0e q06 q05 q08 openB q0j decC q0d q0u lionB tagH yE
theorem qjl : q0a ke2 hopC = ([yS],0):=by
  unfold q0a hopC;rw [f_A1,f_A2];have e1 : (q02 (HopS.mk zA1 cm6).key [ke2]).2 = 0:=by rw [g_S]
  have e2 : (q00 (q08 (q02 (HopS.mk zA1 cm6).key [ke2]).1 zA2) zA2).2 = 0:=by rw [g_S,g_B,g_L]
  rw [q5w e1 e2];have g1 : (q02 (HopS.mk zA1 cm6).key [ke2]).1 = yS:=by rw [g_S]
  rw [g1];rfl
theorem g_E : betaJ [yS] hopC 0 = yE:=by
  have e0 : q0u [yS] = []:=by unfold q0u;rfl
  show xorB (cm6.enc.1 ++ List.replicate (160 - (q0u [yS]).length - 16) 0) (q03 yS) ++ q0u [yS] = _;rw [e0,g_T,List.append_nil];unfold yE;rfl
def yH : HdrS:=⟨zA2,yE,q0j yS yE⟩
theorem qip : q0b ke2 hopC = (yH,[yS],0):=by
  rw [q6q qnr (by rw [qjl]),qjl];show (HdrS.mk (q05 ke2) (betaJ [yS] hopC 0) (q0j yS (betaJ [yS] hopC 0)),_,_) = _;rw [f_A2,g_E];rfl
theorem yH_ok : yH.ok:=⟨lbl _ _,qr6,q24 _ _⟩
theorem g_unw : ∃ n,q0h ke1 yH = (⟨cm6,n,yS,tagH yS⟩,0):=by
  refine ⟨⟨yL,((openB yS yE).drop 32).take 160,((openB yS yE).drop 16).take 16⟩,?_⟩;unfold yH;rw [uw_b (by rw [g_K]),g_K];rw [uw_d rfl];rw [uw_f (by rw [g_D])];rw [uw_h (by rw [g_B,g_L])];rw [g_D,g_B,g_L]
def ke3 : List UInt8:=3 :: List.replicate 31 0
def yBlk : BlkS:=⟨4,yH,ke3⟩
theorem qi2 : yBlk.ok:=⟨yH_ok,by decide⟩
theorem qqz : makeS ke2 ke3 4 hopC = (yBlk,⟨cm6.id,ke3,[q09 yS]⟩,0):=by
  have e : (lastC hopC) = cm6:=rfl;rw [qa2 (by decide),qa0 ⟨by decide,by rw [e];rfl⟩,qcy (by rw [qip]),qip,e];rfl
theorem g_use {room : List UInt8} (h : room.length = 512) : useS yBlk room = (encH yH ++ (sealS ke3 room).1,0):=by
  have:=(q7y (key:=ke3) h).2;show (if (sealS ke3 room).2 = 0 then (encH yH ++ (sealS ke3 room).1,(0 : Int)) else _) = _;rw [if_pos this]
theorem qq3 {b : List UInt8} (h : b.length = 528) : peelS ke1 (encH yH ++ b) = (⟨cm6,[],tagH yS,(q0p (q09 yS) b).1⟩,0):=by
  have he:=q5b yH_ok;have ht : (encH yH ++ b).take 208 = encH yH:=List.take_left' he;have hd : (encH yH ++ b).drop 208 = b:=List.drop_left' he;obtain ⟨n,hn⟩:=g_unw;have e:=qmx (own:=ke1) (p:=encH yH ++ b) (by rw [List.length_append];omega) (by rw [ht,qdg yH_ok,hn]);rw [ht,hd,qdg yH_ok,hn] at e;rw [e];exact (if_neg (show ¬(3 : Int) = 1 by decide)).trans ((if_neg (show ¬(3 : Int) = 2 by decide)).trans (if_pos rfl))
end
section
theorem qew {key b : List UInt8} (h1 : 33 ≤ b.length) (h2 : b.length ≤ 4096) : lockS key (q0p key b).1 = (b,0):=by
  have e1 : q0p key b = (lionB key b [4,3,2,1],0):=by
    show (if b.length < 33 then _ else if 4096 < b.length then _ else _) = _;rw [if_neg (by omega),if_neg (by omega)]
  have hl:=q4r [4,3,2,1] (key:=key) (b:=b) (by omega)
  have e2 : ∀ c : List UInt8,c.length = b.length → lockS key c = (lionB key c [1,2,3,4],0):=fun c hc=>by
    show (if c.length < 33 then _ else if 4096 < c.length then _ else _) = _;rw [if_neg (by omega),if_neg (by omega)]
  rw [e1];dsimp only;rw [e2 _ hl];have h3 : lionB key (lionB key b [4,3,2,1]) [1,2,3,4] = lionR key 4 (lionR key 3 (lionR key 2 (lionR key 1 (lionR key 1 (lionR key 2 (lionR key 3 (lionR key 4 b))))))):=rfl;have l4:=q3e (key:=key) (i:=4) (b:=b) (by omega);have l3:=q3e (key:=key) (i:=3) (b:=lionR key 4 b) (by omega);have l2:=q3e (key:=key) (i:=2) (b:=lionR key 3 (lionR key 4 b)) (by omega);rw [h3,q29 (by omega),q29 (by omega),q29 (by omega),q29 (by omega)]
attribute [local irreducible] macD q01 strS q03 q00 q02 q0e q06 q05 q08 q0a q0d q0b lionB lockS q0p q09 openB q0j decC tagH q13 q12 q11 q0h peelS leB openS sealS useS q4x makeS encBS
def room9 : List UInt8:=(List.replicate 512 0).set 9 9
theorem q9d : room9.length = 512:=by decide
theorem qjd (A : HP) (hK : Gl A) : Pu Tryz.prog 29 [] A (.c .tt):=by
  have k1l : ke1.length = 32:=by decide
  have k2l : ke2.length = 32:=by decide
  have k3l : ke3.length = 32:=by decide
  have p1l:=q2p ke1
  have hops : okHs hopC:=by
    intro h hh;simp only [hopC,List.mem_cons,List.not_mem_nil,or_false] at hh;subst hh;exact ⟨p1l,rfl⟩
  refine Con.of' tt_ok Tryz.func29 rfl (by decide) [] [] [] rfl rfl trivial trivial rfl ?_;(conv=>whnf);intro b1;(conv=>whnf);refine Cq.pu (qbp _ ke1 k1l) rfl ?_;(conv=>whnf);intro b23;(conv=>whnf);refine Cq.new (qnc _ _ (Ent.a (.head _)) (hK.ent (Ent.a mm)) ke2 k2l ke3 k3l 4 (some (radr (b23,0))) 1 hopC hops (qmt (by show _ = HopS.cs _ ++ [];simp [HopS.cs,dens,Seg.den,SC.den];exact ⟨rfl,rfl,rfl,rfl⟩)) (by decide)) rfl ?_;rw [qqz];rintro ⟨aL,cL⟩ hL;dsimp only at hL ⊢;(conv=>whnf);intro b2;(conv=>whnf);intro b3
  (conv=>whnf);refine ⟨by decide,?_⟩;intro b5;(conv=>whnf);refine ⟨⟨by decide,by decide⟩,?_⟩;(conv=>whnf);refine ⟨⟨rfl,by decide⟩,?_⟩;(conv=>whnf);refine Cq.new (use_c _ _ (Ent.a (.head _)) (hK.ent (Ent.a mm)) yBlk qi2 (some (radr (b5,0))) 512 room9 ⟨qmt (by kernel_rfl),by decide,fun h=>by cases h⟩ (by decide)) rfl ?_;rw [g_use q9d];have hsl:=q7y (key:=ke3) q9d;have hop:=qje (key:=ke3) q9d;generalize (sealS ke3 room9).1 = S9 at hsl hop ⊢;obtain ⟨hsl,_⟩:=hsl;have hel:=q5b yH_ok
  have hpk:=qq3 hsl;have hPl : (encH yH ++ S9).length = 736:=by rw [List.length_append];omega
  generalize encH yH ++ S9 = Pk at hpk hPl ⊢;rintro ⟨a6,c6,X6⟩ h6;dsimp only at h6 ⊢;(conv=>whnf);refine Cq.new (qqw _ X6 (Ent.a mm) (hK.ent (Ent.a mm)) ke1 k1l a6 c6 Pk h6 (by omega)) rfl ?_;rw [hpk];have hul:=(q5i (key:=q09 yS) (b:=S9) (by omega) (by omega)).1
  have hlk : lockA (q0p (q09 yS) S9).1 [q09 yS] = S9:=by
    have:=qew (key:=q09 yS) (b:=S9) (by omega) (by omega);show (lockS (q09 yS) (q0p (q09 yS) S9).1).1 = S9;rw [this]
  generalize (q0p (q09 yS) S9).1 = U9 at hul hlk ⊢;rintro ⟨an,cn,ar,cr,X8⟩ h8;dsimp only at h8 ⊢;(conv=>whnf);intro b8;(conv=>whnf);have hokL : okK [q09 yS]:=q4t (q2n _)
  have hoS : q4x ke3 [q09 yS] U9 = (room9,0):=by
    unfold q4x;rw [if_pos ⟨by omega,by decide,by decide⟩,hlk];have e : sealS ke3 room9 = ((sealS ke3 room9).1,(sealS ke3 room9).2):=rfl;exact hop
  refine Cq.by' [] [2] (qpi _ X8 (Ent.a mm) (hK.ent (Ent.a mm)) cm6.id rfl ke3 k3l aL cL [q09 yS] hokL ar cr U9 h8.2 (by omega)) rfl ⟨rfl,rfl,rfl,?_⟩
  rw [hoS];rintro ⟨a10,c10,X10⟩ h10;dsimp only at h10 ⊢;refine ⟨rfl,?_⟩;(conv=>whnf);refine Cq.new (qrb _ yBlk qi2) rfl ?_;have hen : encBS yBlk = (by8 4 :: (encH yH ++ ke3),0):=qj1 (by decide)
  have hell : (by8 4 :: (encH yH ++ ke3)).length = 241:=by
    show (encH yH ++ ke3).length + 1 = 241;rw [List.length_append];omega
  rw [hen];rintro ⟨a12,c12,X12⟩ h12;dsimp only at h12 ⊢;(conv=>whnf);refine Cond.eqI (fun _=>?_) (fun h=>absurd rfl h);(conv=>whnf);refine Cond.eqI (fun _=>?_) (fun h=>absurd rfl h);(conv=>whnf);refine Cond.eqI (fun _=>?_) (fun h=>absurd rfl h);(conv=>whnf);refine Cond.eqI (fun _=>?_) (fun h=>absurd rfl h);(conv=>whnf);refine q83 (l:=room9) (k:=room9.length) rfl rfl rfl (Src.rs (A:=X10) (by simp) h10.1) rfl (fun s e=>by cases e) ?_;conv=>whnf
  refine q83 (l:=room9) (k:=512) rfl rfl rfl (Src.slc (by exact ⟨[],by kernel_rfl⟩)) rfl (fun s e=>by cases e) ?_;(conv=>whnf);refine Cond.str (fun _=>?_) (fun h=>absurd rfl h);(conv=>whnf);have h8 : cm6.id.length = 8:=rfl;refine eq_id (l:=cm6.id) (m:=cm6.id) h8 h8 (List.append_nil _) (List.append_nil _) ?_;rw [decide_eq_true rfl];(conv=>whnf);refine ⟨fun _=>?_,fun h=>by cases h⟩;(conv=>whnf);refine eq_id (l:=cm6.id) (m:=cm6.id) h8 h8 (List.append_nil _) rfl ?_;rw [decide_eq_true rfl];conv=>whnf
  refine ⟨fun _=>?_,fun h=>by cases h⟩;(conv=>whnf);refine Cond.eqI (fun _=>?_) (fun h=>absurd rfl h);(conv=>whnf);refine Cond.eqI (fun _=>?_) (fun h=>absurd (by omega) h);(conv=>whnf);refine ⟨by omega,PtrOb.rd (A:=X12) (by simp) h12.1 (by rw [u8l];omega) fun p hp=>?_⟩;subst hp;(conv=>whnf);refine ldb (A:=X12) (l:=by8 4 :: (encH yH ++ ke3)) 0 (by simp) h12.1 (by omega) rfl rfl (by show _ + (0 : Int).toNat * 1 = _;omega) ?_;(conv=>whnf);exact Ret.m () [] [4] trivial rfl kk kk ⟨rfl,rfl⟩
end
section
attribute [local irreducible] macD q01 strS q03 q00 q02 q0e q06 q05 q08 q0a q0d q0b lionB lockS q0p q09 openB q0j decC tagH q13 q12 q11 q0h peelS openS sealS useS q4x makeS
theorem qn4 (A : HP) (b : BlkS) (o : b.ok) :
    Con Tryz.prog 34 [.agg b.sg] [] [] A (fun _ : Nat=>True) (fun q=>.agg (rblk b (some (radr (q,32))) 160)) (fun _=>[]) (fun q=>[OwnHd q b.hdr]):=by
  obtain ⟨f,⟨al,be,ga⟩,k⟩:=b;have h1:=o.h;have h2:=o.k;have hal:=h1.a;have hbe:=h1.b;have hga:=h1.g;dsimp only at h1 h2 hal hbe hga;show Con Tryz.prog 34 [.agg [.one (.int .i64 f),.many 32 (u8s al),.many 160 (u8s be),.many 16 (u8s ga),.many 32 (u8s k)]] [] [] A (fun _ : Nat=>True) (fun q=>.agg [.one (.int .i64 f),.many 32 (u8s al),.one (.rs (some (radr (q,32))) be.length 160),.many 16 (u8s ga),.many 32 (u8s k)]) (fun _=>[]) (fun q=>[OwnHd q ⟨al,be,ga⟩])
  refine Con.of' tt_ok Tryz.func34 rfl (by decide) [.agg [.one (.int .i64 f),.many 32 (u8s al),.many 160 (u8s be),.many 16 (u8s ga),.many 32 (u8s k)]] [] [] rfl rfl trivial ⟨BlkS.okL o _,trivial⟩ rfl ?_;(conv=>whnf);intro b1;(conv=>whnf);intro b2;(conv=>whnf);refine Draw.a (by kernel_rfl) tt_ok (Tv.of [0,1,2,3,5,6,4,7,8] .nil) 8 (by kernel_rfl) ?_;(conv=>whnf);refine Cq.new (qqy _ ⟨al,be,ga⟩ h1) rfl fun q _=>?_;(conv=>whnf);refine Sub.r [2,1] [1] ?_;(conv=>whnf);exact Ret.m q [] [0,0] trivial rfl (qbu o _ _ _) kk ⟨rfl,rfl⟩
end
section
attribute [local irreducible] macD q01 strS q03 q00 q02 q0e q06 q05 q08 q0a q0d q0b lionB lockS q0p q09 openB q0j decC tagH q13 q12 q11 q0h peelS openS sealS q4x makeS
attribute [local irreducible] useS
end
end Go.Proofs.YtfehjfoajlfhfaaGreatDoor
