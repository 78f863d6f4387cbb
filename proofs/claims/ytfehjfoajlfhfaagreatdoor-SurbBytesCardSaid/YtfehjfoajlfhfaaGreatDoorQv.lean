import Derived.Test.YtfehjfoajlfhfaaGreatDoorQu
import Derived.Test.YtfehjfoajlfhfaaGreatDoorQn
import Derived.Test.YtfehjfoajlfhfaaGreatDoorQl
import Derived.Test.YtfehjfoajlfhfaaGreatDoorQm
import Derived.Test.YtfehjfoajlfhfaaGreatDoorQo
import Derived.Test.YtfehjfoajlfhfaaGreatDoorQj
namespace Go.Proofs.YtfehjfoajlfhfaaGreatDoor
open Go.Sx
set_option maxRecDepth 100000
set_option pp.deepTerms false
set_option pp.maxSteps 300
set_option linter.unusedSimpArgs false
set_option linter.unusedVariables false
section
attribute [local irreducible] macD q01 strS q05 q00 q03 q0h q07 q06 q08 q0a q0j q0g lionB lockS q0e openS sealS
abbrev rblk0 : List Seg:=[.one (.int .i64 0),.many 32 (u8s zk),.one (.rs none 0 0),.many 16 (u8s (List.replicate 16 0)),.many 32 (u8s zk)]
theorem q5m (B : Names) : okL B rblk0:=by
  have h16 : (List.replicate 16 (0 : UInt8)).length = 16:=List.length_replicate;exact ⟨trivial,mok q2d _,trivial,mok h16 _,mok q2d _,trivial⟩
theorem qmg (A R : HP) (hE : Ent A R) (a : Option Addr) (cap : Nat) (c : List UInt8) (hb : Bts R a cap c) (hn : c.length ≤ 1000000) (hz : (decBS c).2 ≠ 0) :
    Pu Tryz.prog 43 [.c (.rs a c.length cap)] A (.tup [.agg rblk0,.c (.int .i64 5)]):=by
  have hb:=hb.ent hE;have hr:=hb.1;have hq : ¬(c.length = 241 ∧ gd c 0 < 16):=fun k=>hz (by rw [q6j k]);refine Con.of' tt_ok Tryz.func43 rfl (by decide) [.c (.rs a c.length cap)] [] [] rfl rfl trivial kk rfl ?_;(conv=>whnf);intro b2;(conv=>whnf);refine Cond.neI (fun h=>?_) (fun h=>?_)
  · (conv=>whnf);exact Ret.m () [] [0] trivial rfl ⟨q5m _,trivial,trivial⟩ kk ⟨rfl,rfl⟩
  have hl : c.length = 241:=by omega
  (conv=>whnf);refine ⟨by omega,PtrOb.rd (A:=A) (by simp) hr (by rw [u8l];omega) fun p hp=>?_⟩;subst hp;(conv=>whnf);refine ldb (A:=A) (l:=c) 0 (by simp) hr (by omega) rfl rfl (by show _ + (0 : Int).toNat * 1 = _;omega) ?_;(conv=>whnf);refine Cond.d (fun h=>?_) (fun h=>?_)
  · (conv=>whnf);exact Ret.m () [] [0] trivial rfl ⟨q5m _,trivial,trivial⟩ kk ⟨rfl,rfl⟩
  · omega
theorem qlu (A R : HP) (hE : Ent A R) (a : Option Addr) (cap : Nat) (c : List UInt8) (hb : Bts R a cap c) (hl : c.length = 241) (hg : gd c 0 < 16) :
    Pu Tryz.prog 43 [.c (.rs a c.length cap)] A (.tup [.agg (rblk (decOk c) (cutA (cutA a cap 1 1) (cap - 1) 32 1) (cap - 1 - 32)),.c (.int .i64 0)]):=by
  have hb:=hb.ent hE;have hr:=hb.1;have hcp:=hb.2.1;have hl2 : ((c.drop 1).take 208).length = 208:=by rw [List.length_take,List.length_drop];omega
  have hb1 : Bts A (cutA a cap 1 1) (cap - 1) ((c.drop 1).take 208):=hb.sub 1 208 (by omega);have oh:=q76 hl2;have hkk : (c.drop 209).length = 32:=by rw [List.length_drop];omega
  unfold decOk;have hz : (List.replicate 32 (Value.int .u8 0)).length = 32:=List.length_replicate;have hz2 : ∀ v ∈ (List.replicate 32 (Value.int .u8 0)),Value.oneCell' v = true:=fun v hv=>by rw [(List.mem_replicate.1 hv).2];rfl
  have hy : (List.replicate 16 (Value.int .u8 0)).length = 16:=List.length_replicate;have hy2 : ∀ v ∈ (List.replicate 16 (Value.int .u8 0)),Value.oneCell' v = true:=fun v hv=>by rw [(List.mem_replicate.1 hv).2];rfl
  have CD:=fun A R hE=>qhp A R hE (cutA a cap 1 1) (cap - 1) ((c.drop 1).take 208);generalize hdrOf ((c.drop 1).take 208) = hd at oh CD ⊢;obtain ⟨al,be,ga⟩:=hd;have hal:=oh.a;have hbe:=oh.b;have hga:=oh.g;dsimp only at hal hbe hga CD ⊢;refine Con.of' tt_ok Tryz.func43 rfl (by decide) [.c (.rs a c.length cap)] [] [] rfl rfl trivial kk rfl ?_;(conv=>whnf);intro b2;(conv=>whnf);refine Cond.neI (fun h=>absurd (by omega) h) (fun h=>?_);(conv=>whnf);refine ⟨by omega,PtrOb.rd (A:=A) (by simp) hr (by rw [u8l];omega) fun p hp=>?_⟩;subst hp
  (conv=>whnf);refine ldb (A:=A) (l:=c) 0 (by simp) hr (by omega) rfl rfl (by show _ + (0 : Int).toNat * 1 = _;omega) ?_;(conv=>whnf);refine Cond.d (fun h=>absurd h (by omega)) (fun h=>?_);(conv=>whnf);refine ⟨⟨by omega,by omega⟩,⟨by omega,by omega⟩,?_⟩;(conv=>whnf);refine Cq.pu (CD _ A (Ent.a mm) hb1 hl2) (by rw [hl2];rfl) ?_;(conv=>whnf);intro b4;(conv=>whnf);refine Draw.a (by kernel_rfl) tt_ok (Tv.of (List.range 8) .nil) 7 (by kernel_rfl) ?_;conv=>whnf
  refine ⟨by omega,PtrOb.rd (A:=A) (by simp) hr (by rw [u8l];omega) fun p2 hp2=>?_⟩;obtain rfl:=q1z hp2;(conv=>whnf);refine ldb (A:=A) (l:=c) 0 (by simp) hr (by omega) rfl rfl (by show _ + (0 : Int).toNat * 1 = _;omega) ?_;(conv=>whnf);have hg2:=gd_lt c 0;refine Ar.i64 (by omega) ?_;(conv=>whnf);intro b6;(conv=>whnf);refine Sub.r [4,2] [0] ?_;conv=>whnf
  refine LoopOb.m (σ:=Nat) (fun i=>[(0,.c (.rs (some (radr p)) c.length cap)),(2,.c (.ptr 2 0)),(6,.c (.ptr 6 0)),(7,.c (.int .i64 i))])
    (fun i=>⟨[(6,b6),(4,b4),(2,b2)],[(6,[.one (.int .i64 (gd c 0 : Nat)),.many 32 (u8s al),.one (.rs (cutA (cutA (some (radr p)) cap 1 1) (cap - 1) 32 1) be.length (cap - 1 - 32)),.many 16 (u8s ga),.many 32 (u8s (fillP (c.drop 209) 32 i))],74),(4,[.many 32 (u8s al),.one (.rs (cutA (cutA (some (radr p)) cap 1 1) (cap - 1) 32 1) be.length (cap - 1 - 32)),.many 16 (u8s ga)],72),(2,rblk0,74)],[A]⟩) (fun i=>i ≤ 32) (fun i=>32 - i) 0 (Nat.zero_le _)
    (Wk.m [6,4,2] [0] kk ⟨⟨kk,trivial,mok hal _,trivial,mok hga _,mok (q1l hkk (Nat.zero_le _)) _,trivial⟩,⟨kk,mok hal _,trivial,mok hga _,trivial⟩,⟨kk,q5m _⟩,trivial⟩ ⟨by rw [q3q];rfl,rfl⟩) ?_
  intro i hi;(conv=>whnf);refine Cond.d (fun h=>?_) (fun h=>?_)
  · have hi' : i < 32:=by omega
    (conv=>whnf);refine Ar.i64 (by omega) ?_;(conv=>whnf);refine ⟨by omega,PtrOb.rd (A:=A) (by simp) hr (by rw [u8l];omega) fun p3 hp3=>?_⟩;obtain rfl:=q1z hp3;(conv=>whnf);refine ldb (A:=A) (209 + i) (by simp) hr (by omega) rfl rfl (by show _ + ((209 : Int) + i).toNat * 1 = _;omega) ?_;rw [q2r (l:=c) (i:=209 + i) (by omega)];(conv=>whnf);refine ⟨by omega,?_⟩;(conv=>whnf);refine ⟨⟨rfl,by show (i : Int).toNat * 1 + 1 ≤ 32;omega⟩,?_⟩;(conv=>whnf);refine Ar.i64 (by omega) ?_;conv=>whnf
    have s1:=q4k hkk (m:=i) hi' (c:=c[209 + i]'(by omega)) (by simp [hi']);have em : (i : Int).toNat * 1 = i:=by omega
    have s2 : (u8s (fillP (c.drop 209) 32 i)).take ((i : Int).toNat * 1) ++ ([u8 (c[209 + i]'(by omega))] ++ (u8s (fillP (c.drop 209) 32 i)).drop ((i : Int).toNat * 1 + 1)) = u8s (fillP (c.drop 209) 32 (i + 1)):=by rw [em];exact s1
    refine ⟨i + 1,by omega,by omega,Wk.m [6,4,2] [0] kk ⟨⟨kk,trivial,mok hal _,trivial,mok hga _,mok (q1l hkk (by omega)) _,trivial⟩,⟨kk,mok hal _,trivial,mok hga _,trivial⟩,⟨kk,q5m _⟩,trivial⟩ ⟨?_,rfl⟩⟩;rw [← s2];rfl
  obtain rfl : i = 32:=by omega
  rw [q4b hkk];(conv=>whnf);exact Ret.m () [] [0] trivial rfl ⟨⟨trivial,mok hal _,trivial,mok hga _,mok hkk _,trivial⟩,trivial,trivial⟩ kk ⟨rfl,rfl⟩
end
section
attribute [local irreducible] macD q01 strS q05 q00 q03 q0h q07 q06 q08 q0a q0j q0g lionB lockS q0e openS sealS
end
section
attribute [local irreducible] macD q01 strS q05 q00 q03 q0h q07 q06 q08 q0a q0j q0g lionB lockS q0e openS sealS
theorem qh1 (A R R' : HP) (hE : Ent A R) (hE' : Ent A R') (b : BlkS) (o : b.ok) (a a' : Option Addr) (c c' : Nat) (hb : Rd R a (u8s b.hdr.beta)) (hb' : Rd R' a' (u8s b.hdr.beta)) :
    Pu Tryz.prog 33 [.agg (rblk b a c),.agg (rblk b a' c')] A (.c .tt):=by
  obtain ⟨f,⟨al,be,ga⟩,k⟩:=b;have h1:=o.h;have h2:=o.k;have hal:=h1.a;have hbe:=h1.b;have hga:=h1.g;dsimp only at h1 h2 hal hbe hga hb hb';have hr:=hb.ent hE;have hr':=hb'.ent hE';refine Con.of' tt_ok Tryz.func33 rfl (by decide) [.agg [.one (.int .i64 f),.many 32 (u8s al),.one (.rs a be.length c),.many 16 (u8s ga),.many 32 (u8s k)],.agg [.one (.int .i64 f),.many 32 (u8s al),.one (.rs a' be.length c'),.many 16 (u8s ga),.many 32 (u8s k)]] [] [] rfl rfl trivial ⟨q65 o a c _,q65 o a' c' _,trivial⟩ rfl ?_;(conv=>whnf);intro b2;conv=>whnf
  intro b3;(conv=>whnf);refine Cond.eqI (fun h=>absurd h (by omega)) (fun h=>?_);(conv=>whnf);refine Cond.eqI (fun _=>?_) (fun h=>absurd rfl h);(conv=>whnf);refine Cq.pu (qgp _ A A (Ent.a mm) (Ent.a mm) ⟨al,be,ga⟩ hal hga a a' c c' hr hr') rfl ?_;(conv=>whnf);refine qbo (l:=k) (m:=k) h2 h2 (by simp [dens,Seg.den]) (by simp [dens,Seg.den]) ?_;rw [decide_eq_true rfl];(conv=>whnf);exact Ret.m () [] [0] trivial rfl kk kk ⟨rfl,rfl⟩
theorem qfv (A R : HP) (hE : Ent A R) (a : Option Addr) (c : Nat) (hb : Rd R a (u8s blk0.hdr.beta)) :
    Pu Tryz.prog 33 [.agg (rblk blk0 a c),.agg rblk0] A (.c .tt):=by
  have hr:=hb.ent hE;have h160 : (List.replicate 160 (0 : UInt8)).length = 160:=List.length_replicate;refine Con.of' tt_ok Tryz.func33 rfl (by decide) [.agg (rblk blk0 a c),.agg rblk0] [] [] rfl rfl trivial ⟨q65 qar a c _,q5m _,trivial⟩ rfl ?_;(conv=>whnf);intro b2;(conv=>whnf);intro b3;(conv=>whnf);refine Cond.eqI (fun h=>?_) (fun h=>absurd rfl h);(conv=>whnf);refine ⟨by decide,?_⟩;intro b10;(conv=>whnf);refine Cond.eqI (fun _=>?_) (fun h=>absurd rfl h);(conv=>whnf);have hh0 : hdr0.beta = List.replicate 160 0:=rfl
  refine Cq.pu (qgp _ A (blk b10 (.cells (List.replicate 160 (Value.int .u8 0) ++ []).toArray 5)) (Ent.a mm) (Ent.a mm) hdr0 hdr0_ok.a hdr0_ok.g a (some (radr (b10,0))) c 160 hr (by rw [hh0,q4r];exact q1c)) rfl ?_;(conv=>whnf);refine qbo (l:=zk) (m:=zk) q2d q2d (by show u8s zk ++ [] = _;rw [List.append_nil]) (by show u8s zk ++ [] = _;rw [List.append_nil]) ?_;rw [decide_eq_true rfl];(conv=>whnf);exact Ret.m () [] [0] trivial rfl kk kk ⟨rfl,rfl⟩
end
section
attribute [local irreducible] macD q01 strS q05 q00 q03 q0h q07 q06 q08 q0a q0j q0g lionB lockS q0m q0e openB q0p decC tagH q0w q0x q0v q0f peelS openS sealS useS q4j makeS q22
end
section
def blkSh : Sh:=.pair (.int .i64) (.pair hdrSh (.pair (.barr 32) .unit))
theorem qh8 : Fits Tryz.prog blkSh 66 = true:=by simp only [Fits,q1u,blkSh,hdrSh,Tryz.underlying66,Tryz.underlying3,Tryz.underlying59,Tryz.underlying23,Tryz.underlying57,Tryz.underlying31,Tryz.underlying5];kernel_rfl
theorem qnt : Tryz.prog.keyTypeAt 15 66 = true:=by kernel_rfl
theorem qmr : Tryz.prog.eqGuardType Tryz.prog.depth 66 = false:=by kernel_rfl
theorem qe7 {b : BlkS} (o : b.ok) (w : (Lit.int .i64 b.first).wf = true) (R : HP) : Go.Sx.Good R blkSh (b.first,(b.hdr.alpha,b.hdr.beta,b.hdr.gamma,()),b.key,()) (dens [] b.sg) :=
  ⟨_,_,rfl,⟨rfl,w⟩,dens [] b.hdr.sg,_,by simp [dens,Seg.den],qjr o.h R,_,_,rfl,⟨o.k,rfl⟩,rfl⟩
theorem qkl {c d : BlkS} {xs ys : List Value} {f : Bool → Prop} (hc : c.ok) (wc : (Lit.int .i64 c.first).wf = true) (hd : d.ok) (wd : (Lit.int .i64 d.first).wf = true) (ex : xs = dens [] c.sg) (ey : ys = dens [] d.sg) (h : ∀ b : Bool,(b = true ↔ c = d) → f b) : EqAgg Tryz.prog 66 xs ys f:=by
  subst ex ey;refine qe2 (s:=blkSh) (R:=fun _=>True) (R':=fun _=>True) ⟨_,_,.inl rfl⟩ rfl qh8 qnt (by decide) qmr (qe7 hc wc _) (qe7 hd wd _) fun b hb=>h b (hb.trans ?_);obtain ⟨n,⟨a,z,g⟩,k⟩:=c;obtain ⟨n',⟨a',z',g'⟩,k'⟩:=d;refine ⟨fun e=>?_,fun e=>by cases e;rfl⟩;have e0 : n = n':=congrArg (fun z : blkSh.T=>z.1) e;have e1 : a = a':=congrArg (fun z : blkSh.T=>z.2.1.1) e;have e2 : z = z':=congrArg (fun z : blkSh.T=>z.2.1.2.1) e;have e3 : g = g':=congrArg (fun z : blkSh.T=>z.2.1.2.2.1) e
  have e4 : k = k':=congrArg (fun z : blkSh.T=>z.2.2.1) e;rw [e0,e1,e2,e3,e4]
attribute [local irreducible] macD q01 strS q05 q00 q03 q0h q07 q06 q08 q0a q0j q0g lionB lockS q0m q0e openB q0p decC tagH q0w q0x q0v q0f peelS openS sealS useS q4j makeS
structure EncBS (b : BlkS) (Z : List UInt8 × Int) : Prop where
  g : Z.2 = 0 → nodeS b.first = true ∧ Z.1.length = 241 ∧ decBS Z.1 = (b,0)
theorem qmw {b : BlkS} (o : b.ok) : EncBS b (encBS b):=⟨fun h=>by
  cases hn : nodeS b.first with
  | true=>exact ⟨rfl,qbz o hn,qid o hn⟩
  | false=>rw [qcc hn] at h;cases h⟩
set_option maxHeartbeats 8000000 in
theorem qhu (W : World) (hK : Gl (old W)) (b : BlkS) (o : b.ok) (a : Option Addr) (cap : Nat) (c : List UInt8) (hb : Bts (old W) a cap c) :
    LawC Tryz.prog 12 [.agg b.sg,.c (.rs a c.length cap)] W:=by
  have CE:=fun A=>qe4 A b o;have RE:=fun A R hE ah ch hh=>ql8 A R hE b o ah ch hh;have hE:=qmw o;generalize encBS b = X at CE RE hE;obtain ⟨X,e⟩:=X;have hE:=hE.g;obtain ⟨f,⟨al,be,ga⟩,k⟩:=b;dsimp only at CE RE hE;have CD:=fun A R hE a cap hb hn=>qgu A R hE a cap c hb hn;have RZ:=fun A R hE a cap hb hn hz=>qmg A R hE a cap c hb hn hz;have od:=qi0 c;have hback:=qjl (c:=c);have hda:=q6j (c:=c);have hdb:=q8o (c:=c)
  refine Con.of' tt_ok Tryz.func12 rfl (by decide) [.agg [.one (.int .i64 f),.many 32 (u8s al),.many 160 (u8s be),.many 16 (u8s ga),.many 32 (u8s k)],.c (.rs a c.length cap)] [] [] rfl rfl trivial ⟨BlkS.okL o _,trivial,trivial⟩ rfl ?_;(conv=>whnf);intro b2;(conv=>whnf);refine Cq.pu (q7q _ (hK.ent (Ent.a mm))) rfl ?_;(conv=>whnf);refine Cond.d (fun q1=>?_) (fun q1=>?_)
  · (conv=>whnf);exact Ret.m () [] [0] trivial rfl kk kk ⟨rfl,rfl⟩
  (conv=>whnf);refine Cq.new (CE _) rfl ?_;rintro ⟨a5,c5,X5⟩ h5;dsimp only at h5 ⊢;(conv=>whnf);refine Cq.new (q9n _ ⟨f,⟨al,be,ga⟩,k⟩ o) rfl fun q _=>?_;(conv=>whnf);refine Cq.new (RE _ (OwnHd q ⟨al,be,ga⟩) (Ent.a mm) (some (radr (q,32))) 160 (OwnHd.rd o.h)) rfl ?_;rintro ⟨a7,c7,X7⟩ h7;dsimp only at h7 ⊢;(conv=>whnf);refine Cq.pu (CD _ (old W) (Ent.a mm) a cap hb (by omega)) rfl ?_;(conv=>whnf);intro b9;conv=>whnf
  by_cases hd : c.length = 241 ∧ gd c 0 < 16
  · have hd2:=hda hd;have RH:=fun A R hE a cap hb=>qlu A R hE a cap c hb hd.1 hd.2;have hback:=hback (by rw [hd2]);rw [hd2] at hback od ⊢;dsimp only at hback od ⊢
    have hrd : Rd (old W) (cutA (cutA a cap 1 1) (cap - 1) 32 1) (u8s (decOk c).hdr.beta):=by
      have hcp:=hb.2.1;have h1:=(hb.sub 1 208 (by omega)).1;exact q7w h1 (cap - 1) 32 160 (by omega)
    generalize hD : decOk c = D at RH hback od hrd ⊢;refine Cq.pu (RH _ (old W) (Ent.a mm) a cap hb) rfl ?_;(conv=>whnf);intro b11;conv=>whnf
    refine Draw.cut (σ:=Unit) (fun _=>[(1,.c (.rs a c.length cap)),(2,.c (.ptr 2 0)),(5,.c (.rs a5 X.length c5)),(6,.c (.int .i64 e)),(9,.c (.ptr 9 0)),(10,.c (.int .i64 0)),(64,.c (.bool false))])
      (fun _=>⟨[(9,b9),(2,b2)],[(9,D.sg,66),(2,[.one (.int .i64 f),.many 32 (u8s al),.many 160 (u8s be),.many 16 (u8s ga),.many 32 (u8s k)],66)],[X5,old W]⟩) (fun _=>True) ?_ ?_
    · refine Draw.a (by kernel_rfl) tt_ok (Tv.of [0,2] (.two 1 (Tv.of [3,4,5,6,7,8,9,10,11,13,12,14,15,16,17,18,19,20,21] .nil) 3 (Tv.of [1,4,5,6,7,8,9,10,11,13,12,14,15,16,17,18,19,20,21] .nil))) 1000000 (by kernel_rfl) ?_;(conv=>whnf);refine ⟨?_,?_⟩
      · (conv=>whnf);refine q0c (l:=X) (k:=X.length) rfl rfl rfl (Src.rs (A:=X5) (by simp) h5.1) rfl (fun s e=>by cases e) ?_;(conv=>whnf);refine Sub.r [11,9,2] [0,0,0,0] ?_;(conv=>whnf);refine q0c (l:=X) (k:=X.length) rfl rfl rfl (Src.rs (A:=X7) (by simp) h7.1) rfl (fun s e=>by cases e) ?_;(conv=>whnf);refine Sub.r [11,9,2] [0,0,0,0] ?_;(conv=>whnf);refine Cond.not (Cond.str (fun _=>?_) (fun h=>absurd rfl h));(conv=>whnf);refine Cond.neI (fun h=>absurd rfl h) (fun _=>?_);conv=>whnf
        refine Cq.new (q9n _ D od) rfl fun q2 _=>?_;(conv=>whnf);refine Sub.r [11,9,2] [1,1,1,1] ?_;(conv=>whnf);refine Cq.pu (qh1 _ (OwnHd q2 D.hdr) (old W) (Ent.a mm) (Ent.a mm) D od (some (radr (q2,32))) (cutA (cutA a cap 1 1) (cap - 1) 32 1) 160 (cap - 1 - 32) (OwnHd.rd od.h) hrd) rfl ?_;(conv=>whnf);refine Sub.r [11,9,2] [1,1,1,1] ?_;(conv=>whnf);exact ⟨(),trivial,Wk.m [9,2] [3,3] kk ⟨⟨kk,BlkS.okL od _⟩,⟨kk,BlkS.okL o _⟩,trivial⟩ ⟨rfl,rfl⟩⟩
      · (conv=>whnf);refine q0c (l:=X) (k:=X.length) rfl rfl rfl (Src.rs (A:=X7) (by simp) h7.1) rfl (fun s e=>by cases e) ?_;(conv=>whnf);refine Sub.r [11,9,2] [0,0,0,0] ?_;(conv=>whnf);refine q0c (l:=X) (k:=X.length) rfl rfl rfl (Src.rs (A:=X5) (by simp) h5.1) rfl (fun s e=>by cases e) ?_;(conv=>whnf);refine Sub.r [11,9,2] [0,0,0,0] ?_;(conv=>whnf);refine Cond.not (Cond.str (fun _=>?_) (fun h=>absurd rfl h));(conv=>whnf);refine Cond.neI (fun h=>absurd rfl h) (fun _=>?_);conv=>whnf
        refine Cq.new (q9n _ D od) rfl fun q2 _=>?_;(conv=>whnf);refine Sub.r [11,9,2] [1,1,1,1] ?_;(conv=>whnf);refine Cq.pu (qh1 _ (OwnHd q2 D.hdr) (old W) (Ent.a mm) (Ent.a mm) D od (some (radr (q2,32))) (cutA (cutA a cap 1 1) (cap - 1) 32 1) 160 (cap - 1 - 32) (OwnHd.rd od.h) hrd) rfl ?_;(conv=>whnf);refine Sub.r [11,9,2] [1,1,1,1] ?_;(conv=>whnf);exact ⟨(),trivial,Wk.m [9,2] [3,3] kk ⟨⟨kk,BlkS.okL od _⟩,⟨kk,BlkS.okL o _⟩,trivial⟩ ⟨rfl,rfl⟩⟩
    rintro ⟨⟩ _;(conv=>whnf);refine ⟨fun h=>(by cases h),fun _=>?_⟩;(conv=>whnf);refine Cond.eqI (fun he=>?_) (fun he=>?_)
    · subst he;obtain ⟨hn,hXl,hdX⟩:=hE rfl;have hwf : (Lit.int .i64 f).wf = true:=lit64 (by have:=qab hn;omega);(conv=>whnf);refine Cq.pu (qgu _ X5 (Ent.a mm) a5 c5 X h5 (by omega)) rfl ?_;rw [hdX];(conv=>whnf);intro b13;(conv=>whnf);refine Cond.neI (fun h=>absurd rfl h) (fun _=>?_);(conv=>whnf);refine qkl (c:=⟨f,⟨al,be,ga⟩,k⟩) (d:=⟨f,⟨al,be,ga⟩,k⟩) o hwf o hwf rfl rfl fun bb hbb=>?_;obtain rfl : bb = true:=hbb.2 rfl;(conv=>whnf);refine ⟨fun h=>(by cases h),fun _=>?_⟩;conv=>whnf
      refine Cond.eqI (fun _=>?_) (fun h=>absurd rfl h);(conv=>whnf);refine Cq.new (qe4 _ D od) rfl ?_;rw [hback];rintro ⟨a15,c15,X15⟩ h15;dsimp only at h15 ⊢;(conv=>whnf);refine Cond.neI (fun h=>absurd rfl h) (fun _=>?_);(conv=>whnf);refine q0c (l:=c) (k:=c.length) rfl rfl rfl (Src.rs (A:=X15) (by simp) h15.1) rfl (fun s e=>by cases e) ?_;(conv=>whnf);refine q0c (l:=c) (k:=c.length) rfl rfl rfl (Src.rs (A:=old W) (by simp) hb.1) rfl (fun s e=>by cases e) ?_;conv=>whnf
      refine Cond.not (Cond.str (fun _=>?_) (fun h=>absurd rfl h));(conv=>whnf);exact Ret.m () [] [2] trivial rfl kk kk ⟨rfl,rfl⟩
    · (conv=>whnf);refine Cond.eqI (fun _=>?_) (fun h=>absurd rfl h);(conv=>whnf);refine Cq.new (qe4 _ D od) rfl ?_;rw [hback];rintro ⟨a15,c15,X15⟩ h15;dsimp only at h15 ⊢;(conv=>whnf);refine Cond.neI (fun h=>absurd rfl h) (fun _=>?_);(conv=>whnf);refine q0c (l:=c) (k:=c.length) rfl rfl rfl (Src.rs (A:=X15) (by simp) h15.1) rfl (fun s e=>by cases e) ?_;(conv=>whnf);refine q0c (l:=c) (k:=c.length) rfl rfl rfl (Src.rs (A:=old W) (by simp) hb.1) rfl (fun s e=>by cases e) ?_;conv=>whnf
      refine Cond.not (Cond.str (fun _=>?_) (fun h=>absurd rfl h));(conv=>whnf);exact Ret.m () [] [2] trivial rfl kk kk ⟨rfl,rfl⟩
  · have hd2:=hdb hd;have RZ:=fun A R hE a cap hb hn=>RZ A R hE a cap hb hn (by rw [hd2];decide);rw [hd2] at od ⊢;dsimp only at od ⊢;refine Cq.pu (RZ _ (old W) (Ent.a mm) a cap hb (by omega)) rfl ?_;(conv=>whnf);intro b11;conv=>whnf
    refine Draw.cut (σ:=Unit) (fun _=>[(1,.c (.rs a c.length cap)),(2,.c (.ptr 2 0)),(5,.c (.rs a5 X.length c5)),(6,.c (.int .i64 e)),(9,.c (.ptr 9 0)),(10,.c (.int .i64 5)),(64,.c (.bool false))])
      (fun _=>⟨[(9,b9),(2,b2)],[(9,blk0.sg,66),(2,[.one (.int .i64 f),.many 32 (u8s al),.many 160 (u8s be),.many 16 (u8s ga),.many 32 (u8s k)],66)],[X5,old W]⟩) (fun _=>True) ?_ ?_
    · refine Draw.a (by kernel_rfl) tt_ok (Tv.of [0,2] (.two 1 (Tv.of [3,4,5,6,7,8,9,10,11,13,12,14,15,16,17,18,19,20,21] .nil) 3 (Tv.of [1,4,5,6,7,8,9,10,11,13,12,14,15,16,17,18,19,20,21] .nil))) 1000000 (by kernel_rfl) ?_;(conv=>whnf);refine ⟨?_,?_⟩
      · (conv=>whnf);refine q0c (l:=X) (k:=X.length) rfl rfl rfl (Src.rs (A:=X5) (by simp) h5.1) rfl (fun s e=>by cases e) ?_;(conv=>whnf);refine Sub.r [11,9,2] [0,0,0,0] ?_;(conv=>whnf);refine q0c (l:=X) (k:=X.length) rfl rfl rfl (Src.rs (A:=X7) (by simp) h7.1) rfl (fun s e=>by cases e) ?_;(conv=>whnf);refine Sub.r [11,9,2] [0,0,0,0] ?_;(conv=>whnf);refine Cond.not (Cond.str (fun _=>?_) (fun h=>absurd rfl h));(conv=>whnf);refine Cond.neI (fun h=>absurd rfl h) (fun _=>?_);conv=>whnf
        refine Cq.new (q9n _ blk0 od) rfl fun q2 _=>?_;(conv=>whnf);refine Sub.r [11,9,2] [1,1,1,1] ?_;(conv=>whnf);refine Cq.pu (qfv _ (OwnHd q2 blk0.hdr) (Ent.a mm) (some (radr (q2,32))) 160 (OwnHd.rd hdr0_ok)) rfl ?_;(conv=>whnf);refine Sub.r [11,9,2] [1,1,1,1] ?_;(conv=>whnf);exact ⟨(),trivial,Wk.m [9,2] [3,3] kk ⟨⟨kk,BlkS.okL od _⟩,⟨kk,BlkS.okL o _⟩,trivial⟩ ⟨rfl,rfl⟩⟩
      · (conv=>whnf);refine q0c (l:=X) (k:=X.length) rfl rfl rfl (Src.rs (A:=X7) (by simp) h7.1) rfl (fun s e=>by cases e) ?_;(conv=>whnf);refine Sub.r [11,9,2] [0,0,0,0] ?_;(conv=>whnf);refine q0c (l:=X) (k:=X.length) rfl rfl rfl (Src.rs (A:=X5) (by simp) h5.1) rfl (fun s e=>by cases e) ?_;(conv=>whnf);refine Sub.r [11,9,2] [0,0,0,0] ?_;(conv=>whnf);refine Cond.not (Cond.str (fun _=>?_) (fun h=>absurd rfl h));(conv=>whnf);refine Cond.neI (fun h=>absurd rfl h) (fun _=>?_);conv=>whnf
        refine Cq.new (q9n _ blk0 od) rfl fun q2 _=>?_;(conv=>whnf);refine Sub.r [11,9,2] [1,1,1,1] ?_;(conv=>whnf);refine Cq.pu (qfv _ (OwnHd q2 blk0.hdr) (Ent.a mm) (some (radr (q2,32))) 160 (OwnHd.rd hdr0_ok)) rfl ?_;(conv=>whnf);refine Sub.r [11,9,2] [1,1,1,1] ?_;(conv=>whnf);exact ⟨(),trivial,Wk.m [9,2] [3,3] kk ⟨⟨kk,BlkS.okL od _⟩,⟨kk,BlkS.okL o _⟩,trivial⟩ ⟨rfl,rfl⟩⟩
    rintro ⟨⟩ _;(conv=>whnf);refine ⟨fun h=>(by cases h),fun _=>?_⟩;(conv=>whnf);refine Cond.eqI (fun he=>?_) (fun he=>?_)
    · subst he;obtain ⟨hn,hXl,hdX⟩:=hE rfl;have hwf : (Lit.int .i64 f).wf = true:=lit64 (by have:=qab hn;omega);(conv=>whnf);refine Cq.pu (qgu _ X5 (Ent.a mm) a5 c5 X h5 (by omega)) rfl ?_;rw [hdX];(conv=>whnf);intro b13;(conv=>whnf);refine Cond.neI (fun h=>absurd rfl h) (fun _=>?_);(conv=>whnf);refine qkl (c:=⟨f,⟨al,be,ga⟩,k⟩) (d:=⟨f,⟨al,be,ga⟩,k⟩) o hwf o hwf rfl rfl fun bb hbb=>?_;obtain rfl : bb = true:=hbb.2 rfl;(conv=>whnf);refine ⟨fun h=>(by cases h),fun _=>?_⟩;conv=>whnf
      refine Cond.eqI (fun h=>absurd h (by decide)) (fun _=>?_);(conv=>whnf);exact Ret.m () [] [1] trivial rfl kk kk ⟨rfl,rfl⟩
    · (conv=>whnf);refine Cond.eqI (fun h=>absurd h (by decide)) (fun _=>?_);(conv=>whnf);exact Ret.m () [] [1] trivial rfl kk kk ⟨rfl,rfl⟩
end
section
open Go.RowKit (Below)
theorem qms : Fits Tryz.prog .bytes 24 = true:=by simp only [Fits,Tryz.underlying24,Tryz.underlying5];kernel_rfl
section
variable {H : Type} {enc : TypeId × Value → H} {base : Nat} {v0 v1 v2 : Value} {d0 d1 d2 : DataW H} {p0 p1 p2 : List MemPlace}
theorem qa7 (W : World) (ok0 : Value.okWide Tryz.prog W .any base 24 v0) (h0 : DataW.Trod enc Tryz.prog W 0 (fun _=>true) true 24 v0 d0 p0) :
    ∃ a cap l,v0 = .slice a l.length cap ∧ Bts (old W) a cap l:=by
  obtain ⟨a,cap,l,rfl,h1,h⟩:=qgl qms ok0 h0;exact ⟨a,cap,l,rfl,h,h1.1,h1.2.2⟩
theorem qd1 (W : World) (ok0 : Value.okWide Tryz.prog W .any base 66 v0) (h0 : DataW.Trod enc Tryz.prog W 0 (fun _=>true) true 66 v0 d0 p0) : ∃ b : BlkS,v0 = (SV.agg b.sg).den [] ∧ b.ok:=by
  obtain ⟨x,cs,rfl,h⟩:=qmi (s:=blkSh) ⟨_,_,.inl rfl⟩ qh8 ok0 h0;obtain ⟨f,⟨a,b,g,u⟩,k,u2⟩:=x;obtain ⟨c1,c2,rfl,⟨rfl,h0⟩,c3,c4,rfl,⟨c5,c6,rfl,⟨h1,rfl⟩,c7,c8,rfl,⟨h2,rfl⟩,c9,c10,rfl,⟨h3,rfl⟩,rfl⟩,c11,c12,rfl,⟨h4,rfl⟩,rfl⟩:=h;refine ⟨⟨f,⟨a,b,g⟩,k⟩,?_,⟨⟨h1,h2,h3⟩,h4⟩⟩;show Value.agg _ = Value.agg _;congr 1
  simp [dens,Seg.den]
  rfl
theorem surbUses_law (W : World) (hL : laidMetH Tryz.prog kLaid W) (ok0 : Value.okWide Tryz.prog W .any base 66 v0) (ok1 : Value.okWide Tryz.prog W .any base 24 v1)
    (h0 : DataW.Trod enc Tryz.prog W 0 (fun _=>true) true 66 v0 d0 p0) (h1 : DataW.Trod enc Tryz.prog W 0 (fun _=>true) true 24 v1 d1 p1) :
    Calls Tryz.prog 9 #[v0,v1] W fun e w'=>e = .returned (.bool true) ∧ Below W.heap.size W w':=by
  obtain ⟨b,rfl,ho⟩:=qd1 W ok0 h0;obtain ⟨a,cap,c,rfl,hb⟩:=qa7 W ok1 h1;exact q8i (qmx W (q6i hL) b ho a cap c hb) rfl
theorem surbHeads_law (W : World) (hL : laidMetH Tryz.prog kLaid W) (ok0 : Value.okWide Tryz.prog W .any base 66 v0) (ok1 : Value.okWide Tryz.prog W .any base 24 v1)
    (h0 : DataW.Trod enc Tryz.prog W 0 (fun _=>true) true 66 v0 d0 p0) (h1 : DataW.Trod enc Tryz.prog W 0 (fun _=>true) true 24 v1 d1 p1) :
    Calls Tryz.prog 11 #[v0,v1] W fun e w'=>e = .returned (.bool true) ∧ Below W.heap.size W w':=by
  obtain ⟨b,rfl,ho⟩:=qd1 W ok0 h0;obtain ⟨a,cap,c,rfl,hb⟩:=qa7 W ok1 h1;exact q8i (ql2 W (q6i hL) b ho a cap c hb) rfl
theorem surbBytes_law (W : World) (hL : laidMetH Tryz.prog kLaid W) (ok0 : Value.okWide Tryz.prog W .any base 66 v0) (ok1 : Value.okWide Tryz.prog W .any base 24 v1)
    (h0 : DataW.Trod enc Tryz.prog W 0 (fun _=>true) true 66 v0 d0 p0) (h1 : DataW.Trod enc Tryz.prog W 0 (fun _=>true) true 24 v1 d1 p1) :
    Calls Tryz.prog 12 #[v0,v1] W fun e w'=>e = .returned (.bool true) ∧ Below W.heap.size W w':=by
  obtain ⟨b,rfl,ho⟩:=qd1 W ok0 h0;obtain ⟨a,cap,c,rfl,hb⟩:=qa7 W ok1 h1;exact q8i (qhu W (q6i hL) b ho a cap c hb) rfl
end
end
end Go.Proofs.YtfehjfoajlfhfaaGreatDoor
