import Derived.Test.YtfehjfoajlfhfaaGreatDoorQp
import Derived.Test.YtfehjfoajlfhfaaGreatDoorQj
import Derived.Test.YtfehjfoajlfhfaaGreatDoorQq
import Derived.Test.YtfehjfoajlfhfaaGreatDoorQr
namespace Go.Proofs.YtfehjfoajlfhfaaGreatDoor
open Go.Sx
set_option maxRecDepth 100000
set_option pp.deepTerms false
set_option pp.maxSteps 300
set_option linter.unusedSimpArgs false
set_option linter.unusedVariables false
section
structure BlkS where
  first : Int
  hdr : HdrS
  key : List UInt8
abbrev BlkS.sg (b : BlkS) : List Seg:=[.one (.int .i64 b.first),.many 32 (u8s b.hdr.alpha),.many 160 (u8s b.hdr.beta),.many 16 (u8s b.hdr.gamma),.many 32 (u8s b.key)]
structure BlkS.ok (b : BlkS) : Prop where
  h : b.hdr.ok
  k : b.key.length = 32
theorem BlkS.okL {b : BlkS} (o : b.ok) (B : Names) : okL B b.sg:=⟨trivial,mok o.h.a _,mok o.h.b _,mok o.h.g _,mok o.k _,trivial⟩
def blk0 : BlkS:=⟨0,hdr0,zk⟩
theorem qe2 : blk0.ok:=⟨hdr0_ok,q1h⟩
def nodeS (n : Int) : Bool:=decide (0 ≤ n ∧ n < 16)
def encBS (b : BlkS) : List UInt8 × Int:=if nodeS b.first = true then (by8 b.first :: (encH b.hdr ++ b.key),0) else ([],2)
theorem qj1 {b : BlkS} (h : nodeS b.first = true) : encBS b = (by8 b.first :: (encH b.hdr ++ b.key),0):=if_pos h
theorem qo6 {b : BlkS} (h : nodeS b.first = false) : encBS b = ([],2):=if_neg (by rw [h];decide)
def useS (b : BlkS) (room : List UInt8) : List UInt8 × Int:=if (sealS b.key room).2 = 0 then (encH b.hdr ++ (sealS b.key room).1,0) else ([],(sealS b.key room).2)
def lockA (b : List UInt8) : List (List UInt8) → List UInt8
  | []=>b
  | s :: r=>(lockS s (lockA b r)).1
theorem qcr {b : List UInt8} (h1 : 33 ≤ b.length) (h2 : b.length ≤ 4096) : ∀ l,(lockA b l).length = b.length
  | []=>rfl
  | s :: r=>by
    have:=qcr h1 h2 r;show (lockS s (lockA b r)).1.length = _;rw [(q8u (by omega) (by omega)).1,this]
theorem qmc (b : List UInt8) {ss : List (List UInt8)} {k : Nat} (h : k < ss.length) : lockA b (ss.drop k) = (lockS ss[k] (lockA b (ss.drop (k + 1)))).1:=by
  rw [List.drop_eq_getElem_cons h];rfl
def q4x (key : List UInt8) (ls : List (List UInt8)) (body : List UInt8) : List UInt8 × Int :=
  if body.length = 528 ∧ 1 ≤ ls.length ∧ ls.length ≤ 5 then openS key (lockA body ls) else ([],5)
structure KeyS where
  id : List UInt8
  key : List UInt8
  ls : List (List UInt8)
def key0 : KeyS:=⟨List.replicate 8 0,zk,[]⟩
def lastC (hs : List HopS) : Cmd:=cAt hs (hs.length - 1)
def make2 (x key : List UInt8) (first : Int) (hs : List HopS) : BlkS × KeyS × Int :=
  if (q0b x hs).2.2 = 0 then (⟨first,(q0b x hs).1,key⟩,⟨(lastC hs).id,key,(q0b x hs).2.1.map q09⟩,0) else (blk0,key0,(q0b x hs).2.2)
def make1 (x key : List UInt8) (first : Int) (hs : List HopS) : BlkS × KeyS × Int :=
  if 1 ≤ hs.length ∧ (lastC hs).k = 3 then make2 x key first hs else (blk0,key0,14)
def makeS (x key : List UInt8) (first : Int) (hs : List HopS) : BlkS × KeyS × Int:=if nodeS first = true then make1 x key first hs else (blk0,key0,2)
theorem qfq {x key : List UInt8} {first : Int} {hs : List HopS} (h : nodeS first = false) : makeS x key first hs = (blk0,key0,2):=if_neg (by rw [h];decide)
theorem qa2 {x key : List UInt8} {first : Int} {hs : List HopS} (h : nodeS first = true) : makeS x key first hs = make1 x key first hs:=if_pos h
theorem qhh {x key : List UInt8} {first : Int} {hs : List HopS} (h : ¬(1 ≤ hs.length ∧ (lastC hs).k = 3)) : make1 x key first hs = (blk0,key0,14):=if_neg h
theorem qa0 {x key : List UInt8} {first : Int} {hs : List HopS} (h : 1 ≤ hs.length ∧ (lastC hs).k = 3) : make1 x key first hs = make2 x key first hs:=if_pos h
theorem qdk {x key : List UInt8} {first : Int} {hs : List HopS} (h : (q0b x hs).2.2 ≠ 0) : make2 x key first hs = (blk0,key0,(q0b x hs).2.2):=if_neg h
theorem qcy {x key : List UInt8} {first : Int} {hs : List HopS} (h : (q0b x hs).2.2 = 0) : make2 x key first hs = (⟨first,(q0b x hs).1,key⟩,⟨(lastC hs).id,key,(q0b x hs).2.1.map q09⟩,0):=if_pos h
theorem qea {l : List (List UInt8)} : okK (l.map q09):=fun k hk=>by
  obtain ⟨s,_,rfl⟩:=List.mem_map.1 hk;exact q2n s
end
section
attribute [local irreducible] macD q01 strS lionB lockS sealS
theorem qna (A : HP) (n : Int) : Pu Tryz.prog 68 [.c (.int .i64 n)] A (.c (.bool (nodeS n))):=by
  refine Con.of' tt_ok Tryz.func68 rfl (by decide) [.c (.int .i64 n)] [] [] rfl rfl trivial kk rfl ?_;(conv=>whnf);refine Cond.d (fun h=>?_) (fun h=>?_)
  · (conv=>whnf);refine Ret.m () [] [0] trivial ?_ kk kk ⟨rfl,rfl⟩;show Value.bool (decide (n < 16)) = Value.bool (nodeS n);unfold nodeS;have e : (n < 16) ↔ (0 ≤ n ∧ n < 16):=⟨fun k=>⟨h,k⟩,fun k=>k.2⟩;rw [decide_eq_decide.2 e]
  · (conv=>whnf);refine Ret.m () [] [0] trivial ?_ kk kk ⟨rfl,rfl⟩;show Value.bool false = Value.bool (nodeS n);unfold nodeS;rw [decide_eq_false fun k=>h k.1]
theorem use_c (A R : HP) (hE : Ent A R) (hK : Gl A) (b : BlkS) (o : b.ok) (a : Option Addr) (cap : Nat) (room : List UInt8) (hb : Bts R a cap room) (hn : room.length ≤ 1000000) :
    BXE 36 [.agg b.sg,.c (.rs a room.length cap)] A (useS b room):=by
  have hb:=hb.ent hE;obtain ⟨f,⟨al,be,ga⟩,k⟩:=b;have h1:=o.h;have h2:=o.k;dsimp only at h1 h2;have CS:=fun A R hE hK a cap hb hn=>qq2 A R hE hK k h2 a cap room hb hn;have hS:=fun h=>q7y (key:=k) (room:=room) h;have hbad : room.length ≠ 512 → (sealS k room) = ([],5):=fun h=>by unfold sealS;exact if_neg h
  unfold useS;dsimp only;generalize sealS k room = S at CS hS hbad ⊢;obtain ⟨S,e⟩:=S;dsimp only at CS hS hbad ⊢;refine Con.of' tt_ok Tryz.func36 rfl (by decide) [.agg [.one (.int .i64 f),.many 32 (u8s al),.many 160 (u8s be),.many 16 (u8s ga),.many 32 (u8s k)],.c (.rs a room.length cap)] [] [] rfl rfl trivial ⟨BlkS.okL o _,trivial,trivial⟩ rfl ?_;(conv=>whnf);intro b2;(conv=>whnf);refine Cq.new (CS _ A (Ent.a mm) (hK.ent (Ent.a mm)) a cap hb hn) rfl ?_;rintro ⟨a6,c6,X⟩ h6;dsimp only at h6 ⊢;(conv=>whnf);refine Cond.neI (fun he=>?_) (fun he=>?_)
  · rw [if_neg he];(conv=>whnf);refine Ret.own0 5 1 ?_;exact Ret.m (none,0,Own none 0 5 1 []) [] [0,1] q1d rfl kk kk ⟨rfl,rfl⟩
  subst he;rw [if_pos rfl]
  have h5 : room.length = 512:=Classical.byContradiction fun h=>by
    have:=congrArg Prod.snd (hbad h);exact absurd this (by show ¬(0 : Int) = 5;decide)
  obtain ⟨hSl,_⟩:=hS h5;(conv=>whnf);refine Cq.fb (q86 _ ⟨al,be,ga⟩ h1) rfl fun a20 c20 h20=>?_;(conv=>whnf);have hel:=q5b h1;refine appb (l:=encH ⟨al,be,ga⟩) (m:=S) (.refl _) (Src.rs (A:=X) (by simp) h6.1) rfl rfl ⟨rfl,by decide,by decide⟩ (by omega) 24 (.inr rfl) ?_;intro a47 c47 h47;(conv=>whnf);exact Ret.m (a47,c47,Own a47 c47 5 1 (u8s (encH ⟨al,be,ga⟩ ++ S))) [] [0,1] (q4f h47) rfl kk kk ⟨rfl,rfl⟩
theorem qrb (A : HP) (b : BlkS) (o : b.ok) :
    BXE 40 [.agg b.sg] A (encBS b):=by
  obtain ⟨f,⟨al,be,ga⟩,k⟩:=b;have h1:=o.h;have h2:=o.k;dsimp only at h1 h2;have ha:=qj1 (b:=⟨f,⟨al,be,ga⟩,k⟩);have hbb:=qo6 (b:=⟨f,⟨al,be,ga⟩,k⟩);have hel:=q5b h1;dsimp only at ha hbb;generalize encBS ⟨f,⟨al,be,ga⟩,k⟩ = Z at ha hbb ⊢;refine Con.of' tt_ok Tryz.func40 rfl (by decide) [.agg [.one (.int .i64 f),.many 32 (u8s al),.many 160 (u8s be),.many 16 (u8s ga),.many 32 (u8s k)]] [] [] rfl rfl trivial ⟨BlkS.okL o _,trivial⟩ rfl ?_;(conv=>whnf);intro b1;(conv=>whnf);refine Cq.pu (qna _ f) rfl ?_;conv=>whnf
  refine Cond.not ⟨fun hnd=>?_,fun hnd=>?_⟩
  case' refine_2 =>
    rw [hbb hnd];(conv=>whnf);refine Ret.own0 5 1 ?_;exact Ret.m (none,0,Own none 0 5 1 []) [] [0,0] q1d rfl kk kk ⟨rfl,rfl⟩
  rw [ha hnd];(conv=>whnf);refine Draw.a (by kernel_rfl) tt_ok (Tv.of [0,1,2,4,5] (.two 3 (Tv.of [6,7,8] .nil) 6 (Tv.of [3,7,8] .nil))) 1000000 (by kernel_rfl) ?_;(conv=>whnf);refine ⟨?_,?_⟩
  · (conv=>whnf);intro b12;(conv=>whnf);refine Sub.r [1] [0] ?_;(conv=>whnf);refine Cq.fb (q86 _ ⟨al,be,ga⟩ h1) rfl fun a15 c15 h15=>?_;(conv=>whnf);refine Sub.r [1] [1] ?_;(conv=>whnf);have hu1 : u8s [by8 f] = [Value.int .u8 (IntKind.u8.wrap f)]:=qc7 f []
    refine q2q (a:=some (radr (b12,0))) (n:=1) (cap:=1) (k:=(encH ⟨al,be,ga⟩).length) (xs:=u8s [by8 f]) (ys:=u8s (encH ⟨al,be,ga⟩)) rfl (Src.slc (by exact ⟨[],by rw [hu1];rfl⟩)) (by omega) rfl (q0s _) (u8l _) (Src.rs (A:=Own a15 c15 5 1 (u8s (encH ⟨al,be,ga⟩))) (by simp) Own.rd) (q0s _) ⟨rfl,by decide,by decide⟩ (by omega) 24 (.inr rfl) ?_;intro a16 c16 hc16 hn16;rw [← q0n];(conv=>whnf);refine Sub.r [1] [2] ?_;conv=>whnf
    refine appb (l:=[by8 f] ++ encH ⟨al,be,ga⟩) (m:=k) (.refl _) (Src.slc (by exact ⟨[],by show ([Value.int .i64 f] ++ (u8s al ++ (u8s be ++ (u8s ga ++ (u8s k ++ []))))).drop 209 = u8s k ++ [];rw [← List.append_assoc,← List.append_assoc,← List.append_assoc,List.drop_left' (by simp [u8l,h1.a,h1.b,h1.g])]⟩)) (by rw [List.length_append];show 1 + _ = 1 + _;rfl) h2.symm ⟨rfl,by decide,by decide⟩ (by rw [List.length_append];show 1 + _ + _ ≤ _;omega) 24 (.inr rfl) ?_;intro a20 c20 h20;conv=>whnf
    exact Ret.m (a20,c20,Own a20 c20 5 1 (u8s (by8 f :: (encH ⟨al,be,ga⟩ ++ k)))) [] [0,1] (q4f h20) rfl kk kk ⟨rfl,rfl⟩
  · (conv=>whnf);refine Cq.fb (q86 _ ⟨al,be,ga⟩ h1) rfl fun a15 c15 h15=>?_;(conv=>whnf);refine Sub.r [1] [1] ?_;(conv=>whnf);intro b12;(conv=>whnf);refine Sub.r [1] [1] ?_;(conv=>whnf);have hu1 : u8s [by8 f] = [Value.int .u8 (IntKind.u8.wrap f)]:=qc7 f []
    refine q2q (a:=some (radr (b12,0))) (n:=1) (cap:=1) (k:=(encH ⟨al,be,ga⟩).length) (xs:=u8s [by8 f]) (ys:=u8s (encH ⟨al,be,ga⟩)) rfl (Src.slc (by exact ⟨[],by rw [hu1];rfl⟩)) (by omega) rfl (q0s _) (u8l _) (Src.rs (A:=Own a15 c15 5 1 (u8s (encH ⟨al,be,ga⟩))) (by simp) Own.rd) (q0s _) ⟨rfl,by decide,by decide⟩ (by omega) 24 (.inr rfl) ?_;intro a16 c16 hc16 hn16;rw [← q0n];(conv=>whnf);refine Sub.r [1] [2] ?_;conv=>whnf
    refine appb (l:=[by8 f] ++ encH ⟨al,be,ga⟩) (m:=k) (.refl _) (Src.slc (by exact ⟨[],by show ([Value.int .i64 f] ++ (u8s al ++ (u8s be ++ (u8s ga ++ (u8s k ++ []))))).drop 209 = u8s k ++ [];rw [← List.append_assoc,← List.append_assoc,← List.append_assoc,List.drop_left' (by simp [u8l,h1.a,h1.b,h1.g])]⟩)) (by rw [List.length_append];show 1 + _ = 1 + _;rfl) h2.symm ⟨rfl,by decide,by decide⟩ (by rw [List.length_append];show 1 + _ + _ ≤ _;omega) 24 (.inr rfl) ?_;intro a20 c20 h20;conv=>whnf
    exact Ret.m (a20,c20,Own a20 c20 5 1 (u8s (by8 f :: (encH ⟨al,be,ga⟩ ++ k)))) [] [0,1] (q4f h20) rfl kk kk ⟨rfl,rfl⟩
end
section
attribute [local irreducible] macD q01 strS lionB lockS sealS
end
section
attribute [local irreducible] macD q01 strS q03 q00 q02 q0e q06 q05 q08 q0a q0d q0b lionB lockS q09 openS
structure OpS where
  a : Option Addr
  c : Nat
  X : HP
set_option maxHeartbeats 2000000 in
theorem qpi (A R : HP) (hE : Ent A R) (hK : Gl A) (id : List UInt8) (hid : id.length = 8) (key : List UInt8) (hk : key.length = 32) (al : Option Addr) (cl : Nat) (ls : List (List UInt8)) (hls : okK ls)
    (a : Option Addr) (cap : Nat) (body : List UInt8) (hb : Bts R a cap body) (hn : body.length ≤ 1000000) :
    Con Tryz.prog 38 [.agg [.many 8 (u8s id),.many 32 (u8s key),.one (.rs al ls.length cl)],.c (.rs a body.length cap)] [] [RowK al cl 23 ls] A (fun t : Option Addr × Nat × HP=>Bts t.2.2 t.1 t.2.1 (q4x key ls body).1)
      (fun t=>.tup [.c (.rs t.1 (q4x key ls body).1.length t.2.1),.c (.int .i64 (q4x key ls body).2)]) (fun _=>[]) (fun t=>[t.2.2]):=by
  have hb:=hb.ent hE;have hid8:=mok hid;have hks:=mok hk;have ha : ∀ B,okL B [.many 8 (u8s id),.many 32 (u8s key),.one (.rs al ls.length cl)]:=fun B=>⟨hid8 _,hks _,trivial,trivial⟩;refine Con.ofM' tt_ok Tryz.func38 rfl (by decide) [.agg [.many 8 (u8s id),.many 32 (u8s key),.one (.rs al ls.length cl)],.c (.rs a body.length cap)] [] [] rfl rfl trivial ⟨ha _,trivial,trivial⟩ rfl ?_;(conv=>whnf);intro b2;(conv=>whnf);intro b3;(conv=>whnf);intro b4;(conv=>whnf);intro b5;conv=>whnf
  have hZ : q4x key ls body = if body.length = 528 ∧ 1 ≤ ls.length ∧ ls.length ≤ 5 then openS key (lockA body ls) else ([],5):=rfl;rw [hZ];clear hZ;refine Cond.neI (fun h=>?_) (fun h5=>?_)
  · rw [if_neg (fun k=>by omega)];(conv=>whnf);refine .no ?_;(conv=>whnf);refine Ret.own0 5 1 ?_;exact Ret.m (none,0,Own none 0 5 1 []) [] [0,1] q1d rfl kk kk ⟨rfl,rfl⟩
  (conv=>whnf);refine Cond.d (fun h=>?_) (fun h1=>?_)
  · rw [if_neg (fun k=>by omega)];(conv=>whnf);refine .no ?_;(conv=>whnf);refine Ret.own0 5 1 ?_;exact Ret.m (none,0,Own none 0 5 1 []) [] [0,1] q1d rfl kk kk ⟨rfl,rfl⟩
  (conv=>whnf);refine Cond.d (fun h=>?_) (fun h2=>?_)
  · rw [if_neg (fun k=>by omega)];(conv=>whnf);refine .no ?_;(conv=>whnf);refine Ret.own0 5 1 ?_;exact Ret.m (none,0,Own none 0 5 1 []) [] [0,1] q1d rfl kk kk ⟨rfl,rfl⟩
  rw [if_pos ⟨by omega,by omega,by omega⟩];have hz0 : body.length = 528:=by omega
  (conv=>whnf);refine Cq.new (qgs _ al cl ls.length) rfl fun g _=>?_;(conv=>whnf);refine ⟨rfl,?_⟩;have hit:=qec al cl g ls hls (by omega);have hrun : Runs Tryz.prog 92:=Runs.of Tryz.func92 rfl (by decide);have hbl:=fun k=>qcr (b:=body) (by omega) (by omega) (ls.drop k)
  have bok : ∀ (a' : Option Addr) (c' : Nat),okH [(5,b5),(4,b4),(3,b3),(2,b2)] [(5,[.one (.int .i64 0)],34),(4,[.one (.rs none 0 0)],24),(3,[.one (.rs a' 528 c')],24),(2,[.many 8 (u8s id),.many 32 (u8s key),.one (.rs al ls.length cl)],68)] :=
    fun _ _=>⟨⟨kk,trivial,trivial⟩,⟨kk,trivial,trivial⟩,⟨kk,trivial,trivial⟩,⟨kk,ha _⟩,trivial⟩
  refine RangeOb2.turn (F':=Own none 0 5 1 [] :: ([all ((qBk g al ls.length cl).map Cel.p),RowK al cl 23 ls,A])) (fun g s=>qhz s) ?_
  refine RangeOb2.by' (σ:=OpS) (fun i s=>Bts (all [s.X,A]) s.a s.c (lockA body (ls.drop (ls.length - i))))
    (fun s=>([(5,[.one (.int .i64 0)],34),(4,[.one (.rs none 0 0)],24),(3,[.one (.rs s.a 528 s.c)],24),(2,[.many 8 (u8s id),.many 32 (u8s key),.one (.rs al ls.length cl)],68)],[s.X,A]))
    [5,4,3,2] [1,1] [0,0] ⟨a,cap,Own none 0 5 1 []⟩ [all ((qBk g al ls.length cl).map Cel.p),RowK al cl 23 ls] (fun g s=>q14.1 s) rfl hrun hit ?_ ?_ ⟨rfl,⟨by rw [hz0],bok a cap⟩,rfl⟩ ?_ ?_
  · dsimp only;rw [Nat.sub_zero,List.drop_length];exact hb.ent (Ent.a (.tail _ (.head _)))
  · intro z hz;obtain ⟨j,hj,rfl⟩:=List.mem_map.1 hz;have hj:=List.mem_range.1 hj;have hk : (kAt ls (ls.length - 1 - j)).length = 32:=by rw [q5d (by omega)];exact hls _ (List.getElem_mem _)
    exact ⟨trivial,q04 ⟨mok hk _,trivial⟩⟩
  · rintro i ⟨aB,cB,X⟩ z hz hk2 R0
    have hi : i < ls.length:=by
      have:=(List.getElem?_eq_some_iff.1 hz).1
      rwa [q8w] at this
    rw [qg6 hi] at hz;obtain rfl:=Option.some.inj hz;dsimp only at hk2 ⊢;obtain ⟨q,hq⟩ : ∃ q,ls.length - 1 - i = q:=⟨_,rfl⟩;have hq1 : ls.length - i = q + 1:=by omega
    have hq2 : ls.length - (i + 1) = q:=by omega
    have hqs : q < ls.length:=by omega
    have hkq : ls[q].length = 32:=hls _ (List.getElem_mem hqs);have hst:=qmc body hqs;have hb1:=hbl (q + 1);have hb2:=hbl q;rw [hq1] at hk2;simp only [hq];(conv=>whnf);intro b13;(conv=>whnf);refine ⟨trivial,_,_,rfl,fun R1=>?_⟩;(conv=>whnf);have hlk:=q8u (key:=ls[q]) (b:=lockA body (ls.drop (q + 1))) (by omega) (by omega);refine Cq.new (qnb _ (all [X,A]) (by exact Ent.sub [5,5] ⟨rfl,trivial⟩) (hK.ent (Ent.a mm)) ls[q] hkq aB cB (lockA body (ls.drop (q + 1))) hk2 (by omega)) (by rw [hb1,hz0];rfl) ?_
    rw [hlk.1,hlk.2,← hst,hb1,hz0];rintro ⟨a15,c15⟩ h15;dsimp only at h15 ⊢;(conv=>whnf);refine Cond.neI (fun h=>absurd rfl h) (fun _=>?_);(conv=>whnf);refine ⟨trivial,⟨a15,c15,Own a15 c15 5 1 (u8s (lockA body (ls.drop q)))⟩,by dsimp only;rw [hq2];exact (q4f h15).ent (Ent.a (.head _)),?_⟩;dsimp only;exact qhu [5,4,3,2] [0,1,1] (bok a15 c15) ⟨rfl,rfl⟩ (fun g s=>s)
  · rintro ⟨aB,cB,X⟩ _ r hk2 _;dsimp only at hk2 ⊢;rw [q8w,Nat.sub_self,List.drop_zero] at hk2;have hb0:=hbl 0;rw [List.drop_zero] at hb0;generalize lockA body ls = Y at hk2 hb0 ⊢;(conv=>whnf);refine Cq.new (qqx _ (all [X,A]) (by exact Ent.sub [6,6] ⟨rfl,trivial⟩) (hK.ent (Ent.a mm)) key hk aB cB Y hk2 (by omega)) (by rw [hb0,hz0];rfl) ?_;generalize openS key Y = Z;obtain ⟨Z,e⟩:=Z;rintro ⟨a43,c43,X43⟩ h43;dsimp only at h43 ⊢;(conv=>whnf);refine .one 5 r rfl ⟨rfl,?_⟩;conv=>whnf
    exact Ret.m (a43,c43,X43) [] [0,3] h43 rfl kk kk ⟨rfl,rfl⟩
end
section
attribute [local irreducible] macD q01 strS q03 q00 q02 q0e q06 q05 q08 q0a q0d q0b lionB lockS q09 openS
theorem qk7 {l : List HopS} (h : okHs l) {i : Nat} (hi : i < l.length) (j : Nat) (hj : j < 43) : (rowH l)[i * 43 + j]? = (l[i].cs)[j]?:=by
  rw [← List.getElem?_drop,q4q h _ (by omega),List.drop_eq_getElem_cons hi];show (l[i].cs ++ _)[j]? = _;rw [List.getElem?_append_left (by rw [HopS.cs_len (h _ (List.getElem_mem hi))];exact hj)]
theorem ldhkd {t : Nat} {x : TyX} {b off : Nat} {m : M} {f : SV → Prop} {A : HP} {p : Nat × Nat} {l : List HopS} (i : Nat) (hA : A ∈ m.F) (hr : Rd A (some (radr p)) (rowH l)) (h : okHs l) (hi : i < l.length)
    (hx : x.k.agg = false) (hb : b = p.1) (ho : off = p.2 + (i * 43 + 32)) (hf : f (.c (.int .i64 l[i].cmd.k))) : With (Ty Tryz.prog t x) (LdOb Tryz.prog t ⟨b,off,none⟩ m f):=by
  refine ld (i * 43 + 32) (.int .i64 l[i].cmd.k) hx hA hr hb ho ?_ trivial hf;rw [qk7 h hi 32 (by decide)];show (u8s l[i].key ++ ([Value.int .i64 l[i].cmd.k] ++ _))[32]? = _;rw [List.getElem?_append_right (by rw [u8l,(h _ (List.getElem_mem hi)).k];exact Nat.le_refl _),u8l,(h _ (List.getElem_mem hi)).k];rfl
theorem ldhid {t : Nat} {x : TyX} {b off : Nat} {m : M} {f : SV → Prop} {A : HP} {p : Nat × Nat} {l : List HopS} (i : Nat) (hA : A ∈ m.F) (hr : Rd A (some (radr p)) (rowH l)) (h : okHs l) (hi : i < l.length)
    (hx : x.k.agg = true) (hn : x.size = 8) (hb : b = p.1) (ho : off = p.2 + (i * 43 + 35)) (hf : f (.agg [.many 8 (u8s l[i].cmd.id)])) : With (Ty Tryz.prog t x) (LdOb Tryz.prog t ⟨b,off,none⟩ m f):=by
  have o : l[i].ok:=h _ (List.getElem_mem hi);have h8:=o.c;have hk:=o.k;refine lds (A:=A) (i * 43 + 35) [.many 8 (u8s l[i].cmd.id)] hx hA hr hb ho ?_ ?_ (by omega) (q04 ⟨mok h8 _,trivial⟩) hf
  · rw [hn,← List.drop_drop,q4q h _ (by omega),List.drop_eq_getElem_cons hi];show u8s l[i].cmd.id ++ [] = List.take 8 (List.drop 35 ((u8s l[i].key ++ ([Value.int .i64 l[i].cmd.k] ++ ([Value.int .i64 l[i].cmd.n] ++ ([Value.int .i64 l[i].cmd.d] ++ (u8s l[i].cmd.id ++ []))))) ++ _));have e : u8s l[i].key ++ ([Value.int .i64 l[i].cmd.k] ++ ([Value.int .i64 l[i].cmd.n] ++ ([Value.int .i64 l[i].cmd.d] ++ (u8s l[i].cmd.id ++ [])))) = (u8s l[i].key ++ [Value.int .i64 l[i].cmd.k,Value.int .i64 l[i].cmd.n,Value.int .i64 l[i].cmd.d]) ++ u8s l[i].cmd.id:=by simp
    rw [e,List.append_assoc,List.drop_left' (by simp [u8l,hk]),List.take_left' (by rw [u8l,h8]),List.append_nil]
  · rw [hn];show (u8s l[i].cmd.id ++ []).length = 8;rw [List.append_nil,u8l,h8]
abbrev mkV (Z : BlkS × KeyS × Int) (t : Option Addr × Nat) : SV:=.tup [.agg Z.1.sg,.agg [.many 8 (u8s Z.2.1.id),.many 32 (u8s Z.2.1.key),.one (.rs t.1 Z.2.1.ls.length t.2)],.c (.int .i64 Z.2.2)]
theorem q8k (B : Names) : okL B blk0.sg:=BlkS.okL qe2 B
theorem q5t (B : Names) (a : Option Addr) (c : Nat) : okL B [.many 8 (u8s key0.id),.many 32 (u8s key0.key),.one (.rs a key0.ls.length c)]:=by
  have h8 : key0.id.length = 8:=List.length_replicate;exact ⟨mok h8 _,mok q1h _,trivial,trivial⟩
set_option maxHeartbeats 2000000 in
theorem qnc (A R : HP) (hE : Ent A R) (hK : Gl A) (x : List UInt8) (hx : x.length = 32) (key : List UInt8) (hky : key.length = 32) (first : Int) (a : Option Addr) (cap : Nat) (hs : List HopS) (ho : okHs hs) (hr : Rd R a (rowH hs)) (hn : hs.length ≤ 1000000) :
    Con Tryz.prog 31 [.agg [.many 32 (u8s x)],.agg [.many 32 (u8s key)],.c (.int .i64 first),.c (.rs a hs.length cap)] [] [] A (fun t : Option Addr × Nat=>Fc t.1 t.2 (makeS x key first hs).2.1.ls) (mkV (makeS x key first hs)) (fun _=>[]) (fun t=>[RowK t.1 t.2 23 (makeS x key first hs).2.1.ls]):=by
  have hr:=hr.ent hE;have hxs:=mok hx;have hks:=mok hky;have hA:=qfq (x:=x) (key:=key) (first:=first) (hs:=hs);have hB:=qa2 (x:=x) (key:=key) (first:=first) (hs:=hs);have hC:=qhh (x:=x) (key:=key) (first:=first) (hs:=hs);have hD:=qa0 (x:=x) (key:=key) (first:=first) (hs:=hs);have hF:=qdk (x:=x) (key:=key) (first:=first) (hs:=hs);have hG:=qcy (x:=x) (key:=key) (first:=first) (hs:=hs);generalize makeS x key first hs = Z at hA hB ⊢
  refine Con.of' tt_ok Tryz.func31 rfl (by decide) [.agg [.many 32 (u8s x)],.agg [.many 32 (u8s key)],.c (.int .i64 first),.c (.rs a hs.length cap)] [] [] rfl rfl trivial ⟨⟨hxs _,trivial⟩,⟨hks _,trivial⟩,trivial,trivial,trivial⟩ rfl ?_;(conv=>whnf);intro b4;(conv=>whnf);intro b5;(conv=>whnf);intro b8;(conv=>whnf);intro b9;(conv=>whnf);refine Cq.pu (qna _ first) rfl ?_;(conv=>whnf);refine Cond.not ⟨fun hnd=>?_,fun hnd=>?_⟩
  case' refine_2 =>
    rw [hA hnd];(conv=>whnf);refine Ret.own0 23 32 ?_;exact Ret.m (none,0) [] [0,0] Fc.nil rfl ⟨q8k _,q5t _ none 0,trivial,trivial⟩ kk ⟨rfl,rfl⟩
  rw [hB hnd];clear hA hB;(conv=>whnf);refine Ar.i64 (by omega) ?_;(conv=>whnf);refine Cond.d (fun h=>?_) (fun h1=>?_)
  · rw [hC (fun k=>by omega)];(conv=>whnf);refine Ret.own0 23 32 ?_;exact Ret.m (none,0) [] [0,0] Fc.nil rfl ⟨q8k _,q5t _ none 0,trivial,trivial⟩ kk ⟨rfl,rfl⟩
  have h1l : 1 ≤ hs.length:=by omega
  have hnt : ((hs.length : Int) - 1) = ((hs.length - 1 : Nat) : Int):=by omega
  rw [hnt];have hi : hs.length - 1 < hs.length:=by omega
  have ho1 : hs[hs.length - 1].ok:=ho _ (List.getElem_mem hi);have hlc : lastC hs = hs[hs.length - 1].cmd:=q7n hi;(conv=>whnf);refine ⟨by omega,PtrOb.rd (A:=A) (by simp) hr (by rw [q1q ho];omega) fun p hp=>?_⟩;subst hp;(conv=>whnf);refine ldhkd (A:=A) (l:=hs) (hs.length - 1) (by simp) hr ho hi rfl rfl (by show _ + ((hs.length - 1 : Nat) : Int).toNat * 43 + _ + _ = _;omega) ?_;(conv=>whnf);refine Cond.neI (fun h3=>?_) (fun h3=>?_)
  · rw [hC (fun k=>h3 (by rw [← hlc];exact k.2))];(conv=>whnf);refine Ret.own0 23 32 ?_;exact Ret.m (none,0) [] [0,0] Fc.nil rfl ⟨q8k _,q5t _ none 0,trivial,trivial⟩ kk ⟨rfl,rfl⟩
  rw [hD ⟨h1l,by rw [hlc];exact h3⟩];clear hC hD;have hBd:=built (x:=x) ho;have hl5 : (q0b x hs).2.2 = 0 → (q0b x hs).2.1.length ≤ 5:=fun _=>(q68 x ho).2.2;have CB:=fun A R hE hK a c hr hn=>qpc A R hE hK x hx a c hs ho hr hn;generalize make2 x key first hs = Z at hF hG ⊢;generalize q0b x hs = B at hBd hl5 CB hF hG;obtain ⟨h,ss,e⟩:=B;have ok1:=hBd.ok;have oks:=hBd.ks;have hlen:=hBd.len;clear hBd;dsimp only at ok1 oks hlen hl5 CB hF hG;conv=>whnf
  refine Cq.new (CB _ A (Ent.a mm) (hK.ent (Ent.a mm)) (some (radr p)) cap hr hn) rfl ?_;rintro ⟨a13,c13⟩ h13;dsimp only at h13 ⊢;(conv=>whnf);intro b12;(conv=>whnf);refine Cond.neI (fun he=>?_) (fun he=>?_)
  · rw [hF he];(conv=>whnf);refine Ret.own0 23 32 ?_;exact Ret.m (none,0) [] [0,1] Fc.nil rfl ⟨q8k _,q5t _ none 0,trivial,trivial⟩ kk ⟨rfl,rfl⟩
  rw [hG he];clear hF hG;(conv=>whnf);refine Draw.a (by kernel_rfl) tt_ok (Tv.of (List.range 10) .nil) 9 (by kernel_rfl) ?_;(conv=>whnf);refine ⟨by omega,PtrOb.rd (A:=A) (by simp) hr (by rw [q1q ho];omega) fun p2 hp2=>?_⟩;obtain rfl:=q1z hp2;(conv=>whnf);refine ldhid (A:=A) (l:=hs) (hs.length - 1) (by simp) hr ho hi rfl rfl rfl (by show _ + ((hs.length - 1 : Nat) : Int).toNat * 43 + _ + _ = _;omega) ?_;rw [← hlc];have hid : (lastC hs).id.length = 8:=by rw [hlc];exact ho1.c
  generalize lastC hs = lc at hid ⊢;obtain ⟨lk,ln,ld,id⟩:=lc;dsimp only at hid ⊢;(conv=>whnf);intro b15;(conv=>whnf);refine Sub.r [12,9,8,5,4] [0,0] ?_;(conv=>whnf);subst he;obtain ⟨hsl,_⟩:=hlen rfl;have hnl : ss.length ≤ 5:=hl5 rfl;have hLk : ∀ n,okK ((ss.take n).map q09):=fun n=>qea;obtain ⟨al,be,ga⟩:=h;have oal:=ok1.a;have obe:=ok1.b;have oga:=ok1.g;dsimp only at oal obe oga
  have hok : ∀ (a' : Option Addr) (n c' : Nat),okH [(15,b15),(12,b12),(9,b9),(8,b8),(5,b5),(4,b4)] [(15,[.many 8 (u8s id),.many 32 (u8s key),.one (.rs a' n c')],68),(12,[.many 32 (u8s al),.many 160 (u8s be),.many 16 (u8s ga)],59),(9,[.many 8 (u8s key0.id),.many 32 (u8s key0.key),.one (.rs none 0 0)],68),(8,blk0.sg,66),(5,[.many 32 (u8s key)],23),(4,[.many 32 (u8s x)],23)] :=
    fun _ _ _=>⟨⟨kk,mok hid _,hks _,trivial,trivial⟩,⟨kk,HdrS.okL ok1 _⟩,⟨kk,q5t _ none 0⟩,⟨kk,q8k _⟩,⟨kk,hks _,trivial⟩,⟨kk,hxs _,trivial⟩,trivial⟩
  refine LoopOb.m (σ:=Nat × Option Addr × Nat) (fun s=>[(2,.c (.int .i64 first)),(5,.c (.ptr 5 0)),(8,.c (.ptr 8 0)),(9,.c (.ptr 9 0)),(12,.c (.ptr 12 0)),(15,.c (.ptr 15 0)),(59,.c (.rs a13 ss.length c13)),(60,.c (.int .i64 ss.length)),(61,.c (.int .i64 s.1))])
    (fun s=>⟨[(15,b15),(12,b12),(9,b9),(8,b8),(5,b5),(4,b4)],[(15,[.many 8 (u8s id),.many 32 (u8s key),.one (.rs s.2.1 s.1 s.2.2)],68),(12,[.many 32 (u8s al),.many 160 (u8s be),.many 16 (u8s ga)],59),(9,[.many 8 (u8s key0.id),.many 32 (u8s key0.key),.one (.rs none 0 0)],68),(8,blk0.sg,66),(5,[.many 32 (u8s key)],23),(4,[.many 32 (u8s x)],23)],
      [RowK s.2.1 s.2.2 23 ((ss.take s.1).map q09),RowK a13 c13 23 ss,A]⟩) (fun s=>s.1 ≤ ss.length ∧ s.1 ≤ s.2.2 ∧ (s.2.1 = none → s.1 = 0)) (fun s=>ss.length - s.1) (0,none,0) ⟨Nat.zero_le _,Nat.le_refl _,fun _=>rfl⟩ ?_ ?_
  · refine Wk.own0 23 32 ?_;exact Wk.m [15,12,9,8,5,4] [0,0,0] kk (hok none 0 0) ⟨rfl,rfl⟩
  rintro ⟨i,aL,cL⟩ ⟨hi2,hc2,hn2⟩;dsimp only at hi2 hc2 hn2 ⊢;(conv=>whnf);refine Cond.d (fun h=>?_) (fun h=>?_)
  · have hi3 : i < ss.length:=by omega
    have hki : ss[i].length = 32:=oks _ (List.getElem_mem hi3);(conv=>whnf);refine ⟨by omega,PtrOb.rd (A:=RowK a13 c13 23 ss) (by simp) Own.rd (by rw [q0k oks];omega) fun q hq=>?_⟩;subst hq;(conv=>whnf);refine ldk (A:=RowK (some (radr q)) c13 23 ss) (l:=ss) i (by simp) Own.rd oks hi3 rfl rfl rfl (by show _ + (i : Int).toNat * 32 = _;omega) ?_;(conv=>whnf);intro b17;(conv=>whnf);refine Draw.free (by kernel_rfl) tt_ok (Tv.of (List.range 8) .nil) 7 _ _ (by kernel_rfl) (fun k=>k) (Sub.r [17,15,12,9,8,5,4] [1,1] ?_);conv=>whnf
    refine Cq.pu (qi1 _ (hK.ent (Ent.a mm)) ss[i] hki) rfl ?_;have hlk:=q2n ss[i];have hst : (ss.take (i + 1)).map q09 = (ss.take i).map q09 ++ [q09 ss[i]]:=by rw [List.take_succ_eq_append_getElem hi3,List.map_append];rfl
    generalize q09 ss[i] = lay at hlk hst ⊢;(conv=>whnf);refine Sub.r [17,15,12,9,8,5,4] [1,1] ?_;(conv=>whnf);intro b69;(conv=>whnf);refine Sub.r [17,15,12,9,8,5,4] [1,1] ?_;(conv=>whnf);have hll : ((ss.take i).map q09).length = i:=by rw [List.length_map,List.length_take,Nat.min_eq_left hi2]
    refine q1a (a:=aL) (n:=i) (cap:=cL) (xs:=rowK ((ss.take i).map q09)) (k:=1) (ys:=u8s lay) (src:=.c (.slc 69 0 1 1)) (F':=[RowK (some (radr q)) c13 23 ss,A]) (.refl _) (by rw [q0k (hLk i),hll]) (by rw [u8l,hlk];rfl) (by exact Src.slc ⟨[],rfl⟩) (q0s _) (by show (i + 1 + (i + 1) / 4 + 192) * 32 ≤ 281474976710656;omega) (by omega) (by decide) 60 (.inr rfl) ?_;intro aN cN hcN hnN;(conv=>whnf);refine Sub.r [17,15,12,9,8,5,4] [1,1] ?_;(conv=>whnf);refine Ar.i64 (by omega) ?_;conv=>whnf
    refine ⟨(i + 1,aN,cN),⟨by dsimp only;omega,by dsimp only;omega,hnN⟩,by dsimp only;omega,?_⟩;dsimp only;rw [hst];refine Wk.m [15,12,9,8,5,4] [0,0,0] kk (hok aN (i + 1) cN) ⟨rfl,?_⟩;show [Own aN cN _ 32 (rowK ((ss.take i).map q09) ++ u8s lay),_,A] = [Own aN cN _ 32 (rowK ((ss.take i).map q09 ++ [lay])),_,A];rw [q2r];show _ = [Own aN cN _ 32 (rowK ((ss.take i).map q09) ++ (u8s lay ++ [])),_,A];rw [List.append_nil]
  · obtain rfl : i = ss.length:=by omega
    rw [List.take_length]
    refine Draw.free (by kernel_rfl) tt_ok (Tv.of (List.range 8) .nil) 7 [(15,[.many 8 (u8s id),.many 32 (u8s key),.one (.rs aL ss.length cL)],68),(12,[.many 32 (u8s al),.many 160 (u8s be),.many 16 (u8s ga)],59),(5,[.many 32 (u8s key)],23),(4,[.many 32 (u8s x)],23)] [RowK aL cL 23 (ss.map q09),RowK a13 c13 23 ss,A] (by kernel_rfl) (fun k c hc=>k c (by simp only [List.mem_cons,List.not_mem_nil,or_false] at hc ⊢;rcases hc with h | h | h | h <;> simp [h])) (Sub.r [15,12,5,4] [0,0,0] ?_);(conv=>whnf);refine Sub.r [15,12,5,4] [0,0,0] ?_;conv=>whnf
    refine Sub.r [15,12,5,4] [0,0,0] ?_;(conv=>whnf);have hml : (ss.map q09).length = ss.length:=List.length_map _;refine Ret.m (aL,cL) [] [0,1] ⟨by dsimp only;omega,fun h=>by have:=hn2 h;exact List.eq_nil_of_length_eq_zero (by omega)⟩ ?_ ⟨BlkS.okL (b:=⟨first,⟨al,be,ga⟩,key⟩) ⟨ok1,hky⟩ _,⟨mok hid _,hks _,trivial,trivial⟩,trivial,trivial⟩ kk ⟨rfl,rfl⟩;show _ = Value.tuple #[Value.agg (dens _ (BlkS.sg ⟨first,⟨al,be,ga⟩,key⟩)).toArray,Value.agg (dens _ [.many 8 (u8s id),.many 32 (u8s key),.one (.rs aL (ss.map q09).length cL)]).toArray,_]
    rw [hml];rfl
end
end Go.Proofs.YtfehjfoajlfhfaaGreatDoor
