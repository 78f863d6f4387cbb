import Derived.Test.YtfehjfoajlfhfaaGreatDoorQk
import Derived.Test.YtfehjfoajlfhfaaGreatDoorQj
namespace Go.Proofs.YtfehjfoajlfhfaaGreatDoor
open Go.Sx
set_option maxRecDepth 100000
set_option pp.deepTerms false
set_option pp.maxSteps 300
set_option linter.unusedSimpArgs false
set_option linter.unusedVariables false
section
attribute [local irreducible] macD
theorem qj6 (A R : HP) (hE : Ent A R) (secret : List UInt8) (hs : secret.length = 32) (a : Option Addr) (cap : Nat) (info : List UInt8) (hb : Bts R a cap info) (hi : info.length ≤ 100000) (n : Nat) (hn : n ≤ 1000) :
    Con Tryz.prog 98 [.agg [.many 32 (u8s secret)],.c (.rs a info.length cap),.c (.int .i64 n)] [] [] A (fun t : Option Addr × Nat=>n ≤ t.2 ∧ (t.1 = none → n = 0)) (fun t=>.tup [.c (.rs t.1 n t.2),.c (.int .i64 0)]) (fun _=>[]) (fun t=>[Own t.1 t.2 5 1 (u8s ((expO secret info ((n + 31) / 32)).take n))]):=by
  have hr:=hb.1.ent hE;have hks:=mok hs;refine Con.of' tt_ok Tryz.func98 rfl (by decide) [.agg [.many 32 (u8s secret)],.c (.rs a info.length cap),.c (.int .i64 n)] [] [] rfl rfl trivial ⟨⟨hks _,trivial⟩,trivial,trivial,trivial⟩ rfl ?_;(conv=>whnf);intro b3;(conv=>whnf);refine Cond.d (fun h=>?_) (fun h=>?_)
  · omega
  (conv=>whnf);refine Cond.d (fun h=>?_) (fun h=>?_)
  · omega
  conv=>whnf
  refine LoopOb.m (σ:=Nat × (Option Addr × Nat) × (Option Addr × Nat)) (fun s=>[(1,.c (.rs a info.length cap)),(2,.c (.int .i64 n)),(3,.c (.ptr 3 0)),(8,.c (.rs s.2.1.1 (expO secret info s.1).length s.2.1.2)),(9,.c (.rs s.2.2.1 (expT secret info s.1).length s.2.2.2)),(10,.c (.int .i64 ((s.1 + 1 : Nat) : Int)))])
    (fun s=>⟨[(3,b3)],[(3,[.many 32 (u8s secret)],23)],[Own s.2.1.1 s.2.1.2 5 1 (u8s (expO secret info s.1)),Own s.2.2.1 s.2.2.2 5 1 (u8s (expT secret info s.1)),A]⟩)
    (fun s=>s.1 ≤ (n + 31) / 32 ∧ Fc s.2.1.1 s.2.1.2 (expO secret info s.1)) (fun s=>(n + 31) / 32 - s.1) (0,(none,0),(none,0)) ⟨Nat.zero_le _,Fc.nil⟩ ?_ ?_
  · refine Wk.own0 5 1 (Wk.own0 5 1 ?_);exact Wk.m [3] [1,0,0] kk ⟨⟨kk,hks _,trivial⟩,trivial⟩ ⟨rfl,rfl⟩
  rintro ⟨m,⟨a8,c8⟩,⟨a9,c9⟩⟩ ⟨hm,hc⟩;dsimp only at hm hc ⊢;have hol:=qat secret info m;have htl:=qjp secret info m;(conv=>whnf);refine Cond.d (fun h=>?_) (fun h=>?_)
  · have hm' : m < (n + 31) / 32:=by omega
    have es : expO secret info (m + 1) = expO secret info m ++ expT secret info (m + 1):=rfl;have et : expT secret info (m + 1) = macD secret (expT secret info m ++ info ++ [UInt8.ofNat (m + 1)]):=rfl;have hl1:=q8d secret info m;obtain ⟨T1,eT⟩ : ∃ T1,expT secret info (m + 1) = T1:=⟨_,rfl⟩;rw [eT] at es et hl1;obtain ⟨O1,eO⟩ : ∃ O1,expO secret info (m + 1) = O1:=⟨_,rfl⟩;rw [eO] at es;generalize expT secret info m = T at htl et ⊢;generalize expO secret info m = O at hol hc es ⊢
    have hu8 : ((m + 1 : Nat) : Int) = ((UInt8.ofNat (m + 1)).toNat : Int):=by simp;omega
    (conv=>whnf);refine Cq.fb (q32 _ secret hs) rfl fun a24 c24 hc24=>?_;(conv=>whnf);refine Cq.fb (q9w _ (Own a9 c9 5 1 (u8s T)) A (Ent.a mm) (Ent.a mm) a9 c9 T Own.rd (by omega) a cap info hr (by omega)) rfl fun a27 c27 hc27=>?_;(conv=>whnf);refine Ar.u8 (by omega) ?_;(conv=>whnf);intro b30;(conv=>whnf);refine appb (l:=T ++ info) (m:=[UInt8.ofNat (m + 1)]) (.refl _) (by exact Src.u8 _ hu8 rfl) rfl rfl ⟨rfl,by decide,by decide⟩ (by simp;omega) 24 (.inr rfl) ?_;intro a31 c31 hc31;conv=>whnf
    refine Cq.pu (qjv _ (Own a31 c31 5 1 (u8s (T ++ info ++ [UInt8.ofNat (m + 1)]))) (Own a24 c24 5 1 (u8s secret)) (Ent.a mm) (Ent.a mm) a24 c24 secret ⟨Own.rd,hc24⟩ (by omega) a31 c31 (T ++ info ++ [UInt8.ofNat (m + 1)]) ⟨Own.rd,hc31⟩ (by simp;omega)) rfl ?_;rw [← et];(conv=>whnf);refine Cq.fb (q32 _ T1 hl1) rfl fun a33 c33 hc33=>?_;conv=>whnf
    refine appb (l:=O) (m:=T1) (List.perm_middle (l₁:=[Own a33 c33 5 1 (u8s T1),Own a31 c31 5 1 (u8s (T ++ info ++ [UInt8.ofNat (m + 1)])),Own a24 c24 5 1 (u8s secret)])) (Src.rs (A:=Own a33 c33 5 1 (u8s T1)) (by simp) Own.rd) rfl rfl ⟨rfl,by decide,by decide⟩ (by omega) 24 (.inr rfl) ?_;intro a2 c2 hc2;rw [← es] at hc2 ⊢;(conv=>whnf);refine Ar.i64 (by omega) ?_;(conv=>whnf);refine ⟨(m + 1,(a2,c2),(a33,c33)),⟨by dsimp only;omega,by dsimp only;rw [eO];exact hc2⟩,by dsimp only;omega,?_⟩;dsimp only;rw [eO,eT]
    exact Wk.m [3] [0,0,3] kk ⟨⟨kk,hks _,trivial⟩,trivial⟩ ⟨rfl,rfl⟩
  obtain rfl : m = (n + 31) / 32:=by omega
  have hle : n ≤ (expO secret info ((n + 31) / 32)).length:=by omega
  have hcc:=hc.1;generalize expO secret info ((n + 31) / 32) = L at hc hle hcc ⊢;(conv=>whnf);refine ⟨⟨by omega,by omega⟩,?_⟩;(conv=>whnf);refine Ret.turn (F':=[Own a8 c8 5 1 (u8s (L.take n)),Own a9 c9 5 1 (u8s (expT secret info ((n + 31) / 32))),A]) (fun g s=>q0x (fun g' h'=>?_) s) ?_
  · rw [q1e];exact Own.take n g' h'
  refine Ret.m (a8,c8) [] [0,1] ⟨by dsimp only;omega,fun e=>by have:=hc.2 e;rw [this] at hle;simpa using hle⟩ ?_ kk kk ⟨rfl,rfl⟩;show Value.tuple #[Value.slice (cutA a8 _ 0 1) n (c8 - 0),_] = _;rw [qap];rfl
theorem q8l (A : HP) (secret : List UInt8) (hs : secret.length = 32) (lab : List UInt8) (hi : lab.length ≤ 1000) :
    Pu Tryz.prog 60 [.agg [.many 32 (u8s secret)],.c (.str (bs lab))] A (.agg [.many 32 (u8s (q01 secret lab))]):=by
  have hks:=mok hs;refine Con.of' tt_ok Tryz.func60 rfl (by decide) [.agg [.many 32 (u8s secret)],.c (.str (bs lab))] [] [] rfl rfl trivial ⟨⟨hks _,trivial⟩,trivial,trivial⟩ rfl ?_;(conv=>whnf);intro b2;(conv=>whnf);intro b4;(conv=>whnf);refine ⟨by rw [qcc];show 9 + _ ≤ _;omega,?_⟩;(conv=>whnf);refine qao (pgB ++ lab) ?_ rfl rfl rfl fun a10 c10 hc10=>?_
  · apply ByteArray.ext
    rw [ByteArray.data_append]
    simp [bs,pgB]
  have hil : (pgB ++ lab).length ≤ 100000:=by rw [List.length_append];show 9 + _ ≤ _;omega
  (conv=>whnf);refine Cq.new (qj6 _ (Own a10 c10 5 1 (u8s (pgB ++ lab))) (Ent.a mm) secret hs a10 c10 (pgB ++ lab) ⟨Own.rd,hc10.1,hc10.2⟩ hil 32 (by decide)) rfl ?_;rintro ⟨t,c⟩ ht
  have e : (expO secret (pgB ++ lab) ((32 + 31) / 32)).take 32 = q01 secret lab:=by
    show ([] ++ macD secret ([] ++ (pgB ++ lab) ++ [UInt8.ofNat (0 + 1)])).take 32 = macD secret (pgB ++ lab ++ [1]);rw [List.nil_append,List.nil_append,List.take_of_length_le (by rw [q27];decide)];rfl
  rw [e];have hdl:=q1n secret lab;generalize q01 secret lab = D at hdl ⊢;dsimp only at ht ⊢;have hz : (List.replicate 32 (Value.int .u8 0)).length = 32:=List.length_replicate;have hz2 : ∀ v ∈ (List.replicate 32 (Value.int .u8 0)),Value.oneCell' v = true:=fun v hv=>by rw [(List.mem_replicate.1 hv).2];rfl
  (conv=>whnf);intro b7;conv=>whnf
  refine LoopOb.m (σ:=Nat) (fun i=>[(4,.c (.ptr 4 0)),(5,.c (.rs t 32 c)),(7,.c (.ptr 7 0)),(8,.c (.int .i64 i))]) (fun i=>⟨[(7,b7),(4,b4)],[(7,[.many 32 (u8s (keyP D i))],23),(4,[.many 32 (List.replicate 32 (Value.int .u8 0))],23)],[Own t c 5 1 (u8s D),A]⟩)
    (fun i=>i ≤ 32) (fun i=>32 - i) 0 (Nat.zero_le _) ?_ ?_
  · exact Wk.m [7,4] [0,1] kk ⟨⟨kk,mok (q58 hdl (Nat.zero_le _)) _,trivial⟩,⟨kk,⟨hz,hz2⟩,trivial⟩,trivial⟩ ⟨by rw [qcp];rfl,rfl⟩
  intro i hi;(conv=>whnf);refine Cond.d (fun h=>?_) (fun h=>?_)
  · have hi' : i < 32:=by omega
    have hr : Rd (Own t c 5 1 (u8s D)) t (u8s D):=Own.rd;(conv=>whnf);refine ⟨by omega,PtrOb.rd (A:=Own t c 5 1 (u8s D)) (by simp) hr (by rw [u8l];omega) fun p hp=>?_⟩;subst hp;(conv=>whnf);refine ldb (A:=Own (some (radr p)) c 5 1 (u8s D)) i (by simp) hr (by omega) rfl rfl (by show _ + (i : Int).toNat * 1 = _;omega) ?_;(conv=>whnf);refine ⟨by omega,?_⟩;(conv=>whnf);refine ⟨⟨rfl,by show (i : Int).toNat * 1 + 1 ≤ 32;omega⟩,?_⟩;(conv=>whnf);refine Ar.i64 (by omega) ?_;conv=>whnf
    have s1:=q4a (l:=keyP D i) (i:=i) (n:=gd D i) (by rw [q58 hdl (by omega)];exact hi') (gd_lt _ _);rw [qfz hdl hi'] at s1;have em : (i : Int).toNat * 1 = i:=by omega
    have s2 : (u8s (keyP D i)).take ((i : Int).toNat * 1) ++ ([Value.int .u8 ((gd D i : Nat) : Int)] ++ (u8s (keyP D i)).drop ((i : Int).toNat * 1 + 1)) = u8s (keyP D (i + 1)):=by rw [em];exact s1
    refine ⟨i + 1,by omega,by omega,Wk.m [7,4] [0,0] kk ⟨⟨kk,mok (q58 hdl (by omega)) _,trivial⟩,⟨kk,⟨hz,hz2⟩,trivial⟩,trivial⟩ ⟨?_,rfl⟩⟩;rw [← s2];rfl
  obtain rfl : i = 32:=by omega
  rw [qga hdl];(conv=>whnf);exact Ret.m () [] [1] trivial rfl ⟨mok hdl _,trivial⟩ kk ⟨rfl,rfl⟩
end
section
attribute [local irreducible] macD q01 strS
theorem qfg (A R : HP) (hE : Ent A R) (s : List UInt8) (hs : s.length = 32) (a : Option Addr) (cap : Nat) (b : List UInt8) (hb : Bts R a cap b) (hn : b.length ≤ 1000000000) :
    Pu Tryz.prog 83 [.agg [.many 32 (u8s s)],.c (.rs a b.length cap)] A (.agg [.many 16 (u8s (q0j s b))]):=by
  have hks:=mok hs;refine Con.of' tt_ok Tryz.func83 rfl (by decide) [.agg [.many 32 (u8s s)],.c (.rs a b.length cap)] [] [] rfl rfl trivial ⟨⟨hks _,trivial⟩,trivial,trivial⟩ rfl ?_;(conv=>whnf);intro b2;(conv=>whnf);intro b4;(conv=>whnf);refine Cq.pu (q8l _ s hs [109,117] (by decide)) rfl ?_;have hdl:=q1n s [109,117];have hpl:=q24 s b;unfold q0j at hpl ⊢;generalize q01 s [109,117] = D at hdl hpl ⊢;(conv=>whnf);intro b5;(conv=>whnf);refine Cq.fb (q32 _ D hdl) rfl fun a9 c9 hc9=>?_;conv=>whnf
  refine Cq.pu (qjv _ R (Own a9 c9 5 1 (u8s D)) ((Ent.a mm).trans hE) (Ent.a mm) a9 c9 D ⟨Own.rd,hc9⟩ (by omega) a cap b hb (by omega)) rfl ?_;(conv=>whnf);refine Cq.pu (qm7 _ (macD D b) (q27 _ _)) rfl ?_;(conv=>whnf);exact Ret.m () [] [1] trivial rfl ⟨mok hpl _,trivial⟩ kk ⟨rfl,rfl⟩
theorem qf2 (A : HP) (s al : List UInt8) (hs : s.length = 32) (ha : al.length = 32) : Pu Tryz.prog 87 [.agg [.many 32 (u8s s)],.agg [.many 32 (u8s al)]] A (.agg [.many 32 (u8s (q08 s al))]):=by
  have hks:=mok hs;refine Con.of' tt_ok Tryz.func87 rfl (by decide) [.agg [.many 32 (u8s s)],.agg [.many 32 (u8s al)]] [] [] rfl rfl trivial ⟨⟨hks _,trivial⟩,⟨mok ha _,trivial⟩,trivial⟩ rfl ?_;(conv=>whnf);intro b2;(conv=>whnf);intro b3;(conv=>whnf);intro b4;(conv=>whnf);refine Draw.a (by kernel_rfl) tt_ok (Tv.of [0,2,1,3,4,5] .nil) 5 (by kernel_rfl) ?_;(conv=>whnf);refine Cq.fb (q32 _ s hs) rfl fun a6 c6 hc6=>?_;(conv=>whnf);refine Sub.r [4,3,2] [1] ?_;conv=>whnf
  refine Cq.fb (q32 _ al ha) rfl fun a8 c8 hc8=>?_;(conv=>whnf);refine Sub.r [4,3,2] [2] ?_;(conv=>whnf);refine Cq.pu (qjv _ (Own a8 c8 5 1 (u8s al)) (Own a6 c6 5 1 (u8s s)) (Ent.a mm) (Ent.a mm) a6 c6 s ⟨Own.rd,hc6⟩ (by omega) a8 c8 al ⟨Own.rd,hc8⟩ (by omega)) rfl ?_;(conv=>whnf);refine Sub.r [4,3,2] [2] ?_;(conv=>whnf);exact Ret.m () [] [2] trivial rfl ⟨mok (q43 _ _) _,trivial⟩ kk ⟨rfl,rfl⟩
theorem qes (A : HP) (k : List UInt8) (hk : k.length = 16) : FB Tryz.prog 91 [.agg [.many 16 (u8s k)]] A 5 k:=by
  refine Con.of' tt_ok Tryz.func91 rfl (by decide) [.agg [.many 16 (u8s k)]] [] [] rfl rfl trivial ⟨⟨mok hk _,trivial⟩,trivial⟩ rfl ?_;(conv=>whnf);intro b1;conv=>whnf
  refine LoopOb.m (σ:=Nat × Option Addr × Nat) (fun s=>[(1,.c (.ptr 1 0)),(3,.c (.rs s.2.1 (k.take s.1).length s.2.2)),(4,.c (.int .i64 s.1))]) (fun s=>⟨[(1,b1)],[(1,[.many 16 (u8s k)],31)],[Own s.2.1 s.2.2 5 1 (u8s (k.take s.1)),A]⟩)
    (fun s=>s.1 ≤ 16 ∧ Fc s.2.1 s.2.2 (k.take s.1)) (fun s=>16 - s.1) (0,none,0) ⟨Nat.zero_le _,Fc.nil⟩ ?_ ?_
  · refine Wk.own0 5 1 ?_;exact Wk.m [1] [0,0] kk ⟨⟨kk,mok hk _,trivial⟩,trivial⟩ ⟨rfl,rfl⟩
  rintro ⟨i,a,c⟩ ⟨hi,hc⟩;dsimp only at hi hc ⊢;have hl : (k.take i).length = i:=by rw [List.length_take];omega
  (conv=>whnf);refine Cond.d (fun h=>?_) (fun h=>?_)
  · have hi' : i < 16:=by omega
    (conv=>whnf);refine ⟨by omega,?_⟩;(conv=>whnf);refine q0v i (by show (i : Int).toNat * 1 = i;omega) (by omega) ?_;(conv=>whnf);intro b13;(conv=>whnf);refine appb (l:=k.take i) (m:=[k[i]]) (.refl _) (by exact Src.u8 _ (q45 (by omega)) rfl) rfl rfl ⟨rfl,by decide,by decide⟩ (by rw [hl];simp;omega) 24 (.inr rfl) ?_;intro a2 c2 hc2;rw [← List.take_succ_eq_append_getElem (by omega)] at hc2 ⊢;(conv=>whnf);refine Ar.i64 (by omega) ?_;conv=>whnf
    exact ⟨(i + 1,a2,c2),⟨by dsimp only;omega,hc2⟩,by dsimp only;omega,Wk.m [1] [0,0] kk ⟨⟨kk,mok hk _,trivial⟩,trivial⟩ ⟨rfl,rfl⟩⟩
  obtain rfl : i = 16:=by omega
  have e : k.take 16 = k:=List.take_of_length_le (by omega);rw [e] at hc ⊢;(conv=>whnf);exact Ret.m (a,c) [] [0,0] hc rfl kk kk ⟨rfl,rfl⟩
end
section
attribute [local irreducible] macD q01 strS
abbrev rsg (h : HdrS) (a : Option Addr) (c : Nat) : List Seg:=[.many 32 (u8s h.alpha),.one (.rs a h.beta.length c),.many 16 (u8s h.gamma)]
abbrev OwnHd (b : Nat) (h : HdrS) : HP:=Own (some (radr (b,0))) 208 59 1 (u8s h.alpha ++ (u8s h.beta ++ (u8s h.gamma ++ [])))
theorem OwnHd.rd {b : Nat} {h : HdrS} (o : h.ok) : Rd (OwnHd b h) (some (radr (b,32))) (u8s h.beta):=by
  have ha:=o.a;have hb:=o.b;have h1:=(Own.rd (a:=some (radr (b,0))) (cap:=208) (e:=59) (size:=1) (xs:=u8s h.alpha ++ (u8s h.beta ++ (u8s h.gamma ++ [])))).cut 208 32 160 (by decide);rw [List.drop_left' (by rw [u8l,ha]),List.take_left' (by rw [u8l,hb])] at h1
  have e : cutA (some (radr (b,0))) 208 32 1 = some (radr (b,32)):=by
    unfold cutA;rw [if_neg (by decide)];show some ((⟨b,0,none⟩ : Addr).add (32 * 1)) = _;rw [q0l];rfl
  rw [e] at h1;exact h1
theorem qqy (A : HP) (h : HdrS) (o : h.ok) :
    Con Tryz.prog 71 [.agg h.sg] [] [] A (fun _ : Nat=>True) (fun b=>.agg (rsg h (some (radr (b,32))) 160)) (fun _=>[]) (fun b=>[OwnHd b h]):=by
  obtain ⟨al,be,ga⟩:=h;have hal:=o.a;have hbe:=o.b;have hga:=o.g;dsimp only at hal hbe hga;refine Con.of' tt_ok Tryz.func71 rfl (by decide) [.agg [.many 32 (u8s al),.many 160 (u8s be),.many 16 (u8s ga)]] [] [] rfl rfl trivial ⟨HdrS.okL o _,trivial⟩ rfl ?_;(conv=>whnf);intro b1;(conv=>whnf);intro b2;(conv=>whnf);refine Draw.a (by kernel_rfl) tt_ok (Tv.of (List.range 8) .nil) 7 (by kernel_rfl) ?_;(conv=>whnf);refine Ret.own 1 208 208 1 ⟨_,_,rfl,⟨rfl,Nat.le_refl _⟩,HdrS.okL o _,?_⟩
  refine Ret.m b1 [] [0,0] trivial ?_ ⟨mok hal _,trivial,mok hga _,trivial⟩ kk ⟨rfl,?_⟩
  · show Value.agg _ = Value.agg (u8s al ++ ([Value.slice (some (radr (b1,32))) be.length 160] ++ (u8s ga ++ []))).toArray;rw [hbe];rfl
  · show [Own (some (radr (b1,0))) 208 59 1 ((u8s al ++ (u8s be ++ (u8s ga ++ []))).take (208 * 1)),A] = _;rw [List.take_of_length_le (by simp [u8l,hal,hbe,hga])];rfl
end
section
attribute [local irreducible] macD q01 strS
end
section
attribute [local irreducible] macD q01 strS
theorem qk3 (A R R' : HP) (hE : Ent A R) (hE' : Ent A R') (h : HdrS) (ha : h.alpha.length = 32) (hg : h.gamma.length = 16) (a a' : Option Addr) (c c' : Nat) (hb : Rd R a (u8s h.beta)) (hb' : Rd R' a' (u8s h.beta)) : Pu Tryz.prog 70 [.agg (rsg h a c),.agg (rsg h a' c')] A (.c .tt):=by
  obtain ⟨al,be,ga⟩:=h;dsimp only at ha hg hb hb';have hr:=hb.ent hE;have hr':=hb'.ent hE';refine Con.of' tt_ok Tryz.func70 rfl (by decide) [.agg [.many 32 (u8s al),.one (.rs a be.length c),.many 16 (u8s ga)],.agg [.many 32 (u8s al),.one (.rs a' be.length c'),.many 16 (u8s ga)]] [] [] rfl rfl trivial ⟨⟨mok ha _,trivial,mok hg _,trivial⟩,⟨mok ha _,trivial,mok hg _,trivial⟩,trivial⟩ rfl ?_;(conv=>whnf);intro b2;(conv=>whnf);intro b3;(conv=>whnf);refine q7o (l:=al) (m:=al) ha ha (by simp [dens,Seg.den]) (by simp [dens,Seg.den]) ?_
  (conv=>whnf);refine Cond.d (fun _=>?_) (fun h=>absurd rfl h);(conv=>whnf);refine q83 (l:=be) (k:=be.length) rfl rfl rfl (Src.rs (A:=A) (by simp) hr) rfl (fun s e=>by cases e) ?_;(conv=>whnf);refine q83 (l:=be) (k:=be.length) rfl rfl rfl (Src.rs (A:=A) (by simp) hr') rfl (fun s e=>by cases e) ?_;(conv=>whnf);refine Cond.str (fun _=>?_) (fun h=>absurd rfl h);(conv=>whnf);refine qnz (l:=ga) (m:=ga) hg hg (by simp [dens,Seg.den]) (by simp [dens,Seg.den]) ?_;(conv=>whnf);rw [decide_eq_true rfl]
  exact Ret.m () [] [0] trivial rfl kk kk ⟨rfl,rfl⟩
end
section
theorem qbn (A : HP) (x : UInt32) (s : Nat) (hs : 1 ≤ s ∧ s ≤ 31) : Pu Tryz.prog 203 [.c (.int .u32 (x.toNat : Int)),.c (.int .i64 s)] A (.c (.int .u32 ((rotl x s).toNat : Int))):=by
  refine Con.of' tt_ok Tryz.func203 rfl (by decide) [.c (.int .u32 (x.toNat : Int)),.c (.int .i64 s)] [] [] rfl rfl trivial kk rfl ?_;(conv=>whnf);refine Ar.u64 (by omega) ?_;(conv=>whnf);refine ⟨by omega,?_⟩;rw [show min (s : Int).toNat IntKind.u32.bits = s by simp only [IntKind.bits];omega];refine Ar.wshl (.base x) s (by omega) ?_;(conv=>whnf);have e : (32 : Int) - s = ((32 - s : Nat) : Int):=by omega
  rw [e];refine Ar.i64 (by omega) ?_;(conv=>whnf);refine Ar.u64 (by omega) ?_;(conv=>whnf);refine ⟨by omega,?_⟩;rw [show min ((32 - s : Nat) : Int).toNat IntKind.u32.bits = 32 - s by simp only [IntKind.bits];omega];(conv=>whnf);refine Ret.m () [] [0] trivial ?_ kk kk ⟨rfl,rfl⟩;have:=(Wd.or (.base (x <<< UInt32.ofNat s)) (Wd.shr (.base x) (32 - s) (by omega))).h;show Value.int .u32 _ = Value.int .u32 _;rw [this];rfl
theorem qad (A R : HP) (hE : Ent A R) (a0 : Option Addr) (cap : Nat) (s : List UInt32) (hr : Rd R a0 (w32s s)) (hs : s.length = 16) (i j k l : Nat) (hi : i < 16) (hj : j < 16) (hk : k < 16) (hl : l < 16) :
    FW Tryz.prog 191 [.c (.rs a0 16 cap),.c (.int .i64 i),.c (.int .i64 j),.c (.int .i64 k),.c (.int .i64 l)] A 193 (qAt s i j k l):=by
  have hr:=hr.ent hE;refine Con.of' tt_ok Tryz.func191 rfl (by decide) [.c (.rs a0 16 cap),.c (.int .i64 i),.c (.int .i64 j),.c (.int .i64 k),.c (.int .i64 l)] [] [] rfl rfl trivial kk rfl ?_;(conv=>whnf);refine Draw.a (by kernel_rfl) tt_ok (Tv.of (List.range 20) .nil) 1000000 (by kernel_rfl) ?_;(conv=>whnf);refine ⟨by omega,PtrOb.rd (A:=A) (by simp) hr (by rw [q1b];omega) fun p hp=>?_⟩;subst hp;(conv=>whnf);refine ldw (A:=A) (l:=s) i (by simp) hr (by omega) rfl rfl (by show _ + (i : Int).toNat * 1 = _;omega) ?_;conv=>whnf
  refine ⟨by omega,PtrOb.at ?_⟩;(conv=>whnf);refine ldw (A:=A) (l:=s) j (by simp) hr (by omega) rfl rfl (by show _ + (j : Int).toNat * 1 = _;omega) ?_;(conv=>whnf);refine ⟨by omega,PtrOb.at ?_⟩;(conv=>whnf);refine ldw (A:=A) (l:=s) k (by simp) hr (by omega) rfl rfl (by show _ + (k : Int).toNat * 1 = _;omega) ?_;(conv=>whnf);refine ⟨by omega,PtrOb.at ?_⟩;(conv=>whnf);refine ldw (A:=A) (l:=s) l (by simp) hr (by omega) rfl rfl (by show _ + (l : Int).toNat * 1 = _;omega) ?_;conv=>whnf
  have hq : qAt s i j k l = (((s.set i (qA (wg s i) (wg s j) (wg s k) (wg s l))).set j (qB (wg s i) (wg s j) (wg s k) (wg s l))).set k (qC (wg s i) (wg s j) (wg s k) (wg s l))).set l (qD (wg s i) (wg s j) (wg s k) (wg s l)):=rfl;rw [hq];generalize wg s i = a;generalize wg s j = b;generalize wg s k = c;generalize wg s l = d;refine Ar.wadd (.base a) (.base b) ?_;(conv=>whnf);generalize e1 : a + b = a1;rw [(Wd.xor (.base d) (.base a1)).h];refine Cq.pu (qbn _ (d ^^^ a1) 16 (by decide)) rfl ?_;generalize e2 : rotl (d ^^^ a1) 16 = d1;conv=>whnf
  refine Ar.wadd (.base c) (.base d1) ?_;generalize e3 : c + d1 = c1;(conv=>whnf);rw [(Wd.xor (.base b) (.base c1)).h];refine Cq.pu (qbn _ (b ^^^ c1) 12 (by decide)) rfl ?_;generalize e4 : rotl (b ^^^ c1) 12 = b1;(conv=>whnf);refine Ar.wadd (.base a1) (.base b1) ?_;generalize e5 : a1 + b1 = a2;(conv=>whnf);rw [(Wd.xor (.base d1) (.base a2)).h];refine Cq.pu (qbn _ (d1 ^^^ a2) 8 (by decide)) rfl ?_;generalize e6 : rotl (d1 ^^^ a2) 8 = d2;(conv=>whnf);refine Ar.wadd (.base c1) (.base d2) ?_;generalize e7 : c1 + d2 = c2;conv=>whnf
  rw [(Wd.xor (.base b1) (.base c2)).h];refine Cq.pu (qbn _ (b1 ^^^ c2) 7 (by decide)) rfl ?_;generalize e8 : rotl (b1 ^^^ c2) 7 = b2;have ea : qA a b c d = a2:=by rw [← e5,← e4,← e3,← e2,← e1];rfl
  have ed : qD a b c d = d2:=by rw [← e6,← ea,← e2,← e1];rfl
  have ec : qC a b c d = c2:=by rw [← e7,← ed,← e3,← e2,← e1];rfl
  have eb : qB a b c d = b2:=by rw [← e8,← ec,← e4,← e3,← e2,← e1];rfl
  rw [ea,eb,ec,ed];(conv=>whnf);intro b60;(conv=>whnf);refine With.own (i:=60) (n:=0) (cap:=0) (size:=1) ⟨_,_,rfl,⟨rfl,Nat.le_refl _⟩,?_⟩;refine appw (l:=[]) (m:=s) (.refl _) (Src.rs (A:=A) (by simp) hr) rfl hs.symm ⟨rfl,by decide,by decide⟩ (by simp;omega) 261 (.inr rfl) ?_;intro a15 c15 hc15;rw [List.nil_append] at hc15 ⊢;(conv=>whnf);refine ⟨by omega,PtrOb.rd (A:=Own a15 c15 193 1 (w32s s)) (by simp) Own.rd (by rw [q1b];omega) fun q hq=>?_⟩;subst hq;conv=>whnf
  refine q8o i a2 (.refl _) rfl rfl (by show _ + (i : Int).toNat * 1 = _;omega) rfl (by omega) ?_;(conv=>whnf);refine ⟨by omega,PtrOb.at ?_⟩;(conv=>whnf);refine q8o j b2 (.refl _) rfl rfl (by show _ + (j : Int).toNat * 1 = _;omega) rfl (by rw [List.length_set];omega) ?_;(conv=>whnf);refine ⟨by omega,PtrOb.at ?_⟩;(conv=>whnf);refine q8o k c2 (.refl _) rfl rfl (by show _ + (k : Int).toNat * 1 = _;omega) rfl (by rw [List.length_set,List.length_set];omega) ?_;(conv=>whnf);refine ⟨by omega,PtrOb.at ?_⟩;conv=>whnf
  refine q8o l d2 (.refl _) rfl rfl (by show _ + (l : Int).toNat * 1 = _;omega) rfl (by rw [List.length_set,List.length_set,List.length_set];omega) ?_;(conv=>whnf);have hl4 : ((((s.set i a2).set j b2).set k c2).set l d2).length = s.length:=by simp
  exact Ret.m (some (radr q),c15) [] [0,0] ⟨by rw [hl4];exact hc15.1,fun e=>by cases e⟩ (by rw [hl4];rfl) kk kk ⟨rfl,rfl⟩
end
section
def con4 : List UInt32:=[0x61707865,0x3320646e,0x79622d32,0x6b206574]
def fsA (key : List UInt8) (i : Nat) : List UInt32:=con4 ++ (List.range i).map fun a=>wordL (key.drop (4 * a))
def fsB (key n : List UInt8) (count : UInt32) (j : Nat) : List UInt32:=fsA key 8 ++ [count] ++ (List.range j).map fun a=>wordL (n.drop (4 * a))
theorem qdr (key : List UInt8) (i : Nat) : (fsA key i).length = 4 + i:=by simp [fsA,con4];omega
theorem qon (key n : List UInt8) (count : UInt32) (j : Nat) : (fsB key n count j).length = 13 + j:=by simp [fsB,qdr];omega
theorem qlc (key : List UInt8) (i : Nat) : fsA key (i + 1) = fsA key i ++ [wordL (key.drop (4 * i))]:=by simp [fsA,List.range_succ]
theorem qlg (key n : List UInt8) (count : UInt32) (j : Nat) : fsB key n count (j + 1) = fsB key n count j ++ [wordL (n.drop (4 * j))]:=by simp [fsB,List.range_succ]
theorem qp8 (key n : List UInt8) (count : UInt32) : fsB key n count 3 = q3l key n count:=by simp [fsB,fsA,q3l,con4]
def by4 (k : List UInt8) (i : Nat) : List UInt8:=[UInt8.ofNat (gd k (4 * i)),UInt8.ofNat (gd k (4 * i + 1)),UInt8.ofNat (gd k (4 * i + 2)),UInt8.ofNat (gd k (4 * i + 3))]
theorem qld (k : List UInt8) (a b : Nat) : gd (k.drop a) b = gd k (a + b):=by unfold gd;rw [List.getElem?_drop]
theorem qcl (k : List UInt8) (i : Nat) : wordL (by4 k i) = wordL (k.drop (4 * i)):=by
  have e : ∀ j,j < 4 → gd (by4 k i) j = gd (k.drop (4 * i)) j:=fun j hj=>by
    rw [qld];have h0:=gd_lt k (4 * i);have h1:=gd_lt k (4 * i + 1);have h2:=gd_lt k (4 * i + 2);have h3:=gd_lt k (4 * i + 3);obtain rfl | rfl | rfl | rfl : j = 0 ∨ j = 1 ∨ j = 2 ∨ j = 3:=by omega
    · show (UInt8.ofNat (gd k (4 * i))).toNat = _;simp;omega
    · show (UInt8.ofNat (gd k (4 * i + 1))).toNat = _;simp;omega
    · show (UInt8.ofNat (gd k (4 * i + 2))).toNat = _;simp;omega
    · show (UInt8.ofNat (gd k (4 * i + 3))).toNat = _;simp;omega
  unfold wordL;rw [e 0 (by decide),e 1 (by decide),e 2 (by decide),e 3 (by decide)]
theorem qls (A : HP) (key n : List UInt8) (count : UInt32) (hk : key.length = 32) (hn : n.length = 12) : FW Tryz.prog 190 [.agg [.many 32 (u8s key)],.agg [.many 12 (u8s n)],.c (.int .u32 (count.toNat : Int))] A 193 (q3l key n count):=by
  refine Con.of' tt_ok Tryz.func190 rfl (by decide) [.agg [.many 32 (u8s key)],.agg [.many 12 (u8s n)],.c (.int .u32 (count.toNat : Int))] [] [] rfl rfl trivial ⟨⟨mok hk _,trivial⟩,⟨mok hn _,trivial⟩,trivial,trivial⟩ rfl ?_;(conv=>whnf);intro b3;(conv=>whnf);intro b4;(conv=>whnf);intro b10;conv=>whnf
  refine LoopOb.m (σ:=Nat × Option Addr × Nat) (fun s=>[(2,.c (.int .u32 (count.toNat : Int))),(3,.c (.ptr 3 0)),(4,.c (.ptr 4 0)),(7,.c (.rs s.2.1 (fsA key s.1).length s.2.2)),(8,.c (.int .i64 s.1))])
    (fun s=>⟨[(4,b4),(3,b3)],[(4,[.many 12 (u8s n)],191),(3,[.many 32 (u8s key)],23)],[RowW s.2.1 s.2.2 (fsA key s.1),A]⟩)
    (fun s=>s.1 ≤ 8 ∧ Fc s.2.1 s.2.2 (fsA key s.1)) (fun s=>8 - s.1) (0,some (radr (b10,0)),4) ⟨Nat.zero_le _,by rw [qdr];exact Nat.le_refl 4,fun e=>by cases e⟩ ?_ ?_
  · refine Wk.own 10 4 4 1 ⟨_,_,rfl,⟨rfl,Nat.le_refl _⟩,kk,?_⟩;exact Wk.m [4,3] [0,0] kk ⟨⟨kk,mok hn _,trivial⟩,⟨kk,mok hk _,trivial⟩,trivial⟩ ⟨rfl,rfl⟩
  rintro ⟨i,a,c⟩ ⟨hi,hc⟩;dsimp only at hi hc ⊢;have hl:=qdr key i;(conv=>whnf);refine Cond.d (fun h=>?_) (fun h=>?_)
  · have hi' : i < 8:=by omega
    (conv=>whnf);refine Draw.a (by kernel_rfl) tt_ok (Tv.of (List.range 25) .nil) 23 (by kernel_rfl) ?_;(conv=>whnf);refine Ar.i64 (by omega) ?_;(conv=>whnf);refine ⟨by omega,?_⟩;(conv=>whnf);refine q0v (4 * i) (by show ((4 : Int) * i).toNat * 1 = _;omega) (by omega) ?_;rw [gd8 key (4 * i)];(conv=>whnf);refine Ar.i64 (by omega) ?_;(conv=>whnf);refine Ar.i64 (by omega) ?_;(conv=>whnf);refine ⟨by omega,?_⟩;(conv=>whnf);refine q0v (4 * i + 1) (by show ((4 : Int) * i + 1).toNat * 1 = _;omega) (by omega) ?_;rw [gd8 key (4 * i + 1)]
    (conv=>whnf);refine Ar.i64 (by omega) ?_;(conv=>whnf);refine Ar.i64 (by omega) ?_;(conv=>whnf);refine ⟨by omega,?_⟩;(conv=>whnf);refine q0v (4 * i + 2) (by show ((4 : Int) * i + 2).toNat * 1 = _;omega) (by omega) ?_;rw [gd8 key (4 * i + 2)];(conv=>whnf);refine Ar.i64 (by omega) ?_;(conv=>whnf);refine Ar.i64 (by omega) ?_;(conv=>whnf);refine ⟨by omega,?_⟩;(conv=>whnf);refine q0v (4 * i + 3) (by show ((4 : Int) * i + 3).toNat * 1 = _;omega) (by omega) ?_;rw [gd8 key (4 * i + 3)];(conv=>whnf);intro b35;conv=>whnf
    refine Sub.r [4,3] [0,0] ?_;(conv=>whnf);refine Cq.pu (qjo _ (blk b35 (.cells (u8s (by4 key i) ++ []).toArray 5)) (Ent.a mm) (some (radr (b35,0))) 4 (by4 key i) q1p (Nat.le_refl 4)) rfl ?_;rw [qcl];(conv=>whnf);refine Sub.r [4,3] [0,0] ?_;(conv=>whnf);intro bw;(conv=>whnf);refine Sub.r [4,3] [0,0] ?_;(conv=>whnf);refine appw (l:=fsA key i) (m:=[wordL (key.drop (4 * i))]) (.refl _) (by exact Src.w32 _ rfl rfl) rfl rfl ⟨rfl,by decide,by decide⟩ (by rw [hl];simp;omega) 261 (.inr rfl) ?_;intro a2 c2 hc2;rw [← qlc] at hc2 ⊢
    (conv=>whnf);refine Ar.i64 (by omega) ?_;(conv=>whnf);exact ⟨(i + 1,a2,c2),⟨by dsimp only;omega,hc2⟩,by dsimp only;omega,Wk.m [4,3] [0,0] kk ⟨⟨kk,mok hn _,trivial⟩,⟨kk,mok hk _,trivial⟩,trivial⟩ ⟨rfl,rfl⟩⟩
  obtain rfl : i = 8:=by omega
  (conv=>whnf);intro b41;(conv=>whnf);refine appw (l:=fsA key 8) (m:=[count]) (.refl _) (by exact Src.w32 _ rfl rfl) rfl rfl ⟨rfl,by decide,by decide⟩ (by rw [hl];simp) 261 (.inr rfl) ?_;intro a2 c2 hc2;have e0 : fsA key 8 ++ [count] = fsB key n count 0:=by simp [fsB]
  rw [e0] at hc2 ⊢;conv=>whnf
  refine LoopOb.m (σ:=Nat × Option Addr × Nat) (fun s=>[(4,.c (.ptr 4 0)),(7,.c (.rs s.2.1 (fsB key n count s.1).length s.2.2)),(9,.c (.int .i64 s.1))])
    (fun s=>⟨[(4,b4)],[(4,[.many 12 (u8s n)],191)],[RowW s.2.1 s.2.2 (fsB key n count s.1),A]⟩)
    (fun s=>s.1 ≤ 3 ∧ Fc s.2.1 s.2.2 (fsB key n count s.1)) (fun s=>3 - s.1) (0,a2,c2) ⟨Nat.zero_le _,hc2⟩ (Wk.m [4] [0,0] kk ⟨⟨kk,mok hn _,trivial⟩,trivial⟩ ⟨rfl,rfl⟩) ?_
  clear hl hc hc2;rintro ⟨i,a,c⟩ ⟨hi,hc⟩;dsimp only at hi hc ⊢;have hl:=qon key n count i;(conv=>whnf);refine Cond.d (fun h=>?_) (fun h=>?_)
  · have hi' : i < 3:=by omega
    (conv=>whnf);refine Draw.a (by kernel_rfl) tt_ok (Tv.of (List.range 25) .nil) 23 (by kernel_rfl) ?_;(conv=>whnf);refine Ar.i64 (by omega) ?_;(conv=>whnf);refine ⟨by omega,?_⟩;(conv=>whnf);refine q0v (4 * i) (by show ((4 : Int) * i).toNat * 1 = _;omega) (by omega) ?_;rw [gd8 n (4 * i)];(conv=>whnf);refine Ar.i64 (by omega) ?_;(conv=>whnf);refine Ar.i64 (by omega) ?_;(conv=>whnf);refine ⟨by omega,?_⟩;(conv=>whnf);refine q0v (4 * i + 1) (by show ((4 : Int) * i + 1).toNat * 1 = _;omega) (by omega) ?_;rw [gd8 n (4 * i + 1)];conv=>whnf
    refine Ar.i64 (by omega) ?_;(conv=>whnf);refine Ar.i64 (by omega) ?_;(conv=>whnf);refine ⟨by omega,?_⟩;(conv=>whnf);refine q0v (4 * i + 2) (by show ((4 : Int) * i + 2).toNat * 1 = _;omega) (by omega) ?_;rw [gd8 n (4 * i + 2)];(conv=>whnf);refine Ar.i64 (by omega) ?_;(conv=>whnf);refine Ar.i64 (by omega) ?_;(conv=>whnf);refine ⟨by omega,?_⟩;(conv=>whnf);refine q0v (4 * i + 3) (by show ((4 : Int) * i + 3).toNat * 1 = _;omega) (by omega) ?_;rw [gd8 n (4 * i + 3)];(conv=>whnf);intro b67;(conv=>whnf);refine Sub.r [4] [0,0] ?_
    (conv=>whnf);refine Cq.pu (qjo _ (blk b67 (.cells (u8s (by4 n i) ++ []).toArray 5)) (Ent.a mm) (some (radr (b67,0))) 4 (by4 n i) q1p (Nat.le_refl 4)) rfl ?_;rw [qcl];(conv=>whnf);refine Sub.r [4] [0,0] ?_;(conv=>whnf);intro bw;(conv=>whnf);refine Sub.r [4] [0,0] ?_;(conv=>whnf);refine appw (l:=fsB key n count i) (m:=[wordL (n.drop (4 * i))]) (.refl _) (by exact Src.w32 _ rfl rfl) rfl rfl ⟨rfl,by decide,by decide⟩ (by rw [hl];simp;omega) 261 (.inr rfl) ?_;intro a2 c2 hc2;rw [← qlg] at hc2 ⊢;conv=>whnf
    refine Ar.i64 (by omega) ?_;(conv=>whnf);exact ⟨(i + 1,a2,c2),⟨by dsimp only;omega,hc2⟩,by dsimp only;omega,Wk.m [4] [0,0] kk ⟨⟨kk,mok hn _,trivial⟩,trivial⟩ ⟨rfl,rfl⟩⟩
  obtain rfl : i = 3:=by omega
  rw [qp8] at hc ⊢;(conv=>whnf);exact Ret.m (a,c) [] [0,0] hc rfl kk kk ⟨rfl,rfl⟩
end
section
def colN (s : List UInt32) : Nat → List UInt32
  | 0=>s
  | k + 1=>qAt (colN s k) k (k + 4) (k + 8) (k + 12)
def diaN (s : List UInt32) : Nat → List UInt32
  | 0=>s
  | k + 1=>qAt (diaN s k) k (4 + (k + 1) % 4) (8 + (k + 2) % 4) (12 + (k + 3) % 4)
theorem q8g (s : List UInt32) : ∀ k,(colN s k).length = s.length
  | 0=>rfl
  | k + 1=>(q3f _ _ _ _ _).trans (q8g s k)
theorem qbf (s : List UInt32) : ∀ k,(diaN s k).length = s.length
  | 0=>rfl
  | k + 1=>(q3f _ _ _ _ _).trans (qbf s k)
structure SwS where
  i : Nat
  a : Option Addr
  c : Nat
  Y : HP
theorem qi4 (A : HP) (key n : List UInt8) (count : UInt32) (hk : key.length = 32) (hn : n.length = 12) :
    Pu Tryz.prog 166 [.agg [.many 32 (u8s key)],.agg [.many 12 (u8s n)],.c (.int .u32 (count.toNat : Int))] A (.agg [.many 64 (u8s (q3w key n count))]):=by
  have hz : (List.replicate 64 (Value.int .u8 0)).length = 64:=List.length_replicate;have hz2 : ∀ v ∈ (List.replicate 64 (Value.int .u8 0)),Value.oneCell' v = true:=fun v hv=>by rw [(List.mem_replicate.1 hv).2];rfl
  have hDl:=q3y key n count;have hF : (q3l key n count).length = 16:=q6o _ _ _;have hb:=fun A=>qls A key n count hk hn;have hW : q3w key n count = sumL (blkW key n count):=rfl;have hWl : (blkW key n count).length = 16:=by simp [blkW]
  have hWg:=fun i (h : i < 16)=>qju key n count h;generalize blkW key n count = W at hW hWl hWg;generalize q3w key n count = D at hDl hW ⊢;generalize q3l key n count = F at hF hb hWg;refine Con.of' tt_ok Tryz.func166 rfl (by decide) [.agg [.many 32 (u8s key)],.agg [.many 12 (u8s n)],.c (.int .u32 (count.toNat : Int))] [] [] rfl rfl trivial ⟨⟨mok hk _,trivial⟩,⟨mok hn _,trivial⟩,trivial,trivial⟩ rfl ?_;(conv=>whnf);intro b3;(conv=>whnf);intro b4;(conv=>whnf);intro b6;(conv=>whnf);refine Cq.fw (hb _) rfl fun a7 c7 hc7=>?_;rw [hF]
  (conv=>whnf);have hS : ∀ k,(dblN F k).length = 16:=fun k=>(qb9 F k).trans hF
  refine LoopOb.m (σ:=SwS) (fun s=>[(6,.c (.ptr 6 0)),(7,.c (.rs a7 16 c7)),(8,.c (.rs s.a 16 s.c)),(9,.c (.int .i64 s.i))])
    (fun s=>⟨[(6,b6)],[(6,[.many 64 (List.replicate 64 (Value.int .u8 0))],225)],[RowW a7 c7 F,s.Y,A]⟩)
    (fun s=>s.i ≤ 10 ∧ Rd (all [RowW a7 c7 F,s.Y,A]) s.a (w32s (dblN F s.i))) (fun s=>10 - s.i) ⟨0,a7,c7,Own none 0 0 1 []⟩ ⟨Nat.zero_le _,Rd.all (A:=RowW a7 c7 F) mm Own.rd⟩ ?_ ?_
  · refine Wk.own0 0 1 ?_;exact Wk.m [6] [1,0,0] kk ⟨⟨kk,⟨hz,hz2⟩,trivial⟩,trivial⟩ ⟨rfl,rfl⟩
  rintro ⟨r,a8,c8,Y⟩ ⟨hr,hR⟩;dsimp only at hr hR ⊢;(conv=>whnf);refine Cond.d (fun h=>?_) (fun h=>?_)
  · have hr' : r < 10:=by omega
    have es : dblN F (r + 1) = diaN (colN (dblN F r) 4) 4:=rfl;have hl:=hS r;generalize dblN F r = ws at hR es hl;conv=>whnf
    refine LoopOb.m (σ:=SwS) (fun s=>[(6,.c (.ptr 6 0)),(7,.c (.rs a7 16 c7)),(8,.c (.rs s.a 16 s.c)),(9,.c (.int .i64 r)),(10,.c (.int .i64 s.i))])
      (fun s=>⟨[(6,b6)],[(6,[.many 64 (List.replicate 64 (Value.int .u8 0))],225)],[RowW a7 c7 F,s.Y,A]⟩)
      (fun s=>s.i ≤ 4 ∧ Rd (all [RowW a7 c7 F,s.Y,A]) s.a (w32s (colN ws s.i))) (fun s=>4 - s.i) ⟨0,a8,c8,Y⟩ ⟨Nat.zero_le _,hR⟩ (Wk.m [6] [0,0,0] kk ⟨⟨kk,⟨hz,hz2⟩,trivial⟩,trivial⟩ ⟨rfl,rfl⟩) ?_
    clear hR;rintro ⟨i,a8,c8,Y⟩ ⟨hi,hR⟩;dsimp only at hi hR ⊢;(conv=>whnf);refine Cond.d (fun h=>?_) (fun h=>?_)
    · have hi' : i < 4:=by omega
      have hq : colN ws (i + 1) = qAt (colN ws i) i (i + 4) (i + 8) (i + 12):=rfl;have hql : (colN ws i).length = 16:=by rw [q8g];exact hl
      have hql2 : (colN ws (i + 1)).length = 16:=by rw [q8g];exact hl
      (conv=>whnf);refine Ar.i64 (by omega) ?_;(conv=>whnf);refine Ar.i64 (by omega) ?_;(conv=>whnf);refine Ar.i64 (by omega) ?_;(conv=>whnf);refine Cq.fw (qad _ (all [RowW a7 c7 F,Y,A]) (by exact Ent.sub [1,1,1] ⟨rfl,trivial⟩) a8 c8 (colN ws i) hR hql i (i + 4) (i + 8) (i + 12) (by omega) (by omega) (by omega) (by omega)) rfl fun a9 c9 hc9=>?_;rw [← hq,hql2];(conv=>whnf);refine Ar.i64 (by omega) ?_;conv=>whnf
      exact ⟨⟨i + 1,a9,c9,RowW a9 c9 (colN ws (i + 1))⟩,⟨by dsimp only;omega,Rd.all (A:=RowW a9 c9 (colN ws (i + 1))) mm Own.rd⟩,by dsimp only;omega,Wk.m [6] [1,0,1] kk ⟨⟨kk,⟨hz,hz2⟩,trivial⟩,trivial⟩ ⟨rfl,rfl⟩⟩
    obtain rfl : i = 4:=by omega
    have hl0:=hl;have hl : (colN ws 4).length = 16:=by rw [q8g];exact hl0
    generalize colN ws 4 = ws at hR es hl;conv=>whnf
    refine LoopOb.m (σ:=SwS) (fun s=>[(6,.c (.ptr 6 0)),(7,.c (.rs a7 16 c7)),(8,.c (.rs s.a 16 s.c)),(9,.c (.int .i64 r)),(11,.c (.int .i64 s.i))])
      (fun s=>⟨[(6,b6)],[(6,[.many 64 (List.replicate 64 (Value.int .u8 0))],225)],[RowW a7 c7 F,s.Y,A]⟩)
      (fun s=>s.i ≤ 4 ∧ Rd (all [RowW a7 c7 F,s.Y,A]) s.a (w32s (diaN ws s.i))) (fun s=>4 - s.i) ⟨0,a8,c8,Y⟩ ⟨Nat.zero_le _,hR⟩ (Wk.m [6] [0,0,0] kk ⟨⟨kk,⟨hz,hz2⟩,trivial⟩,trivial⟩ ⟨rfl,rfl⟩) ?_
    clear hR;rintro ⟨i,a8,c8,Y⟩ ⟨hi,hR⟩;dsimp only at hi hR ⊢;(conv=>whnf);refine Cond.d (fun h=>?_) (fun h=>?_)
    · have hi' : i < 4:=by omega
      have hq : diaN ws (i + 1) = qAt (diaN ws i) i (4 + (i + 1) % 4) (8 + (i + 2) % 4) (12 + (i + 3) % 4):=rfl;have hql : (diaN ws i).length = 16:=by rw [qbf];exact hl
      have hql2 : (diaN ws (i + 1)).length = 16:=by rw [qbf];exact hl
      (conv=>whnf);refine Ar.i64 (by omega) ?_;(conv=>whnf);refine ⟨by decide,?_⟩;rw [show ((i : Int) + 1).tmod 4 = (((i + 1) % 4 : Nat) : Int) from rfl];(conv=>whnf);refine Ar.i64 (by omega) ?_;(conv=>whnf);refine Ar.i64 (by omega) ?_;(conv=>whnf);refine ⟨by decide,?_⟩;rw [show ((i : Int) + 2).tmod 4 = (((i + 2) % 4 : Nat) : Int) from rfl];(conv=>whnf);refine Ar.i64 (by omega) ?_;(conv=>whnf);refine Ar.i64 (by omega) ?_;(conv=>whnf);refine ⟨by decide,?_⟩;rw [show ((i : Int) + 3).tmod 4 = (((i + 3) % 4 : Nat) : Int) from rfl];conv=>whnf
      refine Ar.i64 (by omega) ?_;(conv=>whnf);refine Cq.fw (qad _ (all [RowW a7 c7 F,Y,A]) (by exact Ent.sub [1,1,1] ⟨rfl,trivial⟩) a8 c8 (diaN ws i) hR hql i (4 + (i + 1) % 4) (8 + (i + 2) % 4) (12 + (i + 3) % 4) (by omega) (by omega) (by omega) (by omega)) rfl fun a9 c9 hc9=>?_;rw [← hq,hql2];(conv=>whnf);refine Ar.i64 (by omega) ?_;conv=>whnf
      exact ⟨⟨i + 1,a9,c9,RowW a9 c9 (diaN ws (i + 1))⟩,⟨by dsimp only;omega,Rd.all (A:=RowW a9 c9 (diaN ws (i + 1))) mm Own.rd⟩,by dsimp only;omega,Wk.m [6] [1,0,1] kk ⟨⟨kk,⟨hz,hz2⟩,trivial⟩,trivial⟩ ⟨rfl,rfl⟩⟩
    obtain rfl : i = 4:=by omega
    rw [← es] at hR;(conv=>whnf);refine Ar.i64 (by omega) ?_;(conv=>whnf);exact ⟨⟨r + 1,a8,c8,Y⟩,⟨by dsimp only;omega,hR⟩,by dsimp only;omega,Wk.m [6] [0,0,0] kk ⟨⟨kk,⟨hz,hz2⟩,trivial⟩,trivial⟩ ⟨rfl,rfl⟩⟩
  obtain rfl : r = 10:=by omega
  have hS10:=hS 10;generalize dblN F 10 = S at hS10 hWg hR ⊢;(conv=>whnf);intro b12;(conv=>whnf);obtain ⟨G,hG⟩ : ∃ G,G = all [RowW a7 c7 F,Y,A]:=⟨_,rfl⟩;have hR7 : Rd G a7 (w32s F):=by rw [hG];exact Rd.all (A:=RowW a7 c7 F) mm Own.rd
  rw [← hG] at hR
  refine LoopOb.m (σ:=Nat) (fun i=>[(6,.c (.ptr 6 0)),(7,.c (.rs a7 16 c7)),(8,.c (.rs a8 16 c8)),(12,.c (.ptr 12 0)),(13,.c (.int .i64 i))])
    (fun i=>⟨[(12,b12),(6,b6)],[(12,[.many 64 (u8s (fillP D 64 i))],225),(6,[.many 64 (List.replicate 64 (Value.int .u8 0))],225)],[G]⟩)
    (fun i=>i ≤ 64) (fun i=>64 - i) 0 (Nat.zero_le _) ?_ ?_
  · refine Wk.turn (F':=[G]) (fun g s=>by rw [hG];exact q14.2 (by simpa using s)) ?_;exact Wk.m [12,6] [0] kk ⟨⟨kk,mok (q3j hDl (Nat.zero_le _)) _,trivial⟩,⟨kk,⟨hz,hz2⟩,trivial⟩,trivial⟩ ⟨by rw [qaj];rfl,rfl⟩
  intro i hi;(conv=>whnf);refine Cond.d (fun h=>?_) (fun h=>?_)
  · have hi' : i < 64:=by omega
    have hWi:=qez W (i / 4) (i % 4) (by omega) (by omega);rw [← hW,show 4 * (i / 4) + i % 4 = i by omega,hWg (i / 4) (by omega)] at hWi;(conv=>whnf);refine Draw.a (by kernel_rfl) tt_ok (Tv.of (List.range 20) .nil) 19 (by kernel_rfl) ?_;(conv=>whnf);refine ⟨by decide,?_⟩;refine Ar.to ((i / 4 : Nat) : Int) rfl (Ar.i64 (by omega) ?_);(conv=>whnf);refine ⟨by omega,PtrOb.rd (A:=G) (by simp) hR (by rw [q1b];omega) fun p hp=>?_⟩;conv=>whnf
    refine ldw (A:=G) (l:=S) (i / 4) (by simp) (by rw [← hp];exact hR) (by omega) rfl rfl (by show _ + ((i / 4 : Nat) : Int).toNat * 1 = _;omega) ?_;(conv=>whnf);refine ⟨by decide,?_⟩;refine Ar.to ((i / 4 : Nat) : Int) rfl (Ar.i64 (by omega) ?_);(conv=>whnf);refine ⟨by omega,PtrOb.rd (A:=G) (by simp) hR7 (by rw [q1b];omega) fun q hq=>?_⟩;(conv=>whnf);refine ldw (A:=G) (l:=F) (i / 4) (by simp) (by rw [← hq];exact hR7) (by omega) rfl rfl (by show _ + ((i / 4 : Nat) : Int).toNat * 1 = _;omega) ?_;(conv=>whnf);refine Ar.wadd (.base _) (.base _) ?_
    (conv=>whnf);generalize wg S (i / 4) + wg F (i / 4) = w at hWi ⊢;refine ⟨by decide,?_⟩;rw [show (i : Int).tmod 4 = ((i % 4 : Nat) : Int) from rfl];(conv=>whnf);refine Ar.to ((8 * (i % 4) : Nat) : Int) (by omega) (Ar.i64 (by omega) ?_);(conv=>whnf);refine Ar.u64 (by omega) ?_;(conv=>whnf);refine ⟨by omega,?_⟩;(conv=>whnf);rw [show min ((8 * (i % 4) : Nat) : Int).toNat IntKind.u32.bits = 8 * (i % 4) by simp only [IntKind.bits];omega];refine Ar.wbyte (Wd.shr (.base w) (8 * (i % 4)) (by omega)) ?_;(conv=>whnf);refine ⟨by omega,?_⟩;conv=>whnf
    refine ⟨⟨rfl,by show (i : Int).toNat * 1 + 1 ≤ 64;omega⟩,?_⟩;(conv=>whnf);refine Ar.i64 (by omega) ?_;(conv=>whnf);have s1:=qch hDl (m:=i) hi' hWi;have em : (i : Int).toNat * 1 = i:=by omega
    have s2 : (u8s (fillP D 64 i)).take ((i : Int).toNat * 1) ++ ([u8 ((w >>> UInt32.ofNat (8 * (i % 4))).toUInt8)] ++ (u8s (fillP D 64 i)).drop ((i : Int).toNat * 1 + 1)) = u8s (fillP D 64 (i + 1)):=by rw [em];exact s1
    refine ⟨i + 1,by omega,by omega,Wk.m [12,6] [0] kk ⟨⟨kk,mok (q3j hDl (by omega)) _,trivial⟩,⟨kk,⟨hz,hz2⟩,trivial⟩,trivial⟩ ⟨?_,rfl⟩⟩;rw [← s2];rfl
  obtain rfl : i = 64:=by omega
  rw [qda hDl];(conv=>whnf);refine Ret.turn (F':=[RowW a7 c7 F,Y,A]) (fun g s=>by rw [hG] at s;simpa using q14.1 s) ?_;exact Ret.m () [] [2] trivial rfl ⟨mok hDl _,trivial⟩ kk ⟨rfl,rfl⟩
end
section
theorem qb6 (A R R' : HP) (hE : Ent A R) (hE' : Ent A R') (a : Option Addr) (cap : Nat) (x : List UInt8) (hx : Rd R a (u8s x)) (a' : Option Addr) (cap' : Nat) (y : List UInt8) (hy : Rd R' a' (u8s y)) (hl : y.length ≤ x.length) (hn : y.length ≤ 100000) :
    FB Tryz.prog 84 [.c (.rs a x.length cap),.c (.rs a' y.length cap')] A 5 (xorB y x):=by
  have hx:=hx.ent hE;have hy:=hy.ent hE';have hxl:=q16 hl;refine Con.of' tt_ok Tryz.func84 rfl (by decide) [.c (.rs a x.length cap),.c (.rs a' y.length cap')] [] [] rfl rfl trivial kk rfl ?_;conv=>whnf
  refine LoopOb.m (σ:=Nat × Option Addr × Nat) (fun s=>[(0,.c (.rs a x.length cap)),(1,.c (.rs a' y.length cap')),(5,.c (.rs s.2.1 ((xorB y x).take s.1).length s.2.2)),(6,.c (.int .i64 s.1))])
    (fun s=>⟨[],[],[Own s.2.1 s.2.2 5 1 (u8s ((xorB y x).take s.1)),A]⟩) (fun s=>s.1 ≤ y.length ∧ Fc s.2.1 s.2.2 ((xorB y x).take s.1)) (fun s=>y.length - s.1) (0,none,0) ⟨Nat.zero_le _,Fc.nil⟩ ?_ ?_
  · refine Wk.own0 5 1 ?_;exact Wk.m [] [0,0] kk trivial ⟨rfl,rfl⟩
  rintro ⟨i,a5,c5⟩ ⟨hi,hc⟩;dsimp only at hi hc ⊢;have htl : ((xorB y x).take i).length = i:=by rw [List.length_take];omega
  (conv=>whnf);refine Cond.d (fun h=>?_) (fun h=>?_)
  · have hi' : i < y.length:=by omega
    (conv=>whnf);refine Draw.a (by kernel_rfl) tt_ok (Tv.of (List.range 13) .nil) 11 (by kernel_rfl) ?_;(conv=>whnf);refine ⟨by omega,PtrOb.rd (A:=A) (by simp) hx (by rw [u8l];omega) fun p hp=>?_⟩;(conv=>whnf);refine ldb (A:=A) (l:=x) i (by simp) (by rw [← hp];exact hx) (by omega) rfl rfl (by show _ + (i : Int).toNat * 1 = _;omega) ?_;(conv=>whnf);refine ⟨by omega,PtrOb.rd (A:=A) (by simp) hy (by rw [u8l];omega) fun q hq=>?_⟩;conv=>whnf
    refine ldb (A:=A) (l:=y) i (by simp) (by rw [← hq];exact hy) (by omega) rfl rfl (by show _ + (i : Int).toNat * 1 = _;omega) ?_;rw [q45 (l:=x) (by omega),q45 hi'];(conv=>whnf);intro b23;rw [xorb];(conv=>whnf);refine Sub.r [] [0,0] ?_;(conv=>whnf);have hxi : x[i]'(by omega) ^^^ y[i] = (xorB y x)[i]'(by omega):=by simp only [xorB,List.getElem_zipWith];exact UInt8.xor_comm _ _
    refine appb (l:=(xorB y x).take i) (m:=[x[i]'(by omega) ^^^ y[i]]) (.refl _) (by exact Src.u8 _ rfl rfl) rfl rfl ⟨rfl,by decide,by decide⟩ (by rw [htl];simp;omega) 24 (.inr rfl) ?_;intro a2 c2 hc2;rw [hxi,← List.take_succ_eq_append_getElem (by omega)] at hc2 ⊢;(conv=>whnf);refine Ar.i64 (by omega) ?_;(conv=>whnf);exact ⟨(i + 1,a2,c2),⟨by dsimp only;omega,hc2⟩,by dsimp only;omega,Wk.m [] [0,0] kk trivial ⟨rfl,rfl⟩⟩
  obtain rfl : i = y.length:=by omega
  have e : (xorB y x).take y.length = xorB y x:=List.take_of_length_le (by omega);rw [e] at hc ⊢;(conv=>whnf);exact Ret.m (a5,c5) [] [0,0] hc rfl kk kk ⟨rfl,rfl⟩
theorem qjc (A : HP) (key n : List UInt8) (count : UInt32) (long : Nat) (hk : key.length = 32) (hn : n.length = 12) (hl : long ≤ 65536) (hc : count.toNat + (long + 63) / 64 ≤ 4294967296) :
    Con Tryz.prog 126 [.agg [.many 32 (u8s key)],.agg [.many 12 (u8s n)],.c (.int .u32 (count.toNat : Int)),.c (.int .i64 long)] [] [] A (fun t : Option Addr × Nat=>long ≤ t.2 ∧ (t.1 = none → long = 0)) (fun t=>.tup [.c (.rs t.1 long t.2),.c (.int .i64 0)]) (fun _=>[]) (fun t=>[Own t.1 t.2 5 1 (u8s ((strS key n count ((long + 63) / 64)).take long))]):=by
  have hcl:=count.toNat_lt;refine Con.of' tt_ok Tryz.func126 rfl (by decide) [.agg [.many 32 (u8s key)],.agg [.many 12 (u8s n)],.c (.int .u32 (count.toNat : Int)),.c (.int .i64 long)] [] [] rfl rfl trivial ⟨⟨mok hk _,trivial⟩,⟨mok hn _,trivial⟩,trivial,trivial,trivial⟩ rfl ?_;(conv=>whnf);intro b4;(conv=>whnf);intro b5;(conv=>whnf);refine Cond.d (fun h=>?_) (fun h=>?_)
  · omega
  (conv=>whnf);refine Cond.d (fun h=>?_) (fun h=>?_)
  · omega
  (conv=>whnf);refine Ar.u64 (by omega) ?_;(conv=>whnf);refine Ar.i64 (by omega) ?_;(conv=>whnf);refine ⟨by decide,?_⟩;rw [show ((long : Int) + 63).tdiv 64 = (((long + 63) / 64 : Nat) : Int) from rfl];refine Ar.i64 (by omega) ?_;(conv=>whnf);refine Ar.u64 (by omega) ?_;(conv=>whnf);refine Ar.u64 (by omega) ?_;(conv=>whnf);refine Cond.d (fun h=>?_) (fun h=>?_)
  · omega
  clear h;conv=>whnf
  refine LoopOb.m (σ:=Nat × Option Addr × Nat) (fun s=>[(2,.c (.int .u32 (count.toNat : Int))),(3,.c (.int .i64 long)),(4,.c (.ptr 4 0)),(5,.c (.ptr 5 0)),(10,.c (.rs s.2.1 (strS key n count s.1).length s.2.2)),(11,.c (.int .i64 ((64 * s.1 : Nat) : Int)))])
    (fun s=>⟨[(5,b5),(4,b4)],[(5,[.many 12 (u8s n)],191),(4,[.many 32 (u8s key)],23)],[Own s.2.1 s.2.2 5 1 (u8s (strS key n count s.1)),A]⟩)
    (fun s=>s.1 ≤ (long + 63) / 64 ∧ Fc s.2.1 s.2.2 (strS key n count s.1)) (fun s=>(long + 63) / 64 - s.1) (0,none,0) ⟨Nat.zero_le _,Fc.nil⟩ ?_ ?_
  · refine Wk.own0 5 1 ?_;exact Wk.m [5,4] [0,0] kk ⟨⟨kk,mok hn _,trivial⟩,⟨kk,mok hk _,trivial⟩,trivial⟩ ⟨rfl,rfl⟩
  rintro ⟨m,a,c⟩ ⟨hm,hc⟩;dsimp only at hm hc ⊢;have hml:=q2t key n count m;(conv=>whnf);refine Cond.d (fun h=>?_) (fun h=>?_)
  · have hm' : m < (long + 63) / 64:=by omega
    (conv=>whnf);refine ⟨by decide,?_⟩;rw [show ((64 * m : Nat) : Int).tdiv 64 = ((64 * m / 64 : Nat) : Int) from rfl,show 64 * m / 64 = m by omega];refine Ar.i64 (by omega) ?_;(conv=>whnf);refine Ar.u32 (by omega) ?_;(conv=>whnf);have em : (m : Int) = ((UInt32.ofNat m).toNat : Int):=by simp;omega
    rw [em];refine Ar.wadd (.base count) (.base (UInt32.ofNat m)) ?_;rw [← em];(conv=>whnf);refine Cq.pu (qi4 _ key n (count + UInt32.ofNat m) hk hn) rfl ?_;have hBl:=q3y key n (count + UInt32.ofNat m);have es : strS key n count (m + 1) = strS key n count m ++ q3w key n (count + UInt32.ofNat m):=rfl;generalize q3w key n (count + UInt32.ofNat m) = D at es hBl ⊢;have hml1:=q2t key n count (m + 1);obtain ⟨L1,hL1⟩ : ∃ L1,strS key n count (m + 1) = L1:=⟨_,rfl⟩;rw [hL1] at es hml1;generalize strS key n count m = L at hc hml es ⊢;conv=>whnf
    intro b12;conv=>whnf
    refine LoopOb.m (σ:=Nat × Option Addr × Nat) (fun s=>[(2,.c (.int .u32 (count.toNat : Int))),(3,.c (.int .i64 long)),(4,.c (.ptr 4 0)),(5,.c (.ptr 5 0)),(10,.c (.rs s.2.1 (L ++ D.take s.1).length s.2.2)),(11,.c (.int .i64 ((64 * m : Nat) : Int))),(12,.c (.ptr 12 0)),(13,.c (.int .i64 s.1))])
      (fun s=>⟨[(12,b12),(5,b5),(4,b4)],[(12,[.many 64 (u8s D)],225),(5,[.many 12 (u8s n)],191),(4,[.many 32 (u8s key)],23)],[Own s.2.1 s.2.2 5 1 (u8s (L ++ D.take s.1)),A]⟩)
      (fun s=>s.1 ≤ 64 ∧ Fc s.2.1 s.2.2 (L ++ D.take s.1)) (fun s=>64 - s.1) (0,a,c) ⟨Nat.zero_le _,by rw [List.take_zero,List.append_nil];exact hc⟩ ?_ ?_
    · refine Wk.m [12,5,4] [0,0] ⟨⟨rfl,kk⟩,⟨rfl,kk⟩,⟨rfl,kk⟩,⟨rfl,kk⟩,⟨?_,kk⟩,⟨rfl,kk⟩,⟨rfl,kk⟩,⟨rfl,kk⟩,trivial⟩ ⟨⟨kk,mok hBl _,trivial⟩,⟨kk,mok hn _,trivial⟩,⟨kk,mok hk _,trivial⟩,trivial⟩ ⟨rfl,?_⟩
      · show Value.slice a L.length c = Value.slice a (L ++ D.take 0).length c;rw [List.take_zero,List.append_nil]
      · show [Own a c _ 1 (u8s L),A] = [Own a c _ 1 (u8s (L ++ D.take 0)),A];rw [List.take_zero,List.append_nil]
    clear hc;rintro ⟨k,a,c⟩ ⟨hk2,hc⟩;dsimp only at hk2 hc ⊢;have hkl : (L ++ D.take k).length = 64 * m + k:=by rw [List.length_append,List.length_take];omega
    (conv=>whnf);refine Cond.d (fun h3=>?_) (fun h3=>?_)
    · have hk' : k < 64:=by omega
      (conv=>whnf);refine ⟨by omega,?_⟩;(conv=>whnf);refine q0v k (by show (k : Int).toNat * 1 = k;omega) (by omega) ?_;(conv=>whnf);intro b49;(conv=>whnf);refine appb (l:=L ++ D.take k) (m:=[D[k]]) (.refl _) (by exact Src.u8 _ (q45 (by omega)) rfl) rfl rfl ⟨rfl,by decide,by decide⟩ (by rw [hkl];simp;omega) 24 (.inr rfl) ?_;intro a2 c2 hc2;rw [List.append_assoc,← List.take_succ_eq_append_getElem (by omega)] at hc2 ⊢;(conv=>whnf);refine Ar.i64 (by omega) ?_;conv=>whnf
      exact ⟨(k + 1,a2,c2),⟨by dsimp only;omega,hc2⟩,by dsimp only;omega,Wk.m [12,5,4] [0,0] kk ⟨⟨kk,mok hBl _,trivial⟩,⟨kk,mok hn _,trivial⟩,⟨kk,mok hk _,trivial⟩,trivial⟩ ⟨rfl,rfl⟩⟩
    obtain rfl : k = 64:=by omega
    have e64 : D.take 64 = D:=List.take_of_length_le (by omega);rw [e64,← es] at hc ⊢;(conv=>whnf);refine Ar.to ((64 * (m + 1) : Nat) : Int) (by omega) (Ar.i64 (by omega) ?_);(conv=>whnf);refine ⟨(m + 1,a,c),⟨by dsimp only;omega,by dsimp only;rw [hL1];exact hc⟩,by dsimp only;omega,?_⟩;dsimp only;rw [hL1];exact Wk.m [5,4] [0,0] kk ⟨⟨kk,mok hn _,trivial⟩,⟨kk,mok hk _,trivial⟩,trivial⟩ ⟨rfl,rfl⟩
  obtain rfl : m = (long + 63) / 64:=by omega
  have hle : long ≤ (strS key n count ((long + 63) / 64)).length:=by omega
  have hcc:=hc.1;generalize strS key n count ((long + 63) / 64) = L at hc hle hcc hml ⊢;(conv=>whnf);refine ⟨⟨by omega,by omega⟩,?_⟩;(conv=>whnf);refine Ret.turn (F':=[Own a c 5 1 (u8s (L.take long)),A]) (fun g s=>q0x (fun g' h'=>?_) s) ?_
  · rw [q1e];exact Own.take long g' h'
  refine Ret.m (a,c) [] [0,0] ⟨by dsimp only;omega,fun e=>by have:=hc.2 e;rw [this] at hle;simpa using hle⟩ ?_ kk kk ⟨rfl,rfl⟩;show Value.tuple #[Value.slice (cutA a _ 0 1) long (c - 0),_] = _;rw [qap];rfl
end
section
attribute [local irreducible] macD q01 strS
theorem q9a (A : HP) (s : List UInt8) (hs : s.length = 32) (k : Nat) (hk : k ≤ 192) :
    Con Tryz.prog 85 [.agg [.many 32 (u8s s)],.c (.int .i64 k)] [] [] A (fun t : Option Addr × Nat=>k ≤ t.2 ∧ t.1 ≠ none) (fun t=>.c (.rs t.1 k t.2)) (fun _=>[]) (fun t=>[Own t.1 t.2 5 1 (u8s ((q03 s).take k))]):=by
  have hks:=mok hs;refine Con.of' tt_ok Tryz.func85 rfl (by decide) [.agg [.many 32 (u8s s)],.c (.int .i64 k)] [] [] rfl rfl trivial ⟨⟨hks _,trivial⟩,trivial,trivial⟩ rfl ?_;(conv=>whnf);intro b2;(conv=>whnf);intro b5;(conv=>whnf);refine Draw.a (by kernel_rfl) tt_ok (Tv.of [0,2,1,3,4,5,6,7,8] .nil) 1000000 (by kernel_rfl) ?_;(conv=>whnf);refine Cq.pu (q8l _ s hs [114,104,111] (by decide)) rfl ?_;(conv=>whnf);refine Sub.whole ?_;conv=>whnf
  refine Cq.new (qjc _ (q01 s [114,104,111]) zn 0 192 (q1n _ _) (by decide) (by decide) (by decide)) rfl ?_;rintro ⟨a,c⟩ hac;dsimp only at hac ⊢;(conv=>whnf);refine Sub.r [5,2] [1] ?_;(conv=>whnf);refine ⟨⟨by omega,by omega⟩,?_⟩;(conv=>whnf);have e : (strS (q01 s [114,104,111]) zn 0 ((192 + 63) / 64)).take 192 = q03 s:=rfl;rw [e];have hsl:=q1o s;generalize q03 s = Y at hsl ⊢;refine Ret.turn (F':=[Own a c 5 1 (u8s (Y.take k)),A]) (fun g s=>q0x (fun g' h'=>?_) s) ?_
  · rw [q1e];exact Own.take k g' h'
  refine Ret.m (a,c) [] [0,0] ⟨by dsimp only;omega,fun e=>absurd (hac.2 e) (by decide)⟩ ?_ kk kk ⟨rfl,rfl⟩;show Value.slice (cutA a _ 0 1) k (c - 0) = _;rw [qap];rfl
end
section
theorem q8i (A R : HP) (hE : Ent A R) (a : Option Addr) (cap : Nat) (l : List HopS) (hl : okHs l) (hr : Rd R a (rowH l)) (hn : l.length ≤ 1000000000) :
    Pu Tryz.prog 69 [.c (.rs a l.length cap)] A (.c (.bool (q0d l))):=by
  have hr:=hr.ent hE;refine Con.of' tt_ok Tryz.func69 rfl (by decide) [.c (.rs a l.length cap)] [] [] rfl rfl trivial kk rfl ?_;conv=>whnf
  refine LoopOb.m (σ:=Nat) (fun i=>[(0,.c (.rs a l.length cap)),(3,.c (.int .i64 i))]) (fun i=>⟨[],[],[A]⟩)
    (fun i=>i ≤ l.length ∧ ∀ j,(h : j < l.length) → j < i → hopOk l.length j l[j] = true) (fun i=>l.length - i) 0 ⟨Nat.zero_le _,fun j h h2=>absurd h2 (by omega)⟩ (Wk.m [] [0] kk trivial ⟨rfl,rfl⟩) ?_
  rintro i ⟨hi,hq⟩;(conv=>whnf);refine Cond.d (fun h=>?_) (fun h=>?_)
  · have hi' : i < l.length:=by omega
    have o : l[i].ok:=hl _ (List.getElem_mem hi');(conv=>whnf);refine ⟨by omega,PtrOb.rd (A:=A) (by simp) hr (by rw [q1q hl];omega) fun p hp=>?_⟩;subst hp;(conv=>whnf);refine ldhc (A:=A) (l:=l) i (by simp) hr hl hi' rfl rfl rfl (by show _ + (i : Int).toNat * 43 + 32 = _;omega) ?_;have hok : hopOk l.length i l[i] = (l[i].cmd.may && (decide (l[i].cmd.k = 1) != decide (i + 1 = l.length))):=rfl
    have hall : hopOk l.length i l[i] = false → q0d l = false:=fun e=>by
      unfold q0d;rw [decide_eq_false_iff_not];rintro ⟨h1,_⟩;rw [h1 i hi'] at e;cases e
    have hnx : hopOk l.length i l[i] = true → ∀ j,(h : j < l.length) → j < i + 1 → hopOk l.length j l[j] = true:=fun e j hj h2=>by
      by_cases e2 : j = i
      · subst e2;exact e
      · exact hq j hj (by omega)
    generalize hopOk l.length i l[i] = g at hok hall hnx;(conv=>whnf);intro b4;(conv=>whnf);refine Cq.pu (qmv _ l[i].cmd o.c) rfl ?_;(conv=>whnf);refine Cond.not ⟨fun em=>?_,fun em=>?_⟩
    · rw [em,Bool.true_and] at hok
      have hb : ((l[i].cmd.k == 1) != decide ((i : Int) < (l.length : Int) - 1)) = !g:=by
        have e1 : decide ((i : Int) < (l.length : Int) - 1) = !decide (i + 1 = l.length):=by
          rw [Bool.eq_iff_iff];simp;omega
        have e2 : (l[i].cmd.k == 1) = decide (l[i].cmd.k = 1):=by
          rw [Bool.eq_iff_iff];simp
        rw [e1,e2,hok];cases decide (l[i].cmd.k = 1) <;> cases decide (i + 1 = l.length) <;> rfl
      (conv=>whnf);refine Ar.i64 (by omega) ?_;(conv=>whnf);refine ⟨fun eb=>?_,fun eb=>?_⟩
      · rw [hb] at eb;rw [hall (by cases g <;> simp_all)];(conv=>whnf);exact Ret.m () [] [0] trivial rfl kk kk ⟨rfl,rfl⟩
      · rw [hb] at eb;(conv=>whnf);refine Ar.i64 (by omega) ?_;(conv=>whnf);exact ⟨i + 1,⟨by omega,hnx (by cases g <;> simp_all)⟩,by omega,Wk.m [] [0] kk trivial ⟨rfl,rfl⟩⟩
    · rw [em,Bool.false_and] at hok;rw [hall hok];(conv=>whnf);exact Ret.m () [] [0] trivial rfl kk kk ⟨rfl,rfl⟩
  obtain rfl : i = l.length:=by omega
  (conv=>whnf);refine Cond.d (fun h1=>?_) (fun h1=>?_)
  · conv=>whnf
    have e : q0d l = decide ((l.length : Int) ≤ 5):=by
      unfold q0d;rw [decide_eq_decide];exact ⟨fun h=>by omega,fun h=>⟨fun j hj=>hq j hj hj,by omega,by omega⟩⟩
    rw [e];exact Ret.m () [] [0] trivial rfl kk kk ⟨rfl,rfl⟩
  · conv=>whnf
    have e : q0d l = false:=by
      unfold q0d;rw [decide_eq_false_iff_not];rintro ⟨_,h2,_⟩;omega
    rw [e];exact Ret.m () [] [0] trivial rfl kk kk ⟨rfl,rfl⟩
end
end Go.Proofs.YtfehjfoajlfhfaaGreatDoor
