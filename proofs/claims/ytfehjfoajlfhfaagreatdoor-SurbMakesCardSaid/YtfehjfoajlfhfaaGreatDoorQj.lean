import Derived.Test.YtfehjfoajlfhfaaGreatDoorQi
namespace Go.Proofs.YtfehjfoajlfhfaaGreatDoor
open Go.Sx
set_option maxRecDepth 100000
set_option pp.deepTerms false
set_option pp.maxSteps 300
set_option linter.unusedSimpArgs false
set_option linter.unusedVariables false
section
structure StepS where
  cmd : Cmd
  next : HdrS
  secret : List UInt8
  tag : List UInt8
abbrev StepS.sg (s : StepS) : List Seg:=[.one (.int .i64 s.cmd.k),.one (.int .i64 s.cmd.n),.one (.int .i64 s.cmd.d),.many 8 (u8s s.cmd.id),.many 32 (u8s s.next.alpha),.many 160 (u8s s.next.beta),.many 16 (u8s s.next.gamma),.many 32 (u8s s.secret),.many 16 (u8s s.tag)]
structure StepS.ok (x : StepS) : Prop where
  c : x.cmd.id.length = 8
  n : x.next.ok
  s : x.secret.length = 32
  t : x.tag.length = 16
theorem StepS.okL {s : StepS} (o : s.ok) (B : Names) : okL B s.sg:=⟨trivial,trivial,trivial,mok o.c _,mok o.n.a _,mok o.n.b _,mok o.n.g _,mok o.s _,mok o.t _,trivial⟩
def step0 : StepS:=⟨cmd0,hdr0,zk,List.replicate 16 0⟩
theorem q6k : step0.ok:=⟨List.length_replicate,hdr0_ok,q1h,List.length_replicate⟩
def openB (s beta : List UInt8) : List UInt8:=xorB (beta ++ List.replicate 32 0) (q03 s)
theorem qct {s beta : List UInt8} (h : beta.length = 160) : (openB s beta).length = 192:=by
  unfold openB;rw [q16 (by rw [q1o];simp [h])];simp [h]
def q11 (own s : List UInt8) (h : HdrS) : StepS × Int :=
  if (q00 (q08 s h.alpha) h.alpha).2 = 0 then (⟨(decC ((openB s h.beta).take 16)).1,⟨(q00 (q08 s h.alpha) h.alpha).1,((openB s h.beta).drop 32).take 160,((openB s h.beta).drop 16).take 16⟩,s,tagH s⟩,0)
  else (step0,(q00 (q08 s h.alpha) h.alpha).2)
def q12 (own s : List UInt8) (h : HdrS) : StepS × Int :=
  if (decC ((openB s h.beta).take 16)).2 = 0 then q11 own s h else (step0,(decC ((openB s h.beta).take 16)).2)
def q13 (own s : List UInt8) (h : HdrS) : StepS × Int :=
  if q0j s h.beta = h.gamma then q12 own s h else (step0,6)
def q0h (own : List UInt8) (h : HdrS) : StepS × Int :=
  if (q00 own h.alpha).2 = 0 then q13 own (q00 own h.alpha).1 h else (step0,(q00 own h.alpha).2)
theorem uw_a {own : List UInt8} {h : HdrS} (e : (q00 own h.alpha).2 ≠ 0) : q0h own h = (step0,(q00 own h.alpha).2):=if_neg e
theorem uw_b {own : List UInt8} {h : HdrS} (e : (q00 own h.alpha).2 = 0) : q0h own h = q13 own (q00 own h.alpha).1 h:=if_pos e
theorem uw_c {own s : List UInt8} {h : HdrS} (e : q0j s h.beta ≠ h.gamma) : q13 own s h = (step0,6):=if_neg e
theorem uw_d {own s : List UInt8} {h : HdrS} (e : q0j s h.beta = h.gamma) : q13 own s h = q12 own s h:=if_pos e
theorem uw_e {own s : List UInt8} {h : HdrS} (e : (decC ((openB s h.beta).take 16)).2 ≠ 0) : q12 own s h = (step0,(decC ((openB s h.beta).take 16)).2):=if_neg e
theorem uw_f {own s : List UInt8} {h : HdrS} (e : (decC ((openB s h.beta).take 16)).2 = 0) : q12 own s h = q11 own s h:=if_pos e
theorem uw_g {own s : List UInt8} {h : HdrS} (e : (q00 (q08 s h.alpha) h.alpha).2 ≠ 0) : q11 own s h = (step0,(q00 (q08 s h.alpha) h.alpha).2):=if_neg e
theorem uw_h {own s : List UInt8} {h : HdrS} (e : (q00 (q08 s h.alpha) h.alpha).2 = 0) : q11 own s h = (⟨(decC ((openB s h.beta).take 16)).1,⟨(q00 (q08 s h.alpha) h.alpha).1,((openB s h.beta).drop 32).take 160,((openB s h.beta).drop 16).take 16⟩,s,tagH s⟩,0):=if_pos e
attribute [local irreducible] macD q01 strS q03 q00 q02 q0e q06 q05 q08 openB q13 q12 q11 q0h
theorem qj2 {b : List UInt8} (h : b.length = 16) : (decC b).1.id.length = 8:=qgb h
theorem qr2 (c : Cmd) (a b g s t : List UInt8) (q1 : c.id.length = 8) (q2 : a.length = 32) (q3 : b.length = 160) (q4 : g.length = 16) (q5 : s.length = 32) (q6 : t.length = 16) (e : Int) : StepS.ok ((⟨c,⟨a,b,g⟩,s,t⟩ : StepS),e).1:=⟨q1,⟨q2,q3,q4⟩,q5,q6⟩
theorem qgw (own : List UInt8) {h : HdrS} (o : h.ok) : (q0h own h).1.ok:=by
  by_cases h1 : (q00 own h.alpha).2 = 0
  · rw [uw_b h1];have hsl:=q1y own h.alpha;generalize (q00 own h.alpha).1 = s at hsl ⊢
    by_cases h2 : q0j s h.beta = h.gamma
    · rw [uw_d h2];have hol:=qct (s:=s) o.b
      by_cases h3 : (decC ((openB s h.beta).take 16)).2 = 0
      · rw [uw_f h3]
        by_cases h4 : (q00 (q08 s h.alpha) h.alpha).2 = 0
        · rw [uw_h h4];have q1:=qj2 (b:=(openB s h.beta).take 16) (by rw [List.length_take];omega);have q2:=q1y (q08 s h.alpha) h.alpha;have q3 : (((openB s h.beta).drop 32).take 160).length = 160:=by rw [List.length_take,List.length_drop];omega
          have q4 : (((openB s h.beta).drop 16).take 16).length = 16:=by rw [List.length_take,List.length_drop];omega
          have q5:=qb1 s;generalize (decC ((openB s h.beta).take 16)).1 = c at q1 ⊢;generalize (q00 (q08 s h.alpha) h.alpha).1 = a at q2 ⊢;generalize ((openB s h.beta).drop 32).take 160 = b at q3 ⊢;generalize ((openB s h.beta).drop 16).take 16 = g at q4 ⊢;generalize tagH s = t at q5 ⊢;exact qr2 _ _ _ _ _ _ q1 q2 q3 q4 hsl q5 _
        · rw [uw_g h4];exact q6k
      · rw [uw_e h3];exact q6k
    · rw [uw_c h2];exact q6k
  · rw [uw_a h1];exact q6k
theorem qne {b t k : Nat} {X Y Z : List Value} {fz : Nat × Nat} (h : X.length = k) : Rd (blk b (.cells (X ++ (Y ++ Z)).toArray t fz)) (some (radr (b,k))) Y :=
  Rd.blk rfl fun j u hj=>by
    show (X ++ (Y ++ Z)).toArray[k + j]? = some u;have:=(List.getElem?_eq_some_iff.1 hj).1;rw [List.getElem?_toArray,List.getElem?_append_right (by omega),show k + j - X.length = j by omega,List.getElem?_append_left this,hj]
theorem PtrOb.eqa {a : Option Addr} {q : Nat × Nat} {m : M} {f : Nat × Nat → Prop} (e : a = some (radr q)) (h : f q) : PtrOb a m f:=by rw [e];exact PtrOb.at h
theorem qln (A : HP) (hK : Gl A) (own : List UInt8) (ho : own.length = 32) (h : HdrS) (o : h.ok) :
    Pu Tryz.prog 46 [.agg [.many 32 (u8s own)],.agg h.sg] A (.tup [.agg (q0h own h).1.sg,.c (.int .i64 (q0h own h).2)]):=by
  obtain ⟨al,be,ga⟩:=h;have hal:=o.a;have hbe:=o.b;have hga:=o.g;dsimp only at hal hbe hga;have hok0 : ∀ B,okL B step0.sg:=StepS.okL q6k;refine Con.of' tt_ok Tryz.func46 rfl (by decide) [.agg [.many 32 (u8s own)],.agg [.many 32 (u8s al),.many 160 (u8s be),.many 16 (u8s ga)]] [] [] rfl rfl trivial ⟨⟨mok ho _,trivial⟩,⟨mok hal _,mok hbe _,mok hga _,trivial⟩,trivial⟩ rfl ?_;(conv=>whnf);intro b2;(conv=>whnf);intro b3;(conv=>whnf);intro b4;(conv=>whnf);refine Cq.pu (q84 _ own al ho hal) rfl ?_
  have hkl:=q1y own al;have hA:=uw_a (own:=own) (h:=⟨al,be,ga⟩);have hB:=uw_b (own:=own) (h:=⟨al,be,ga⟩);dsimp only at hA hB;generalize q0h own ⟨al,be,ga⟩ = Z at hA hB ⊢;generalize q00 own al = y at hkl hA hB ⊢;obtain ⟨s,e1⟩:=y;dsimp only at hkl hA hB ⊢;(conv=>whnf);intro b6;(conv=>whnf);refine Cond.neI (fun h1=>?_) (fun h1=>?_)
  · rw [hA h1];(conv=>whnf);exact Ret.m () [] [0] trivial rfl ⟨hok0 _,trivial,trivial⟩ kk ⟨rfl,rfl⟩
  have hZ:=hB h1;clear hA hB;(conv=>whnf);intro b8;(conv=>whnf);have hrb : Rd (blk b3 (.cells (u8s al ++ (u8s be ++ (u8s ga ++ []))).toArray 59)) (some (radr (b3,32))) (u8s be):=qne (by rw [u8l,hal])
  have hrg : Rd (blk b3 (.cells (u8s al ++ (u8s be ++ (u8s ga ++ []))).toArray 59)) (some (radr (b3,192))) (u8s ga):=by
    rw [← List.append_assoc];exact qne (by rw [List.length_append,u8l,u8l];omega)
  have hpl:=q24 s be;have hC:=uw_c (own:=own) (s:=s) (h:=⟨al,be,ga⟩);have hD:=uw_d (own:=own) (s:=s) (h:=⟨al,be,ga⟩);dsimp only at hC hD;rw [← hZ] at hC hD;clear hZ
  refine Draw.cut (σ:=Nat) (fun b=>[(3,.c (.ptr 3 0)),(4,.c (.ptr 4 0)),(6,.c (.ptr 6 0)),(8,.c (.ptr 8 0)),(9,.c (.ptr 9 0))])
    (fun b=>⟨[(9,b),(8,b8),(6,b6),(4,b4),(3,b3)],[(9,[.many 16 (u8s (q0j s be))],31),(8,[.many 32 (u8s s)],127),(6,[.many 32 (u8s s)],23),(4,step0.sg,100),(3,[.many 32 (u8s al),.many 160 (u8s be),.many 16 (u8s ga)],59)],[A]⟩) (fun _=>True) ?_ ?_
  · refine Draw.a (by kernel_rfl) tt_ok (Tv.of [0,1,2] (.two 3 (Tv.of [4,5] .nil) 4 (Tv.of [3,5] .nil))) 1000000 (by kernel_rfl) ?_;(conv=>whnf);refine ⟨?_,?_⟩
    · (conv=>whnf);refine Cq.pu (qbw _ _ (Ent.refl _) (hK.ent (Ent.a mm)) s hkl (some (radr (b3,32))) 160 be ⟨Rd.all (A:=blk b3 (.cells (u8s al ++ (u8s be ++ (u8s ga ++ []))).toArray 59)) mm hrb,by omega,fun h=>by cases h⟩ (by omega)) (by rw [hbe];rfl) ?_;refine Sub.r [8,6,4,3,2] [0] ?_;(conv=>whnf);intro b9;refine Sub.r [8,6,4,3,2] [0] ?_;(conv=>whnf);refine Sub.r [8,6,4,3,2] [0] ?_;conv=>whnf
      exact ⟨b9,trivial,Wk.m [9,8,6,4,3] [0] kk ⟨⟨kk,mok hpl _,trivial⟩,⟨kk,mok hkl _,trivial⟩,⟨kk,mok hkl _,trivial⟩,⟨kk,hok0 _⟩,⟨kk,mok hal _,mok hbe _,mok hga _,trivial⟩,trivial⟩ ⟨rfl,rfl⟩⟩
    · (conv=>whnf);intro b9;refine Sub.r [8,6,4,3,2] [0] ?_;(conv=>whnf);refine Cq.pu (qbw _ _ (Ent.refl _) (hK.ent (Ent.a mm)) s hkl (some (radr (b3,32))) 160 be ⟨Rd.all (A:=blk b3 (.cells (u8s al ++ (u8s be ++ (u8s ga ++ []))).toArray 59)) mm hrb,by omega,fun h=>by cases h⟩ (by omega)) (by rw [hbe];rfl) ?_;refine Sub.r [8,6,4,3,2] [0] ?_;(conv=>whnf);refine Sub.r [8,6,4,3,2] [0] ?_;conv=>whnf
      exact ⟨b9,trivial,Wk.m [9,8,6,4,3] [0] kk ⟨⟨kk,mok hpl _,trivial⟩,⟨kk,mok hkl _,trivial⟩,⟨kk,mok hkl _,trivial⟩,⟨kk,hok0 _⟩,⟨kk,mok hal _,mok hbe _,mok hga _,trivial⟩,trivial⟩ ⟨rfl,rfl⟩⟩
  intro b9 _;generalize q0j s be = T at hpl hC hD ⊢;(conv=>whnf);refine Draw.a (by kernel_rfl) tt_ok (Tv.of (List.range 5) .nil) 1000000 (by kernel_rfl) ?_;(conv=>whnf);refine Cq.pu (qin _ _ _ (Ent.refl _) (Ent.refl _) (some (radr (b9,0))) 16 T ⟨Rd.all (A:=blk b9 (.cells (u8s T ++ []).toArray 31)) mm q1p,by omega,fun h=>by cases h⟩ (some (radr (b3,192))) 16 ga ⟨Rd.all (A:=blk b3 (.cells (u8s al ++ (u8s be ++ (u8s ga ++ []))).toArray 59)) mm hrg,by omega,fun h=>by cases h⟩ (by omega)) (by rw [hpl,hga];rfl) ?_;refine Sub.whole ?_;conv=>whnf
  refine Cond.not (Cond.d (fun h2=>?_) (fun h2=>?_))
  case' refine_2 =>
    rw [hC h2];(conv=>whnf);exact Ret.m () [] [0] trivial rfl ⟨hok0 _,trivial,trivial⟩ kk ⟨rfl,rfl⟩
  have hZ:=hD h2;clear hC hD;(conv=>whnf);refine q6y (a:=some (radr (b3,32))) (n:=160) (cap:=160) (k:=32) (xs:=u8s be) (z0:=.int .u8 0) rfl (Src.slc (by exact ⟨u8s ga ++ [],by show (u8s al ++ (u8s be ++ (u8s ga ++ []))).drop 32 = u8s be ++ (u8s ga ++ []);rw [List.drop_left' (by rw [u8l,hal])]⟩)) (by omega) (by decide) (by rw [u8l,hbe]) (q0s _) rfl ⟨rfl,by decide,by decide⟩ rfl (by omega) 3 rfl ?_;intro a10 c10 hc10 hn10
  have hul : u8s be ++ List.replicate 32 (Value.int .u8 0) = u8s (be ++ List.replicate 32 0):=by rw [q0n];simp [u8s,u8]
  rw [hul];(conv=>whnf);refine Cq.new (qbe _ (hK.ent (Ent.a mm)) s hkl) rfl fun t ht=>?_;have hsl:=q1o s;have hO : openB s be = xorB (be ++ List.replicate 32 0) (q03 s):=by unfold openB;rfl
  have hOl:=qct (s:=s) hbe;(conv=>whnf);have hfz : (be ++ List.replicate 32 (0 : UInt8)).length = 192:=by simp [hbe]
  generalize q03 s = Y at hsl hO ⊢;refine Cq.by' [] [1] (mix_c _ (OwnO t 192 5 1 (u8s Y)) (Ent.a mm) a10 c10 (be ++ List.replicate 32 0) ⟨by omega,fun h=>absurd h hn10⟩ t 192 Y OwnO.rd (by omega) (by omega)) (by rw [hfz,hsl];rfl) ⟨rfl,rfl,rfl,fun _ _=>⟨rfl,?_⟩⟩
  rw [← hO];have hE2:=uw_e (own:=own) (s:=s) (h:=⟨al,be,ga⟩);have hF2:=uw_f (own:=own) (s:=s) (h:=⟨al,be,ga⟩);have hG:=uw_g (own:=own) (s:=s) (h:=⟨al,be,ga⟩);have hH:=uw_h (own:=own) (s:=s) (h:=⟨al,be,ga⟩);dsimp only at hE2 hF2 hG hH;generalize openB s be = O at hOl hE2 hF2 hG hH ⊢;(conv=>whnf);have hrO : Rd (Own a10 c10 5 1 (u8s O)) a10 (u8s O):=Own.rd;refine ⟨by omega,PtrOb.rd (A:=Own a10 c10 5 1 (u8s O)) (by simp) hrO (by rw [u8l];omega) fun p hp=>?_⟩;subst hp;conv=>whnf
  have h16 : (O.take 16).length = 16:=by rw [List.length_take];omega
  refine lds (A:=Own (some (radr p)) c10 5 1 (u8s O)) 0 [.many 16 (u8s (O.take 16))] rfl (by simp) hrO rfl rfl ?_ ?_ (by decide) (q04 ⟨mok h16 _,trivial⟩) ?_
  · show u8s (O.take 16) ++ [] = ((u8s O).drop 0).take 16;rw [List.append_nil,List.drop_zero,q1e]
  · show (u8s (O.take 16) ++ []).length = 16;rw [List.append_nil,u8l,h16]
  (conv=>whnf);refine Cq.pu (qiz _ (O.take 16) h16) rfl ?_;have hcl:=qj2 h16;generalize decC (O.take 16) = y at hcl hE2 hF2 hH ⊢;obtain ⟨c,e3⟩:=y;dsimp only at hcl hE2 hF2 hH ⊢;(conv=>whnf);intro b11;(conv=>whnf);refine Cond.neI (fun h3=>?_) (fun h3=>?_)
  · rw [hZ,hE2 h3];(conv=>whnf);exact Ret.m () [] [2] trivial rfl ⟨hok0 _,trivial,trivial⟩ kk ⟨rfl,rfl⟩
  have hZ2:=hZ.trans (hF2 h3);clear hE2 hF2 hZ;have hul2:=q1y (q08 s al) al;have hsh:=fun A=>q84 A (q08 s al) al (q43 s al) hal;generalize q00 (q08 s al) al = y at hul2 hsh hG hH;obtain ⟨u,e4⟩:=y;dsimp only at hul2 hsh hG hH
  refine Draw.cut (σ:=Nat) (fun b=>[(4,.c (.ptr 4 0)),(6,.c (.ptr 6 0)),(7,.c (.int .i64 e4)),(8,.c (.ptr 8 0)),(10,.c (.rs (some (radr p)) 192 c10)),(11,.c (.ptr 11 0)),(12,.c (.ptr 12 0))])
    (fun b=>⟨[(12,b),(11,b11),(8,b8),(6,b6),(4,b4)],[(12,[.many 32 (u8s u)],23),(11,c.sg,29),(8,[.many 32 (u8s s)],127),(6,[.many 32 (u8s s)],23),(4,step0.sg,100)],[Own (some (radr p)) c10 5 1 (u8s O),A]⟩) (fun _=>True) ?_ ?_
  · refine Draw.a (by kernel_rfl) tt_ok (Tv.of [0,1,2,4,5] (.two 3 ((.two 6 (Tv.of [7,8,9,10,11,12] .nil) 10 (Tv.of [6,7,8,9,11,12] .nil))) 10 (Tv.of [3,6,7,8,9,11,12] .nil))) 1000000 (by kernel_rfl) ?_;(conv=>whnf);refine ⟨?_,?_⟩
    · (conv=>whnf);refine Cq.pu (q6v _ (hK.ent (Ent.a mm)) s al hkl hal) rfl ?_;refine Sub.r [11,9,8,6,4,3] [0,0,0] ?_;(conv=>whnf);refine ⟨?_,?_⟩
      · (conv=>whnf);refine Cq.pu (hsh _) rfl ?_;refine Sub.r [11,9,8,6,4,3] [0,0,0] ?_;(conv=>whnf);intro b12;refine Sub.r [11,9,8,6,4,3] [0,0,0] ?_;(conv=>whnf);refine Sub.r [11,9,8,6,4,3] [0,0,0] ?_;(conv=>whnf);exact ⟨b12,trivial,Wk.m [12,11,8,6,4] [0,1] kk ⟨⟨kk,mok hul2 _,trivial⟩,⟨kk,Seg.ok_cmd c hcl _⟩,⟨kk,mok hkl _,trivial⟩,⟨kk,mok hkl _,trivial⟩,⟨kk,hok0 _⟩,trivial⟩ ⟨rfl,rfl⟩⟩
      · (conv=>whnf);intro b12;refine Sub.r [11,9,8,6,4,3] [0,0,0] ?_;(conv=>whnf);refine Cq.pu (hsh _) rfl ?_;refine Sub.r [11,9,8,6,4,3] [0,0,0] ?_;(conv=>whnf);refine Sub.r [11,9,8,6,4,3] [0,0,0] ?_;(conv=>whnf);exact ⟨b12,trivial,Wk.m [12,11,8,6,4] [0,1] kk ⟨⟨kk,mok hul2 _,trivial⟩,⟨kk,Seg.ok_cmd c hcl _⟩,⟨kk,mok hkl _,trivial⟩,⟨kk,mok hkl _,trivial⟩,⟨kk,hok0 _⟩,trivial⟩ ⟨rfl,rfl⟩⟩
    · (conv=>whnf);intro b12;refine Sub.r [11,9,8,6,4,3] [0,0,0] ?_;(conv=>whnf);refine Cq.pu (q6v _ (hK.ent (Ent.a mm)) s al hkl hal) rfl ?_;refine Sub.r [11,9,8,6,4,3] [0,0,0] ?_;(conv=>whnf);refine Cq.pu (hsh _) rfl ?_;refine Sub.r [11,9,8,6,4,3] [0,0,0] ?_;(conv=>whnf);refine Sub.r [11,9,8,6,4,3] [0,0,0] ?_;conv=>whnf
      exact ⟨b12,trivial,Wk.m [12,11,8,6,4] [0,1] kk ⟨⟨kk,mok hul2 _,trivial⟩,⟨kk,Seg.ok_cmd c hcl _⟩,⟨kk,mok hkl _,trivial⟩,⟨kk,mok hkl _,trivial⟩,⟨kk,hok0 _⟩,trivial⟩ ⟨rfl,rfl⟩⟩
  intro b12 _;(conv=>whnf);refine Cond.neI (fun h4=>?_) (fun h4=>?_)
  · rw [hZ2,hG h4];(conv=>whnf);exact Ret.m () [] [1] trivial rfl ⟨hok0 _,trivial,trivial⟩ kk ⟨rfl,rfl⟩
  rw [hZ2,hH h4];clear hG hH hZ2;(conv=>whnf);refine Draw.a (by kernel_rfl) tt_ok (Tv.of (List.range 17) .nil) 15 (by kernel_rfl) ?_;(conv=>whnf);refine ⟨by omega,?_⟩;have hc10' : 192 ≤ c10:=by omega
  have hcut : ∀ k,k < 192 → cutA (some (radr p)) c10 k 1 = some (radr (p.1,p.2 + k)):=fun k hk=>by
    unfold cutA;rw [if_neg (by omega),Nat.mul_one];show some ((⟨p.1,p.2,none⟩ : Addr).add k) = _;rw [q0l];rfl
  (conv=>whnf);refine ⟨by decide,PtrOb.eqa (hcut 32 (by decide)) ?_⟩;(conv=>whnf);have h160 : ((O.drop 32).take 160).length = 160:=by rw [List.length_take,List.length_drop];omega
  have hg16 : ((O.drop 16).take 16).length = 16:=by rw [List.length_take,List.length_drop];omega
  refine lds (A:=Own (some (radr p)) c10 5 1 (u8s O)) 32 [.many 160 (u8s ((O.drop 32).take 160))] rfl (by simp) hrO rfl rfl ?_ ?_ (by decide) (q04 ⟨mok h160 _,trivial⟩) ?_
  · show u8s ((O.drop 32).take 160) ++ [] = ((u8s O).drop 32).take 160;rw [List.append_nil,q1e,q3p]
  · show (u8s ((O.drop 32).take 160) ++ []).length = 160;rw [List.append_nil,u8l,h160]
  (conv=>whnf);refine ⟨by omega,?_⟩;(conv=>whnf);refine ⟨by decide,PtrOb.eqa (hcut 16 (by decide)) ?_⟩;(conv=>whnf);refine lds (A:=Own (some (radr p)) c10 5 1 (u8s O)) 16 [.many 16 (u8s ((O.drop 16).take 16))] rfl (by simp) hrO rfl rfl ?_ ?_ (by decide) (q04 ⟨mok hg16 _,trivial⟩) ?_
  · show u8s ((O.drop 16).take 16) ++ [] = ((u8s O).drop 16).take 16;rw [List.append_nil,q1e,q3p]
  · show (u8s ((O.drop 16).take 16) ++ []).length = 16;rw [List.append_nil,u8l,hg16]
  (conv=>whnf);refine Cq.pu (tag_h _ (hK.ent (Ent.a mm)) s hkl) rfl ?_;(conv=>whnf);refine Sub.whole ?_;(conv=>whnf);exact Ret.m () [] [1] trivial rfl ⟨⟨trivial,trivial,trivial,mok hcl _,mok hul2 _,mok h160 _,mok hg16 _,mok hkl _,mok (qb1 s) _,trivial⟩,trivial,trivial⟩ kk ⟨rfl,rfl⟩
end
section
def hdrOf (b : List UInt8) : HdrS:=⟨b.take 32,(b.drop 32).take 160,(b.drop 192).take 16⟩
def encH (h : HdrS) : List UInt8:=h.alpha ++ h.beta ++ h.gamma
theorem qm9 {b : List UInt8} (h : b.length = 208) : (hdrOf b).ok :=
  ⟨by show (b.take 32).length = 32;rw [List.length_take];omega,by show ((b.drop 32).take 160).length = 160;rw [List.length_take,List.length_drop];omega,by show ((b.drop 192).take 16).length = 16;rw [List.length_take,List.length_drop];omega⟩
theorem q5b {h : HdrS} (o : h.ok) : (encH h).length = 208:=by
  have:=o.a;have:=o.b;have:=o.g;unfold encH;rw [List.length_append,List.length_append];omega
theorem qdg {h : HdrS} (o : h.ok) : hdrOf (encH h) = h:=by
  obtain ⟨a,b,g⟩:=h;have ha:=o.a;have hb:=o.b;have hg:=o.g;dsimp only at ha hb hg;unfold hdrOf encH;dsimp only;have h1 : (a ++ b ++ g).take 32 = a:=by rw [List.append_assoc,List.take_left' ha]
  have h2 : ((a ++ b ++ g).drop 32).take 160 = b:=by rw [List.append_assoc,List.drop_left' ha,List.take_left' hb]
  have h3 : ((a ++ b ++ g).drop 192).take 16 = g:=by rw [List.drop_left' (by rw [List.length_append];omega),List.take_of_length_le (by omega)]
  rw [h1,h2,h3]
def q90 (b : List UInt8) : HdrS × Int:=if b.length = 208 then (hdrOf b,0) else (hdr0,5)
theorem qox {R : HP} {a : Option Addr} {l : List UInt8} (h : Rd R a (u8s l)) (m k n : Nat) (hk : k + n ≤ m) : Rd R (cutA a m k 1) (u8s ((l.drop k).take n)):=by
  have:=h.cut m k n hk
  rwa [← q3p,← q1e] at this
theorem qkz (A R : HP) (hE : Ent A R) (a : Option Addr) (cap : Nat) (b : List UInt8) (hb : Bts R a cap b) (hn : b.length ≤ 1000000000) :
    Pu Tryz.prog 45 [.c (.rs a b.length cap)] A (.tup [.agg (q90 b).1.sg,.c (.int .i64 (q90 b).2)]):=by
  have hr:=hb.1.ent hE;have hok0 : ∀ B,okL B hdr0.sg:=HdrS.okL hdr0_ok;refine Con.of' tt_ok Tryz.func45 rfl (by decide) [.c (.rs a b.length cap)] [] [] rfl rfl trivial kk rfl ?_;(conv=>whnf);intro b2;(conv=>whnf);refine Cond.neI (fun h=>?_) (fun h=>?_)
  · rw [show q90 b = (hdr0,5) from if_neg (by omega)];(conv=>whnf);exact Ret.m () [] [0] trivial rfl ⟨hok0 _,trivial,trivial⟩ kk ⟨rfl,rfl⟩
  have hl : b.length = 208:=by omega
  rw [show q90 b = (hdrOf b,0) from if_pos hl];(conv=>whnf);refine Draw.a (by kernel_rfl) tt_ok (Tv.of (List.range 17) .nil) 15 (by kernel_rfl) ?_;(conv=>whnf);have h32 : (b.take 32).length = 32:=by rw [List.length_take];omega
  have h160 : ((b.drop 32).take 160).length = 160:=by rw [List.length_take,List.length_drop];omega
  have h16 : ((b.drop 192).take 16).length = 16:=by rw [List.length_take,List.length_drop];omega
  have hcp:=hb.2.1;refine ⟨by omega,PtrOb.rd (A:=A) (by simp) hr (by rw [u8l];omega) fun p hp=>?_⟩;subst hp
  have hcut : ∀ k,k < 208 → cutA (some (radr p)) cap k 1 = some (radr (p.1,p.2 + k)):=fun k hk=>by
    unfold cutA;rw [if_neg (by omega),Nat.mul_one];show some ((⟨p.1,p.2,none⟩ : Addr).add k) = _;rw [q0l];rfl
  (conv=>whnf);refine lds (A:=A) 0 [.many 32 (u8s (b.take 32))] rfl (by simp) hr rfl rfl ?_ ?_ (by decide) (q04 ⟨mok h32 _,trivial⟩) ?_
  · show u8s (b.take 32) ++ [] = ((u8s b).drop 0).take 32;rw [List.append_nil,List.drop_zero,q1e]
  · show (u8s (b.take 32) ++ []).length = 32;rw [List.append_nil,u8l,h32]
  (conv=>whnf);refine ⟨by omega,?_⟩;(conv=>whnf);refine ⟨by show 160 ≤ ((b.length : Nat) : Int).toNat - 32;omega,PtrOb.eqa (hcut 32 (by decide)) ?_⟩;(conv=>whnf);refine lds (A:=A) 32 [.many 160 (u8s ((b.drop 32).take 160))] rfl (by simp) hr rfl rfl ?_ ?_ (by decide) (q04 ⟨mok h160 _,trivial⟩) ?_
  · show u8s ((b.drop 32).take 160) ++ [] = ((u8s b).drop 32).take 160;rw [List.append_nil,q1e,q3p]
  · show (u8s ((b.drop 32).take 160) ++ []).length = 160;rw [List.append_nil,u8l,h160]
  (conv=>whnf);refine Ar.to 192 rfl (Ar.i64 (by omega) ?_);(conv=>whnf);refine ⟨by omega,?_⟩;(conv=>whnf);refine ⟨by show 16 ≤ ((b.length : Nat) : Int).toNat - 192;omega,PtrOb.eqa (hcut 192 (by decide)) ?_⟩;(conv=>whnf);refine lds (A:=A) 192 [.many 16 (u8s ((b.drop 192).take 16))] rfl (by simp) hr rfl rfl ?_ ?_ (by decide) (q04 ⟨mok h16 _,trivial⟩) ?_
  · show u8s ((b.drop 192).take 16) ++ [] = ((u8s b).drop 192).take 16;rw [List.append_nil,q1e,q3p]
  · show (u8s ((b.drop 192).take 16) ++ []).length = 16;rw [List.append_nil,u8l,h16]
  (conv=>whnf);exact Ret.m () [] [0] trivial rfl ⟨⟨mok h32 _,mok h160 _,mok h16 _,trivial⟩,trivial,trivial⟩ kk ⟨rfl,rfl⟩
theorem q86 (A : HP) (h : HdrS) (o : h.ok) : FB Tryz.prog 26 [.agg h.sg] A 5 (encH h):=by
  obtain ⟨al,be,ga⟩:=h;have hal:=o.a;have hbe:=o.b;have hga:=o.g;dsimp only at hal hbe hga;have hel:=q5b o;show FB Tryz.prog 26 [.agg [.many 32 (u8s al),.many 160 (u8s be),.many 16 (u8s ga)]] A 5 (al ++ be ++ ga);refine Con.of' tt_ok Tryz.func26 rfl (by decide) [.agg [.many 32 (u8s al),.many 160 (u8s be),.many 16 (u8s ga)]] [] [] rfl rfl trivial ⟨⟨mok hal _,mok hbe _,mok hga _,trivial⟩,trivial⟩ rfl ?_;(conv=>whnf);intro b1;(conv=>whnf);refine With.own0 5 1 ?_
  refine appb (l:=[]) (m:=al) (.refl _) (Src.slc (by exact ⟨_,rfl⟩)) rfl hal.symm ⟨rfl,by decide,by decide⟩ (by show 0 + _ ≤ _;omega) 24 (.inr rfl) ?_;intro a3 c3 hc3;rw [List.nil_append] at hc3 ⊢;(conv=>whnf);refine appb (l:=al) (m:=be) (.refl _) (Src.slc (by exact ⟨u8s ga ++ [],by show (u8s al ++ (u8s be ++ (u8s ga ++ []))).drop 32 = u8s be ++ (u8s ga ++ []);rw [List.drop_left' (by rw [u8l,hal])]⟩)) rfl hbe.symm ⟨rfl,by decide,by decide⟩ (by omega) 24 (.inr rfl) ?_;clear hc3;intro a3 c3 hc3;conv=>whnf
  refine appb (l:=al ++ be) (m:=ga) (.refl _) (Src.slc (by exact ⟨[],by show (u8s al ++ (u8s be ++ (u8s ga ++ []))).drop 192 = u8s ga ++ [];rw [← List.append_assoc,List.drop_left' (by rw [List.length_append,u8l,u8l];omega)]⟩)) rfl hga.symm ⟨rfl,by decide,by decide⟩ (by rw [List.length_append];omega) 24 (.inr rfl) ?_;clear hc3;intro a3 c3 hc3;(conv=>whnf);exact Ret.m (a3,c3) [] [0,0] hc3 rfl kk kk ⟨rfl,rfl⟩
end
section
def qnd : Sh:=.pair (.int .i64) (.pair (.int .i64) (.pair (.int .i64) (.pair (.barr 8) .unit)))
structure Cmd.wf (c : Cmd) : Prop where
  k : (Lit.int .i64 c.k).wf = true
  n : (Lit.int .i64 c.n).wf = true
  d : (Lit.int .i64 c.d).wf = true
  i : c.id.length = 8
theorem qnt : Fits Tryz.prog (.barr 16) 31 = true:=by simp only [Fits,Tryz.underlying31,Tryz.underlying5];kernel_rfl
theorem qqm : Tryz.prog.keyTypeAt 5 31 = true:=by kernel_rfl
theorem qq0 : Tryz.prog.eqGuardType Tryz.prog.depth 31 = false:=by kernel_rfl
theorem qnz {l m : List UInt8} {xs ys : List Value} {f : Bool → Prop} (hl : l.length = 16) (hm : m.length = 16) (ex : xs = u8s l) (ey : ys = u8s m) (h : f (decide (l = m))) : EqAgg Tryz.prog 31 xs ys f:=by
  subst ex ey;refine qfo (s:=.barr 16) (R:=fun _=>True) (R':=fun _=>True) ⟨.unit,.unit,.inr ⟨16,.inl rfl⟩⟩ rfl qnt qqm (by decide) qq0 (q31 hl _) (q31 hm _) fun b hb=>?_
  have : b = decide (l = m):=by
    cases b with
    | true=>rw [decide_eq_true (hb.1 rfl)]
    | false=>rw [decide_eq_false (fun e=>by cases hb.2 e)]
  rw [this];exact h
attribute [local irreducible] macD q01 strS q03 q00 q02 q0e q06 q05 q08 openB q13 q12 q11 q0h decC
end
section
instance decCmd : DecidableEq Cmd:=fun a b =>
  if h : a.k = b.k ∧ a.n = b.n ∧ a.d = b.d ∧ a.id = b.id then isTrue (by obtain ⟨h1,h2,h3,h4⟩:=h;cases a;cases b;simp_all) else isFalse (fun e=>h (by rw [e];exact ⟨rfl,rfl,rfl,rfl⟩))
def ke1 : List UInt8:=1 :: List.replicate 31 0
def ke2 : List UInt8:=2 :: List.replicate 31 0
def zA1 : List UInt8:=leB 52573937849532372069814888178136277301931757964231753054399601207743438775599 32
def zA2 : List UInt8:=leB 52573937849532372069814888178136277301931757964231753054399601207743438775599 32
theorem f_A1 : q05 ke1 = zA1:=by decide +kernel
theorem f_A2 : q05 ke2 = zA2:=by decide +kernel
attribute [local irreducible] macD q01 strS q03 q00 q02 q0e q06 q05 q08 openB q0j decC q0d q0u
end
section
attribute [local irreducible] macD q01 strS q03 q00 q02 q0e q06 q05 q08 openB q0j decC q0d q0u q0b q0h tagH leB
end
end Go.Proofs.YtfehjfoajlfhfaaGreatDoor
