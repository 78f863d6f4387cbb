import Derived.Test.YtfehjfoajlfhfaaGreatDoorQg
import Derived.Test.YtfehjfoajlfhfaaGreatDoorQc
import Derived.Test.YtfehjfoajlfhfaaGreatDoorQd
import Derived.Lib.ConvBytes
namespace Go.Proofs.YtfehjfoajlfhfaaGreatDoor
open Go.Sx
set_option maxRecDepth 100000
set_option pp.deepTerms false
set_option pp.maxSteps 300
set_option linter.unusedSimpArgs false
set_option linter.unusedVariables false
section
def expT (secret info : List UInt8) : Nat → List UInt8
  | 0=>[]
  | m + 1=>macD secret (expT secret info m ++ info ++ [UInt8.ofNat (m + 1)])
def expO (secret info : List UInt8) : Nat → List UInt8
  | 0=>[]
  | m + 1=>expO secret info m ++ expT secret info (m + 1)
theorem q27 (key b : List UInt8) : (macD key b).length = 32:=q1m _
theorem q8d (secret info : List UInt8) (m : Nat) : (expT secret info (m + 1)).length = 32:=q27 _ _
theorem qjp (secret info : List UInt8) : ∀ m,(expT secret info m).length ≤ 32
  | 0=>by show 0 ≤ 32;decide
  | m + 1=>by rw [q8d];decide
theorem qat (secret info : List UInt8) : ∀ m,(expO secret info m).length = 32 * m
  | 0=>rfl
  | m + 1=>by rw [expO,List.length_append,qat secret info m,q8d];omega
attribute [local irreducible] macD
theorem qlx (A R : HP) (hE : Ent A R) (hK : Gl A) (secret : List UInt8) (hs : secret.length = 32) (a : Option Addr) (cap : Nat) (info : List UInt8) (hb : Bts R a cap info) (hi : info.length ≤ 100000) (n : Nat) (hn : n ≤ 1000) :
    Con Tryz.prog 97 [.agg [.many 32 (u8s secret)],.c (.rs a info.length cap),.c (.int .i64 n)] [] [] A (fun t : Option Addr=>t = none → n = 0) (fun t=>.tup [.c (.rs t n n),.c (.int .i64 0)]) (fun _=>[]) (fun t=>[OwnO t n 5 1 (u8s ((expO secret info ((n + 31) / 32)).take n))]):=by
  have hb:=hb.1.ent hE;have hks:=mok hs;refine Con.of' tt_ok Tryz.func97 rfl (by decide) [.agg [.many 32 (u8s secret)],.c (.rs a info.length cap),.c (.int .i64 n)] [] [] rfl rfl trivial ⟨⟨hks _,trivial⟩,trivial,trivial,trivial⟩ rfl ?_;(conv=>whnf);intro b3;(conv=>whnf);refine Cond.d (fun h=>?_) (fun h=>?_)
  · omega
  (conv=>whnf);refine Cond.d (fun h=>?_) (fun h=>?_)
  · omega
  conv=>whnf
  refine LoopOb.m (σ:=Nat × (Option Addr × Nat) × (Option Addr × Nat)) (fun s=>[(1,.c (.rs a info.length cap)),(2,.c (.int .i64 n)),(3,.c (.ptr 3 0)),(8,.c (.rs s.2.1.1 (expO secret info s.1).length s.2.1.2)),(9,.c (.rs s.2.2.1 (expT secret info s.1).length s.2.2.2)),(10,.c (.int .u8 ((s.1 + 1 : Nat) : Int)))])
    (fun s=>⟨[(3,b3)],[(3,[.many 32 (u8s secret)],23)],[Own s.2.1.1 s.2.1.2 5 1 (u8s (expO secret info s.1)),Own s.2.2.1 s.2.2.2 23 1 (u8s (expT secret info s.1)),A]⟩)
    (fun s=>s.1 ≤ (n + 31) / 32 ∧ Fc s.2.1.1 s.2.1.2 (expO secret info s.1)) (fun s=>(n + 31) / 32 - s.1) (0,(none,0),(none,0)) ⟨Nat.zero_le _,Fc.nil⟩ ?_ ?_
  · refine Wk.own0 5 1 (Wk.own0 23 1 ?_);exact Wk.m [3] [1,0,0] kk ⟨⟨kk,hks _,trivial⟩,trivial⟩ ⟨rfl,rfl⟩
  rintro ⟨m,⟨a8,c8⟩,⟨a9,c9⟩⟩ ⟨hm,hc⟩;dsimp only at hm hc ⊢;have hol:=qat secret info m;have htl:=qjp secret info m;(conv=>whnf);refine Cond.d (fun h=>?_) (fun h=>?_)
  · have hm' : m < (n + 31) / 32:=by omega
    have es : expO secret info (m + 1) = expO secret info m ++ expT secret info (m + 1):=rfl;have et : expT secret info (m + 1) = macD secret (expT secret info m ++ info ++ [UInt8.ofNat (m + 1)]):=rfl;have hl1:=q8d secret info m;obtain ⟨T1,eT⟩ : ∃ T1,expT secret info (m + 1) = T1:=⟨_,rfl⟩;rw [eT] at es et hl1;generalize expT secret info m = T at htl et ⊢;obtain ⟨O1,eO⟩ : ∃ O1,expO secret info (m + 1) = O1:=⟨_,rfl⟩;rw [eO] at es;generalize expO secret info m = O at hol hc es ⊢;(conv=>whnf);refine With.own0 5 1 ?_
    refine appb (l:=[]) (m:=T) (.refl _) (Src.rs (A:=Own a9 c9 23 1 (u8s T)) (by simp) Own.rd) rfl rfl ⟨rfl,by decide,by decide⟩ (by simp;omega) 24 (.inr rfl) ?_;intro a11 c11 hc11;rw [List.nil_append] at hc11 ⊢;(conv=>whnf);refine appb (l:=T) (m:=info) (.refl _) (Src.rs (A:=A) (by simp) hb) rfl rfl ⟨rfl,by decide,by decide⟩ (by omega) 24 (.inr rfl) ?_;intro a11 c11 hc11;(conv=>whnf);have hu8 : ((m + 1 : Nat) : Int) = ((UInt8.ofNat (m + 1)).toNat : Int):=by simp;omega
    refine Draw.cut (σ:=Nat) (fun b=>[(1,.c (.rs a info.length cap)),(2,.c (.int .i64 n)),(3,.c (.ptr 3 0)),(8,.c (.rs a8 O.length c8)),(10,.c (.int .u8 ((m + 1 : Nat) : Int))),(12,.c (.ptr 12 0))])
      (fun b=>⟨[(12,b),(3,b3)],[(12,[.many 32 (u8s T1)],23),(3,[.many 32 (u8s secret)],23)],[Own a8 c8 5 1 (u8s O),Own a9 c9 23 1 (u8s T),A]⟩) (fun _=>True) ?_ ?_
    · refine Draw.free (by kernel_rfl) tt_ok (Tv.of [0,1,2] (.two 3 ((.two 4 ((.two 5 (Tv.of [6,7] .nil) 6 (Tv.of [5,7] .nil))) 6 (Tv.of [4,5,7] .nil))) 6 (Tv.of [3,4,5,7] .nil))) 1000000 _ _ (by kernel_rfl) (fun k=>k) (Sub.r [3] [1,1,1] ?_);(conv=>whnf);refine ⟨?_,?_⟩
      · (conv=>whnf);intro b33;refine Sub.r [3] [1,1,1] ?_;(conv=>whnf);refine ⟨?_,?_⟩
        · (conv=>whnf);refine appb (l:=T ++ info) (m:=[UInt8.ofNat (m + 1)]) (.refl _) (by exact Src.u8 _ hu8 rfl) rfl rfl ⟨rfl,by decide,by decide⟩ (by simp;omega) 24 (.inr rfl) ?_;intro a12 c12 hc12;refine Sub.r [3] [1,1,1] ?_;(conv=>whnf);refine ⟨?_,?_⟩
          · (conv=>whnf);refine Cq.pu (mac_c _ _ (Ent.refl _) (hK.ent (Ent.a mm)) (some (radr (b3,0))) 32 secret ⟨Rd.all (A:=blk b3 (.cells (u8s secret ++ []).toArray 23)) mm q1p,by omega,fun h=>by cases h⟩ (by omega) a12 c12 (T ++ info ++ [UInt8.ofNat (m + 1)]) ⟨Rd.all (A:=Own a12 c12 5 1 (u8s (T ++ info ++ [UInt8.ofNat (m + 1)]))) mm Own.rd,hc12.1,hc12.2⟩ (by simp;omega)) (by rw [hs];rfl) ?_;rw [← et];refine Sub.r [3] [1,1,1] ?_;(conv=>whnf);intro b12;refine Sub.r [3] [1,1,1] ?_;(conv=>whnf);refine Sub.r [3] [1,1,1] ?_;conv=>whnf
            exact ⟨b12,trivial,Wk.m [12,3] [1,1,1] kk ⟨⟨kk,mok hl1 _,trivial⟩,⟨kk,hks _,trivial⟩,trivial⟩ ⟨rfl,rfl⟩⟩
          · (conv=>whnf);intro b12;refine Sub.r [3] [1,1,1] ?_;(conv=>whnf);refine Cq.pu (mac_c _ _ (Ent.refl _) (hK.ent (Ent.a mm)) (some (radr (b3,0))) 32 secret ⟨Rd.all (A:=blk b3 (.cells (u8s secret ++ []).toArray 23)) mm q1p,by omega,fun h=>by cases h⟩ (by omega) a12 c12 (T ++ info ++ [UInt8.ofNat (m + 1)]) ⟨Rd.all (A:=Own a12 c12 5 1 (u8s (T ++ info ++ [UInt8.ofNat (m + 1)]))) mm Own.rd,hc12.1,hc12.2⟩ (by simp;omega)) (by rw [hs];rfl) ?_;rw [← et];refine Sub.r [3] [1,1,1] ?_;(conv=>whnf);refine Sub.r [3] [1,1,1] ?_;conv=>whnf
            exact ⟨b12,trivial,Wk.m [12,3] [1,1,1] kk ⟨⟨kk,mok hl1 _,trivial⟩,⟨kk,hks _,trivial⟩,trivial⟩ ⟨rfl,rfl⟩⟩
        · (conv=>whnf);intro b12;refine Sub.r [3] [1,1,1] ?_;(conv=>whnf);refine appb (l:=T ++ info) (m:=[UInt8.ofNat (m + 1)]) (.refl _) (by exact Src.u8 _ hu8 rfl) rfl rfl ⟨rfl,by decide,by decide⟩ (by simp;omega) 24 (.inr rfl) ?_;intro a12 c12 hc12;refine Sub.r [3] [1,1,1] ?_;conv=>whnf
          refine Cq.pu (mac_c _ _ (Ent.refl _) (hK.ent (Ent.a mm)) (some (radr (b3,0))) 32 secret ⟨Rd.all (A:=blk b3 (.cells (u8s secret ++ []).toArray 23)) mm q1p,by omega,fun h=>by cases h⟩ (by omega) a12 c12 (T ++ info ++ [UInt8.ofNat (m + 1)]) ⟨Rd.all (A:=Own a12 c12 5 1 (u8s (T ++ info ++ [UInt8.ofNat (m + 1)]))) mm Own.rd,hc12.1,hc12.2⟩ (by simp;omega)) (by rw [hs];rfl) ?_;rw [← et];refine Sub.r [3] [1,1,1] ?_;(conv=>whnf);refine Sub.r [3] [1,1,1] ?_;conv=>whnf
          exact ⟨b12,trivial,Wk.m [12,3] [1,1,1] kk ⟨⟨kk,mok hl1 _,trivial⟩,⟨kk,hks _,trivial⟩,trivial⟩ ⟨rfl,rfl⟩⟩
      · (conv=>whnf);intro b12;refine Sub.r [3] [1,1,1] ?_;(conv=>whnf);intro b33;refine Sub.r [3] [1,1,1] ?_;(conv=>whnf);refine appb (l:=T ++ info) (m:=[UInt8.ofNat (m + 1)]) (.refl _) (by exact Src.u8 _ hu8 rfl) rfl rfl ⟨rfl,by decide,by decide⟩ (by simp;omega) 24 (.inr rfl) ?_;intro a12 c12 hc12;refine Sub.r [3] [1,1,1] ?_;conv=>whnf
        refine Cq.pu (mac_c _ _ (Ent.refl _) (hK.ent (Ent.a mm)) (some (radr (b3,0))) 32 secret ⟨Rd.all (A:=blk b3 (.cells (u8s secret ++ []).toArray 23)) mm q1p,by omega,fun h=>by cases h⟩ (by omega) a12 c12 (T ++ info ++ [UInt8.ofNat (m + 1)]) ⟨Rd.all (A:=Own a12 c12 5 1 (u8s (T ++ info ++ [UInt8.ofNat (m + 1)]))) mm Own.rd,hc12.1,hc12.2⟩ (by simp;omega)) (by rw [hs];rfl) ?_;rw [← et];refine Sub.r [3] [1,1,1] ?_;(conv=>whnf);refine Sub.r [3] [1,1,1] ?_;conv=>whnf
        exact ⟨b12,trivial,Wk.m [12,3] [1,1,1] kk ⟨⟨kk,mok hl1 _,trivial⟩,⟨kk,hks _,trivial⟩,trivial⟩ ⟨rfl,rfl⟩⟩
    intro b12 _;(conv=>whnf);refine appb (l:=O) (m:=T1) (.refl _) (Src.slc (by exact ⟨[],by show (u8s T1 ++ []) = u8s T1 ++ [];rfl⟩)) rfl hl1.symm ⟨rfl,by decide,by decide⟩ (by omega) 24 (.inr rfl) ?_;intro a2 c2 hc2;rw [← es] at hc2 ⊢;(conv=>whnf);refine Ar.u8 (by omega) ?_;(conv=>whnf);refine ⟨(m + 1,(a2,c2),(some (radr (b12,0)),32)),⟨by dsimp only;omega,by dsimp only;rw [eO];exact hc2⟩,by dsimp only;omega,?_⟩;dsimp only;rw [eO,eT];refine Wk.own 12 32 32 1 ⟨_,_,rfl,⟨rfl,Nat.le_refl _⟩,⟨mok hl1 _,trivial⟩,?_⟩
    refine Wk.m [3] [1,0,1] ⟨⟨rfl,kk⟩,⟨rfl,kk⟩,⟨rfl,kk⟩,⟨rfl,kk⟩,⟨?_,kk⟩,⟨rfl,kk⟩,trivial⟩ ⟨⟨kk,hks _,trivial⟩,trivial⟩ ⟨rfl,?_⟩
    · show Value.slice (some (radr (b12,0))) 32 32 = Value.slice (some (radr (b12,0))) T1.length 32;rw [hl1]
    · show [Own a2 c2 5 1 (u8s O1),Own (some (radr (b12,0))) 32 23 1 ((u8s T1 ++ []).take (32 * 1)),A] = _;rw [List.append_nil,List.take_of_length_le (by rw [u8l];omega)]
  obtain rfl : m = (n + 31) / 32:=by omega
  have hle : n ≤ (expO secret info ((n + 31) / 32)).length:=by omega
  have hcc:=hc.1;generalize expO secret info ((n + 31) / 32) = L at hc hle hcc ⊢;(conv=>whnf);refine ⟨⟨⟨by omega,by omega⟩,rfl⟩,⟨by omega,by omega⟩,?_⟩;(conv=>whnf);refine Ret.turn (F':=[OwnO a8 n 5 1 (u8s (L.take n)),Own a9 c9 23 1 (u8s (expT secret info ((n + 31) / 32))),A]) (fun g s=>q0x (fun g' h'=>?_) s) ?_
  · rw [q1e];exact OwnO.pre n (by rw [u8l];omega) g' (OwnO.of g' h')
  refine Ret.m a8 [] [0,1] (fun e=>by have:=hc.2 e;rw [this] at hle;simpa using hle) ?_ kk kk ⟨rfl,rfl⟩;show Value.tuple #[Value.slice (cutA a8 ((n : Int)).toNat 0 1) n n,_] = _;rw [qap];rfl
end
section
theorem qao {P : Program} {src dst e : Nat} {q : Prop} {s : ByteArray} {B : Names} {H : List Chunk} {F : List HP} {f : SV → M → Prop} (l : List UInt8) (hs : s = bs l)
    (hsr : P.underlying src = some .string) (hd : P.underlying dst = some (.slice e)) (he : P.underlying e = some (.int .u8))
    (h : ∀ a cap,Fc a cap l → f (.c (.rs a l.length cap)) ⟨B,H,Own a cap e 1 (u8s l) :: F⟩) : With q (RunOb P (convert src dst (SV.den B (.c (.str s)))) ⟨B,H,F⟩ f):=by
  subst hs;refine ⟨fun _=>⟨fun km w hw=>?_⟩⟩;have hr:=Lib.run_convert_string_bytes (P:=P) w src dst e (bs l) hsr hd he;have hz : (bs l).size = l.length:=qcc l
  have hcap : (bs l).size ≤ grownCap w (bs l).size 0 e:=by
    unfold grownCap;simp only [Question.cut];omega
  generalize hn : grownCap w (bs l).size 0 e = nc at hr hcap;have s4 : sat (H.map (Chunk.p B) ++ F) w:=hw;have s5:=q3d s4 (Lib.bytesWorld_at_new w e (bs l)) (fun c hc=>Lib.bytesWorld_at_old w e (bs l) c hc)
  have hcs : Lib.bytesCells w e (bs l) = (u8s l ++ List.replicate (nc - l.length) (Value.int .u8 0)).toArray:=by
    unfold Lib.bytesCells;rw [hn,hz]
    apply Array.ext'
    simp [bs,u8s,u8]
  have hsz : (Lib.bytesCells w e (bs l)).size = nc:=by
    rw [hcs];simp [u8l];omega
  refine ⟨_,_,hr,.c (.rs (some ⟨w.heap.size,0,none⟩) l.length nc),⟨B,H,Own (some ⟨w.heap.size,0,none⟩) nc e 1 (u8s l) :: F⟩,?_,trivial,km,?_,.inl rfl,h _ _ ⟨by omega,fun h=>by cases h⟩⟩
  · rw [hz];rfl
  · refine q07 List.perm_middle.symm (q0x (fun g hg=>.inr ⟨w.heap.size,List.replicate (nc - l.length) (Value.int .u8 0),(nc,nc + 1),rfl,?_,?_,fun i hi h=>by omega,?_⟩) s5)
    · rw [← hcs,← hsz];exact hg
    · simp [u8l];omega
    · intro v hv
      rcases List.mem_append.1 hv with hv | hv
      · exact q0s l v hv
      · rw [(List.mem_replicate.1 hv).2];rfl
end
section
def pgB : List UInt8:=[112,105,103,101,111,110,114,121,32]
def q01 (secret lab : List UInt8) : List UInt8:=macD secret (pgB ++ lab ++ [1])
theorem q1n (secret lab : List UInt8) : (q01 secret lab).length = 32:=q27 _ _
attribute [local irreducible] macD
theorem q3r (A : HP) (hK : Gl A) (secret : List UInt8) (hs : secret.length = 32) (lab : List UInt8) (hi : lab.length ≤ 1000) :
    Pu Tryz.prog 59 [.agg [.many 32 (u8s secret)],.c (.str (bs lab))] A (.agg [.many 32 (u8s (q01 secret lab))]):=by
  have hks:=mok hs;refine Con.of' tt_ok Tryz.func59 rfl (by decide) [.agg [.many 32 (u8s secret)],.c (.str (bs lab))] [] [] rfl rfl trivial ⟨⟨hks _,trivial⟩,trivial,trivial⟩ rfl ?_;(conv=>whnf);intro b2;(conv=>whnf);intro b4;(conv=>whnf);refine ⟨by rw [qcc];show 9 + _ ≤ _;omega,?_⟩;(conv=>whnf);refine qao (pgB ++ lab) ?_ rfl rfl rfl fun a10 c10 hc10=>?_
  · apply ByteArray.ext
    rw [ByteArray.data_append]
    simp [bs,pgB]
  have hil : (pgB ++ lab).length ≤ 100000:=by rw [List.length_append];show 9 + _ ≤ _;omega
  (conv=>whnf);refine Cq.new (qlx _ (Own a10 c10 5 1 (u8s (pgB ++ lab))) (Ent.a mm) (hK.ent (Ent.a mm)) secret hs a10 c10 (pgB ++ lab) ⟨Own.rd,hc10.1,hc10.2⟩ hil 32 (by decide)) rfl fun t ht=>?_
  have e : (expO secret (pgB ++ lab) ((32 + 31) / 32)).take 32 = q01 secret lab:=by
    show ([] ++ macD secret ([] ++ (pgB ++ lab) ++ [UInt8.ofNat (0 + 1)])).take 32 = macD secret (pgB ++ lab ++ [1]);rw [List.nil_append,List.nil_append,List.take_of_length_le (by rw [q27];decide)];rfl
  rw [e];have hdl:=q1n secret lab;generalize q01 secret lab = D at hdl ⊢;(conv=>whnf);refine ⟨by decide,PtrOb.rd (A:=OwnO t 32 5 1 (u8s D)) (by simp) OwnO.rd (by rw [u8l];omega) fun p hp=>?_⟩;subst hp;(conv=>whnf);refine lds (A:=OwnO (some (radr p)) 32 5 1 (u8s D)) 0 [.many 32 (u8s D)] rfl (by simp) OwnO.rd rfl rfl ?_ ?_ (by decide) (q04 ⟨mok hdl _,trivial⟩) ?_
  · show u8s D ++ [] = ((u8s D).drop 0).take 32;rw [List.append_nil,List.drop_zero,List.take_of_length_le (by rw [u8l];omega)]
  · show (u8s D ++ []).length = 32;rw [List.append_nil,u8l,hdl]
  (conv=>whnf);exact Ret.m () [] [2] trivial rfl ⟨mok hdl _,trivial⟩ kk ⟨rfl,rfl⟩
end
section
def zn : List UInt8:=List.replicate 12 0
def q03 (s : List UInt8) : List UInt8:=(strS (q01 s [114,104,111]) zn 0 3).take 192
theorem q1o (s : List UInt8) : (q03 s).length = 192:=by unfold q03;rw [List.length_take,q2t];rfl
def q0j (s b : List UInt8) : List UInt8:=(macD (q01 s [109,117]) b).take 16
theorem q24 (s b : List UInt8) : (q0j s b).length = 16:=by unfold q0j;rw [List.length_take,q27];rfl
def tagH (s : List UInt8) : List UInt8:=(q01 s [116,97,117]).take 16
theorem qb1 (s : List UInt8) : (tagH s).length = 16:=by unfold tagH;rw [List.length_take,q1n];rfl
def q08 (s alpha : List UInt8) : List UInt8:=macD s alpha
theorem q43 (s alpha : List UInt8) : (q08 s alpha).length = 32:=q27 _ _
attribute [local irreducible] macD q01 strS
theorem qbe (A : HP) (hK : Gl A) (s : List UInt8) (hs : s.length = 32) :
    Con Tryz.prog 77 [.agg [.many 32 (u8s s)]] [] [] A (fun t : Option Addr=>t ≠ none) (fun t=>.c (.rs t 192 192)) (fun _=>[]) (fun t=>[OwnO t 192 5 1 (u8s (q03 s))]):=by
  have hks:=mok hs;refine Con.of' tt_ok Tryz.func77 rfl (by decide) [.agg [.many 32 (u8s s)]] [] [] rfl rfl trivial ⟨⟨hks _,trivial⟩,trivial⟩ rfl ?_;(conv=>whnf);intro b1;(conv=>whnf);refine Cq.pu (q3r _ (hK.ent (Ent.a mm)) s hs [114,104,111] (by decide)) rfl ?_;(conv=>whnf);refine Cq.new (qfp _ (q01 s [114,104,111]) zn 0 192 (q1n _ _) (by decide) (by decide) (by decide)) rfl fun t ht=>?_;(conv=>whnf);exact Ret.m t [] [0,0] (fun e=>absurd (ht e) (by decide)) rfl kk kk ⟨rfl,rfl⟩
theorem tag_h (A : HP) (hK : Gl A) (s : List UInt8) (hs : s.length = 32) : Pu Tryz.prog 80 [.agg [.many 32 (u8s s)]] A (.agg [.many 16 (u8s (tagH s))]):=by
  have hks:=mok hs;refine Con.of' tt_ok Tryz.func80 rfl (by decide) [.agg [.many 32 (u8s s)]] [] [] rfl rfl trivial ⟨⟨hks _,trivial⟩,trivial⟩ rfl ?_;(conv=>whnf);intro b1;(conv=>whnf);intro b2;(conv=>whnf);refine Cq.pu (q3r _ (hK.ent (Ent.a mm)) s hs [116,97,117] (by decide)) rfl ?_;(conv=>whnf);refine Cq.pu (qhn _ (q01 s [116,97,117]) (q1n _ _)) rfl ?_;(conv=>whnf);exact Ret.m () [] [0] trivial rfl ⟨mok (qb1 s) _,trivial⟩ kk ⟨rfl,rfl⟩
theorem qbw (A R : HP) (hE : Ent A R) (hK : Gl A) (s : List UInt8) (hs : s.length = 32) (a : Option Addr) (cap : Nat) (b : List UInt8) (hb : Bts R a cap b) (hn : b.length ≤ 1000000000) :
    Pu Tryz.prog 65 [.agg [.many 32 (u8s s)],.c (.rs a b.length cap)] A (.agg [.many 16 (u8s (q0j s b))]):=by
  have hks:=mok hs;refine Con.of' tt_ok Tryz.func65 rfl (by decide) [.agg [.many 32 (u8s s)],.c (.rs a b.length cap)] [] [] rfl rfl trivial ⟨⟨hks _,trivial⟩,trivial,trivial⟩ rfl ?_;(conv=>whnf);intro b2;(conv=>whnf);intro b4;(conv=>whnf);refine Cq.pu (q3r _ (hK.ent (Ent.a mm)) s hs [109,117] (by decide)) rfl ?_;have hdl:=q1n s [109,117];have hpl:=q24 s b;unfold q0j at hpl ⊢;generalize q01 s [109,117] = D at hdl hpl ⊢;(conv=>whnf);intro b5;conv=>whnf
  refine Cq.pu (mac_c _ _ (Ent.refl _) (hK.ent (Ent.a mm)) (some (radr (b5,0))) 32 D ⟨Rd.all (A:=blk b5 (.cells (u8s D ++ []).toArray 23)) mm q1p,by omega,fun h=>by cases h⟩ (by omega) a cap b ⟨hb.1.ent ((Ent.a mm).trans hE),hb.2⟩ hn) (by rw [hdl];rfl) ?_;(conv=>whnf);refine Cq.pu (qhn _ (macD D b) (q27 _ _)) rfl ?_;(conv=>whnf);exact Ret.m () [] [0] trivial rfl ⟨mok hpl _,trivial⟩ kk ⟨rfl,rfl⟩
theorem q6v (A : HP) (hK : Gl A) (s al : List UInt8) (hs : s.length = 32) (ha : al.length = 32) : Pu Tryz.prog 79 [.agg [.many 32 (u8s s)],.agg [.many 32 (u8s al)]] A (.agg [.many 32 (u8s (q08 s al))]):=by
  have hks:=mok hs;refine Con.of' tt_ok Tryz.func79 rfl (by decide) [.agg [.many 32 (u8s s)],.agg [.many 32 (u8s al)]] [] [] rfl rfl trivial ⟨⟨hks _,trivial⟩,⟨mok ha _,trivial⟩,trivial⟩ rfl ?_;(conv=>whnf);intro b2;(conv=>whnf);intro b3;(conv=>whnf);intro b4;(conv=>whnf);refine Draw.a (by kernel_rfl) tt_ok (Tv.of (List.range 4) .nil) 3 (by kernel_rfl) ?_;conv=>whnf
  refine Cq.pu (mac_c _ _ (Ent.refl _) (hK.ent (Ent.a mm)) (some (radr (b2,0))) 32 s ⟨Rd.all (A:=blk b2 (.cells (u8s s ++ []).toArray 127)) mm q1p,by omega,fun h=>by cases h⟩ (by omega) (some (radr (b3,0))) 32 al ⟨Rd.all (A:=blk b3 (.cells (u8s al ++ []).toArray 23)) mm q1p,by omega,fun h=>by cases h⟩ (by omega)) (by rw [hs,ha];rfl) ?_;(conv=>whnf);refine Sub.whole ?_;(conv=>whnf);exact Ret.m () [] [0] trivial rfl ⟨mok (q43 _ _) _,trivial⟩ kk ⟨rfl,rfl⟩
end
section
def xorB (l y : List UInt8) : List UInt8:=List.zipWith (· ^^^ ·) l y
theorem q16 {l y : List UInt8} (h : l.length ≤ y.length) : (xorB l y).length = l.length:=by simp [xorB];omega
def xorI (l y : List UInt8) (i : Nat) : List UInt8:=(xorB l y).take i ++ l.drop i
theorem q6e {l y : List UInt8} (h : l.length ≤ y.length) (i : Nat) : (xorI l y i).length = l.length:=by
  have:=q16 h
  simp [xorI];omega
theorem q7u {l y : List UInt8} (h : l.length ≤ y.length) {i : Nat} (hi : i < l.length) : gd (xorI l y i) i = gd l i:=by
  have:=q16 h;rw [gd_eq (by rw [q6e h];exact hi),gd_eq hi];unfold xorI;rw [List.getElem_append_right (by rw [List.length_take];omega)];simp only [List.getElem_drop];congr 2;rw [List.length_take];omega
theorem q82 {l y : List UInt8} (h : l.length ≤ y.length) {i : Nat} (hi : i < l.length) : (xorI l y i).set i (l[i] ^^^ y[i]'(by omega)) = xorI l y (i + 1):=by
  have hx:=q16 h;unfold xorI;have e1 : ((xorB l y).take i).length = i:=by rw [List.length_take];omega
  rw [List.set_append_right _ _ (by omega),e1,Nat.sub_self,List.drop_eq_getElem_cons hi,List.set_cons_zero,List.take_succ_eq_append_getElem (by omega),List.append_assoc];congr 1
  simp [xorB]
theorem q45 {l : List UInt8} {i : Nat} (h : i < l.length) : (gd l i : Int) = (l[i].toNat : Int):=by rw [gd_eq h]
theorem mix_c (A R : HP) (hE : Ent A R) (a : Option Addr) (cap : Nat) (l : List UInt8) (hc : Fc a cap l) (a' : Option Addr) (cap' : Nat) (y : List UInt8) (hy : Rd R a' (u8s y)) (h : l.length ≤ y.length) (hn : l.length ≤ 1000000000) :
    Con Tryz.prog 76 [.c (.rs a l.length cap),.c (.rs a' y.length cap')] [] [Own a cap 5 1 (u8s l)] A (fun _ : Unit=>True) (fun _=>.tup []) (fun _=>[]) (fun _=>[Own a cap 5 1 (u8s (xorB l y))]):=by
  have hy:=hy.ent hE;have hz : xorI l y 0 = l:=by simp [xorI]
  have hxl:=q6e h;refine Con.of' tt_ok Tryz.func76 rfl (by decide) [.c (.rs a l.length cap),.c (.rs a' y.length cap')] [] [] rfl rfl trivial kk rfl ?_;conv=>whnf
  refine LoopOb.m (σ:=Nat) (fun i=>[(0,.c (.rs a l.length cap)),(1,.c (.rs a' y.length cap')),(6,.c (.int .i64 l.length)),(7,.c (.int .i64 i))])
    (fun i=>⟨[],[],[Own a cap 5 1 (u8s (xorI l y i)),A]⟩) (fun i=>i ≤ l.length) (fun i=>l.length - i) 0 (Nat.zero_le _)
    (Wk.m [] [0,0] kk trivial ⟨rfl,by rw [hz]⟩) ?_
  intro i hi;(conv=>whnf);refine Cond.d (fun h2=>?_) (fun h2=>?_)
  · have hi' : i < l.length:=by omega
    have hr : Rd (Own a cap 5 1 (u8s (xorI l y i))) a (u8s (xorI l y i)):=Own.rd;(conv=>whnf);refine Draw.a (by kernel_rfl) tt_ok (Tv.of (List.range 11) .nil) 10 (by kernel_rfl) ?_;(conv=>whnf);refine ⟨by omega,PtrOb.rd (A:=Own a cap 5 1 (u8s (xorI l y i))) (by simp) hr (by rw [u8l,hxl];omega) fun p hp=>?_⟩;subst hp;(conv=>whnf);refine ldb (A:=Own (some (radr p)) cap 5 1 (u8s (xorI l y i))) i (by simp) hr (by rw [hxl];omega) rfl rfl (by show _ + (i : Int).toNat * 1 = _;omega) ?_;rw [q7u h hi'];conv=>whnf
    refine ⟨by omega,PtrOb.rd (A:=A) (by simp) hy (by rw [u8l];omega) fun q hq=>?_⟩;subst hq;(conv=>whnf);refine ldb (A:=A) i (by simp) hy (by omega) rfl rfl (by show _ + (i : Int).toNat * 1 = _;omega) ?_;(conv=>whnf);rw [q45 hi',q45 (l:=y) (by omega)];refine ⟨by omega,PtrOb.at ?_⟩;(conv=>whnf);refine qhq i (l[i] ^^^ y[i]'(by omega)) (.refl _) rfl rfl (by show _ + (i : Int).toNat * 1 = _;omega) (xorb _ _) (by rw [hxl];omega) ?_;rw [q82 h hi'];(conv=>whnf);refine Ar.i64 (by omega) ?_;conv=>whnf
    exact ⟨i + 1,by omega,by omega,Wk.m [] [0,0] kk trivial ⟨rfl,rfl⟩⟩
  obtain rfl : i = l.length:=by omega
  have e : xorI l y l.length = xorB l y:=by
    have:=q16 h;unfold xorI;rw [List.drop_length,List.append_nil,List.take_of_length_le (by omega)]
  rw [e];(conv=>whnf);exact Ret.m () [] [0,0] trivial rfl kk trivial ⟨rfl,rfl⟩
end
section
theorem q4i (z : Value) (n : Nat) : (Builtin.zeroCells #[z] n).toList = List.replicate n z:=by
  unfold Builtin.zeroCells
  apply List.ext_getElem
  · simp
  intro i h1 h2;simp only [Array.toList_map,List.getElem_map,List.getElem_replicate]
  have : ∀ j : Nat,(#[z] : Array Value)[j % (#[z] : Array Value).size]! = z:=fun j=>by
    show (#[z] : Array Value)[j % 1]! = z;rw [Nat.mod_one];rfl
  exact this _
theorem q3m {P : Program} {t e ty n cap k : Nat} {x y : TyX} {a : Option Addr} {xs : List Value} {z0 : Value} {B : Names} {H : List Chunk} {F F' : List HP} {sv : SV} {f : SV → M → Prop}
    (hF : F.Perm (Own a cap e 1 xs :: F')) (hxs : xs.length = n) (hsv : sv.den B = .int .i64 k) (hy : y.size = 1 ∧ 0 < y.bytes ∧ y.bytes ≤ 1000) (hz0 : dens [] y.zero = [z0])
    (hbig : n + k ≤ 10000000000) (ts : Nat) (hts : P.underlying ts = some (.int .i64))
    (h : ∀ a' cap',n + k ≤ cap' → (a' = none → n + k = 0) → f (.c (.rs a' (n + k) cap')) ⟨B,H,Own a' cap' e 1 (xs ++ List.replicate k z0) :: F'⟩) :
    With (Ty P t x ∧ x.k = .slice e ∧ Ty P e y) (RunOb P (Builtin.append_ #[t,ts] ty ([SV.c (.rs a n cap),sv].map (SV.den B)).toArray) ⟨B,H,F⟩ f):=by
  obtain ⟨hysz,hb,hb'⟩:=hy;refine ⟨fun ⟨T,hk,E⟩=>⟨fun km w hs=>?_⟩⟩;have hu:=q21 T hk;obtain ⟨ie,_,_,hie,_,_,hes,heb,hez,hec⟩:=E.h
  rename_i z _ _
  have hzc : z.cells = #[z0]:=by
    apply Array.ext'
    rw [hec,hz0]
  have hz1 : z0.oneCell' = true:=by
    have:=q0q E.z z0 (by rw [hz0];simp);exact this
  have hs2 : sat (Own a cap e 1 xs :: (H.map (Chunk.p B) ++ F')) w:=q07 ((List.Perm.append_left _ hF).trans List.perm_middle) hs
  have old : ∀ w',w'.heap = w.heap → (Builtin.firstCells 1 n (.slice a n cap)).run P w' = .ok xs.toArray w':=by
    intro w' he;have : Src ⟨B,H,F⟩ (.c (.rs a n cap)) n xs:=Src.rs (A:=Own a cap e 1 xs) (hF.mem_iff.2 (by simp)) Own.rd;exact (this.run (P:=P) km hs he (by omega)).2
  have eargs : ([SV.c (.rs a n cap),sv].map (SV.den B)).toArray = #[.slice a n cap,sv.den B]:=rfl;show ∃ v w',(Builtin.append_ #[t,ts] ty ([SV.c (.rs a n cap),sv].map (SV.den B)).toArray).run P w = .ok v w' ∧ _;rw [eargs,hsv]
  have fin : ∀ (v : Value) (w' : World) (a' : Option Addr) (cap' : Nat),v = .slice a' (n + k) cap' → n + k ≤ cap' → (a' = none → n + k = 0) → sat (Own a' cap' e 1 (xs ++ List.replicate k z0) :: (H.map (Chunk.p B) ++ F')) w' →
      (Builtin.append_ #[t,ts] ty #[.slice a n cap,.int .i64 k]).run P w = .ok v w' →
      ∃ v w',(Builtin.append_ #[t,ts] ty #[.slice a n cap,.int .i64 k]).run P w = .ok v w' ∧ ∃ x m',v = SV.den m'.B x ∧ x.ok m'.B ∧ m'.ok ∧ sat m'.props w' ∧
        (m'.B = B ∨ ∃ d b,fresh B d True ∧ m'.B = (d,b) :: B) ∧ f x m':=by
    intro v w' a' cap' hv hc1 hc2 hs' hr;refine ⟨v,w',hr,.c (.rs a' (n + k) cap'),⟨B,H,Own a' cap' e 1 (xs ++ List.replicate k z0) :: F'⟩,hv,trivial,km,?_,.inl rfl,h a' cap' hc1 hc2⟩;exact q07 List.perm_middle.symm hs'
  have hsz : ∀ w',(sizeOf e).run P w' = .ok 1 w':=fun w'=>by rw [← hysz];exact E.run_sizeOf w'
  have hty : ∀ w',(typeInfo e).run P w' = .ok ie w':=fun w'=>by simp [typeInfo,hie]
  have hzero : ∀ w',(zeroValue e).run P w' = .ok z w':=fun w'=>by simp [zeroValue,typeInfo,hie,hez]
  have hund : ∀ w',(underlying t).run P w' = .ok (.slice e) w':=fun w'=>run_underlying hu w';have hundts : ∀ w',(underlying ts).run P w' = .ok (.int .i64) w':=fun w'=>run_underlying hts w';have hwrap : IntKind.i64.wrap (k : Int) = k:=IntWalk.i64_in _ (by omega);have hl0 : ¬ ((k : Int) < 0):=by omega
  have hkb : k * y.bytes ≤ k * 1000:=Nat.mul_le_mul_left _ hb'
  have hl1 : ¬ (281474976710656 < (k : Int) * (y.bytes : Int)):=by
    have : (k : Int) * (y.bytes : Int) = ((k * y.bytes : Nat) : Int):=by simp
    omega
  have hzl : (Builtin.zeroCells z.cells k).toList = List.replicate k z0:=by rw [hzc];exact q4i z0 k
  have hza : Builtin.zeroCells z.cells k = (List.replicate k z0).toArray:=by rw [← hzl]
  by_cases hroom : n + k ≤ cap
  · rcases q4d hs2 with ⟨rfl,rfl,rfl⟩ | ⟨b,junk,fz,rfl,hb2,hl,hf,hone,hs3⟩
    · have hn0 : n = 0:=by omega
      have hk0 : k = 0:=by omega
      subst hn0 hk0;refine fin (.slice none 0 0) w none 0 rfl (Nat.le_refl _) (fun _=>rfl) hs2 ?_;have hw0 : IntKind.i64.wrap 0 = 0:=IntWalk.i64_in _ (by omega)
      simp [Builtin.append_,hund,hsz,hundts,hw0,hty,heb,asInt,asIntOf]
    · have hst:=q0w (P:=P) hf (List.replicate k z0) n 0 (xs ++ junk) w hb2 (by simpa using hl) (by rw [List.length_replicate];omega) (fun v hv=>by rw [(List.mem_replicate.1 hv).2];exact hz1);have e1 : (xs ++ junk).take (n + 0) = xs:=by rw [Nat.add_zero,← hxs,List.take_left]
      have e2 : (xs ++ junk).drop (n + 0 + (List.replicate k z0).length) = junk.drop k:=by rw [Nat.add_zero,List.length_replicate,← hxs,← List.drop_drop,List.drop_left]
      rw [e1,e2] at hst;have hw:=q2y (cs':=(xs ++ (List.replicate k z0 ++ junk.drop k)).toArray) hb2;refine fin (.slice (some ⟨b,0,none⟩) (n + k) cap) _ (some ⟨b,0,none⟩) cap rfl hroom (fun h=>by cases h) (q0x (fun g hg=>.inr ⟨b,junk.drop k,fz,rfl,by rw [List.append_assoc];exact hg,?_,hf,?_⟩) (q36 hs3 hw.1 hw.2)) ?_
      · simp;omega
      · intro v hv;simp only [List.mem_append] at hv hone
        rcases hv with (hv | hv) | hv
        · exact hone v (.inl hv)
        · rw [(List.mem_replicate.1 hv).2];exact hz1
        · exact hone v (.inr (List.mem_of_mem_drop hv))
      · by_cases hk0 : k = 0
        · subst hk0;have hw0 : IntKind.i64.wrap 0 = 0:=IntWalk.i64_in _ (by omega);have hn2 : n ≤ cap:=by omega
          simp only [List.replicate_zero] at hst
          simp [Builtin.append_,hund,hsz,hundts,hw0,hty,heb,asInt,asIntOf,hn2,q0l,hst]
        · simp [Builtin.append_,hund,hsz,hundts,hwrap,hty,heb,asInt,asIntOf,hroom,q0l,hl0,hl1,hk0,hzero,hza,hst]
  · have hbig2 : (n + k + (n + k) / 4 + 192) * y.bytes ≤ 281474976710656:=by
      have : (n + k + (n + k) / 4 + 192) * y.bytes ≤ (n + k + (n + k) / 4 + 192) * 1000:=Nat.mul_le_mul_left _ hb';omega
    have hgrow:=growslice_fits_wide (need:=n + k) (old:=cap) (bytes:=y.bytes) (by omega) hbig2;have hq : (Question.appendCap (n + k) cap e).forced = false:=rfl
    let nc:=(Question.appendCap (n + k) cap e).cut (w.tape w.drawn (.appendCap (n + k) cap e))
    have hnc : n + k ≤ nc:=by simp only [nc,Question.cut];omega
    have hzn : ∀ m,Builtin.zeroCells z.cells m = (List.replicate m z0).toArray:=fun m=>by
      apply Array.ext'
      rw [hzc,q4i]
    refine fin (.slice (some ⟨w.heap.size,0,none⟩) (n + k) nc) (w.drew.alloc (.cells (xs ++ List.replicate k z0 ++ List.replicate (nc - (n + k)) z0).toArray e)) (some ⟨w.heap.size,0,none⟩) nc rfl hnc (fun h=>by cases h) ?_ ?_
    · have s4 : sat (H.map (Chunk.p B) ++ F') w.drew:=q3u (qc6 hs2) rfl
      have s5:=q3d (o:=.cells (xs ++ List.replicate k z0 ++ List.replicate (nc - (n + k)) z0).toArray e) (w':=w.drew.alloc (.cells (xs ++ List.replicate k z0 ++ List.replicate (nc - (n + k)) z0).toArray e)) s4
        qfk (fun c hc=>qgc hc)
      refine q0x (fun g hg=>.inr ⟨w.heap.size,List.replicate (nc - (n + k)) z0,(0,0),rfl,hg,?_,fun i _ h=>by omega,?_⟩) s5
      · simp;omega
      · intro v hv;simp only [List.mem_append] at hv
        rcases hv with (hv | hv) | hv
        · rcases q4d hs2 with ⟨_,_,rfl⟩ | ⟨b,junk,fz,_,_,_,_,hone,_⟩
          · simp at hv
          · exact hone v (by simp [hv])
        · rw [(List.mem_replicate.1 hv).2];exact hz1
        · rw [(List.mem_replicate.1 hv).2];exact hz1
    · have hold:=old w.drew rfl;have hb0 : ¬ y.bytes = 0:=by omega
      have hm : ¬ (9223372036854775807 < (n : Int) + (k : Int)):=by omega
      have hc2 : ¬ 281474976710656 < Builtin.nextslicecap (n + k) cap * y.bytes:=by omega
      by_cases hk0 : k = 0
      · subst hk0;have hw0 : IntKind.i64.wrap 0 = 0:=IntWalk.i64_in _ (by omega);have hn2 : ¬ n ≤ cap:=by omega
        have hm0 : ¬ (9223372036854775807 < (n : Int)):=by omega
        have hc0 : ¬ 281474976710656 < Builtin.nextslicecap n cap * y.bytes:=by simpa using hc2
        have hq0 : (Question.appendCap n cap e).forced = false:=rfl
        simp [Builtin.append_,hund,hsz,hundts,hw0,hty,heb,asInt,asIntOf,hn2,q0l,hzero,hzn,hm0,hc0,hold,newRow,nc,hq0]
        congr 2
        apply Array.ext';simp
      · simp [Builtin.append_,hund,hsz,hundts,hwrap,hty,heb,asInt,asIntOf,hroom,q0l,hl0,hl1,hk0,hzero,hzn,hm,hc2,hold,newRow,nc,hq]
        congr 2
        apply Array.ext';simp
theorem q2q {P : Program} {t e ty n cap k : Nat} {x y : TyX} {a : Option Addr} {xs ys : List Value} {B : Names} {H : List Chunk} {F : List HP} {s0 sv : SV} {f : SV → M → Prop}
    (h0 : s0.den B = .slice a n cap) (hold0 : Src ⟨B,H,F⟩ s0 n xs) (hfull : cap < n + k) (hxs : xs.length = n) (hx1 : ∀ v ∈ xs,v.oneCell' = true)
    (hys : ys.length = k) (hsrc : Src ⟨B,H,F⟩ sv k ys) (h1 : ∀ v ∈ ys,v.oneCell' = true) (hy : y.size = 1 ∧ 0 < y.bytes ∧ y.bytes ≤ 1000) (hbig : n + k ≤ 10000000000) (ts : Nat) (hts : P.underlying ts = some .string ∨ ts = t)
    (h : ∀ a' cap',n + k ≤ cap' → a' ≠ none → f (.c (.rs a' (n + k) cap')) ⟨B,H,Own a' cap' e 1 (xs ++ ys) :: F⟩) :
    With (Ty P t x ∧ x.k = .slice e ∧ Ty P e y) (RunOb P (Builtin.append_ #[t,ts] ty ([s0,sv].map (SV.den B)).toArray) ⟨B,H,F⟩ f):=by
  obtain ⟨hysz,hb,hb'⟩:=hy;refine ⟨fun ⟨T,hk,E⟩=>⟨fun km w hs=>?_⟩⟩;have hu:=q21 T hk;obtain ⟨ie,_,_,hie,_,_,hes,heb,hez,hec⟩:=E.h
  rename_i z _ _
  have hzs : z.cells.size = 1:=by rw [← Array.length_toList,hec,q0y E.z,E.l,hysz]
  have hzc1 : ∀ v ∈ z.cells.toList,v.oneCell' = true:=by rw [hec];exact q0q E.z
  have old : ∀ w',w'.heap = w.heap → (Builtin.firstCells 1 n (.slice a n cap)).run P w' = .ok xs.toArray w':=by
    intro w' he;have:=(hold0.run (P:=P) (size:=1) km hs he (by omega)).2;rw [← h0];exact this
  have src1:=hsrc.run (P:=P) (size:=1) km hs rfl (by omega);have src2:=hsrc.run (P:=P) (size:=1) (w':=w.drew) km hs rfl (by omega);have eargs : ([s0,sv].map (SV.den B)).toArray = #[s0.den B,sv.den B]:=rfl;show ∃ v w',(Builtin.append_ #[t,ts] ty ([s0,sv].map (SV.den B)).toArray).run P w = .ok v w' ∧ _;rw [eargs,h0];have src1 : (Builtin.lenOf (sv.den B)).run P w = .ok k w ∧ (Builtin.firstCells 1 k (sv.den B)).run P w = .ok ys.toArray w:=src1
  have src2 : (Builtin.lenOf (sv.den B)).run P w.drew = .ok k w.drew ∧ (Builtin.firstCells 1 k (sv.den B)).run P w.drew = .ok ys.toArray w.drew:=src2;generalize sv.den B = sv at src1 src2 ⊢;have hsz : ∀ w',(sizeOf e).run P w' = .ok 1 w':=fun w'=>by rw [← hysz];exact E.run_sizeOf w'
  have hty : ∀ w',(typeInfo e).run P w' = .ok ie w':=fun w'=>by simp [typeInfo,hie]
  have hzero : ∀ w',(zeroValue e).run P w' = .ok z w':=fun w'=>by simp [zeroValue,typeInfo,hie,hez]
  have hund : ∀ w',(underlying t).run P w' = .ok (.slice e) w':=fun w'=>run_underlying hu w';have hroom : ¬ n + k ≤ cap:=by omega
  have hbig2 : (n + k + (n + k) / 4 + 192) * y.bytes ≤ 281474976710656:=by
    have : (n + k + (n + k) / 4 + 192) * y.bytes ≤ (n + k + (n + k) / 4 + 192) * 1000:=Nat.mul_le_mul_left _ hb';omega
  have hgrow:=growslice_fits_wide (need:=n + k) (old:=cap) (bytes:=y.bytes) (by omega) hbig2;have hq : (Question.appendCap (n + k) cap e).forced = false:=rfl
  let nc:=(Question.appendCap (n + k) cap e).cut (w.tape w.drawn (.appendCap (n + k) cap e))
  have hnc : n + k ≤ nc:=by simp only [nc,Question.cut];omega
  have s4 : sat (H.map (Chunk.p B) ++ F) w.drew:=q3u hs rfl;have hold:=old w.drew rfl;have hb0 : ¬ y.bytes = 0:=by omega
  have hc2 : ¬ 281474976710656 < Builtin.nextslicecap (n + k) cap * y.bytes:=by omega
  obtain ⟨junk,hj,hjl,hj1⟩ : ∃ junk : List Value,(Builtin.zeroCells z.cells (nc - (n + k))).toList = junk ∧ junk.length = nc - (n + k) ∧ ∀ v ∈ junk,v.oneCell' = true :=
    ⟨_,rfl,by rw [Array.length_toList,q2u,hzs,Nat.mul_one],q37 hzc1 _⟩
  have hja : Builtin.zeroCells z.cells (nc - (n + k)) = junk.toArray:=by rw [← hj]
  refine ⟨.slice (some ⟨w.heap.size,0,none⟩) (n + k) nc,w.drew.alloc (.cells (xs ++ ys ++ junk).toArray e),?_,.c (.rs (some ⟨w.heap.size,0,none⟩) (n + k) nc),⟨B,H,Own (some ⟨w.heap.size,0,none⟩) nc e 1 (xs ++ ys) :: F⟩,rfl,trivial,km,?_,.inl rfl,h _ _ hnc (fun h=>by cases h)⟩
  · have hundts : (∀ w',(underlying ts).run P w' = .ok .string w') ∨ ∀ w',(underlying ts).run P w' = .ok (.slice e) w':=by
      rcases hts with h | rfl
      · exact .inl fun w'=>run_underlying h w'
      · exact .inr hund
    have hc1 : ¬ (9223372036854775807 < (n : Int) + (k : Int) ∧ y.bytes = 0):=by omega
    rcases hundts with hz | hz <;> simp [Builtin.append_,hund,hsz,hz,src1.1,hroom,hty,heb] <;> rw [if_neg hc1,if_neg hc2] <;>
      simp [hq,hold,src2.2,hzero,newRow] <;> refine ⟨rfl,?_⟩ <;> (show w.drew.alloc (Obj.cells (xs.toArray ++ (ys.toArray ++ Builtin.zeroCells z.cells (nc - (n + k)))) e) = _) <;> rw [hja] <;> congr 2 <;> apply Array.ext' <;> simp
  · have s5:=q3d (o:=.cells (xs ++ ys ++ junk).toArray e) (w':=w.drew.alloc (.cells (xs ++ ys ++ junk).toArray e)) s4 qfk (fun c hc=>qgc hc);refine q07 List.perm_middle.symm (q0x (fun g hg=>.inr ⟨w.heap.size,junk,(0,0),rfl,hg,?_,fun i _ h=>by omega,?_⟩) s5)
    · simp;omega
    · intro v hv;simp only [List.mem_append] at hv
      rcases hv with (hv | hv) | hv
      · exact hx1 v hv
      · exact h1 v hv
      · exact hj1 v hv
theorem q6y {P : Program} {t e ty n cap k : Nat} {x y : TyX} {a : Option Addr} {xs : List Value} {z0 : Value} {B : Names} {H : List Chunk} {F : List HP} {s0 sv : SV} {f : SV → M → Prop}
    (h0 : s0.den B = .slice a n cap) (hold0 : Src ⟨B,H,F⟩ s0 n xs) (hfull : cap < n + k) (hkpos : k ≠ 0) (hxs : xs.length = n) (hx1 : ∀ v ∈ xs,v.oneCell' = true)
    (hsv : sv.den B = .int .i64 k) (hy : y.size = 1 ∧ 0 < y.bytes ∧ y.bytes ≤ 1000) (hz0 : dens [] y.zero = [z0]) (hbig : n + k ≤ 10000000000) (ts : Nat) (hts : P.underlying ts = some (.int .i64))
    (h : ∀ a' cap',n + k ≤ cap' → a' ≠ none → f (.c (.rs a' (n + k) cap')) ⟨B,H,Own a' cap' e 1 (xs ++ List.replicate k z0) :: F⟩) :
    With (Ty P t x ∧ x.k = .slice e ∧ Ty P e y) (RunOb P (Builtin.append_ #[t,ts] ty ([s0,sv].map (SV.den B)).toArray) ⟨B,H,F⟩ f):=by
  obtain ⟨hysz,hb,hb'⟩:=hy;refine ⟨fun ⟨T,hk,E⟩=>⟨fun km w hs=>?_⟩⟩;have hu:=q21 T hk;obtain ⟨ie,_,_,hie,_,_,hes,heb,hez,hec⟩:=E.h
  rename_i z _ _
  have hzs : z.cells.size = 1:=by rw [← Array.length_toList,hec,q0y E.z,E.l,hysz]
  have hzc1 : ∀ v ∈ z.cells.toList,v.oneCell' = true:=by rw [hec];exact q0q E.z
  have old : ∀ w',w'.heap = w.heap → (Builtin.firstCells 1 n (.slice a n cap)).run P w' = .ok xs.toArray w':=by
    intro w' he;have:=(hold0.run (P:=P) (size:=1) km hs he (by omega)).2;rw [← h0];exact this
  have hzc : z.cells = #[z0]:=by
    apply Array.ext'
    rw [hec,hz0]
  have hz1 : z0.oneCell' = true:=hzc1 z0 (by rw [hzc];simp);have eargs : ([s0,sv].map (SV.den B)).toArray = #[s0.den B,sv.den B]:=rfl;show ∃ v w',(Builtin.append_ #[t,ts] ty ([s0,sv].map (SV.den B)).toArray).run P w = .ok v w' ∧ _;rw [eargs,h0,hsv];have hsz : ∀ w',(sizeOf e).run P w' = .ok 1 w':=fun w'=>by rw [← hysz];exact E.run_sizeOf w'
  have hty : ∀ w',(typeInfo e).run P w' = .ok ie w':=fun w'=>by simp [typeInfo,hie]
  have hzero : ∀ w',(zeroValue e).run P w' = .ok z w':=fun w'=>by simp [zeroValue,typeInfo,hie,hez]
  have hund : ∀ w',(underlying t).run P w' = .ok (.slice e) w':=fun w'=>run_underlying hu w';have hroom : ¬ n + k ≤ cap:=by omega
  have hbig2 : (n + k + (n + k) / 4 + 192) * y.bytes ≤ 281474976710656:=by
    have : (n + k + (n + k) / 4 + 192) * y.bytes ≤ (n + k + (n + k) / 4 + 192) * 1000:=Nat.mul_le_mul_left _ hb';omega
  have hgrow:=growslice_fits_wide (need:=n + k) (old:=cap) (bytes:=y.bytes) (by omega) hbig2;have hq : (Question.appendCap (n + k) cap e).forced = false:=rfl
  let nc:=(Question.appendCap (n + k) cap e).cut (w.tape w.drawn (.appendCap (n + k) cap e))
  have hnc : n + k ≤ nc:=by simp only [nc,Question.cut];omega
  have s4 : sat (H.map (Chunk.p B) ++ F) w.drew:=q3u hs rfl;have hold:=old w.drew rfl;have hb0 : ¬ y.bytes = 0:=by omega
  have hc2 : ¬ 281474976710656 < Builtin.nextslicecap (n + k) cap * y.bytes:=by omega
  obtain ⟨junk,hj,hjl,hj1⟩ : ∃ junk : List Value,(Builtin.zeroCells z.cells (nc - (n + k))).toList = junk ∧ junk.length = nc - (n + k) ∧ ∀ v ∈ junk,v.oneCell' = true :=
    ⟨_,rfl,by rw [Array.length_toList,q2u,hzs,Nat.mul_one],q37 hzc1 _⟩
  have hja : Builtin.zeroCells z.cells (nc - (n + k)) = junk.toArray:=by rw [← hj]
  refine ⟨.slice (some ⟨w.heap.size,0,none⟩) (n + k) nc,w.drew.alloc (.cells (xs ++ List.replicate k z0 ++ junk).toArray e),?_,.c (.rs (some ⟨w.heap.size,0,none⟩) (n + k) nc),⟨B,H,Own (some ⟨w.heap.size,0,none⟩) nc e 1 (xs ++ List.replicate k z0) :: F⟩,rfl,trivial,km,?_,.inl rfl,h _ _ hnc (fun h=>by cases h)⟩
  · have hwrap : IntKind.i64.wrap (k : Int) = k:=IntWalk.i64_in _ (by omega);have hl0 : ¬ ((k : Int) < 0):=by omega
    have hkb : k * y.bytes ≤ k * 1000:=Nat.mul_le_mul_left _ hb'
    have hl1 : ¬ (281474976710656 < (k : Int) * (y.bytes : Int)):=by
      have : (k : Int) * (y.bytes : Int) = ((k * y.bytes : Nat) : Int):=by simp
      omega
    have hundts : ∀ w',(underlying ts).run P w' = .ok (.int .i64) w':=fun w'=>run_underlying hts w'
    have hza : Builtin.zeroCells z.cells k = (List.replicate k z0).toArray:=by
      apply Array.ext'
      rw [hzc,q4i]
    have hm : ¬ (9223372036854775807 < (n : Int) + (k : Int)):=by omega
    have hk0 : ¬ k = 0:=hkpos
    simp [Builtin.append_,hund,hsz,hundts,hwrap,hty,heb,asInt,asIntOf,hroom,q0l,hl0,hl1,hk0,hzero,hza,hja,hm,hc2,hold,newRow,hq]
    refine ⟨rfl,?_⟩;show w.drew.alloc (Obj.cells (xs.toArray ++ (Array.replicate k z0 ++ Builtin.zeroCells z.cells (nc - (n + k)))) e) = _;rw [hja];congr 2
    apply Array.ext';simp
  · have s5:=q3d (o:=.cells (xs ++ List.replicate k z0 ++ junk).toArray e) (w':=w.drew.alloc (.cells (xs ++ List.replicate k z0 ++ junk).toArray e)) s4 qfk (fun c hc=>qgc hc);refine q07 List.perm_middle.symm (q0x (fun g hg=>.inr ⟨w.heap.size,junk,(0,0),rfl,hg,?_,fun i _ h=>by omega,?_⟩) s5)
    · simp;omega
    · intro v hv;simp only [List.mem_append] at hv
      rcases hv with (hv | hv) | hv
      · exact hx1 v hv
      · rw [(List.mem_replicate.1 hv).2];exact hz1
      · exact hj1 v hv
end
end Go.Proofs.YtfehjfoajlfhfaaGreatDoor
