import Derived.Test.YtfehjfoajlfhfaaGreatDoorQh
import Derived.Test.YtfehjfoajlfhfaaGreatDoorQp
namespace Go.Proofs.YtfehjfoajlfhfaaGreatDoor
open Go.Sx
set_option linter.unusedSimpArgs false
set_option linter.unusedVariables false
set_option maxRecDepth 100000
set_option pp.deepTerms false
set_option pp.maxSteps 300
section
theorem qnx {P : Program} {t : Nat} {x : TyX} {b off j cap e size : Nat} {p : Nat × Nat} {xs ys : List Value} {v : SV} {B : Names} {H : List Chunk} {F F' : List HP} {f : M → Prop}
    (hF : F.Perm (OwnO (some (radr p)) cap e size xs :: F')) (hb : b = p.1) (ho : off = p.2 + j) (hv : (v.den B).cells.toList = ys) (hl : ys.length = x.size) (h1 : ∀ u ∈ ys,u.oneCell' = true) (hfit : j + x.size ≤ xs.length)
    (h : f ⟨B,H,OwnO (some (radr p)) cap e size (xs.take j ++ (ys ++ xs.drop (j + x.size))) :: F'⟩) :
    With (Ty P t x) (RunOb P (do storeVar t ⟨b,off,none⟩ (v.den B);pure undef) ⟨B,H,F⟩ fun _ m'=>f m'):=by
  refine ⟨fun T=>⟨fun km w hs=>?_⟩⟩;have hs2 : sat (OwnO (some (radr p)) cap e size xs :: (H.map (Chunk.p B) ++ F')) w:=q07 ((List.Perm.append_left _ hF).trans List.perm_middle) hs
  rcases qkk hs2 with ⟨h0,_,_⟩ | ⟨b0,pre,junk,post,fz,ha,hb0,hlen,hf,hone,hs3⟩
  · cases h0
  · have e0 : p = (b0,pre.length):=by
      have : radr p = ⟨b0,pre.length,none⟩:=Option.some.inj ha;cases p;simp only [radr,Addr.mk.injEq,and_true] at this;simp [this.1,this.2]
    subst e0;have hb' : b = b0:=hb;have ho' : off = pre.length + j:=ho;rw [hb',ho'];have hsz : (v.den B).cells.size = x.size:=by rw [← Array.length_toList,hv,hl]
    have hst:=q0w (P:=P) hf ys (pre.length + j) 0 (pre ++ (xs ++ (junk ++ post))) w hb0 rfl (by simp only [List.length_append];omega) h1
    have hrun : (storeVar t ⟨b0,pre.length + j,none⟩ (v.den B)).run P w = .ok () (w.setRow b0 ((pre ++ (xs ++ (junk ++ post))).take (pre.length + j + 0) ++ (ys ++ (pre ++ (xs ++ (junk ++ post))).drop (pre.length + j + 0 + ys.length))).toArray):=by
      simp only [storeVar,Sem.run_bind,T.run_sizeOf w,Result.andThen_ok,hsz]
      simpa [hv] using hst
    have e1 : (pre ++ (xs ++ (junk ++ post))).take (pre.length + j + 0) ++ (ys ++ (pre ++ (xs ++ (junk ++ post))).drop (pre.length + j + 0 + ys.length)) = pre ++ ((xs.take j ++ (ys ++ xs.drop (j + x.size))) ++ (junk ++ post)):=by
      have a1 : pre.length + j + 0 = pre.length + j:=by omega
      have a2 : pre.length + j + ys.length = pre.length + (j + x.size):=by omega
      rw [a1,a2,List.take_append,List.drop_append,List.take_of_length_le (by omega : pre.length ≤ pre.length + j),List.drop_eq_nil_of_le (by omega : pre.length ≤ pre.length + (j + x.size)),Nat.add_sub_cancel_left,Nat.add_sub_cancel_left,List.take_append_of_le_length (by omega),List.drop_append_of_le_length (by omega)]
      simp
    rw [e1] at hrun;have hw:=q2y (cs':=(pre ++ ((xs.take j ++ (ys ++ xs.drop (j + x.size))) ++ (junk ++ post))).toArray) hb0
    have el : (pre ++ ((xs.take j ++ (ys ++ xs.drop (j + x.size))) ++ (junk ++ post))).length = (pre ++ (xs ++ (junk ++ post))).length:=by
      simp only [List.length_append,List.length_take,List.length_drop];omega
    refine ⟨undef,w.setRow b0 (pre ++ ((xs.take j ++ (ys ++ xs.drop (j + x.size))) ++ (junk ++ post))).toArray,?_,.tup [],⟨B,H,OwnO (some (radr (b0,pre.length))) cap e size (xs.take j ++ (ys ++ xs.drop (j + x.size))) :: F'⟩,rfl,by intro s hs;simp at hs,km,?_,.inl rfl,h⟩
    · simp only [Sem.run_bind,hrun,Result.andThen_ok,Sem.run_pure]
    · refine q07 List.perm_middle.symm (q0x (fun g hg=>.inr ⟨b0,pre,junk,post,fz,rfl,hg,?_,by rw [el];exact hf,?_⟩) (q36 hs3 hw.1 hw.2))
      · simp only [List.length_append,List.length_take,List.length_drop] at *;omega
      · intro u hu;simp only [List.mem_append] at hu hone
        rcases hu with hu | (hu | hu | hu) | hu | hu
        · exact hone u (.inl hu)
        · exact hone u (.inr (.inl (List.mem_of_mem_take hu)))
        · exact h1 u hu
        · exact hone u (.inr (.inl (List.mem_of_mem_drop hu)))
        · exact hone u (.inr (.inr (.inl hu)))
        · exact hone u (.inr (.inr (.inr hu)))
theorem qlz {P : Program} {t : Nat} {x : TyX} {b off cap e : Nat} {p : Nat × Nat} {l : List UInt8} {n : Int} {B : Names} {H : List Chunk} {F F' : List HP} {f : M → Prop} (j : Nat) (c : UInt8)
    (hF : F.Perm (OwnO (some (radr p)) cap e 1 (u8s l) :: F')) (hx : x.size = 1) (hb : b = p.1) (ho : off = p.2 + j) (hn : n = (c.toNat : Int)) (hj : j < l.length)
    (h : f ⟨B,H,OwnO (some (radr p)) cap e 1 (u8s (l.set j c)) :: F'⟩) :
    With (Ty P t x) (RunOb P (do storeVar t ⟨b,off,none⟩ (SV.den B (.c (.int .u8 n)));pure undef) ⟨B,H,F⟩ fun _ m'=>f m'):=by
  refine qnx (ys:=[u8 c]) hF hb ho (by rw [hn];rfl) (by rw [hx];rfl) (by simp [u8,Value.oneCell']) (by rw [u8l];omega) ?_
  have e : (u8s l).take j ++ ([u8 c] ++ (u8s l).drop (j + x.size)) = u8s (l.set j c):=by
    rw [hx,List.set_eq_take_append_cons_drop,if_pos hj]
    simp [u8s]
  rw [e];exact h
end
section
attribute [local irreducible] macD q01 strS
theorem qdm : ∀ (a b : List UInt8),a.length = b.length → xorB a b = xorB b a
  | [],[],_=>rfl
  | x :: a,y :: b,h=>by
    have:=qdm a b (by simpa using h);show (x ^^^ y) :: xorB a b = (y ^^^ x) :: xorB b a;rw [this,UInt8.xor_comm]
  | [],_ :: _,h=>absurd h (by simp)
  | _ :: _,[],h=>absurd h (by simp)
theorem xor_c (A R : HP) (hE : Ent A R) (key n : List UInt8) (count : UInt32) (hk : key.length = 32) (hn : n.length = 12) (a : Option Addr) (cap : Nat) (b : List UInt8) (hb : Rd R a (u8s b)) (hl : b.length ≤ 65536) (hc : count.toNat + (b.length + 63) / 64 ≤ 4294967296) :
    Con Tryz.prog 145 [.agg [.many 32 (u8s key)],.agg [.many 12 (u8s n)],.c (.int .u32 (count.toNat : Int)),.c (.rs a b.length cap)] [] [] A (fun t : Option Addr=>t = none → b = []) (fun t=>.tup [.c (.rs t b.length b.length),.c (.int .i64 0)]) (fun _=>[])
      (fun t=>[OwnO t b.length 5 1 (u8s (xorB b (strS key n count ((b.length + 63) / 64))))]):=by
  have hb:=hb.ent hE;have hsl:=q2t key n count ((b.length + 63) / 64);have hxt:=q9x b (strS key n count ((b.length + 63) / 64)) b.length (Nat.le_refl _);have CS:=fun A=>qfp A key n count b.length hk hn hl hc;have hYl : ((strS key n count ((b.length + 63) / 64)).take b.length).length = b.length:=by rw [List.length_take];omega
  rw [← hxt];generalize (strS key n count ((b.length + 63) / 64)).take b.length = Y at CS hYl ⊢;rw [qdm b Y (by omega)];have hz : xorI Y b 0 = Y:=by simp [xorI]
  have hxl:=q6e (l:=Y) (y:=b) (by omega);refine Con.of' tt_ok Tryz.func145 rfl (by decide) [.agg [.many 32 (u8s key)],.agg [.many 12 (u8s n)],.c (.int .u32 (count.toNat : Int)),.c (.rs a b.length cap)] [] [] rfl rfl trivial ⟨⟨mok hk _,trivial⟩,⟨mok hn _,trivial⟩,trivial,trivial,trivial⟩ rfl ?_;(conv=>whnf);intro b4;(conv=>whnf);intro b5;(conv=>whnf);refine Cq.new (CS _) rfl ?_;rintro t ht;(conv=>whnf);refine Cond.neI (fun h=>absurd rfl h) (fun _=>?_);conv=>whnf
  refine LoopOb.m (σ:=Nat) (fun i=>[(3,.c (.rs a b.length cap)),(10,.c (.rs t b.length b.length)),(26,.c (.int .i64 b.length)),(27,.c (.int .i64 i))])
    (fun i=>⟨[],[],[OwnO t b.length 5 1 (u8s (xorI Y b i)),A]⟩) (fun i=>i ≤ b.length) (fun i=>b.length - i) 0 (Nat.zero_le _)
    (Wk.m [] [0,0] kk trivial ⟨rfl,by rw [hz]⟩) ?_
  intro i hi;(conv=>whnf);refine Cond.d (fun h2=>?_) (fun h2=>?_)
  · have hi' : i < b.length:=by omega
    have hr : Rd (OwnO t b.length 5 1 (u8s (xorI Y b i))) t (u8s (xorI Y b i)):=OwnO.rd;(conv=>whnf);refine Draw.a (by kernel_rfl) tt_ok (Tv.of (List.range 11) .nil) 10 (by kernel_rfl) ?_;(conv=>whnf);refine ⟨by omega,PtrOb.rd (A:=OwnO t b.length 5 1 (u8s (xorI Y b i))) (by simp) hr (by rw [u8l,hxl];omega) fun p hp=>?_⟩;subst hp;(conv=>whnf);refine ldb (A:=OwnO (some (radr p)) b.length 5 1 (u8s (xorI Y b i))) i (by simp) hr (by rw [hxl];omega) rfl rfl (by show _ + (i : Int).toNat * 1 = _;omega) ?_;rw [q7u (by omega) (by omega)];conv=>whnf
    refine ⟨by omega,PtrOb.rd (A:=A) (by simp) hb (by rw [u8l];omega) fun q hq=>?_⟩;subst hq;(conv=>whnf);refine ldb (A:=A) i (by simp) hb (by omega) rfl rfl (by show _ + (i : Int).toNat * 1 = _;omega) ?_;(conv=>whnf);rw [q45 (l:=Y) (by omega),q45 hi'];refine ⟨by omega,PtrOb.at ?_⟩;(conv=>whnf);refine qlz i (Y[i]'(by omega) ^^^ b[i]) (.refl _) rfl rfl (by show _ + (i : Int).toNat * 1 = _;omega) (xorb _ _) (by rw [hxl];omega) ?_;rw [q82 (by omega) (by omega)];(conv=>whnf);refine Ar.i64 (by omega) ?_;conv=>whnf
    exact ⟨i + 1,by omega,by omega,Wk.m [] [0,0] kk trivial ⟨rfl,rfl⟩⟩
  obtain rfl : i = b.length:=by omega
  have e : xorI Y b b.length = xorB Y b:=by
    unfold xorI;rw [List.drop_of_length_le (by omega),List.append_nil,List.take_of_length_le (by rw [q16 (by omega)];omega)]
  rw [e];(conv=>whnf);exact Ret.m t [] [0,0] (fun e=>List.length_eq_zero_iff.1 (ht e)) rfl kk kk ⟨rfl,rfl⟩
theorem qde (A R : HP) (hE : Ent A R) (b : Nat) (k l r : List UInt8) (hk : k.length = 32) (hl : l.length = 32) (a : Option Addr) (c : Nat) (hr : Rd R a (u8s r)) (hn : r.length ≤ 65536) :
    Con Tryz.prog 104 [.c (.rp b 0),.agg [.many 32 (u8s k)]] [(b,[.many 32 (u8s l),.one (.rs a r.length c)],175)] [] A (fun t : Option Addr=>t = none → r = []) (fun _=>.tup [])
      (fun t=>[(b,[.many 32 (u8s l),.one (.rs t r.length r.length)],175)]) (fun t=>[OwnO t r.length 5 1 (u8s (xorB r (strS (xorB k l) zn 0 ((r.length + 63) / 64))))]):=by
  have hr:=hr.ent hE;have hz : xorI k l 0 = k:=by simp [xorI]
  have hxl:=q6e (l:=k) (y:=l) (by omega);refine Con.of' tt_ok Tryz.func104 rfl (by decide) [.c (.ptr 1000 0),.agg [.many 32 (u8s k)]] (B1 b) [(1000,[.many 32 (u8s l),.one (.rs a r.length c)],175)] rfl rfl ⟨⟨kk,mok hl _,trivial,trivial⟩,trivial⟩ ⟨trivial,⟨mok hk _,trivial⟩,trivial⟩ rfl ?_;(conv=>whnf);intro b3;conv=>whnf
  refine LoopOb.m (σ:=Nat) (fun i=>[(0,.c (.ptr 1000 0)),(3,.c (.ptr 3 0)),(5,.c (.int .i64 i))])
    (fun i=>⟨[(3,b3),(1000,b)],[(3,[.many 32 (u8s (xorI k l i))],23),(1000,[.many 32 (u8s l),.one (.rs a r.length c)],175)],[A]⟩) (fun i=>i ≤ 32) (fun i=>32 - i) 0 (Nat.zero_le _)
    (Wk.m [3,1000] [0] kk ⟨⟨kk,mok (by rw [hxl,hk]) _,trivial⟩,⟨kk,mok hl _,trivial,trivial⟩,trivial⟩ ⟨by rw [hz],rfl⟩) ?_
  intro i hi;(conv=>whnf);refine Cond.d (fun h=>?_) (fun h=>?_)
  · have hi' : i < 32:=by omega
    (conv=>whnf);refine Draw.a (by kernel_rfl) tt_ok (Tv.of (List.range 12) .nil) 11 (by kernel_rfl) ?_;(conv=>whnf);refine ⟨by omega,?_⟩;(conv=>whnf);refine q0v i (by show (i : Int).toNat * 1 = i;omega) (by rw [hxl];omega) ?_;rw [q7u (by omega) (by omega)];(conv=>whnf);refine ⟨by omega,?_⟩;(conv=>whnf);refine q0v i (by show (i : Int).toNat * 1 = i;omega) (by omega) ?_;rw [q45 (l:=k) (by omega),q45 (l:=l) (i:=i) (by omega)];(conv=>whnf);rw [xorb];refine ⟨by omega,?_⟩;conv=>whnf
    refine ⟨⟨rfl,by show (i : Int).toNat * 1 + 1 ≤ 32;omega⟩,?_⟩;(conv=>whnf);refine Ar.i64 (by omega) ?_;(conv=>whnf);have s1:=q82 (l:=k) (y:=l) (by omega) (i:=i) (by omega);have em : (i : Int).toNat * 1 = i:=by omega
    have s2 : (u8s (xorI k l i)).take ((i : Int).toNat * 1) ++ ([u8 (k[i]'(by omega) ^^^ l[i]'(by omega))] ++ (u8s (xorI k l i)).drop ((i : Int).toNat * 1 + 1)) = u8s (xorI k l (i + 1)):=by
      rw [em,← s1,List.set_eq_take_append_cons_drop,if_pos (by rw [hxl];omega)]
      simp [u8s]
    refine ⟨i + 1,by omega,by omega,Wk.m [3,1000] [0] kk ⟨⟨kk,mok (by rw [hxl,hk]) _,trivial⟩,⟨kk,mok hl _,trivial,trivial⟩,trivial⟩ ⟨?_,rfl⟩⟩;rw [← s2];rfl
  obtain rfl : i = 32:=by omega
  have e32 : xorI k l 32 = xorB k l:=by
    unfold xorI;rw [List.drop_of_length_le (by omega),List.append_nil,List.take_of_length_le (by rw [q16 (by omega)];omega)]
  rw [e32];have hkl : (xorB k l).length = 32:=by rw [q16 (by omega),hk]
  generalize xorB k l = K at hkl ⊢;(conv=>whnf);refine Draw.a (by kernel_rfl) tt_ok (Tv.of (List.range 14) .nil) 13 (by kernel_rfl) ?_;(conv=>whnf);refine Cq.new (xor_c _ A (Ent.a mm) K zn 0 hkl (by decide) a c r hr hn (by show 0 + _ ≤ _;omega)) rfl ?_;intro t ht;(conv=>whnf);refine Sub.r [3,1000] [1] ?_;(conv=>whnf);exact Ret.m t [1000] [0,0] ht rfl kk ⟨⟨mok hl _,trivial,trivial⟩,trivial⟩ ⟨rfl,rfl⟩
theorem qn5 (A R : HP) (hE : Ent A R) (hK : Gl A) (b : Nat) (k l r : List UInt8) (hk : k.length = 32) (hl : l.length = 32) (a : Option Addr) (c : Nat) (hr : Bts R a c r) (hn : r.length ≤ 65536) :
    Con Tryz.prog 105 [.c (.rp b 0),.agg [.many 32 (u8s k)]] [(b,[.many 32 (u8s l),.one (.rs a r.length c)],175)] [] A (fun _ : Unit=>True) (fun _=>.tup [])
      (fun _=>[(b,[.many 32 (u8s (xorB l (macD k r))),.one (.rs a r.length c)],175)]) (fun _=>[]):=by
  have hr:=hr.ent hE;have hml:=q27 k r;have hz : xorI l (macD k r) 0 = l:=by simp [xorI]
  have hxl:=q6e (l:=l) (y:=macD k r) (by omega)
  have e32 : xorI l (macD k r) 32 = xorB l (macD k r):=by
    unfold xorI;rw [List.drop_of_length_le (by omega),List.append_nil,List.take_of_length_le (by rw [q16 (by omega)];omega)]
  have CM:=fun A hK a1 c1 h1 a2 c2 h2=>mac_c A A (Ent.refl _) hK a1 c1 k h1 (by omega) a2 c2 r h2 (by omega);generalize macD k r = T at hml hz hxl e32 CM ⊢;refine Con.of' tt_ok Tryz.func105 rfl (by decide) [.c (.ptr 1000 0),.agg [.many 32 (u8s k)]] (B1 b) [(1000,[.many 32 (u8s l),.one (.rs a r.length c)],175)] rfl rfl ⟨⟨kk,mok hl _,trivial,trivial⟩,trivial⟩ ⟨trivial,⟨mok hk _,trivial⟩,trivial⟩ rfl ?_;(conv=>whnf);intro b3;conv=>whnf
  refine Draw.cut (σ:=Nat) (fun b4=>[(0,.c (.ptr 1000 0)),(4,.c (.ptr 4 0))]) (fun b4=>⟨[(4,b4),(1000,b)],[(4,[.many 32 (u8s T)],23),(1000,[.many 32 (u8s l),.one (.rs a r.length c)],175)],[A]⟩) (fun _=>True) ?_ ?_
  · refine Draw.a (by kernel_rfl) tt_ok (Tv.of [0,1,2,3,4] (.two 5 (Tv.of [6,7] .nil) 6 (Tv.of [5,7] .nil))) 1000000 (by kernel_rfl) ?_;(conv=>whnf);refine ⟨?_,?_⟩
    · (conv=>whnf);refine Cq.pu (CM _ (hK.ent (Ent.a mm)) (some (radr (b3,0))) 32 ⟨Rd.all (A:=blk b3 (.cells (u8s k ++ []).toArray 23)) mm q1p,by omega,fun h=>by cases h⟩ a c (hr.ent (Ent.a mm))) (by rw [hk];rfl) ?_;refine Sub.r [3,1000] [0] ?_;(conv=>whnf);intro b4;refine Sub.r [3,1000] [0] ?_;(conv=>whnf);refine Sub.r [3,1000] [0] ?_;(conv=>whnf);exact ⟨b4,trivial,Wk.m [4,1000] [0] kk ⟨⟨kk,mok hml _,trivial⟩,⟨kk,mok hl _,trivial,trivial⟩,trivial⟩ ⟨rfl,rfl⟩⟩
    · (conv=>whnf);intro b4;refine Sub.r [3,1000] [0] ?_;(conv=>whnf);refine Cq.pu (CM _ (hK.ent (Ent.a mm)) (some (radr (b3,0))) 32 ⟨Rd.all (A:=blk b3 (.cells (u8s k ++ []).toArray 23)) mm q1p,by omega,fun h=>by cases h⟩ a c (hr.ent (Ent.a mm))) (by rw [hk];rfl) ?_;refine Sub.r [3,1000] [0] ?_;(conv=>whnf);refine Sub.r [3,1000] [0] ?_;(conv=>whnf);exact ⟨b4,trivial,Wk.m [4,1000] [0] kk ⟨⟨kk,mok hml _,trivial⟩,⟨kk,mok hl _,trivial,trivial⟩,trivial⟩ ⟨rfl,rfl⟩⟩
  intro b4 _;conv=>whnf
  refine LoopOb.m (σ:=Nat) (fun i=>[(0,.c (.ptr 1000 0)),(4,.c (.ptr 4 0)),(12,.c (.int .i64 i))])
    (fun i=>⟨[(4,b4),(1000,b)],[(4,[.many 32 (u8s T)],23),(1000,[.many 32 (u8s (xorI l T i)),.one (.rs a r.length c)],175)],[A]⟩) (fun i=>i ≤ 32) (fun i=>32 - i) 0 (Nat.zero_le _)
    (Wk.m [4,1000] [0] kk ⟨⟨kk,mok hml _,trivial⟩,⟨kk,mok (by rw [hxl,hl]) _,trivial,trivial⟩,trivial⟩ ⟨by rw [hz],rfl⟩) ?_
  intro i hi;(conv=>whnf);refine Cond.d (fun h=>?_) (fun h=>?_)
  · have hi' : i < 32:=by omega
    (conv=>whnf);refine Draw.a (by kernel_rfl) tt_ok (Tv.of (List.range 14) .nil) 13 (by kernel_rfl) ?_;(conv=>whnf);refine ⟨by omega,?_⟩;(conv=>whnf);refine q0v i (by show (i : Int).toNat * 1 = i;omega) (by rw [hxl];omega) ?_;rw [q7u (by omega) (by omega)];(conv=>whnf);refine ⟨by omega,?_⟩;(conv=>whnf);refine q0v i (by show (i : Int).toNat * 1 = i;omega) (by omega) ?_;rw [q45 (l:=l) (by omega),q45 (l:=T) (i:=i) (by omega)];(conv=>whnf);rw [xorb];refine ⟨by omega,?_⟩;conv=>whnf
    refine ⟨⟨rfl,by show (i : Int).toNat * 1 + 1 ≤ 32;omega⟩,?_⟩;(conv=>whnf);refine Ar.i64 (by omega) ?_;(conv=>whnf);have s1:=q82 (l:=l) (y:=T) (by omega) (i:=i) (by omega);have em : (i : Int).toNat * 1 = i:=by omega
    have s2 : (u8s (xorI l T i)).take ((i : Int).toNat * 1) ++ ([u8 (l[i]'(by omega) ^^^ T[i]'(by omega))] ++ (u8s (xorI l T i)).drop ((i : Int).toNat * 1 + 1)) = u8s (xorI l T (i + 1)):=by
      rw [em,← s1,List.set_eq_take_append_cons_drop,if_pos (by rw [hxl];omega)]
      simp [u8s]
    refine ⟨i + 1,by omega,by omega,Wk.m [4,1000] [0] kk ⟨⟨kk,mok hml _,trivial⟩,⟨kk,mok (by rw [hxl,hl]) _,trivial,trivial⟩,trivial⟩ ⟨?_,rfl⟩⟩;rw [← s2];rfl
  obtain rfl : i = 32:=by omega
  rw [e32];have hxl2 : (xorB l T).length = 32:=by rw [q16 (by omega),hl]
  (conv=>whnf);exact Ret.m () [1000] [0] trivial rfl kk ⟨⟨mok hxl2 _,trivial,trivial⟩,trivial⟩ ⟨rfl,rfl⟩
end
section
def rdF (i : Nat) : Value:=if i % 2 = 1 then .func (.func 104) #[] #[] else .func (.func 105) #[] #[]
def rdV (i : Nat) : List Value:=[.string (bs (lionL i)),rdF i]
def rowD (l : List Nat) : List Value:=(l.map rdV).flatten
theorem qe9 (l m : List Nat) : rowD (l ++ m) = rowD l ++ rowD m:=by simp [rowD]
theorem q56 (l : List Nat) : (rowD l).length = l.length * 2:=by
  have:=q1x (css:=l.map rdV) (n:=2) (fun c hc=>by simp at hc;obtain ⟨y,_,rfl⟩:=hc;rfl)
  simpa [rowD] using this
theorem qhp {l : List Nat} (k : Nat) (hk : k ≤ l.length) : (rowD l).drop (k * 2) = rowD (l.drop k):=by
  have e : rowD l = rowD (l.take k) ++ rowD (l.drop k):=by rw [← qe9,List.take_append_drop]
  have hl : (rowD (l.take k)).length = k * 2:=by rw [q56,List.length_take,Nat.min_eq_left hk]
  rw [e,← hl,List.drop_left]
abbrev rdSg (i : Nat) : List Seg:=[.one (.str (bs (lionL i))),.one (.raw (rdF i))]
theorem q9l (i : Nat) : (rdF i).oneCell' = true:=by unfold rdF;split <;> rfl
theorem qny (i : Nat) (B : Names) : okL B (rdSg i):=⟨trivial,q9l i,trivial⟩
theorem ldr {t : Nat} {x : TyX} {b off : Nat} {m : M} {f : SV → Prop} {A : HP} {p : Nat × Nat} {l : List Nat} (i : Nat) (hA : A ∈ m.F) (hr : Rd A (some (radr p)) (rowD l)) (hi : i < l.length)
    (hx : x.k.agg = true) (hn : x.size = 2) (hb : b = p.1) (ho : off = p.2 + i * 2) (hf : f (.agg (rdSg l[i]))) : With (Ty Tryz.prog t x) (LdOb Tryz.prog t ⟨b,off,none⟩ m f):=by
  refine lds (A:=A) (i * 2) (rdSg l[i]) hx hA hr hb ho ?_ (by rw [hn];rfl) (by omega) (q04 (qny l[i] _)) hf;rw [hn,qhp _ (by omega),List.drop_eq_getElem_cons hi];rfl
attribute [local irreducible] macD q01 strS
theorem qgj (A : HP) : Con Tryz.prog 67 [] [] [] A (fun _ : Nat=>True) (fun b=>.c (.rs (some (radr (b,0))) 4 4)) (fun _=>[]) (fun b=>[Own (some (radr (b,0))) 4 150 2 (rowD [1,2,3,4])]):=by
  refine Con.of' tt_ok Tryz.func67 rfl (by decide) [] [] [] rfl rfl trivial trivial rfl ?_;(conv=>whnf);intro b1;(conv=>whnf);refine Ret.own 5 4 4 2 ⟨_,_,rfl,⟨rfl,Nat.le_refl _⟩,⟨trivial,rfl,trivial,rfl,trivial,rfl,trivial,rfl,trivial⟩,?_⟩;exact Ret.m b1 [] [0,0] trivial rfl kk kk ⟨rfl,rfl⟩
def revL (i : Nat) : List Nat:=if i = 0 then [1,2,3,4] else if i = 1 then [4,2,3,1] else [4,3,2,1]
theorem qif (A : HP) (a : Option Addr) (cap : Nat) (hc : 4 ≤ cap) :
    Con Tryz.prog 81 [.c (.rs a 4 cap)] [] [Own a cap 150 2 (rowD [1,2,3,4])] A (fun _ : Unit=>True) (fun _=>.tup []) (fun _=>[]) (fun _=>[Own a cap 150 2 (rowD [4,3,2,1])]):=by
  refine Con.of' tt_ok Tryz.func81 rfl (by decide) [.c (.rs a 4 cap)] [] [] rfl rfl trivial kk rfl ?_;(conv=>whnf);refine Ar.i64 (by decide) ?_;conv=>whnf
  refine LoopOb.m (σ:=Nat) (fun i=>[(0,.c (.rs a 4 cap)),(2,.c (.int .i64 i)),(3,.c (.int .i64 (3 - (i : Int))))])
    (fun i=>⟨[],[],[Own a cap 150 2 (rowD (revL i)),A]⟩) (fun i=>i ≤ 2) (fun i=>2 - i) 0 (Nat.zero_le _) (Wk.m [] [0,0] kk trivial ⟨rfl,rfl⟩) ?_
  intro i hi;(conv=>whnf);refine Cond.d (fun h=>?_) (fun h=>?_)
  · obtain rfl | rfl : i = 0 ∨ i = 1:=by omega
    all_goals conv=>whnf
    · have hr : Rd (Own a cap 150 2 (rowD [1,2,3,4])) a (rowD [1,2,3,4]):=Own.rd;show Draw Tryz.prog tt _ _ _ ⟨_,_,[Own a cap 150 2 (rowD [1,2,3,4]),A]⟩ _;refine Draw.a (by kernel_rfl) tt_ok (Tv.of (List.range 16) .nil) 13 (by kernel_rfl) ?_;(conv=>whnf);refine ⟨by decide,PtrOb.rd (A:=Own a cap 150 2 (rowD [1,2,3,4])) (by simp) hr (by rw [q56];decide) fun p hp=>?_⟩;subst hp;(conv=>whnf);refine ldr (A:=Own (some (radr p)) cap 150 2 (rowD [1,2,3,4])) (l:=[1,2,3,4]) 3 (by simp) hr (by decide) rfl rfl rfl rfl ?_;conv=>whnf
      refine ⟨by decide,PtrOb.rd (A:=Own (some (radr p)) cap 150 2 (rowD [1,2,3,4])) (by simp) hr (by rw [q56];decide) fun q hq=>?_⟩;obtain rfl:=q1z hq;(conv=>whnf);refine ldr (A:=Own (some (radr p)) cap 150 2 (rowD [1,2,3,4])) (l:=[1,2,3,4]) 0 (by simp) hr (by decide) rfl rfl rfl rfl ?_;(conv=>whnf);refine ⟨by decide,PtrOb.at ?_⟩;(conv=>whnf);refine q8z (j:=0 * 2) (ys:=rdV 4) (.refl _) rfl rfl rfl rfl (fun u hu=>?_) (by show 0 * 2 + 2 ≤ 8;decide) ?_
      · simp only [rdV,List.mem_cons,List.not_mem_nil,or_false] at hu
        rcases hu with rfl | rfl
        · rfl
        · exact q9l _
      (conv=>whnf);refine ⟨by decide,PtrOb.at ?_⟩;(conv=>whnf);refine q8z (j:=3 * 2) (ys:=rdV 1) (.refl _) rfl rfl rfl rfl (fun u hu=>?_) (by show 3 * 2 + 2 ≤ 8;decide) ?_
      · simp only [rdV,List.mem_cons,List.not_mem_nil,or_false] at hu
        rcases hu with rfl | rfl
        · rfl
        · exact q9l _
      (conv=>whnf);refine Ar.i64 (by decide) ?_;(conv=>whnf);refine Ar.i64 (by decide) ?_;(conv=>whnf);exact ⟨0 + 1,by decide,by decide,Wk.m [] [0,0] kk trivial ⟨rfl,rfl⟩⟩
    · have hr : Rd (Own a cap 150 2 (rowD [4,2,3,1])) a (rowD [4,2,3,1]):=Own.rd;show Draw Tryz.prog tt _ _ _ ⟨_,_,[Own a cap 150 2 (rowD [4,2,3,1]),A]⟩ _;refine Draw.a (by kernel_rfl) tt_ok (Tv.of (List.range 16) .nil) 13 (by kernel_rfl) ?_;(conv=>whnf);refine ⟨by decide,PtrOb.rd (A:=Own a cap 150 2 (rowD [4,2,3,1])) (by simp) hr (by rw [q56];decide) fun p hp=>?_⟩;subst hp;(conv=>whnf);refine ldr (A:=Own (some (radr p)) cap 150 2 (rowD [4,2,3,1])) (l:=[4,2,3,1]) 2 (by simp) hr (by decide) rfl rfl rfl rfl ?_;conv=>whnf
      refine ⟨by decide,PtrOb.rd (A:=Own (some (radr p)) cap 150 2 (rowD [4,2,3,1])) (by simp) hr (by rw [q56];decide) fun q hq=>?_⟩;obtain rfl:=q1z hq;(conv=>whnf);refine ldr (A:=Own (some (radr p)) cap 150 2 (rowD [4,2,3,1])) (l:=[4,2,3,1]) 1 (by simp) hr (by decide) rfl rfl rfl rfl ?_;(conv=>whnf);refine ⟨by decide,PtrOb.at ?_⟩;(conv=>whnf);refine q8z (j:=1 * 2) (ys:=rdV 3) (.refl _) rfl rfl rfl rfl (fun u hu=>?_) (by show 1 * 2 + 2 ≤ 8;decide) ?_
      · simp only [rdV,List.mem_cons,List.not_mem_nil,or_false] at hu
        rcases hu with rfl | rfl
        · rfl
        · exact q9l _
      (conv=>whnf);refine ⟨by decide,PtrOb.at ?_⟩;(conv=>whnf);refine q8z (j:=2 * 2) (ys:=rdV 2) (.refl _) rfl rfl rfl rfl (fun u hu=>?_) (by show 2 * 2 + 2 ≤ 8;decide) ?_
      · simp only [rdV,List.mem_cons,List.not_mem_nil,or_false] at hu
        rcases hu with rfl | rfl
        · rfl
        · exact q9l _
      (conv=>whnf);refine Ar.i64 (by decide) ?_;(conv=>whnf);refine Ar.i64 (by decide) ?_;(conv=>whnf);exact ⟨1 + 1,by decide,by decide,Wk.m [] [0,0] kk trivial ⟨rfl,rfl⟩⟩
  obtain rfl : i = 2:=by omega
  (conv=>whnf);exact Ret.m () [] [0,0] trivial rfl kk kk ⟨rfl,rfl⟩
structure MxS where
  j : Nat
  left : List UInt8
  right : List UInt8
  a : Option Addr
  c : Nat
  R : HP
structure MxI (A : HP) (key b : List UInt8) (l : List Nat) (s : MxS) : Prop where
  j : s.j ≤ l.length
  ll : s.left.length = 32
  rl : s.right.length = b.length - 32
  e : s.left ++ s.right = lionB key b (l.take s.j)
  q : ∀ X,Ent X s.R → Ent X A → Bts X s.a s.c s.right
theorem Src.rsA {m : M} {a : Option Addr} {k c : Nat} {ys : List Value} (hr : Rd (all m.props) a ys) : Src m (.c (.rs a k c)) k ys:=by
  have h:=Src.rsP (m:=⟨m.B,[],[all m.props]⟩) (A:=all m.props) (a:=a) (k:=k) (c:=c) (by simp [M.props]) hr;intro km w hs;refine h (fun c hc=>nomatch hc) w (q65 (H:=[]) (F:=m.props) (fun g q=>q14.2 (by rwa [List.append_nil])) hs)
theorem q8s {k l r : List UInt8} (hl : l.length = 32) : lionX k (l ++ r) = l ++ xorB r (strS (xorB k l) zn 0 ((r.length + 63) / 64)):=by
  unfold lionX;rw [List.take_left' hl,List.drop_left' hl,List.length_append,hl,Nat.add_sub_cancel_left]
theorem q9b {k l r : List UInt8} (hl : l.length = 32) : lionT k (l ++ r) = xorB l (macD k r) ++ r:=by
  unfold lionT;rw [List.take_left' hl,List.drop_left' hl]
theorem q64 (key : List UInt8) (i : Nat) : (lionK key i).length = 32:=q1n _ _
set_option maxHeartbeats 2000000 in
theorem qmy (A RL RB : HP) (hEL : Ent A RL) (hEB : Ent A RB) (hK : Gl A) (key : List UInt8) (hk : key.length = 32) (al : Option Addr) (cl : Nat) (l : List Nat) (hl : ∀ i ∈ l,1 ≤ i ∧ i ≤ 4) (h0 : 1 ≤ l.length) (hln : l.length ≤ 100) (hL : Rd RL al (rowD l))
    (ab : Option Addr) (cb : Nat) (b : List UInt8) (hb : Bts RB ab cb b) (hn : b.length ≤ 1000000) :
    Con Tryz.prog 66 [.agg [.many 32 (u8s key)],.c (.rs al l.length cl),.c (.rs ab b.length cb)] [] [] A (fun t : Option Addr × Nat=>Fc t.1 t.2 (lionS l key b).1) (fun t=>.tup [.c (.rs t.1 (lionS l key b).1.length t.2),.c (.int .i64 (lionS l key b).2)]) (fun _=>[]) (fun t=>[Own t.1 t.2 5 1 (u8s (lionS l key b).1)]):=by
  have hL:=hL.ent hEL;have hb:=hb.ent hEB;have hr:=hb.1;have hcp:=hb.2.1;have hks:=mok hk;have hS:=qe5 l key b;refine Con.of' tt_ok Tryz.func66 rfl (by decide) [.agg [.many 32 (u8s key)],.c (.rs al l.length cl),.c (.rs ab b.length cb)] [] [] rfl rfl trivial ⟨⟨hks _,trivial⟩,trivial,trivial,trivial⟩ rfl ?_;(conv=>whnf);intro b3;(conv=>whnf);refine Cond.d (fun h=>?_) (fun h=>?_)
  · rcases hS with ⟨_,hS⟩ | ⟨_,h1,_⟩
    case inr=>omega
    have e : lionE b.length = 4:=if_pos (by omega);rw [hS,e];(conv=>whnf);refine Ret.own0 5 1 ?_;exact Ret.m (none,0) [] [0,0] Fc.nil rfl kk kk ⟨rfl,rfl⟩
  (conv=>whnf);refine Cond.d (fun h3=>?_) (fun h3=>?_)
  · rcases hS with ⟨_,hS⟩ | ⟨_,_,h1,_⟩
    case inr=>omega
    have e : lionE b.length = 3:=(if_neg (by omega)).trans (if_pos (by omega));rw [hS,e];(conv=>whnf);refine Ret.own0 5 1 ?_;exact Ret.m (none,0) [] [0,0] Fc.nil rfl kk kk ⟨rfl,rfl⟩
  rcases hS with ⟨h4,_⟩ | ⟨_,h1,h2,hS⟩
  · exact absurd ((if_neg (by omega)).trans (if_neg (by omega))) h4
  rw [hS];have h32 : (b.take 32).length = 32:=by rw [List.length_take];omega
  have hdl : (b.drop 32).length = b.length - 32:=List.length_drop
  have hbt : Bts A (cutA ab cb 0 1) (cb - 0) (b.take 32):=by
    have:=hb.sub 0 32 (by omega)
    rwa [List.drop_zero] at this
  have hbd : Bts A (cutA ab cb 32 1) (cb - 32) (b.drop 32):=hb.drop 32 (by omega);(conv=>whnf);refine Draw.a (by kernel_rfl) tt_ok (Tv.of (List.range 9) .nil) 1000000 (by kernel_rfl) ?_;(conv=>whnf);refine ⟨by omega,?_⟩;(conv=>whnf);refine ⟨by decide,PtrOb.rd (A:=A) (by simp) hbt.1 (by rw [u8l,h32];decide) fun p hp=>?_⟩;have hbp : Rd A (some (radr p)) (u8s (b.take 32)):=by rw [← hp];exact hbt.1
  (conv=>whnf);refine lds (A:=A) 0 [.many 32 (u8s (b.take 32))] rfl (by simp) hbp rfl rfl ?_ ?_ (by decide) (q04 ⟨mok h32 _,trivial⟩) ?_
  · show u8s (b.take 32) ++ [] = ((u8s (b.take 32)).drop 0).take 32;rw [List.append_nil,List.drop_zero];exact (List.take_of_length_le (by rw [u8l,h32];decide)).symm
  · show (u8s (b.take 32) ++ []).length = 32;rw [List.append_nil,u8l,h32]
  (conv=>whnf);refine ⟨by omega,?_⟩;(conv=>whnf);intro b26;(conv=>whnf);refine Sub.r [3] [0] ?_;conv=>whnf
  refine LoopOb.m (σ:=MxS) (fun s=>[(3,.c (.ptr 3 0)),(8,.c (.ptr 26 0)),(27,.c (.rs al l.length cl)),(28,.c (.int .i64 l.length)),(29,.c (.int .i64 s.j))])
    (fun s=>⟨[(26,b26),(3,b3)],[(26,[.many 32 (u8s s.left),.one (.rs s.a s.right.length s.c)],175),(3,[.many 32 (u8s key)],23)],[s.R,A]⟩) (MxI A key b l) (fun s=>l.length - s.j)
    ⟨0,b.take 32,b.drop 32,cutA ab cb 32 1,cb - 32,Own none 0 5 1 []⟩ ⟨Nat.zero_le _,h32,hdl,List.take_append_drop 32 b,fun X _ h=>hbd.ent h⟩ ?_ ?_
  · refine Wk.own0 5 1 ?_;refine Wk.m [26,3] [0,0] kk ⟨⟨kk,mok h32 _,trivial,trivial⟩,⟨kk,hks _,trivial⟩,trivial⟩ ⟨?_,rfl⟩;dsimp only;rw [hdl];rfl
  rintro ⟨j,L,r,a1,c1,R1⟩ I;have hj:=I.j;have hll:=I.ll;have hrl:=I.rl;have he:=I.e;have hq:=I.q;dsimp only at hj hll hrl he hq ⊢;(conv=>whnf);refine Cond.d (fun h=>?_) (fun h=>?_)
  · have hj' : j < l.length:=by omega
    have hs : lionB key b (l.take (j + 1)) = lionR key l[j] (L ++ r):=by
      rw [List.take_succ_eq_append_getElem hj',qa9,← he]
    have hlj:=hl l[j] (List.getElem_mem hj');(conv=>whnf);refine ⟨by omega,PtrOb.rd (A:=A) (by simp) hL (by rw [q56];omega) fun p hp=>?_⟩;subst hp;(conv=>whnf);refine ldr (A:=A) (l:=l) j (by simp) hL hj' rfl rfl rfl (by show _ + (j : Int).toNat * 2 = _;omega) ?_;generalize l[j] = i at hs hlj ⊢;(conv=>whnf);intro b10;(conv=>whnf);obtain rfl | rfl | rfl | rfl : i = 1 ∨ i = 2 ∨ i = 3 ∨ i = 4:=by omega
    all_goals refine Draw.a (by kernel_rfl) tt_ok (Tv.of (List.range 8) .nil) 7 (by kernel_rfl) ?_
    all_goals conv=>whnf
    · refine Cq.pu (q3r _ (hK.ent (Ent.a mm)) key hk (lionL 1) (by decide)) rfl ?_;(conv=>whnf);refine Sub.whole ?_;(conv=>whnf);refine Cq.by' [26] [] (qde _ _ (Ent.refl _) b26 (lionK key 1) L r (q64 _ _) hll a1 c1 (hq _ (Ent.a mm) (Ent.a mm)).1 (by omega)) rfl ⟨rfl,rfl,rfl,fun t ht=>⟨rfl,?_⟩⟩
      have hs2 : lionR key 1 (L ++ r) = L ++ xorB r (strS (xorB (lionK key 1) L) zn 0 ((r.length + 63) / 64)):=q8s hll;have hxl : (xorB r (strS (xorB (lionK key 1) L) zn 0 ((r.length + 63) / 64))).length = r.length:=q16 (by rw [q2t];omega);rw [hs2] at hs;generalize xorB r (strS (xorB (lionK key 1) L) zn 0 ((r.length + 63) / 64)) = r' at hs hxl ⊢;(conv=>whnf);refine Ar.i64 (by omega) ?_;conv=>whnf
      refine ⟨⟨j + 1,L,r',t,r.length,OwnO t r.length 5 1 (u8s r')⟩,⟨by dsimp only;omega,hll,by dsimp only;omega,hs.symm,fun X e1 _=>⟨OwnO.rd.ent e1,by dsimp only;omega,fun e=>?_⟩⟩,by dsimp only;omega,?_⟩
      · have:=ht e;exact List.length_eq_zero_iff.1 (by rw [hxl,this];rfl)
      refine Wk.m [26,3] [0,1] kk ⟨⟨kk,mok hll _,trivial,trivial⟩,⟨kk,hks _,trivial⟩,trivial⟩ ⟨?_,rfl⟩;dsimp only;rw [hxl];rfl
    · refine Cq.pu (q3r _ (hK.ent (Ent.a mm)) key hk (lionL 2) (by decide)) rfl ?_;(conv=>whnf);refine Sub.whole ?_;(conv=>whnf);refine Cq.by' [26] [] (qn5 _ _ (Ent.refl _) (hK.ent (Ent.a mm)) b26 (lionK key 2) L r (q64 _ _) hll a1 c1 (hq _ (Ent.a mm) (Ent.a mm)) (by omega)) rfl ⟨rfl,rfl,rfl,fun t ht=>⟨rfl,?_⟩⟩
      have hs2 : lionR key 2 (L ++ r) = xorB L (macD (lionK key 2) r) ++ r:=q9b hll;have hxl : (xorB L (macD (lionK key 2) r)).length = 32:=by rw [q16 (by rw [q27];omega),hll]
      rw [hs2] at hs;generalize xorB L (macD (lionK key 2) r) = L' at hs hxl ⊢;(conv=>whnf);refine Ar.i64 (by omega) ?_;(conv=>whnf);exact ⟨⟨j + 1,L',r,a1,c1,R1⟩,⟨by dsimp only;omega,hxl,hrl,hs.symm,hq⟩,by dsimp only;omega,Wk.m [26,3] [0,0] kk ⟨⟨kk,mok hxl _,trivial,trivial⟩,⟨kk,hks _,trivial⟩,trivial⟩ ⟨rfl,rfl⟩⟩
    · refine Cq.pu (q3r _ (hK.ent (Ent.a mm)) key hk (lionL 3) (by decide)) rfl ?_;(conv=>whnf);refine Sub.whole ?_;(conv=>whnf);refine Cq.by' [26] [] (qde _ _ (Ent.refl _) b26 (lionK key 3) L r (q64 _ _) hll a1 c1 (hq _ (Ent.a mm) (Ent.a mm)).1 (by omega)) rfl ⟨rfl,rfl,rfl,fun t ht=>⟨rfl,?_⟩⟩
      have hs2 : lionR key 3 (L ++ r) = L ++ xorB r (strS (xorB (lionK key 3) L) zn 0 ((r.length + 63) / 64)):=q8s hll;have hxl : (xorB r (strS (xorB (lionK key 3) L) zn 0 ((r.length + 63) / 64))).length = r.length:=q16 (by rw [q2t];omega);rw [hs2] at hs;generalize xorB r (strS (xorB (lionK key 3) L) zn 0 ((r.length + 63) / 64)) = r' at hs hxl ⊢;(conv=>whnf);refine Ar.i64 (by omega) ?_;conv=>whnf
      refine ⟨⟨j + 1,L,r',t,r.length,OwnO t r.length 5 1 (u8s r')⟩,⟨by dsimp only;omega,hll,by dsimp only;omega,hs.symm,fun X e1 _=>⟨OwnO.rd.ent e1,by dsimp only;omega,fun e=>?_⟩⟩,by dsimp only;omega,?_⟩
      · have:=ht e;exact List.length_eq_zero_iff.1 (by rw [hxl,this];rfl)
      refine Wk.m [26,3] [0,1] kk ⟨⟨kk,mok hll _,trivial,trivial⟩,⟨kk,hks _,trivial⟩,trivial⟩ ⟨?_,rfl⟩;dsimp only;rw [hxl];rfl
    · refine Cq.pu (q3r _ (hK.ent (Ent.a mm)) key hk (lionL 4) (by decide)) rfl ?_;(conv=>whnf);refine Sub.whole ?_;(conv=>whnf);refine Cq.by' [26] [] (qn5 _ _ (Ent.refl _) (hK.ent (Ent.a mm)) b26 (lionK key 4) L r (q64 _ _) hll a1 c1 (hq _ (Ent.a mm) (Ent.a mm)) (by omega)) rfl ⟨rfl,rfl,rfl,fun t ht=>⟨rfl,?_⟩⟩
      have hs2 : lionR key 4 (L ++ r) = xorB L (macD (lionK key 4) r) ++ r:=q9b hll;have hxl : (xorB L (macD (lionK key 4) r)).length = 32:=by rw [q16 (by rw [q27];omega),hll]
      rw [hs2] at hs;generalize xorB L (macD (lionK key 4) r) = L' at hs hxl ⊢;(conv=>whnf);refine Ar.i64 (by omega) ?_;(conv=>whnf);exact ⟨⟨j + 1,L',r,a1,c1,R1⟩,⟨by dsimp only;omega,hxl,hrl,hs.symm,hq⟩,by dsimp only;omega,Wk.m [26,3] [0,0] kk ⟨⟨kk,mok hxl _,trivial,trivial⟩,⟨kk,hks _,trivial⟩,trivial⟩ ⟨rfl,rfl⟩⟩
  obtain rfl : j = l.length:=by omega
  rw [List.take_length] at he;rw [← he];(conv=>whnf);refine Draw.a (by kernel_rfl) tt_ok (Tv.of (List.range 11) .nil) 1000000 (by kernel_rfl) ?_;(conv=>whnf);refine q2q (a:=some (radr (b26,0))) (n:=32) (cap:=32) (k:=r.length) (xs:=u8s L) (ys:=u8s r) rfl (Src.slc (by exact ⟨[Value.slice a1 r.length c1],by show u8s L ++ [Value.slice a1 r.length c1] = _;rfl⟩)) (by omega) (by rw [u8l,hll]) (q0s _) (u8l _) (Src.rsA (hq _ (Ent.a mm) (Ent.a mm)).1) (q0s _) ⟨rfl,by decide,by decide⟩ (by omega) 24 (.inr rfl) ?_;intro a50 c50 hc50 hn50
  rw [← q0n];(conv=>whnf);refine Sub.r [26,3] [1,1] ?_;(conv=>whnf);have hLr : (L ++ r).length = 32 + r.length:=by rw [List.length_append,hll]
  refine Ret.m (a50,c50) [] [0,1] ⟨by dsimp only;omega,fun h=>absurd h hn50⟩ ?_ kk kk ⟨rfl,rfl⟩;show Value.tuple #[Value.slice a50 (32 + r.length) c50,_] = Value.tuple #[Value.slice a50 (L ++ r).length c50,_];rw [hLr];rfl
theorem qnb (A R : HP) (hE : Ent A R) (hK : Gl A) (key : List UInt8) (hk : key.length = 32) (a : Option Addr) (cap : Nat) (b : List UInt8) (hb : Bts R a cap b) (hn : b.length ≤ 1000000) :
    Con Tryz.prog 25 [.agg [.many 32 (u8s key)],.c (.rs a b.length cap)] [] [] A (fun t : Option Addr × Nat=>Fc t.1 t.2 (lockS key b).1) (fun t=>.tup [.c (.rs t.1 (lockS key b).1.length t.2),.c (.int .i64 (lockS key b).2)]) (fun _=>[]) (fun t=>[Own t.1 t.2 5 1 (u8s (lockS key b).1)]):=by
  have hb:=hb.ent hE;have hks:=mok hk;unfold lockS;refine Con.of' tt_ok Tryz.func25 rfl (by decide) [.agg [.many 32 (u8s key)],.c (.rs a b.length cap)] [] [] rfl rfl trivial ⟨⟨hks _,trivial⟩,trivial,trivial⟩ rfl ?_;(conv=>whnf);intro b2;(conv=>whnf);refine Draw.a (by kernel_rfl) tt_ok (Tv.of [0,2,1,3,4,5,6,7] .nil) 1000000 (by kernel_rfl) ?_;(conv=>whnf);refine Cq.new (qgj _) rfl fun b7 _=>?_;(conv=>whnf);refine Sub.r [2] [1] ?_;conv=>whnf
  refine Cq.new (qmy _ (Own (some (radr (b7,0))) 4 150 2 (rowD [1,2,3,4])) A (Ent.a mm) (Ent.a mm) (hK.ent (Ent.a mm)) key hk (some (radr (b7,0))) 4 [1,2,3,4] (by decide) (by decide) (by decide) Own.rd a cap b hb hn) rfl ?_;rintro ⟨a9,c9⟩ h9;generalize lionS [1,2,3,4] key b = Z at h9 ⊢;obtain ⟨B,e⟩:=Z;dsimp only at h9 ⊢;(conv=>whnf);refine Sub.r [2] [2] ?_;(conv=>whnf);exact Ret.m (a9,c9) [] [0,1] h9 rfl kk kk ⟨rfl,rfl⟩
theorem qf4 (A R : HP) (hE : Ent A R) (hK : Gl A) (key : List UInt8) (hk : key.length = 32) (a : Option Addr) (cap : Nat) (b : List UInt8) (hb : Bts R a cap b) (hn : b.length ≤ 1000000) :
    Con Tryz.prog 47 [.agg [.many 32 (u8s key)],.c (.rs a b.length cap)] [] [] A (fun t : Option Addr × Nat=>Fc t.1 t.2 (q0p key b).1) (fun t=>.tup [.c (.rs t.1 (q0p key b).1.length t.2),.c (.int .i64 (q0p key b).2)]) (fun _=>[]) (fun t=>[Own t.1 t.2 5 1 (u8s (q0p key b).1)]):=by
  have hb:=hb.ent hE;have hks:=mok hk;unfold q0p;refine Con.of' tt_ok Tryz.func47 rfl (by decide) [.agg [.many 32 (u8s key)],.c (.rs a b.length cap)] [] [] rfl rfl trivial ⟨⟨hks _,trivial⟩,trivial,trivial⟩ rfl ?_;(conv=>whnf);intro b2;(conv=>whnf);refine Cq.new (qgj _) rfl fun b7 _=>?_;(conv=>whnf);refine Cq.by' [] [0] (qif _ (some (radr (b7,0))) 4 (by decide)) rfl ⟨rfl,rfl,rfl,fun _ _=>⟨rfl,?_⟩⟩
  (conv=>whnf);refine Cq.new (qmy _ (Own (some (radr (b7,0))) 4 150 2 (rowD [4,3,2,1])) A (Ent.a mm) (Ent.a mm) (hK.ent (Ent.a mm)) key hk (some (radr (b7,0))) 4 [4,3,2,1] (by decide) (by decide) (by decide) Own.rd a cap b hb hn) rfl ?_;rintro ⟨a9,c9⟩ h9;generalize lionS [4,3,2,1] key b = Z at h9 ⊢;obtain ⟨B,e⟩:=Z;dsimp only at h9 ⊢;(conv=>whnf);exact Ret.m (a9,c9) [] [0,1] h9 rfl kk kk ⟨rfl,rfl⟩
end
section
attribute [local irreducible] macD q01 strS lionB
theorem qi1 (A : HP) (hK : Gl A) (s : List UInt8) (hs : s.length = 32) : Pu Tryz.prog 22 [.agg [.many 32 (u8s s)]] A (.agg [.many 32 (u8s (q09 s))]):=by
  have hks:=mok hs;refine Con.of' tt_ok Tryz.func22 rfl (by decide) [.agg [.many 32 (u8s s)]] [] [] rfl rfl trivial ⟨⟨hks _,trivial⟩,trivial⟩ rfl ?_;(conv=>whnf);intro b1;(conv=>whnf);intro b2;(conv=>whnf);refine Cq.pu (q3r _ (hK.ent (Ent.a mm)) s hs [112,105] (by decide)) rfl ?_;(conv=>whnf);exact Ret.m () [] [0] trivial rfl ⟨mok (q2n s) _,trivial⟩ kk ⟨rfl,rfl⟩
def roomV (a : Option Addr) (cap : Nat) (b : List UInt8) : SV:=if b.take 16 = z16 then .tup [.c (.rs (cutA a cap 16 1) (b.length - 16) (cap - 16)),.c (.int .i64 0)] else .tup [.c (.rs none 0 0),.c (.int .i64 5)]
theorem qno (A R : HP) (hE : Ent A R) (a : Option Addr) (cap : Nat) (b : List UInt8) (hb : Bts R a cap b) (h1 : 16 ≤ b.length) (h2 : b.length ≤ 1000000) :
    Pu Tryz.prog 48 [.c (.rs a b.length cap)] A (roomV a cap b):=by
  have hb:=hb.ent hE;have hcp:=hb.2.1
  have hbt : Bts A (cutA a cap 0 1) (cap - 0) (b.take 16):=by
    have:=hb.sub 0 16 (by omega)
    rwa [List.drop_zero] at this
  have htl : (b.take 16).length = 16:=by rw [List.length_take];omega
  refine Con.of' tt_ok Tryz.func48 rfl (by decide) [.c (.rs a b.length cap)] [] [] rfl rfl trivial kk rfl ?_;(conv=>whnf);refine Draw.a (by kernel_rfl) tt_ok (Tv.of (List.range 5) .nil) 1000000 (by kernel_rfl) ?_;(conv=>whnf);refine ⟨⟨by omega,by omega⟩,?_⟩;(conv=>whnf);refine ⟨by decide,?_⟩;intro b6;(conv=>whnf);refine Sub.r [] [0] ?_;conv=>whnf
  refine Cq.pu (qin _ A (blk b6 (.cells (List.replicate 16 (Value.int .u8 0) ++ []).toArray 5)) (Ent.a mm) (Ent.a mm) (cutA a cap 0 1) (cap - 0) (b.take 16) hbt (some (radr (b6,0))) 16 z16 ⟨by unfold z16;rw [q4k];exact q1p,by decide,fun h=>by cases h⟩ (by omega)) (by rw [htl];rfl) ?_;(conv=>whnf);refine Sub.r [] [0] ?_;(conv=>whnf);refine Cond.not (Cond.d (fun h3=>?_) (fun h3=>?_))
  case' refine_2 =>
    have e : roomV a cap b = .tup [.c (.rs none 0 0),.c (.int .i64 5)]:=if_neg h3;rw [e];(conv=>whnf);exact Ret.m () [] [0] trivial rfl kk kk ⟨rfl,rfl⟩
  have e : roomV a cap b = .tup [.c (.rs (cutA a cap 16 1) (b.length - 16) (cap - 16)),.c (.int .i64 0)]:=if_pos h3;rw [e];(conv=>whnf);refine ⟨by omega,?_⟩;(conv=>whnf);exact Ret.m () [] [0] trivial rfl kk kk ⟨rfl,rfl⟩
theorem qq2 (A R : HP) (hE : Ent A R) (hK : Gl A) (key : List UInt8) (hk : key.length = 32) (a : Option Addr) (cap : Nat) (room : List UInt8) (hb : Bts R a cap room) (hn : room.length ≤ 1000000) :
    BXE 20 [.agg [.many 32 (u8s key)],.c (.rs a room.length cap)] A (sealS key room):=by
  have hb:=hb.ent hE;have hr:=hb.1;have hks:=mok hk;refine Con.of' tt_ok Tryz.func20 rfl (by decide) [.agg [.many 32 (u8s key)],.c (.rs a room.length cap)] [] [] rfl rfl trivial ⟨⟨hks _,trivial⟩,trivial,trivial⟩ rfl ?_;(conv=>whnf);intro b2;(conv=>whnf);refine Cond.neI (fun h=>?_) (fun h=>?_)
  · have e : sealS key room = ([],5):=if_neg (by omega);rw [e];(conv=>whnf);refine Ret.own0 5 1 ?_;exact Ret.m (none,0,Own none 0 5 1 []) [] [0,0] q1d rfl kk kk ⟨rfl,rfl⟩
  have e : sealS key room = lockS key (z16 ++ room):=if_pos (by omega);rw [e];have h5 : room.length = 512:=by omega
  have hzl : (z16 ++ room).length = 528:=by rw [List.length_append,q5j,h5]
  (conv=>whnf);refine Draw.a (by kernel_rfl) tt_ok (Tv.of [0,2,1,3,4,5,6,7,8] .nil) 1000000 (by kernel_rfl) ?_;(conv=>whnf);refine ⟨by decide,?_⟩;intro b10;(conv=>whnf);refine Sub.r [2] [0] ?_;conv=>whnf
  refine q2q (a:=some (radr (b10,0))) (n:=16) (cap:=16) (k:=room.length) (xs:=u8s z16) (ys:=u8s room) rfl (Src.slc (by exact ⟨[],by show List.replicate 16 (Value.int .u8 0) ++ [] = _;unfold z16;rw [q4k]⟩)) (by omega) (by rw [u8l,q5j]) (q0s _) (u8l _) (Src.rs (A:=A) (by simp) hr) (q0s _) ⟨rfl,by decide,by decide⟩ (by omega) 24 (.inr rfl) ?_;intro a12 c12 hc12 hn12;rw [← q0n];(conv=>whnf);refine Sub.r [2] [1] ?_;conv=>whnf
  refine Cq.new (qnb _ (Own a12 c12 5 1 (u8s (z16 ++ room))) (Ent.a mm) (hK.ent (Ent.a mm)) key hk a12 c12 (z16 ++ room) ⟨Own.rd,by omega,fun h=>absurd h hn12⟩ (by omega)) (by rw [hzl,h5];rfl) ?_;rintro ⟨a13,c13⟩ h13;generalize lockS key (z16 ++ room) = Z at h13 ⊢;obtain ⟨B,e⟩:=Z;dsimp only at h13 ⊢;(conv=>whnf);refine Sub.r [2] [2] ?_;(conv=>whnf);exact Ret.m (a13,c13,Own a13 c13 5 1 (u8s B)) [] [0,1] (q4f h13) rfl kk kk ⟨rfl,rfl⟩
theorem qqx (A R : HP) (hE : Ent A R) (hK : Gl A) (key : List UInt8) (hk : key.length = 32) (a : Option Addr) (cap : Nat) (body : List UInt8) (hb : Bts R a cap body) (hn : body.length ≤ 1000000) :
    BXE 27 [.agg [.many 32 (u8s key)],.c (.rs a body.length cap)] A (openS key body):=by
  have hb:=hb.ent hE;have hks:=mok hk;refine Con.of' tt_ok Tryz.func27 rfl (by decide) [.agg [.many 32 (u8s key)],.c (.rs a body.length cap)] [] [] rfl rfl trivial ⟨⟨hks _,trivial⟩,trivial,trivial⟩ rfl ?_;(conv=>whnf);intro b2;(conv=>whnf);refine Cond.neI (fun h=>?_) (fun h=>?_)
  · have e : openS key body = ([],5):=if_neg (by omega);rw [e];(conv=>whnf);refine Ret.own0 5 1 ?_;exact Ret.m (none,0,Own none 0 5 1 []) [] [0,0] q1d rfl kk kk ⟨rfl,rfl⟩
  have e : openS key body = roomS (q0p key body).1:=if_pos (by omega);rw [e];have hul:=q5i (key:=key) (b:=body) (by omega) (by omega);(conv=>whnf);refine Cq.new (qf4 _ A (Ent.a mm) (hK.ent (Ent.a mm)) key hk a cap body hb (by omega)) rfl ?_;rintro ⟨a6,c6⟩ h6;generalize q0p key body = Z at hul h6 ⊢;obtain ⟨B,e6⟩:=Z;dsimp only at hul h6 ⊢;obtain ⟨hBl,rfl⟩:=hul;(conv=>whnf);refine Cond.neI (fun h=>absurd rfl h) (fun _=>?_);conv=>whnf
  refine Cq.pu (qno _ (Own a6 c6 5 1 (u8s B)) (Ent.a mm) a6 c6 B ⟨Own.rd,h6⟩ (by omega) (by omega)) rfl ?_;have hc6:=h6.1
  by_cases h3 : B.take 16 = z16
  · have e : roomS B = (B.drop 16,0):=if_pos h3;have e2 : roomV a6 c6 B = .tup [.c (.rs (cutA a6 c6 16 1) (B.length - 16) (c6 - 16)),.c (.int .i64 0)]:=if_pos h3;rw [e,e2];(conv=>whnf);refine Ret.m (cutA a6 c6 16 1,c6 - 16,Own a6 c6 5 1 (u8s B)) [] [0,0] ((q4f h6).drop 16 (by omega)) ?_ kk kk ⟨rfl,rfl⟩;show Value.tuple #[Value.slice (cutA a6 c6 16 1) (B.length - 16) (c6 - 16),_] = Value.tuple #[Value.slice (cutA a6 c6 16 1) (B.drop 16).length (c6 - 16),_];rw [List.length_drop];rfl
  · have e : roomS B = ([],5):=if_neg h3;have e2 : roomV a6 c6 B = .tup [.c (.rs none 0 0),.c (.int .i64 5)]:=if_neg h3;rw [e,e2];(conv=>whnf);refine Ret.own0 5 1 ?_;exact Ret.m (none,0,Own none 0 5 1 []) [] [0,1] q1d rfl kk kk ⟨rfl,rfl⟩
end
section
attribute [local irreducible] macD q01 strS q03 q00 q02 q0e q06 q05 q08 q0a q0d q0b lionB lockS q09 openB q0j decC tagH q13 q12 q11 q0h
set_option maxHeartbeats 2000000 in
theorem qqw (A R : HP) (hE : Ent A R) (hK : Gl A) (own : List UInt8) (hw : own.length = 32) (a : Option Addr) (cap : Nat) (p : List UInt8) (hb : Bts R a cap p) (hn : p.length ≤ 1000000) :
    Con Tryz.prog 14 [.agg [.many 32 (u8s own)],.c (.rs a p.length cap)] [] [] A (fun t : PlS=>Bts t.X t.an t.cn (peelS own p).1.next ∧ Bts t.X t.ar t.cr (peelS own p).1.room) (fun t=>.tup [.agg (rpl (peelS own p).1 t),.c (.int .i64 (peelS own p).2)]) (fun _=>[]) (fun t=>[t.X]):=by
  have hb:=hb.ent hE;have hks:=mok hw;have hcp:=hb.2.1;have hPa:=qqr (own:=own) (p:=p);have hPb:=qr7 (own:=own) (p:=p);have hPc:=qmx (own:=own) (p:=p);generalize peelS own p = Z at hPa hPb hPc ⊢;refine Con.of' tt_ok Tryz.func14 rfl (by decide) [.agg [.many 32 (u8s own)],.c (.rs a p.length cap)] [] [] rfl rfl trivial ⟨⟨hks _,trivial⟩,trivial,trivial⟩ rfl ?_;(conv=>whnf);intro b2;(conv=>whnf);intro b4;(conv=>whnf);refine Cond.neI (fun h=>?_) (fun h7=>?_)
  · rw [hPa (by omega)];(conv=>whnf);refine Ret.own0 5 1 ?_;exact Ret.m ⟨none,0,none,0,Own none 0 5 1 []⟩ [] [0,0] ⟨q1d,q1d⟩ rfl ⟨q9i qb8 ⟨none,0,none,0,A⟩ _,trivial,trivial⟩ kk ⟨rfl,rfl⟩
  have h7 : p.length = 736:=by omega
  have hPb:=hPb h7;have hPc:=hPc h7;clear hPa;have hl : (p.take 208).length = 208:=by rw [List.length_take];omega
  have oh:=qm9 hl
  have hb1 : Bts A (cutA a cap 0 1) (cap - 0) (p.take 208):=by
    have:=hb.sub 0 208 (by omega)
    rwa [List.drop_zero] at this
  have hb2 : Bts A (cutA a cap 208 1) (cap - 208) (p.drop 208):=hb.drop 208 (by omega);have hde : q90 (p.take 208) = (hdrOf (p.take 208),0):=if_pos hl;(conv=>whnf);refine ⟨⟨by omega,by omega⟩,?_⟩;(conv=>whnf);refine Cq.pu (qkz _ A (Ent.a mm) (cutA a cap 0 1) (cap - 0) (p.take 208) hb1 (by omega)) (by rw [hl];rfl) ?_;rw [hde];have oZ:=qgw own oh;have CU:=fun A hK=>qln A hK own hw (hdrOf (p.take 208)) oh;generalize hdrOf (p.take 208) = hd at oh hPb hPc oZ CU ⊢;dsimp only;(conv=>whnf);intro b6;conv=>whnf
  refine Cond.neI (fun h=>absurd rfl h) (fun _=>?_);(conv=>whnf);refine Cq.pu (CU _ (hK.ent (Ent.a mm))) rfl ?_;generalize q0h own hd = U at hPb hPc oZ ⊢;obtain ⟨st,e⟩:=U;dsimp only at hPb hPc oZ ⊢;(conv=>whnf);intro b8;(conv=>whnf);refine Cond.neI (fun hz=>?_) (fun hz=>?_)
  · rw [hPb hz];(conv=>whnf);refine Ret.own0 5 1 ?_;exact Ret.m ⟨none,0,none,0,Own none 0 5 1 []⟩ [] [0,0] ⟨q1d,q1d⟩ rfl ⟨q9i qb8 ⟨none,0,none,0,A⟩ _,trivial,trivial⟩ kk ⟨rfl,rfl⟩
  rw [hPc hz];subst hz;have hks2:=oZ.s;have hd2 : (p.drop 208).length = 528:=by rw [List.length_drop];omega
  (conv=>whnf);refine Draw.a (by kernel_rfl) tt_ok (Tv.of [0,1,3,4,2,5,6,7,8,9,10] .nil) 1000000 (by kernel_rfl) ?_;(conv=>whnf);refine ⟨⟨by omega,by omega⟩,?_⟩;(conv=>whnf);refine Cq.pu (qi1 _ (hK.ent (Ent.a mm)) st.secret hks2) rfl ?_;(conv=>whnf);refine Sub.r [8,6,4,2] [0] ?_;(conv=>whnf);refine Cq.new (qf4 _ A (Ent.a mm) (hK.ent (Ent.a mm)) (q09 st.secret) (q2n _) (cutA a cap 208 1) (cap - 208) (p.drop 208) hb2 (by omega)) (by rw [List.length_drop];rfl) ?_
  have hul:=q5i (key:=q09 st.secret) (b:=p.drop 208) (by omega) (by omega);generalize q0p (q09 st.secret) (p.drop 208) = V at hul ⊢;obtain ⟨B,eB⟩:=V;rintro ⟨a10,c10⟩ h10;dsimp only at hul h10 ⊢;obtain ⟨hBl,rfl⟩:=hul;(conv=>whnf);refine Sub.r [8,6,4,2] [1] ?_;(conv=>whnf);refine Cond.neI (fun h=>absurd rfl h) (fun _=>?_);(conv=>whnf);intro b12;(conv=>whnf);have oN:=oZ.n;have hel:=q5b oN;have hc10:=h10.1;refine Cond.eqI (fun k1=>?_) (fun k1=>?_)
  · rw [qpa k1];(conv=>whnf);refine Cq.fb (q86 _ st.next oN) rfl fun a60 c60 h60=>?_;(conv=>whnf);refine appb (l:=encH st.next) (m:=B) (.refl _) (Src.rs (A:=Own a10 c10 5 1 (u8s B)) (by simp) Own.rd) rfl rfl ⟨rfl,by decide,by decide⟩ (by omega) 24 (.inr rfl) ?_;clear h60;intro a60 c60 h60;(conv=>whnf);exact Ret.m ⟨a60,c60,none,0,Own a60 c60 5 1 (u8s (encH st.next ++ B))⟩ [] [0,1] ⟨q4f h60,q1d⟩ rfl ⟨q9i (Z:=⟨st.cmd,encH st.next ++ B,st.tag,[]⟩) ⟨oZ.c,oZ.t⟩ ⟨a60,c60,none,0,A⟩ _,trivial,trivial⟩ kk ⟨rfl,rfl⟩
  (conv=>whnf);refine Cond.eqI (fun k2=>?_) (fun k2=>?_)
  · (conv=>whnf);refine Cq.pu (qno _ (Own a10 c10 5 1 (u8s B)) (Ent.a mm) a10 c10 B ⟨Own.rd,h10⟩ (by omega) (by omega)) rfl ?_
    by_cases h3 : B.take 16 = z16
    · have e2 : roomV a10 c10 B = .tup [.c (.rs (cutA a10 c10 16 1) (B.length - 16) (c10 - 16)),.c (.int .i64 0)]:=if_pos h3;rw [e2,qoa k2 h3];(conv=>whnf);refine Cond.neI (fun h=>absurd rfl h) (fun _=>?_);(conv=>whnf);have hdl : (B.drop 16).length = B.length - 16:=List.length_drop;refine Ret.m ⟨none,0,cutA a10 c10 16 1,c10 - 16,Own a10 c10 5 1 (u8s B)⟩ [] [0,0] ⟨q1d,(q4f h10).drop 16 (by omega)⟩ ?_ ⟨q9i (Z:=⟨st.cmd,[],st.tag,B.drop 16⟩) ⟨oZ.c,oZ.t⟩ ⟨none,0,cutA a10 c10 16 1,c10 - 16,A⟩ _,trivial,trivial⟩ kk ⟨rfl,rfl⟩
      show _ = SV.den [] (.tup [.agg [.one (.int .i64 st.cmd.k),.one (.int .i64 st.cmd.n),.one (.int .i64 st.cmd.d),.many 8 (u8s st.cmd.id),.one (.rs none 0 0),.many 16 (u8s st.tag),.one (.rs (cutA a10 c10 16 1) (B.drop 16).length (c10 - 16))],.c (.int .i64 0)]);rw [hdl];rfl
    · have e2 : roomV a10 c10 B = .tup [.c (.rs none 0 0),.c (.int .i64 5)]:=if_neg h3;rw [e2,qp0 k2 h3];(conv=>whnf);refine Cond.neI (fun _=>?_) (fun h=>absurd h (by decide));(conv=>whnf);refine Ret.own0 5 1 ?_;exact Ret.m ⟨none,0,none,0,Own none 0 5 1 []⟩ [] [0,1] ⟨q1d,q1d⟩ rfl ⟨q9i qb8 ⟨none,0,none,0,A⟩ _,trivial,trivial⟩ kk ⟨rfl,rfl⟩
  (conv=>whnf);refine Cond.eqI (fun k3=>?_) (fun k3=>?_)
  · rw [qpo k3];(conv=>whnf);exact Ret.m ⟨none,0,a10,c10,Own a10 c10 5 1 (u8s B)⟩ [] [0,0] ⟨q1d,q4f h10⟩ rfl ⟨q9i (Z:=⟨st.cmd,[],st.tag,B⟩) ⟨oZ.c,oZ.t⟩ ⟨none,0,a10,c10,A⟩ _,trivial,trivial⟩ kk ⟨rfl,rfl⟩
  rw [qol k1 k2 k3];(conv=>whnf);refine Ret.own0 5 1 ?_;exact Ret.m ⟨none,0,none,0,Own none 0 5 1 []⟩ [] [0,1] ⟨q1d,q1d⟩ rfl ⟨q9i (Z:=⟨st.cmd,[],st.tag,[]⟩) ⟨oZ.c,oZ.t⟩ ⟨none,0,none,0,A⟩ _,trivial,trivial⟩ kk ⟨rfl,rfl⟩
end
end Go.Proofs.YtfehjfoajlfhfaaGreatDoor
