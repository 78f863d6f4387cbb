import Derived.Test.YtfehjfoajlfhfaaGreatDoorWc
namespace Go.Proofs.YtfehjfoajlfhfaaGreatDoor
open Go.Sx
set_option maxRecDepth 100000
set_option pp.deepTerms false
set_option pp.maxSteps 300
set_option linter.unusedSimpArgs false
set_option linter.unusedVariables false
section
def rotl (x : UInt32) (s : Nat) : UInt32:=x <<< UInt32.ofNat s ||| x >>> UInt32.ofNat (32 - s)
theorem rot_c (A : HP) (x : UInt32) (k : Int) (s : Nat) (hs : 1 ≤ s ∧ s ≤ 31) (hk : k % 32 = s) (hb : -1000 ≤ k ∧ k ≤ 1000) : Pu Tryz.prog 193 [.c (.int .u32 (x.toNat : Int)),.c (.int .i64 k)] A (.c (.int .u32 ((rotl x s).toNat : Int))):=by
  refine Con.of' tt_ok Tryz.func193 rfl (by decide) [.c (.int .u32 (x.toNat : Int)),.c (.int .i64 k)] [] [] rfl rfl trivial kk rfl ?_;(conv=>whnf);refine Ar.wr ?_;(conv=>whnf);rw [and31,hk];refine ⟨by omega,?_⟩;have e1 : min (s : Int).toNat IntKind.u32.bits = s:=by simp only [IntKind.bits];omega
  rw [e1];refine Ar.wshl (.base x) s (by omega) ?_;(conv=>whnf);refine Ar.u64 (by omega) ?_;(conv=>whnf);refine ⟨by omega,?_⟩;have e2 : min ((32 : Int) - s).toNat IntKind.u32.bits = 32 - s:=by simp only [IntKind.bits];omega
  rw [e2];(conv=>whnf);refine Ret.m () [] [0] trivial ?_ kk kk ⟨rfl,rfl⟩;have:=(Wd.or (.base (x <<< UInt32.ofNat s)) (Wd.shr (.base x) (32 - s) (by omega))).h;show Value.int .u32 _ = Value.int .u32 _;rw [this];rfl
def wordB (b : List UInt8) : UInt32:=(UInt8.ofNat (gd b 0)).toUInt32 <<< 24 ||| (UInt8.ofNat (gd b 1)).toUInt32 <<< 16 ||| (UInt8.ofNat (gd b 2)).toUInt32 <<< 8 ||| (UInt8.ofNat (gd b 3)).toUInt32
theorem gd8 (b : List UInt8) (k : Nat) : (gd b k : Int) = ((UInt8.ofNat (gd b k)).toNat : Int):=by
  have:=gd_lt b k
  simp [Nat.mod_eq_of_lt this]
theorem qq8 (A R : HP) (hE : Ent A R) (a : Option Addr) (cap : Nat) (b : List UInt8) (hb : Rd R a (u8s b)) (hl : 4 ≤ b.length) : Pu Tryz.prog 204 [.c (.rs a b.length cap)] A (.c (.int .u32 ((wordB b).toNat : Int))):=by
  refine Con.of' tt_ok Tryz.func204 rfl (by decide) [.c (.rs a b.length cap)] [] [] rfl rfl trivial kk rfl ?_;(conv=>whnf);refine Draw.quiet (by kernel_rfl) tt_ok (List.range 23) (by kernel_rfl) ?_;have hr:=hb.ent hE;(conv=>whnf);refine idx (A:=A) 0 (by simp) hr (by omega) rfl fun p hp=>?_;subst hp;(conv=>whnf);refine ldb (A:=A) 0 (by simp) hr (by omega) rfl rfl (by first | rfl | simp) ?_;(conv=>whnf);refine Ar.w8 (gd8 b 0) ?_;(conv=>whnf);refine ⟨by decide,?_⟩;refine Ar.wshl (.base _) 24 (by decide) ?_;(conv=>whnf);refine ⟨by omega,PtrOb.at ?_⟩
  (conv=>whnf);refine ldb (A:=A) 1 (by simp) hr (by omega) rfl rfl (by first | rfl | simp) ?_;(conv=>whnf);refine Ar.w8 (gd8 b 1) ?_;(conv=>whnf);refine ⟨by decide,?_⟩;refine Ar.wshl (.base _) 16 (by decide) ?_;(conv=>whnf);refine ⟨by omega,PtrOb.at ?_⟩;(conv=>whnf);refine ldb (A:=A) 2 (by simp) hr (by omega) rfl rfl (by first | rfl | simp) ?_;(conv=>whnf);refine Ar.w8 (gd8 b 2) ?_;(conv=>whnf);refine ⟨by decide,?_⟩;refine Ar.wshl (.base _) 8 (by decide) ?_;(conv=>whnf);refine ⟨by omega,PtrOb.at ?_⟩;conv=>whnf
  refine ldb (A:=A) 3 (by simp) hr (by omega) rfl rfl (by first | rfl | simp) ?_;(conv=>whnf);refine Ar.w8 (gd8 b 3) ?_;(conv=>whnf);refine Ret.m () [] [0] trivial ?_ kk kk ⟨rfl,rfl⟩;show Value.int .u32 _ = Value.int .u32 _;rw [(Wd.or (Wd.or (Wd.or (.base _) (.base _)) (.base _)) (.base _)).h];rfl
def sg0 (x : UInt32) : UInt32:=rotl x 25 ^^^ rotl x 14 ^^^ x >>> 3
def sg1 (x : UInt32) : UInt32:=rotl x 15 ^^^ rotl x 13 ^^^ x >>> 10
def q35 (b : List UInt8) (w : List UInt32) : UInt32 :=
  if w.length < 16 then wordB (b.drop (4 * w.length)) else sg1 (wg w (w.length - 2)) + wg w (w.length - 7) + sg0 (wg w (w.length - 15)) + wg w (w.length - 16)
def sch (b : List UInt8) : Nat → List UInt32
  | 0=>[]
  | t + 1=>sch b t ++ [q35 b (sch b t)]
theorem q2m (b : List UInt8) : ∀ t,(sch b t).length = t
  | 0=>rfl
  | t + 1=>by simp [sch,q2m b t]
def schL (b : List UInt8) (i : Nat) : List Value:=w32s (sch b i) ++ List.replicate (64 - i) (.int .u32 0)
theorem qee (b : List UInt8) {i : Nat} (hi : i ≤ 64) : ∀ B,Seg.ok B (.many 64 (schL b i)):=qor (by rw [q1b,q2m]) hi (qb4 _) rfl
theorem qg7 (b : List UInt8) {i : Nat} (hi : i < 64) (v : Value) (hv : v = w32 (q35 b (sch b i))) : (schL b i).take i ++ ([v] ++ (schL b i).drop (i + 1)) = schL b (i + 1):=by
  unfold schL;rw [qlm (by rw [q1b,q2m]) hi,hv,sch,q3h];rfl
theorem qkr (b : List UInt8) : schL b 64 = w32s (sch b 64):=by simp [schL]
theorem sch_c (A R : HP) (hE : Ent A R) (a : Option Addr) (cap : Nat) (b : List UInt8) (hb : Bts R a cap b) (hl : b.length = 64) : Pu Tryz.prog 192 [.c (.rs a b.length cap)] A (.agg [.many 64 (w32s (sch b 64))]):=by
  refine Con.of' tt_ok Tryz.func192 rfl (by decide) [.c (.rs a b.length cap)] [] [] rfl rfl trivial kk rfl ?_;have hcap:=hb.2.1;(conv=>whnf);intro b2;(conv=>whnf);intro b3;(conv=>whnf);have zok : ∀ B,Seg.ok B (.many 64 (List.replicate 64 (.int .u32 0))):=fun B=>⟨rfl,fun v hv=>by simp at hv;subst hv;rfl⟩
  refine LoopOb.m (σ:=Nat) (fun i=>[(0,.c (.rs a b.length cap)),(2,.c (.ptr 2 0)),(3,.c (.ptr 3 0)),(9,.c (.int .i64 i))])
    (fun i=>⟨[(3,b3),(2,b2)],[(3,[.many 64 (schL b i)],267),(2,[.many 64 (List.replicate 64 (.int .u32 0))],267)],[A]⟩) (fun i=>i ≤ 64) (fun i=>64 - i) 0 (Nat.zero_le _)
    (Wk.m [3,2] [0] ⟨⟨rfl,trivial⟩,⟨rfl,kk⟩,⟨rfl,kk⟩,⟨rfl,trivial⟩,trivial⟩ ⟨⟨trivial,qee b (by decide) _,trivial⟩,⟨trivial,zok _,trivial⟩,trivial⟩ ⟨rfl,rfl⟩) ?_
  intro i hi;(conv=>whnf);refine Cond.d (fun h=>?_) (fun h=>?_)
  case refine_2 =>
    have hi' : i = 64:=by omega
    subst hi';rw [qkr];have hk:=wmk (q2m b 64);(conv=>whnf);exact Ret.m () [] [0] trivial rfl ⟨hk _,trivial⟩ kk ⟨rfl,rfl⟩
  have hsl:=q2m b i;(conv=>whnf);refine Cond.d (fun h16=>?_) (fun h16=>?_)
  · (conv=>whnf);refine Ar.i64 (by omega) ?_;(conv=>whnf);refine ⟨by omega,?_⟩;(conv=>whnf);have ed : (b.drop (4 * i)).length = b.length - 4 * i:=List.length_drop;have hd:=hb.drop (4 * i) (by omega);refine Cq.pu (qq8 _ R ((Ent.a mm).trans hE) _ (cap - 4 * i) (b.drop (4 * i)) hd.1 (by omega)) ?_ ?_
    · have e4 : (4 * (i : Int)).toNat = 4 * i:=by omega
      show [Value.slice (cutA a cap (4 * (i : Int)).toNat 1) (b.length - (4 * (i : Int)).toNat) (cap - (4 * (i : Int)).toNat)] = [Value.slice (cutA a cap (4 * i) 1) (b.drop (4 * i)).length (cap - 4 * i)];rw [e4,ed]
    (conv=>whnf);refine ⟨by omega,?_⟩;(conv=>whnf);refine ⟨⟨rfl,by show (i : Int).toNat * 1 + 1 ≤ 64;omega⟩,?_⟩;(conv=>whnf);have e : q35 b (sch b i) = wordB (b.drop (4 * i)):=by unfold q35;rw [hsl,if_pos (by omega)]
    refine Ar.i64 (by omega) ?_;(conv=>whnf);refine ⟨i + 1,by omega,by omega,Wk.m [3,2] [0] ⟨⟨rfl,trivial⟩,⟨rfl,kk⟩,⟨rfl,kk⟩,⟨rfl,trivial⟩,trivial⟩ ⟨⟨trivial,qee b (by omega) _,trivial⟩,⟨trivial,zok _,trivial⟩,trivial⟩ ⟨?_,rfl⟩⟩;have e1 : (i : Int).toNat * 1 = i:=by omega
    show [blk b3 (.cells ((schL b i).take ((i : Int).toNat * 1) ++ ([_] ++ (schL b i).drop ((i : Int).toNat * 1 + 1)) ++ []).toArray _),_] = _;rw [e1,qg7 b (by omega) _ (by rw [e];rfl)];rfl
  have e : q35 b (sch b i) = sg1 (wg (sch b i) (i - 2)) + wg (sch b i) (i - 7) + sg0 (wg (sch b i) (i - 15)) + wg (sch b i) (i - 16):=by unfold q35;rw [hsl,if_neg (by omega)]
  (conv=>whnf);refine Draw.quiet (by kernel_rfl) tt_ok (List.range 10) (by kernel_rfl) ?_;(conv=>whnf);refine Ar.i64 (by omega) ?_;(conv=>whnf);refine ⟨by omega,?_⟩;refine q9k (i - 15) (by show ((i : Int) - 15).toNat * 1 = _;omega) (by omega) ?_;(conv=>whnf);refine Ar.i64 (by omega) ?_;(conv=>whnf);refine ⟨by omega,?_⟩;refine q9k (i - 2) (by show ((i : Int) - 2).toNat * 1 = _;omega) (by omega) ?_;generalize wg (sch b i) (i - 15) = x at e ⊢;generalize wg (sch b i) (i - 2) = y at e ⊢;conv=>whnf
  refine Cq.pu (rot_c _ x (-7) 25 (by decide) (by decide) (by decide)) rfl ?_;(conv=>whnf);refine Cq.pu (rot_c _ x (-18) 14 (by decide) (by decide) (by decide)) rfl ?_;(conv=>whnf);refine ⟨by decide,?_⟩;(conv=>whnf);refine Cq.pu (rot_c _ y (-17) 15 (by decide) (by decide) (by decide)) rfl ?_;(conv=>whnf);refine Cq.pu (rot_c _ y (-19) 13 (by decide) (by decide) (by decide)) rfl ?_;(conv=>whnf);refine ⟨by decide,?_⟩;have e0:=(Wd.xor (Wd.xor (.base (rotl x 25)) (.base (rotl x 14))) (Wd.shr (.base x) 3 (by decide))).h
  have e1:=(Wd.xor (Wd.xor (.base (rotl y 15)) (.base (rotl y 13))) (Wd.shr (.base y) 10 (by decide))).h;(conv=>whnf);refine Draw.last (by kernel_rfl) tt_ok (List.range 16) 15 (by kernel_rfl) ?_;(conv=>whnf);refine Ar.i64 (by omega) ?_;(conv=>whnf);refine ⟨by omega,?_⟩;refine q9k (i - 7) (by show ((i : Int) - 7).toNat * 1 = _;omega) (by omega) ?_;(conv=>whnf);refine Ar.wadd (x:=sg1 y) ⟨e1⟩ (.base _) ?_;(conv=>whnf);refine Ar.wadd (y:=sg0 x) (.base _) ⟨e0⟩ ?_;(conv=>whnf);refine Ar.i64 (by omega) ?_;(conv=>whnf);refine ⟨by omega,?_⟩
  refine q9k (i - 16) (by show ((i : Int) - 16).toNat * 1 = _;omega) (by omega) ?_;(conv=>whnf);refine Ar.wadd (.base _) (.base _) ?_;(conv=>whnf);refine ⟨by omega,?_⟩;(conv=>whnf);refine ⟨⟨rfl,by show (i : Int).toNat * 1 + 1 ≤ 64;omega⟩,?_⟩;(conv=>whnf);refine Ar.i64 (by omega) ?_;(conv=>whnf);refine ⟨i + 1,by omega,by omega,Wk.m [3,2] [0] ⟨⟨rfl,trivial⟩,⟨rfl,kk⟩,⟨rfl,kk⟩,⟨rfl,trivial⟩,trivial⟩ ⟨⟨trivial,qee b (by omega) _,trivial⟩,⟨trivial,zok _,trivial⟩,trivial⟩ ⟨?_,rfl⟩⟩;have e1 : (i : Int).toNat * 1 = i:=by omega
  show [blk b3 (.cells ((schL b i).take ((i : Int).toNat * 1) ++ ([_] ++ (schL b i).drop ((i : Int).toNat * 1 + 1)) ++ []).toArray _),_] = _;rw [e1,qg7 b (by omega) _ (by rw [e];rfl)];rfl
end
section
def kW : List UInt32:=[
  0x428a2f98,0x71374491,0xb5c0fbcf,0xe9b5dba5,0x3956c25b,0x59f111f1,0x923f82a4,0xab1c5ed5,
  0xd807aa98,0x12835b01,0x243185be,0x550c7dc3,0x72be5d74,0x80deb1fe,0x9bdc06a7,0xc19bf174,
  0xe49b69c1,0xefbe4786,0x0fc19dc6,0x240ca1cc,0x2de92c6f,0x4a7484aa,0x5cb0a9dc,0x76f988da,
  0x983e5152,0xa831c66d,0xb00327c8,0xbf597fc7,0xc6e00bf3,0xd5a79147,0x06ca6351,0x14292967,
  0x27b70a85,0x2e1b2138,0x4d2c6dfc,0x53380d13,0x650a7354,0x766a0abb,0x81c2c92e,0x92722c85,
  0xa2bfe8a1,0xa81a664b,0xc24b8b70,0xc76c51a3,0xd192e819,0xd6990624,0xf40e3585,0x106aa070,
  0x19a4c116,0x1e376c08,0x2748774c,0x34b0bcb5,0x391c0cb3,0x4ed8aa4a,0x5b9cca4f,0x682e6ff3,
  0x748f82ee,0x78a5636f,0x84c87814,0x8cc70208,0x90befffa,0xa4506ceb,0xbef9a3f7,0xc67178f2]
theorem qan : kW.length = 64:=rfl
def Gl (R : HP) : Prop:=Rd R (some (radr (0,0))) (w32s kW)
theorem Gl.ent {R R' : HP} (h : Gl R) (e : Ent R' R) : Gl R':=Rd.ent e h
def tm1 (v : List UInt32) (k w : UInt32) : UInt32:=wg v 7 + (rotl (wg v 4) 26 ^^^ rotl (wg v 4) 21 ^^^ rotl (wg v 4) 7) + (wg v 6 ^^^ wg v 4 &&& (wg v 5 ^^^ wg v 6)) + k + w
def tm2 (v : List UInt32) : UInt32:=(rotl (wg v 0) 30 ^^^ rotl (wg v 0) 19 ^^^ rotl (wg v 0) 10) + (wg v 0 &&& wg v 1 ||| wg v 2 &&& (wg v 0 ||| wg v 1))
def rnd (v : List UInt32) (k w : UInt32) : List UInt32:=[tm1 v k w + tm2 v,wg v 0,wg v 1,wg v 2,wg v 3 + tm1 v k w,wg v 4,wg v 5,wg v 6]
def rnds (b : List UInt8) (s : List UInt32) : Nat → List UInt32
  | 0=>s
  | t + 1=>rnd (rnds b s t) (wg kW t) (wg (sch b 64) t)
def adds (s v : List UInt32) : List UInt32:=(List.range 8).map fun i=>wg s i + wg v i
def blk1 (b : List UInt8) (s : List UInt32) : List UInt32:=adds s (rnds b s 64)
theorem ql6 (b : List UInt8) (s : List UInt32) : (blk1 b s).length = 8:=by simp [blk1,adds]
def addL (s v : List UInt32) (i : Nat) : List UInt32:=(adds s v).take i ++ s.drop i
theorem q89 {s v : List UInt32} {i : Nat} (h : s.length = 8) (hi : i ≤ 8) : (addL s v i).length = 8:=by simp [addL,adds];omega
theorem qfy {s v : List UInt32} {i : Nat} (h : s.length = 8) (hi : i < 8) : wg (addL s v i) i = wg s i:=by
  unfold wg addL;rw [List.getD_eq_getElem?_getD,List.getD_eq_getElem?_getD,List.getElem?_append_right (by simp [adds];omega)]
  simp [adds,show min i 8 = i by omega]
theorem qfw {s v : List UInt32} {i : Nat} (h : s.length = 8) (hi : i < 8) (x : Value) (hx : x = w32 (wg s i + wg v i)) : (w32s (addL s v i)).take i ++ ([x] ++ (w32s (addL s v i)).drop (i + 1)) = w32s (addL s v (i + 1)):=by
  subst hx
  have e : addL s v (i + 1) = (addL s v i).take i ++ ([wg s i + wg v i] ++ (addL s v i).drop (i + 1)):=by
    have h8 : (adds s v).length = 8:=by simp [adds]
    have ht : ((adds s v).take i).length = i:=by simp [h8];omega
    have e1 : ((adds s v).take i ++ s.drop i).drop (i + 1) = s.drop (i + 1):=by
      rw [List.drop_append,List.drop_eq_nil_of_le (by omega),ht,List.nil_append,List.drop_drop];congr 1;omega
    have e2 : (adds s v).take (i + 1) = (adds s v).take i ++ [wg s i + wg v i]:=by
      rw [List.take_succ_eq_append_getElem (by omega)];simp [adds]
    unfold addL;rw [List.take_append_of_le_length (by omega),List.take_take,Nat.min_self,e1,e2,List.append_assoc]
  rw [e,q3h,q3h]
  simp [w32s]
theorem qcd (s v : List UInt32) : addL s v 0 = s:=by simp [addL]
theorem qf9 {s v : List UInt32} (h : s.length = 8) : addL s v 8 = adds s v:=by
  unfold addL;rw [List.drop_eq_nil_of_le (by omega),List.append_nil,List.take_of_length_le (by simp [adds])]
theorem qkq (A R : HP) (hE : Ent A R) (hK : Gl A) (a : Option Addr) (cap : Nat) (b : List UInt8) (hb : Bts R a cap b) (hl : b.length = 64) (g : Nat) (s : List UInt32) (hs : s.length = 8)  :
    Con Tryz.prog 173 [.c (.rp g 0),.c (.rs a b.length cap)] [(g,[.many 8 (w32s s)],245)] [] A (fun _ : Unit=>True) (fun _=>.tup []) (fun _=>[(g,[.many 8 (w32s (blk1 b s))],245)]) (fun _=>[]):=by
  have hks:=wmk hs;refine Con.of' tt_ok Tryz.func173 rfl (by decide) [.c (.ptr 1000 0),.c (.rs a b.length cap)] [(1000,g)] [(1000,[.many 8 (w32s s)],245)] rfl rfl ⟨⟨trivial,⟨hks _,trivial⟩⟩,trivial⟩ kk rfl ?_;(conv=>whnf);refine Cq.pu (sch_c _ R ((Ent.a mm).trans hE) a cap b hb hl) rfl ?_;(conv=>whnf);intro b4;(conv=>whnf);refine Draw.quiet (by kernel_rfl) tt_ok (List.range 40) (by kernel_rfl) ?_;(conv=>whnf);refine ⟨⟨by omega,by omega⟩,?_⟩;refine q0m 0 rfl (by omega) ?_;(conv=>whnf);refine ⟨⟨by omega,by omega⟩,?_⟩
  refine q0m 1 rfl (by omega) ?_;(conv=>whnf);refine ⟨⟨by omega,by omega⟩,?_⟩;refine q0m 2 rfl (by omega) ?_;(conv=>whnf);refine ⟨⟨by omega,by omega⟩,?_⟩;refine q0m 3 rfl (by omega) ?_;(conv=>whnf);refine ⟨⟨by omega,by omega⟩,?_⟩;refine q0m 4 rfl (by omega) ?_;(conv=>whnf);refine ⟨⟨by omega,by omega⟩,?_⟩;refine q0m 5 rfl (by omega) ?_;(conv=>whnf);refine ⟨⟨by omega,by omega⟩,?_⟩;refine q0m 6 rfl (by omega) ?_;(conv=>whnf);refine ⟨⟨by omega,by omega⟩,?_⟩;refine q0m 7 rfl (by omega) ?_;conv=>whnf
  have hkw:=wmk (q2m b 64)
  refine LoopOb.m (σ:=Nat) (fun t=>[(0,.c (.ptr 1000 0)),(4,.c (.ptr 4 0)),(5,.c (.int .u32 ((wg (rnds b s t) 0).toNat : Int))),(6,.c (.int .u32 ((wg (rnds b s t) 1).toNat : Int))),(7,.c (.int .u32 ((wg (rnds b s t) 2).toNat : Int))),(8,.c (.int .u32 ((wg (rnds b s t) 3).toNat : Int))),(9,.c (.int .u32 ((wg (rnds b s t) 4).toNat : Int))),(10,.c (.int .u32 ((wg (rnds b s t) 5).toNat : Int))),(11,.c (.int .u32 ((wg (rnds b s t) 6).toNat : Int))),(12,.c (.int .u32 ((wg (rnds b s t) 7).toNat : Int))),(52,.c (.int .i64 t))])
    (fun t=>⟨[(4,b4),(1000,g)],[(4,[.many 64 (w32s (sch b 64))],267),(1000,[.many 8 (w32s s)],245)],[A]⟩) (fun t=>t ≤ 64) (fun t=>64 - t) 0 (Nat.zero_le _)
    (Wk.m [4,1000] [0] kk ⟨⟨trivial,hkw _,trivial⟩,⟨trivial,⟨hks _,trivial⟩⟩,trivial⟩ ⟨rfl,rfl⟩) ?_
  intro t ht;(conv=>whnf);refine Cond.d (fun h=>?_) (fun h=>?_)
  · (conv=>whnf);refine Draw.quiet (by kernel_rfl) tt_ok [0,1,3,6,10,11,12,13,14,15,16,18,19,20,22,23,24,2,4,5,7,8,9,17,21,25,26] (by kernel_rfl) ?_;generalize ev : rnds b s t = v;(conv=>whnf);refine ⟨by omega,?_⟩;refine ld (A:=A) t (.int .u32 ((wg kW t).toNat : Int)) rfl (by simp) hK rfl (by show 0 + (t : Int).toNat * 1 = 0 + t;omega) (by rw [q6g (by rw [qan];omega),wg_eq];rfl) trivial ?_;(conv=>whnf);refine ⟨by omega,?_⟩;refine q0m t (by show (t : Int).toNat * 1 = t;omega) (by rw [q2m];omega) ?_;conv=>whnf
    refine Cq.pu (rot_c _ (wg v 4) (-6) 26 (by decide) (by decide) (by decide)) rfl ?_;(conv=>whnf);refine Sub.whole ?_;(conv=>whnf);refine Cq.pu (rot_c _ (wg v 4) (-11) 21 (by decide) (by decide) (by decide)) rfl ?_;(conv=>whnf);refine Sub.whole ?_;(conv=>whnf);refine Cq.pu (rot_c _ (wg v 4) (-25) 7 (by decide) (by decide) (by decide)) rfl ?_;(conv=>whnf);refine Sub.whole ?_;(conv=>whnf);refine Ar.wadd (.base (wg v 7)) (.xor (.xor (.base _) (.base _)) (.base _)) ?_;conv=>whnf
    refine Ar.wadd (.base _) (.xor (.base (wg v 6)) (.and (.base (wg v 4)) (.xor (.base (wg v 5)) (.base (wg v 6))))) ?_;(conv=>whnf);refine Ar.wadd (.base _) (.base _) ?_;(conv=>whnf);refine Ar.wadd (.base _) (.base _) ?_;generalize e1 : wg v 7 + (rotl (wg v 4) 26 ^^^ rotl (wg v 4) 21 ^^^ rotl (wg v 4) 7) + (wg v 6 ^^^ wg v 4 &&& (wg v 5 ^^^ wg v 6)) + wg kW t + wg (sch b 64) t = t1;(conv=>whnf);refine Cq.pu (rot_c _ (wg v 0) (-2) 30 (by decide) (by decide) (by decide)) rfl ?_;conv=>whnf
    refine Cq.pu (rot_c _ (wg v 0) (-13) 19 (by decide) (by decide) (by decide)) rfl ?_;(conv=>whnf);refine Cq.pu (rot_c _ (wg v 0) (-22) 10 (by decide) (by decide) (by decide)) rfl ?_;(conv=>whnf);refine Ar.wadd (.xor (.xor (.base _) (.base _)) (.base _)) (.or (.and (.base (wg v 0)) (.base (wg v 1))) (.and (.base (wg v 2)) (.or (.base (wg v 0)) (.base (wg v 1))))) ?_;generalize e2 : (rotl (wg v 0) 30 ^^^ rotl (wg v 0) 19 ^^^ rotl (wg v 0) 10) + (wg v 0 &&& wg v 1 ||| wg v 2 &&& (wg v 0 ||| wg v 1)) = t2;(conv=>whnf);refine Ar.wadd (.base t1) (.base t2) ?_;conv=>whnf
    refine Ar.wadd (.base _) (.base t1) ?_;(conv=>whnf);refine Ar.i64 (by omega) ?_;conv=>whnf
    have er : rnds b s (t + 1) = [t1 + t2,wg v 0,wg v 1,wg v 2,wg v 3 + t1,wg v 4,wg v 5,wg v 6]:=by
      show rnd (rnds b s t) _ _ = _;rw [ev,← e1,← e2];rfl
    refine ⟨t + 1,by omega,by omega,?_⟩;show Wk _ _ [_,_,_,_,_,_,_,_,_,_,_] _;rw [er];exact Wk.m [4,1000] [0] kk ⟨⟨trivial,hkw _,trivial⟩,⟨trivial,⟨hks _,trivial⟩⟩,trivial⟩ ⟨rfl,rfl⟩
  have ht' : t = 64:=by omega
  subst ht';have el : ∃ v0 v1 v2 v3 v4 v5 v6 v7,rnds b s 64 = [v0,v1,v2,v3,v4,v5,v6,v7]:=⟨_,_,_,_,_,_,_,_,rfl⟩;obtain ⟨v0,v1,v2,v3,v4,v5,v6,v7,el⟩:=el;rw [show blk1 b s = adds s [v0,v1,v2,v3,v4,v5,v6,v7] by unfold blk1;rw [el],el];conv=>whnf
  refine LoopOb.m (σ:=Nat) (fun i=>[(0,.c (.ptr 1000 0)),(120,.agg [.many 8 (w32s [v0,v1,v2,v3,v4,v5,v6,v7])]),(121,.c (.int .i64 i))])
    (fun i=>⟨[(1000,g)],[(1000,[.many 8 (w32s (addL s [v0,v1,v2,v3,v4,v5,v6,v7] i))],245)],[A]⟩) (fun i=>i ≤ 8) (fun i=>8 - i) 0 (Nat.zero_le _)
    ?_ ?_
  · rw [qcd];exact Wk.m [1000] [0] ⟨⟨rfl,trivial⟩,⟨rfl,q04 ⟨wmk rfl _,trivial⟩⟩,⟨rfl,trivial⟩,trivial⟩ ⟨⟨trivial,⟨hks _,trivial⟩⟩,trivial⟩ ⟨rfl,rfl⟩
  intro i hi;(conv=>whnf);refine Cond.d (fun h=>?_) (fun h=>?_)
  · (conv=>whnf);refine ⟨by omega,?_⟩;refine q0m i (by show (i : Int).toNat * 1 = i;omega) (by show i < 8;omega) ?_;(conv=>whnf);refine Draw.last (by kernel_rfl) tt_ok (List.range 10) 9 (by kernel_rfl) ?_;(conv=>whnf);refine ⟨by omega,?_⟩;refine q0m i (by show (i : Int).toNat * 1 = i;omega) (by rw [q89 hs hi];omega) ?_;rw [qfy hs (by omega)];(conv=>whnf);refine Ar.wadd (.base _) (.base _) ?_;(conv=>whnf);refine ⟨by omega,?_⟩;(conv=>whnf);refine ⟨⟨rfl,by show (i : Int).toNat * 1 + 1 ≤ 8;omega⟩,?_⟩;conv=>whnf
    refine Ar.i64 (by omega) ?_;(conv=>whnf);refine ⟨i + 1,by omega,by omega,Wk.m [1000] [0] ⟨⟨rfl,trivial⟩,⟨rfl,q04 ⟨wmk rfl _,trivial⟩⟩,⟨rfl,trivial⟩,trivial⟩ ⟨⟨trivial,(by have:=wmk (q89 (v:=[v0,v1,v2,v3,v4,v5,v6,v7]) hs (show i + 1 ≤ 8 by omega));repeat' (first | exact trivial | exact this _ | apply And.intro))⟩,trivial⟩ ⟨?_,rfl⟩⟩
    have es : (w32s (addL s [v0,v1,v2,v3,v4,v5,v6,v7] i)).take ((i : Int).toNat * 1) ++ ([w32 (wg s i + wg [v0,v1,v2,v3,v4,v5,v6,v7] i)] ++ (w32s (addL s [v0,v1,v2,v3,v4,v5,v6,v7] i)).drop ((i : Int).toNat * 1 + 1)) = w32s (addL s [v0,v1,v2,v3,v4,v5,v6,v7] (i + 1)):=by
      rw [show (i : Int).toNat * 1 = i by omega];exact qfw hs (by omega) _ rfl
    rw [← es];rfl
  have hi' : i = 8:=by omega
  subst hi';(conv=>whnf);refine Ret.m () [1000] [0] trivial rfl trivial ⟨⟨wmk (by simp [adds]) _,trivial⟩,trivial⟩ ⟨?_,rfl⟩;rw [qf9 hs];rfl
theorem qlv (A R : HP) (hE : Ent A R) (hK : Gl A) (a : Option Addr) (cap : Nat) (b : List UInt8) (hb : Bts R a cap b) (hl : b.length = 64) (g : Nat) (s : List UInt32) (hs : s.length = 8) (la : Option Addr) (ln lc : Nat) (n : Int) :
    Con Tryz.prog 173 [.c (.rp g 1),.c (.rs a b.length cap)] [(g,[.one .tt,.many 8 (w32s s),.one (.rs la ln lc),.one (.int .i64 n)],248)] [] A (fun _ : Unit=>True) (fun _=>.tup []) (fun _=>[(g,[.one .tt,.many 8 (w32s (blk1 b s)),.one (.rs la ln lc),.one (.int .i64 n)],248)]) (fun _=>[]):=by
  have hks:=wmk hs;refine Con.of' tt_ok Tryz.func173 rfl (by decide) [.c (.ptr 1000 1),.c (.rs a b.length cap)] [(1000,g)] [(1000,[.one .tt,.many 8 (w32s s),.one (.rs la ln lc),.one (.int .i64 n)],248)] rfl rfl ⟨⟨trivial,⟨trivial,hks _,trivial,trivial,trivial⟩⟩,trivial⟩ kk rfl ?_;(conv=>whnf);refine Cq.pu (sch_c _ R ((Ent.a mm).trans hE) a cap b hb hl) rfl ?_;(conv=>whnf);intro b4;(conv=>whnf);refine Draw.quiet (by kernel_rfl) tt_ok (List.range 40) (by kernel_rfl) ?_;(conv=>whnf);refine ⟨⟨by omega,by omega⟩,?_⟩
  refine q0m 0 rfl (by omega) ?_;(conv=>whnf);refine ⟨⟨by omega,by omega⟩,?_⟩;refine q0m 1 rfl (by omega) ?_;(conv=>whnf);refine ⟨⟨by omega,by omega⟩,?_⟩;refine q0m 2 rfl (by omega) ?_;(conv=>whnf);refine ⟨⟨by omega,by omega⟩,?_⟩;refine q0m 3 rfl (by omega) ?_;(conv=>whnf);refine ⟨⟨by omega,by omega⟩,?_⟩;refine q0m 4 rfl (by omega) ?_;(conv=>whnf);refine ⟨⟨by omega,by omega⟩,?_⟩;refine q0m 5 rfl (by omega) ?_;(conv=>whnf);refine ⟨⟨by omega,by omega⟩,?_⟩;refine q0m 6 rfl (by omega) ?_;conv=>whnf
  refine ⟨⟨by omega,by omega⟩,?_⟩;refine q0m 7 rfl (by omega) ?_;(conv=>whnf);have hkw:=wmk (q2m b 64)
  refine LoopOb.m (σ:=Nat) (fun t=>[(0,.c (.ptr 1000 1)),(4,.c (.ptr 4 0)),(5,.c (.int .u32 ((wg (rnds b s t) 0).toNat : Int))),(6,.c (.int .u32 ((wg (rnds b s t) 1).toNat : Int))),(7,.c (.int .u32 ((wg (rnds b s t) 2).toNat : Int))),(8,.c (.int .u32 ((wg (rnds b s t) 3).toNat : Int))),(9,.c (.int .u32 ((wg (rnds b s t) 4).toNat : Int))),(10,.c (.int .u32 ((wg (rnds b s t) 5).toNat : Int))),(11,.c (.int .u32 ((wg (rnds b s t) 6).toNat : Int))),(12,.c (.int .u32 ((wg (rnds b s t) 7).toNat : Int))),(52,.c (.int .i64 t))])
    (fun t=>⟨[(4,b4),(1000,g)],[(4,[.many 64 (w32s (sch b 64))],267),(1000,[.one .tt,.many 8 (w32s s),.one (.rs la ln lc),.one (.int .i64 n)],248)],[A]⟩) (fun t=>t ≤ 64) (fun t=>64 - t) 0 (Nat.zero_le _)
    (Wk.m [4,1000] [0] kk ⟨⟨trivial,hkw _,trivial⟩,⟨trivial,⟨trivial,hks _,trivial,trivial,trivial⟩⟩,trivial⟩ ⟨rfl,rfl⟩) ?_
  intro t ht;(conv=>whnf);refine Cond.d (fun h=>?_) (fun h=>?_)
  · (conv=>whnf);refine Draw.quiet (by kernel_rfl) tt_ok [0,1,3,6,10,11,12,13,14,15,16,18,19,20,22,23,24,2,4,5,7,8,9,17,21,25,26] (by kernel_rfl) ?_;generalize ev : rnds b s t = v;(conv=>whnf);refine ⟨by omega,?_⟩;refine ld (A:=A) t (.int .u32 ((wg kW t).toNat : Int)) rfl (by simp) hK rfl (by show 0 + (t : Int).toNat * 1 = 0 + t;omega) (by rw [q6g (by rw [qan];omega),wg_eq];rfl) trivial ?_;(conv=>whnf);refine ⟨by omega,?_⟩;refine q0m t (by show (t : Int).toNat * 1 = t;omega) (by rw [q2m];omega) ?_;conv=>whnf
    refine Cq.pu (rot_c _ (wg v 4) (-6) 26 (by decide) (by decide) (by decide)) rfl ?_;(conv=>whnf);refine Sub.whole ?_;(conv=>whnf);refine Cq.pu (rot_c _ (wg v 4) (-11) 21 (by decide) (by decide) (by decide)) rfl ?_;(conv=>whnf);refine Sub.whole ?_;(conv=>whnf);refine Cq.pu (rot_c _ (wg v 4) (-25) 7 (by decide) (by decide) (by decide)) rfl ?_;(conv=>whnf);refine Sub.whole ?_;(conv=>whnf);refine Ar.wadd (.base (wg v 7)) (.xor (.xor (.base _) (.base _)) (.base _)) ?_;conv=>whnf
    refine Ar.wadd (.base _) (.xor (.base (wg v 6)) (.and (.base (wg v 4)) (.xor (.base (wg v 5)) (.base (wg v 6))))) ?_;(conv=>whnf);refine Ar.wadd (.base _) (.base _) ?_;(conv=>whnf);refine Ar.wadd (.base _) (.base _) ?_;generalize e1 : wg v 7 + (rotl (wg v 4) 26 ^^^ rotl (wg v 4) 21 ^^^ rotl (wg v 4) 7) + (wg v 6 ^^^ wg v 4 &&& (wg v 5 ^^^ wg v 6)) + wg kW t + wg (sch b 64) t = t1;(conv=>whnf);refine Cq.pu (rot_c _ (wg v 0) (-2) 30 (by decide) (by decide) (by decide)) rfl ?_;conv=>whnf
    refine Cq.pu (rot_c _ (wg v 0) (-13) 19 (by decide) (by decide) (by decide)) rfl ?_;(conv=>whnf);refine Cq.pu (rot_c _ (wg v 0) (-22) 10 (by decide) (by decide) (by decide)) rfl ?_;(conv=>whnf);refine Ar.wadd (.xor (.xor (.base _) (.base _)) (.base _)) (.or (.and (.base (wg v 0)) (.base (wg v 1))) (.and (.base (wg v 2)) (.or (.base (wg v 0)) (.base (wg v 1))))) ?_;generalize e2 : (rotl (wg v 0) 30 ^^^ rotl (wg v 0) 19 ^^^ rotl (wg v 0) 10) + (wg v 0 &&& wg v 1 ||| wg v 2 &&& (wg v 0 ||| wg v 1)) = t2;(conv=>whnf);refine Ar.wadd (.base t1) (.base t2) ?_;conv=>whnf
    refine Ar.wadd (.base _) (.base t1) ?_;(conv=>whnf);refine Ar.i64 (by omega) ?_;conv=>whnf
    have er : rnds b s (t + 1) = [t1 + t2,wg v 0,wg v 1,wg v 2,wg v 3 + t1,wg v 4,wg v 5,wg v 6]:=by
      show rnd (rnds b s t) _ _ = _;rw [ev,← e1,← e2];rfl
    refine ⟨t + 1,by omega,by omega,?_⟩;show Wk _ _ [_,_,_,_,_,_,_,_,_,_,_] _;rw [er];exact Wk.m [4,1000] [0] kk ⟨⟨trivial,hkw _,trivial⟩,⟨trivial,⟨trivial,hks _,trivial,trivial,trivial⟩⟩,trivial⟩ ⟨rfl,rfl⟩
  have ht' : t = 64:=by omega
  subst ht';have el : ∃ v0 v1 v2 v3 v4 v5 v6 v7,rnds b s 64 = [v0,v1,v2,v3,v4,v5,v6,v7]:=⟨_,_,_,_,_,_,_,_,rfl⟩;obtain ⟨v0,v1,v2,v3,v4,v5,v6,v7,el⟩:=el;rw [show blk1 b s = adds s [v0,v1,v2,v3,v4,v5,v6,v7] by unfold blk1;rw [el],el];conv=>whnf
  refine LoopOb.m (σ:=Nat) (fun i=>[(0,.c (.ptr 1000 1)),(120,.agg [.many 8 (w32s [v0,v1,v2,v3,v4,v5,v6,v7])]),(121,.c (.int .i64 i))])
    (fun i=>⟨[(1000,g)],[(1000,[.one .tt,.many 8 (w32s (addL s [v0,v1,v2,v3,v4,v5,v6,v7] i)),.one (.rs la ln lc),.one (.int .i64 n)],248)],[A]⟩) (fun i=>i ≤ 8) (fun i=>8 - i) 0 (Nat.zero_le _)
    ?_ ?_
  · rw [qcd];exact Wk.m [1000] [0] ⟨⟨rfl,trivial⟩,⟨rfl,q04 ⟨wmk rfl _,trivial⟩⟩,⟨rfl,trivial⟩,trivial⟩ ⟨⟨trivial,⟨trivial,hks _,trivial,trivial,trivial⟩⟩,trivial⟩ ⟨rfl,rfl⟩
  intro i hi;(conv=>whnf);refine Cond.d (fun h=>?_) (fun h=>?_)
  · (conv=>whnf);refine ⟨by omega,?_⟩;refine q0m i (by show (i : Int).toNat * 1 = i;omega) (by show i < 8;omega) ?_;(conv=>whnf);refine Draw.last (by kernel_rfl) tt_ok (List.range 10) 9 (by kernel_rfl) ?_;(conv=>whnf);refine ⟨by omega,?_⟩;refine q0m i (by show (i : Int).toNat * 1 = i;omega) (by rw [q89 hs hi];omega) ?_;rw [qfy hs (by omega)];(conv=>whnf);refine Ar.wadd (.base _) (.base _) ?_;(conv=>whnf);refine ⟨by omega,?_⟩;(conv=>whnf);refine ⟨⟨rfl,by show (i : Int).toNat * 1 + 1 ≤ 8;omega⟩,?_⟩;conv=>whnf
    refine Ar.i64 (by omega) ?_;(conv=>whnf);refine ⟨i + 1,by omega,by omega,Wk.m [1000] [0] ⟨⟨rfl,trivial⟩,⟨rfl,q04 ⟨wmk rfl _,trivial⟩⟩,⟨rfl,trivial⟩,trivial⟩ ⟨⟨trivial,(by have:=wmk (q89 (v:=[v0,v1,v2,v3,v4,v5,v6,v7]) hs (show i + 1 ≤ 8 by omega));repeat' (first | exact trivial | exact this _ | apply And.intro))⟩,trivial⟩ ⟨?_,rfl⟩⟩
    have es : (w32s (addL s [v0,v1,v2,v3,v4,v5,v6,v7] i)).take ((i : Int).toNat * 1) ++ ([w32 (wg s i + wg [v0,v1,v2,v3,v4,v5,v6,v7] i)] ++ (w32s (addL s [v0,v1,v2,v3,v4,v5,v6,v7] i)).drop ((i : Int).toNat * 1 + 1)) = w32s (addL s [v0,v1,v2,v3,v4,v5,v6,v7] (i + 1)):=by
      rw [show (i : Int).toNat * 1 = i by omega];exact qfw hs (by omega) _ rfl
    rw [← es];rfl
  have hi' : i = 8:=by omega
  subst hi';(conv=>whnf);refine Ret.m () [1000] [0] trivial rfl trivial ⟨⟨trivial,wmk (by simp [adds]) _,trivial,trivial,trivial⟩,trivial⟩ ⟨?_,rfl⟩;rw [qf9 hs];rfl
end
section
def h0W : List UInt32:=[0x6a09e667,0xbb67ae85,0x3c6ef372,0xa54ff53a,0x510e527f,0x9b05688c,0x1f83d9ab,0x5be0cd19]
def comp (s : List UInt32) : Nat → List UInt8 → List UInt32
  | 0,_=>s
  | n + 1,m=>comp (blk1 (m.take 64) s) n (m.drop 64)
theorem q4b {s : List UInt32} (h : s.length = 8) : ∀ n m,(comp s n m).length = 8
  | 0,_=>h
  | n + 1,m=>q4b (ql6 _ _) n _
theorem qbt : ∀ (p q : Nat) (s : List UInt32) (m : List UInt8),comp s (p + q) m = comp (comp s p m) q (m.drop (64 * p))
  | 0,q,s,m=>by simp [comp]
  | p + 1,q,s,m=>by
    rw [show p + 1 + q = (p + q) + 1 by omega];show comp _ (p + q) _ = comp (comp _ p _) q _;rw [qbt p q,List.drop_drop,show 64 + 64 * p = 64 * (p + 1) by omega]
theorem q8v (p : Nat) (s : List UInt32) (m : List UInt8) : comp s (p + 1) m = blk1 ((m.drop (64 * p)).take 64) (comp s p m):=by rw [qbt];rfl
theorem q9y : ∀ (p : Nat) (s : List UInt32) (m b : List UInt8),64 * p ≤ m.length → comp s p (m ++ b) = comp s p m
  | 0,_,_,_,_=>rfl
  | p + 1,s,m,b,h=>by
    show comp _ p _ = comp _ p _;rw [List.take_append_of_le_length (by omega),List.drop_append_of_le_length (by omega)];exact q9y p _ _ b (by simp;omega)
def stOf (m : List UInt8) : List UInt32:=comp h0W (m.length / 64) m
def rsOf (m : List UInt8) : List UInt8:=m.drop (64 * (m.length / 64))
theorem q25 (m : List UInt8) : (stOf m).length = 8:=q4b rfl _ _
theorem q8b (m : List UInt8) : (rsOf m).length = m.length - 64 * (m.length / 64):=by simp [rsOf]
theorem q9s (m b : List UInt8) : stOf (m ++ b) = comp (stOf m) ((rsOf m ++ b).length / 64) (rsOf m ++ b):=by
  have e : (m ++ b).length / 64 = m.length / 64 + (rsOf m ++ b).length / 64:=by rw [List.length_append,List.length_append,q8b];omega
  unfold stOf;rw [e,qbt,q9y _ _ _ _ (by omega),List.drop_append_of_le_length (by omega)];rfl
theorem qey (m b : List UInt8) : rsOf (m ++ b) = (rsOf m ++ b).drop (64 * ((rsOf m ++ b).length / 64)):=by
  have e : (m ++ b).length / 64 = m.length / 64 + (rsOf m ++ b).length / 64:=by rw [List.length_append,List.length_append,q8b];omega
  unfold rsOf at *;rw [e,Nat.mul_add,← List.drop_drop,List.drop_append_of_le_length (by omega)]
abbrev hcel (g : Nat) (s : List UInt32) (a : Option Addr) (ln cap : Nat) (n : Int) : Cel:=(g,[.one .tt,.many 8 (w32s s),.one (.rs a ln cap),.one (.int .i64 n)],248)
abbrev hk (m : List UInt8) (x : Option Addr × Nat) : Prop:=((rsOf m).length ≤ x.2 ∧ (x.1 = none → rsOf m = [])) ∧ m.length ≤ 1073741824
abbrev hq (g : Nat) (m : List UInt8) (x : Option Addr × Nat) : List Cel:=[hcel g (stOf m) x.1 (rsOf m).length x.2 m.length]
abbrev hr (m : List UInt8) (x : Option Addr × Nat) : List HP:=[Own x.1 x.2 5 1 (u8s (rsOf m))]
abbrev Hs (g : Nat) (m : List UInt8) : HP:=Box (hk m) (hq g m) (hr m)
theorem qo3 (A : HP) : Pu Tryz.prog 171 [] A (.agg [.many 8 (w32s h0W)]):=by
  refine Con.of' tt_ok Tryz.func171 rfl (by decide) [] [] [] rfl rfl trivial kk rfl ?_;(conv=>whnf);intro b;(conv=>whnf);exact Ret.m () [] [0] trivial rfl ⟨⟨rfl,qb4 _⟩,trivial⟩ kk ⟨rfl,rfl⟩
theorem qck (A : HP) : Con Tryz.prog 141 [] [] [] A (fun _ : Nat=>True) (fun g=>.c (.rp g 0)) (fun _=>[]) (fun g=>[Hs g []]):=by
  refine Con.of' tt_ok Tryz.func141 rfl (by decide) [] [] [] rfl rfl trivial kk rfl ?_;(conv=>whnf);refine Cq.pu (qo3 _) rfl ?_;(conv=>whnf);intro g;(conv=>whnf);refine Ret.own0 5 1 ?_;refine Ret.box (k:=hk []) (Q:=hq g []) (R:=hr []) [3] [0] (none,0) ⟨⟨Nat.le_refl _,fun _=>rfl⟩,by simp⟩ ⟨⟨rfl,rfl⟩,?_⟩;exact Ret.m g [] [0,0] trivial rfl kk trivial ⟨rfl,rfl⟩
theorem qnf (A : HP) (g : Nat) (s : List UInt32) (hs : s.length = 8) (a : Option Addr) (ln cap : Nat) (n : Int) :
    Con Tryz.prog 172 [.c (.rp g 0)] [hcel g s a ln cap n] [] A (fun _ : Unit=>True) (fun _=>.c .tt) (fun _=>[hcel g s a ln cap n]) (fun _=>[]):=by
  have hks:=wmk hs;refine Con.of' tt_ok Tryz.func172 rfl (by decide) [.c (.ptr 1000 0)] [(1000,g)] [(1000,(hcel g s a ln cap n).2)] rfl rfl ⟨⟨trivial,trivial,hks _,trivial,trivial,trivial⟩,trivial⟩ kk rfl ?_;(conv=>whnf);exact Ret.m () [1000] [0] trivial rfl trivial ⟨⟨trivial,hks _,trivial,trivial,trivial⟩,trivial⟩ ⟨rfl,rfl⟩
theorem q39 (A R : HP) (hE : Ent A R) (hK : Gl A) (g : Nat) (m : List UInt8) (a : Option Addr) (cap : Nat) (b : List UInt8) (hb : Bts R a cap b) (hn : m.length + b.length ≤ 1073741824) :
    Con Tryz.prog 142 [.c (.rp g 0),.c (.rs a b.length cap)] [] [Hs g m] A (fun _ : Unit=>True) (fun _=>.c (.int .i64 0)) (fun _=>[]) (fun _=>[Hs g (m ++ b)]):=by
  refine Con.box (Runs.of Tryz.func142 rfl (by decide)) ?_;rintro ⟨a1,cap1⟩ hk1;have hks:=wmk (q25 m);refine Con.of' tt_ok Tryz.func142 rfl (by decide) [.c (.ptr 1000 0),.c (.rs a b.length cap)] [(1000,g)] [(1000,(hcel g (stOf m) a1 (rsOf m).length cap1 m.length).2)] rfl rfl ⟨⟨trivial,trivial,hks _,trivial,trivial,trivial⟩,trivial⟩ kk rfl ?_;(conv=>whnf);refine Cq.by' [1000] [] (qnf _ g _ (q25 m) a1 _ cap1 _) rfl ⟨rfl,rfl,rfl,fun _ _=>⟨rfl,?_⟩⟩
  (conv=>whnf);refine Ar.i64 (by omega) ?_;(conv=>whnf);refine Cond.d (fun h=>by exfalso;omega) (fun _=>?_);(conv=>whnf);refine Ar.i64 (by omega) ?_;(conv=>whnf);have hrl:=q8b m;refine q1w (a:=a1) (n:=(rsOf m).length) (cap:=cap1) (l:=rsOf m) (k:=b.length) (m:=b) (src:=.c (.rs a b.length cap)) (.refl _) rfl rfl (Src.rs (A:=A) (by simp) (hb.1.ent hE)) ⟨rfl,rfl⟩ (by omega) 24 (.inr rfl) ?_;intro a2 c2 hc2 hn2;rw [← List.length_append] at hc2 hn2 ⊢;generalize eall : rsOf m ++ b = all at hc2 hn2
  have hall : all.length = (rsOf m).length + b.length:=by rw [← eall,List.length_append]
  have hbt : Bts (Own a2 c2 5 1 (u8s all)) a2 c2 all:=⟨Own.rd,hc2,fun h=>List.eq_nil_of_length_eq_zero (hn2 h)⟩;conv=>whnf
  refine LoopOb.m (σ:=Nat × Option Addr × Nat) (fun q=>[(0,.c (.ptr 1000 0))])
    (fun q=>⟨[(1000,g)],[(1000,(hcel g (comp (stOf m) q.1 all) q.2.1 (all.drop (64 * q.1)).length q.2.2 (m.length + b.length)).2)],[Own a2 c2 5 1 (u8s all),A]⟩)
    (fun q=>q.1 ≤ all.length / 64 ∧ Bts (Own a2 c2 5 1 (u8s all)) q.2.1 q.2.2 (all.drop (64 * q.1))) (fun q=>all.length / 64 - q.1) (0,a2,c2) ⟨Nat.zero_le _,hbt⟩
    (Wk.m [1000] [0,0] kk ⟨⟨trivial,trivial,hks _,trivial,trivial,trivial⟩,trivial⟩ ⟨rfl,rfl⟩) ?_
  rintro ⟨i,ar,cr⟩ ⟨hi,hbi⟩;dsimp only at hi hbi ⊢;have hdl : (all.drop (64 * i)).length = all.length - 64 * i:=List.length_drop;have hcl:=q4b (q25 m) i all;have hkc:=wmk hcl;(conv=>whnf);refine Cond.d (fun h=>?_) (fun h=>?_)
  · (conv=>whnf);refine Draw.last (by kernel_rfl) tt_ok (List.range 9) 8 (by kernel_rfl) ?_;(conv=>whnf);have hc1:=hbi.2.1;refine ⟨by omega,?_⟩;have hl64 : ((all.drop (64 * i)).take 64).length = 64:=by rw [List.length_take];omega
    have hb64:=hbi.sub 0 64 (by omega);refine Cq.by' [1000] [] (qlv _ (Own a2 c2 5 1 (u8s all)) (Ent.a mm) (hK.ent (Ent.a mm)) (cutA ar cr 0 1) (cr - 0) ((all.drop (64 * i)).take 64) hb64 hl64 g _ hcl ar _ cr _) (by rw [hl64];rfl) ⟨rfl,rfl,rfl,fun _ _=>⟨rfl,?_⟩⟩
    rw [← q8v];(conv=>whnf);refine ⟨by omega,?_⟩;(conv=>whnf);have e1 : (all.drop (64 * i)).length - 64 = (all.drop (64 * (i + 1))).length:=by rw [List.length_drop,List.length_drop];omega
    have hbn:=hbi.drop 64 (by omega);rw [List.drop_drop,← Nat.mul_succ] at hbn;refine ⟨(i + 1,cutA ar cr 64 1,cr - 64),⟨by dsimp only;omega,hbn⟩,by dsimp only;omega,Wk.m [1000] [0,0] kk ⟨⟨trivial,trivial,wmk (q4b (q25 m) _ _) _,trivial,trivial,trivial⟩,trivial⟩ ⟨?_,rfl⟩⟩;dsimp only;rw [← e1];rfl
  have hi' : i = all.length / 64:=by omega
  have hc1:=hbi.2.1;(conv=>whnf);refine With.own0 5 1 ?_;refine q1w (a:=none) (n:=0) (cap:=0) (l:=[]) (k:=(all.drop (64 * i)).length) (m:=all.drop (64 * i)) (src:=.c (.rs ar (all.drop (64 * i)).length cr)) (.refl _) rfl rfl (Src.rs (A:=Own a2 c2 5 1 (u8s all)) (by simp) hbi.1) ⟨rfl,rfl⟩ (by omega) 24 (.inr rfl) ?_;intro a3 c3 hc3 hn3;rw [Nat.zero_add,List.nil_append] at *;subst hi';have est : comp (stOf m) (all.length / 64) all = stOf (m ++ b):=by rw [q9s,eall]
  have ers : all.drop (64 * (all.length / 64)) = rsOf (m ++ b):=by rw [qey,eall]
  have eln : ((m.length : Int) + (b.length : Int)) = ((m ++ b).length : Int):=by rw [List.length_append];rfl
  rw [est,ers,eln];rw [ers] at hc3 hn3;(conv=>whnf);exact Ret.m ((a3,c3),()) [1000] [0,1] ⟨⟨⟨hc3,fun h=>List.eq_nil_of_length_eq_zero (hn3 h)⟩,by rw [List.length_append];exact hn⟩,trivial⟩ rfl kk ⟨⟨trivial,wmk (q25 _) _,trivial,trivial,trivial⟩,trivial⟩ ⟨rfl,rfl⟩
def be8 (n : Int) : Nat → List UInt8
  | 0=>[]
  | k + 1=>by8 (n.fdiv (2 ^ (8 * k))) :: be8 n k
theorem q5s (n : Int) : ∀ k,(be8 n k).length = k
  | 0=>rfl
  | k + 1=>by simp [be8,q5s n k]
def zer (n : Nat) : Nat:=(119 - n % 64) % 64
def padB (n : Nat) : List UInt8:=128 :: (List.replicate (zer n) 0 ++ be8 ((n : Int) * 8) 8)
theorem qgo (n : Nat) : (n + (padB n).length) % 64 = 0:=by simp [padB,q5s,zer];omega
def sumB (w : List UInt32) : List UInt8:=w.flatMap fun (x : UInt32)=>[(x >>> UInt32.ofNat 24).toUInt8,(x >>> UInt32.ofNat 16).toUInt8,(x >>> UInt32.ofNat 8).toUInt8,x.toUInt8]
theorem qg9 : ∀ w,(sumB w).length = 4 * w.length
  | []=>rfl
  | x :: r=>by show (_ :: _ :: _ :: _ :: sumB r).length = _;simp [qg9 r];omega
theorem qej : ∀ (w : List UInt32) (i : Nat),i < w.length → (sumB w)[4 * i]? = some (wg w i >>> UInt32.ofNat 24).toUInt8 ∧ (sumB w)[4 * i + 1]? = some (wg w i >>> UInt32.ofNat 16).toUInt8 ∧ (sumB w)[4 * i + 2]? = some (wg w i >>> UInt32.ofNat 8).toUInt8 ∧ (sumB w)[4 * i + 3]? = some (wg w i).toUInt8
  | x :: r,0,_=>⟨rfl,rfl,rfl,rfl⟩
  | x :: r,i + 1,h=>by
    have:=qej r i (by simpa using h);show (_ :: _ :: _ :: _ :: sumB r)[4 * (i + 1)]? = _ ∧ (_ :: _ :: _ :: _ :: sumB r)[4 * (i + 1) + 1]? = _ ∧ (_ :: _ :: _ :: _ :: sumB r)[4 * (i + 1) + 2]? = _ ∧ (_ :: _ :: _ :: _ :: sumB r)[4 * (i + 1) + 3]? = _;rw [show 4 * (i + 1) = 4 * i + 1 + 1 + 1 + 1 by omega]
    simpa [wg] using this
def shaD (m : List UInt8) : List UInt8:=sumB (stOf (m ++ padB m.length))
theorem q1m (m : List UInt8) : (shaD m).length = 32:=by rw [shaD,qg9,q25]
structure NA where
  k : Nat
  a : Option Addr
  cap : Nat
structure NL where
  k : Nat
  l : List UInt8
  a : Option Addr
  cap : Nat
def mid (m : List UInt8) (k : Nat) : List UInt8:=rsOf m ++ 128 :: List.replicate k 0
theorem q74 (m : List UInt8) (k : Nat) : (mid m k).length = (rsOf m).length + 1 + k:=by simp [mid];omega
theorem qlu (m : List UInt8) (k : Nat) : mid m (k + 1) = mid m k ++ [0]:=by simp [mid,List.replicate_succ']
abbrev z32 : List Value:=List.replicate 32 (.int .u8 0)
theorem q66 : ∀ B,Seg.ok B (.many 32 z32):=fun B=>⟨rfl,fun v hv=>by simp at hv;subst hv;rfl⟩
theorem fill4 {D : List UInt8} (hD : D.length = 32) {i : Nat} (hi : i < 8) {n0 n1 n2 n3 : Nat} (e0 : n0 = 4 * i) (e1 : n1 = 4 * i + 1) (e2 : n2 = 4 * i + 2) (e3 : n3 = 4 * i + 3) {v0 v1 v2 v3 : UInt8}
    (h0 : D[4 * i]? = some v0) (h1 : D[4 * i + 1]? = some v1) (h2 : D[4 * i + 2]? = some v2) (h3 : D[4 * i + 3]? = some v3) :
    let L0:=fillL D 32 (4 * i)
    let L1:=L0.take n0 ++ ([.int .u8 (v0.toNat : Int)] ++ L0.drop (n0 + 1))
    let L2:=L1.take n1 ++ ([.int .u8 (v1.toNat : Int)] ++ L1.drop (n1 + 1))
    let L3:=L2.take n2 ++ ([.int .u8 (v2.toNat : Int)] ++ L2.drop (n2 + 1))
    L3.take n3 ++ ([.int .u8 (v3.toNat : Int)] ++ L3.drop (n3 + 1)) = fillL D 32 (4 * (i + 1)):=by
  intro L0 L1 L2 L3;subst e0 e1 e2 e3;rw [List.getElem?_eq_some_iff] at h0 h1 h2 h3;obtain ⟨_,rfl⟩:=h0;obtain ⟨_,rfl⟩:=h1;obtain ⟨_,rfl⟩:=h2;obtain ⟨_,rfl⟩:=h3;have E1 : L1 = fillL D 32 (4 * i + 1):=q3g (by omega) (by omega) _ rfl;have E2 : L2 = fillL D 32 (4 * i + 2):=by show L1.take _ ++ (_ ++ L1.drop _) = _;rw [E1];exact q3g (by omega) (by omega) _ rfl
  have E3 : L3 = fillL D 32 (4 * i + 3):=by show L2.take _ ++ (_ ++ L2.drop _) = _;rw [E2];exact q3g (by omega) (by omega) _ rfl
  rw [E3];exact q3g (by omega) (by omega) _ rfl
theorem qcv (A : HP) (hK : Gl A) (g : Nat) (m : List UInt8) :
    Con Tryz.prog 144 [.c (.rp g 0)] [] [Hs g m] A (fun _ : Unit=>True) (fun _=>.agg [.many 32 (u8s (shaD m))]) (fun _=>[]) (fun _=>[Hs g m]):=by
  refine Con.box (Runs.of Tryz.func144 rfl (by decide)) ?_;rintro ⟨a1,cap1⟩ hk1;have hks:=wmk (q25 m);have hrl:=q8b m;have hrb : Bts (Own a1 cap1 5 1 (u8s (rsOf m))) a1 cap1 (rsOf m):=⟨Own.rd,hk1.1⟩;refine Con.of' tt_ok Tryz.func144 rfl (by decide) [.c (.ptr 1000 0)] [(1000,g)] [(1000,(hcel g (stOf m) a1 (rsOf m).length cap1 m.length).2)] rfl rfl ⟨⟨trivial,trivial,hks _,trivial,trivial,trivial⟩,trivial⟩ kk rfl ?_;(conv=>whnf);intro b2;(conv=>whnf);intro b3;conv=>whnf
  refine Cq.by' [1000] [] (qnf _ g _ (q25 m) a1 _ cap1 _) rfl ⟨rfl,rfl,rfl,fun _ _=>⟨rfl,?_⟩⟩
  (conv=>whnf);intro b4;(conv=>whnf);refine With.own0 5 1 ?_;refine q1w (a:=none) (n:=0) (cap:=0) (l:=[]) (k:=(rsOf m).length) (m:=rsOf m) (src:=.c (.rs a1 (rsOf m).length cap1)) (.refl _) rfl rfl (Src.rs (A:=Own a1 cap1 5 1 (u8s (rsOf m))) (by simp) hrb.1) ⟨rfl,rfl⟩ (by omega) 24 (.inr rfl) ?_;intro a5 c5 hc5 hn5;rw [Nat.zero_add,List.nil_append] at *;(conv=>whnf);intro b23;conv=>whnf
  refine q1w (a:=a5) (n:=(rsOf m).length) (cap:=c5) (l:=rsOf m) (k:=1) (m:=[128]) (src:=.c (.slc 23 0 1 1)) (.refl _) rfl rfl
    (by exact Src.slc (Exists.intro [] rfl)) ⟨rfl,rfl⟩ (by omega) 24 (.inr rfl) ?_
  intro a6 c6 hc6 hn6;conv=>whnf
  refine LoopOb.m (σ:=NA) (fun q=>[(0,.c (.ptr 1000 0)),(2,.c (.ptr 2 0)),(3,.c (.ptr 3 0)),(4,.c (.ptr 4 0)),(5,.c (.rs q.a (mid m q.k).length q.cap))])
    (fun q=>⟨[(4,b4),(3,b3),(2,b2),(1000,g)],[(4,[.many 8 (w32s (stOf m))],245),(3,[.many 32 z32],23),(2,[.many 32 z32],23),(1000,(hcel g (stOf m) a1 (rsOf m).length cap1 m.length).2)],[Own q.a q.cap 5 1 (u8s (mid m q.k)),Own a1 cap1 5 1 (u8s (rsOf m)),A]⟩)
    (fun q=>q.k ≤ zer m.length ∧ (mid m q.k).length ≤ q.cap ∧ q.a ≠ none) (fun q=>zer m.length - q.k) ⟨0,a6,c6⟩ ⟨Nat.zero_le _,by rw [q74];exact hc6,fun h=>absurd (hn6 h) (by omega)⟩
    (Wk.m [4,3,2,1000] [0,0,0] ⟨⟨rfl,trivial⟩,⟨rfl,trivial⟩,⟨rfl,trivial⟩,⟨rfl,trivial⟩,⟨by rw [q74];rfl,trivial⟩,trivial⟩ ⟨⟨trivial,hks _,trivial⟩,⟨trivial,q66 _,trivial⟩,⟨trivial,q66 _,trivial⟩,⟨trivial,trivial,hks _,trivial,trivial,trivial⟩,trivial⟩ ⟨rfl,rfl⟩) ?_
  rintro ⟨k,a7,c7⟩ ⟨hk7,hc7,hn7⟩;dsimp only at hk7 hc7 ⊢;have hml:=q74 m k;have hzm : zer m.length = (119 - m.length % 64) % 64:=rfl;(conv=>whnf);refine ⟨by decide,?_⟩;(conv=>whnf);rw [Int.tmod_eq_emod_of_nonneg (by omega)];refine Cond.neI (fun h=>?_) (fun h=>?_)
  · (conv=>whnf);intro b30;conv=>whnf
    refine q1w (a:=a7) (n:=(mid m k).length) (cap:=c7) (l:=mid m k) (k:=1) (m:=[0]) (src:=.c (.slc 30 0 1 1)) (.refl _) rfl rfl
      (by exact Src.slc (Exists.intro [] rfl)) ⟨rfl,rfl⟩ (by omega) 24 (.inr rfl) ?_
    intro a8 c8 hc8 hn8;rw [← qlu];(conv=>whnf);exact ⟨⟨k + 1,a8,c8⟩,⟨by dsimp only;omega,by rw [q74] at *;exact hc8,fun h=>absurd (hn8 h) (by omega)⟩,by dsimp only;omega,Wk.m [4,3,2,1000] [0,0,0] ⟨⟨rfl,trivial⟩,⟨rfl,trivial⟩,⟨rfl,trivial⟩,⟨rfl,trivial⟩,⟨by rw [q74,q74];rfl,trivial⟩,trivial⟩ ⟨⟨trivial,hks _,trivial⟩,⟨trivial,q66 _,trivial⟩,⟨trivial,q66 _,trivial⟩,⟨trivial,trivial,hks _,trivial,trivial,trivial⟩,trivial⟩ ⟨rfl,rfl⟩⟩
  have hkz : k = zer m.length:=by omega
  subst hkz;clear hn6 hn5 hc6 hc5;have hz64 : zer m.length < 64:=Nat.mod_lt _ (by decide);have hm30:=hk1.2;generalize hM : mid m (zer m.length) = M at *
  have hok : ∀ st : List UInt32,st.length = 8 → okH [(4,b4),(3,b3),(2,b2),(1000,g)] [(4,[.many 8 (w32s st)],245),(3,[.many 32 z32],23),(2,[.many 32 z32],23),(1000,(hcel g (stOf m) a1 (rsOf m).length cap1 m.length).2)] :=
    fun st hst=>⟨⟨trivial,wmk hst _,trivial⟩,⟨trivial,q66 _,trivial⟩,⟨trivial,q66 _,trivial⟩,⟨trivial,trivial,hks _,trivial,trivial,trivial⟩,trivial⟩
  conv=>whnf
  refine LoopOb.m (σ:=NL) (fun q=>[(0,.c (.ptr 1000 0)),(2,.c (.ptr 2 0)),(3,.c (.ptr 3 0)),(4,.c (.ptr 4 0)),(5,.c (.rs q.a (M ++ q.l).length q.cap)),(6,.c (.int .i64 (8 * (q.k : Int) - 8)))])
    (fun q=>⟨[(4,b4),(3,b3),(2,b2),(1000,g)],[(4,[.many 8 (w32s (stOf m))],245),(3,[.many 32 z32],23),(2,[.many 32 z32],23),(1000,(hcel g (stOf m) a1 (rsOf m).length cap1 m.length).2)],[Own q.a q.cap 5 1 (u8s (M ++ q.l)),Own a1 cap1 5 1 (u8s (rsOf m)),A]⟩)
    (fun q=>q.k ≤ 8 ∧ q.l ++ be8 ((m.length : Int) * 8) q.k = be8 ((m.length : Int) * 8) 8 ∧ (M ++ q.l).length ≤ q.cap ∧ q.a ≠ none) (fun q=>q.k) ⟨8,[],a7,c7⟩ ⟨Nat.le_refl _,rfl,by rw [List.append_nil];exact hc7,hn7⟩
    (Wk.m [4,3,2,1000] [0,0,0] ⟨⟨rfl,trivial⟩,⟨rfl,trivial⟩,⟨rfl,trivial⟩,⟨rfl,trivial⟩,⟨by rw [List.append_nil];rfl,trivial⟩,⟨rfl,trivial⟩,trivial⟩ (hok _ (q25 m)) ⟨rfl,by rw [List.append_nil]⟩) ?_
  rintro ⟨k,l,a8,c8⟩ ⟨hk8,hb8,hc8,hn8⟩;dsimp only at hk8 hb8 hc8 ⊢;have hl8 : l.length + k = 8:=by have:=congrArg List.length hb8;simpa [q5s] using this
  (conv=>whnf);refine Cond.d (fun h=>?_) (fun h=>?_)
  · obtain ⟨k,rfl⟩ : ∃ j,k = j + 1:=⟨k - 1,by omega⟩;(conv=>whnf);refine Ar.u64 (by omega) ?_;(conv=>whnf);refine Ar.u64 (by omega) ?_;(conv=>whnf);refine ⟨by omega,?_⟩;refine Ar.wr ?_;(conv=>whnf);intro b46;(conv=>whnf);have e8 : min (8 * ((k + 1 : Nat) : Int) - 8).toNat IntKind.u64.bits = 8 * k:=by simp only [IntKind.bits];omega
    refine q1w (a:=a8) (n:=(M ++ l).length) (cap:=c8) (l:=M ++ l) (k:=1) (m:=[by8 (((m.length : Int) * 8).fdiv (2 ^ (8 * k)))]) (src:=.c (.slc 46 0 1 1)) (.refl _) rfl rfl
      (by rw [← e8];simp only [qc7,qiy];exact Src.slc (Exists.intro [] rfl)) ⟨rfl,rfl⟩ (by simp at hc8 ⊢;omega) 24 (.inr rfl) ?_
    intro a9 c9 hc9 hn9;rw [List.append_assoc];(conv=>whnf);refine Ar.i64 (by omega) ?_;(conv=>whnf);refine ⟨⟨k,l ++ [by8 (((m.length : Int) * 8).fdiv (2 ^ (8 * k)))],a9,c9⟩,⟨by dsimp only;omega,?_,?_,fun h=>absurd (hn9 h) (by omega)⟩,by dsimp only;omega,Wk.m [4,3,2,1000] [0,0,0] ⟨⟨rfl,trivial⟩,⟨rfl,trivial⟩,⟨rfl,trivial⟩,⟨rfl,trivial⟩,⟨?_,trivial⟩,⟨?_,trivial⟩,trivial⟩ (hok _ (q25 m)) ⟨rfl,rfl⟩⟩
    · rw [← hb8];simp [be8]
    · simp at hc9 ⊢;omega
    · show Value.slice a9 ((M ++ l).length + 1) c9 = Value.slice a9 (M ++ (l ++ [_])).length c9;congr 1;simp;omega
    · show Value.int .i64 (8 * ((k + 1 : Nat) : Int) - 8 - 8) = Value.int .i64 (8 * (k : Int) - 8);congr 1;omega
  obtain rfl : k = 0:=by omega
  replace hb8 : l = be8 ((m.length : Int) * 8) 8:=by rw [← hb8];exact (List.append_nil l).symm
  have hL : M ++ l = rsOf m ++ padB m.length:=by
    rw [hb8,← hM];simp [mid,padB]
  rw [hL] at hc8 ⊢;have hLm : (m.length + (padB m.length).length) % 64 = 0:=qgo m.length;have hLl : (rsOf m ++ padB m.length).length = (rsOf m).length + (padB m.length).length:=List.length_append;have hst : stOf (m ++ padB m.length) = comp (stOf m) ((rsOf m ++ padB m.length).length / 64) (rsOf m ++ padB m.length):=q9s _ _;have hpl : (padB m.length).length = zer m.length + 9:=by simp [padB,q5s]
  clear hb8 hM hL hml;generalize rsOf m ++ padB m.length = L at *;have hLb : Bts (Own a8 c8 5 1 (u8s L)) a8 c8 L:=⟨Own.rd,hc8,fun h=>absurd h hn8⟩;conv=>whnf
  refine LoopOb.m (σ:=NA) (fun q=>[(0,.c (.ptr 1000 0)),(2,.c (.ptr 2 0)),(3,.c (.ptr 3 0)),(4,.c (.ptr 4 0)),(5,.c (.rs q.a (L.drop (64 * q.k)).length q.cap))])
    (fun q=>⟨[(4,b4),(3,b3),(2,b2),(1000,g)],[(4,[.many 8 (w32s (comp (stOf m) q.k L))],245),(3,[.many 32 z32],23),(2,[.many 32 z32],23),(1000,(hcel g (stOf m) a1 (rsOf m).length cap1 m.length).2)],[Own a8 c8 5 1 (u8s L),Own a1 cap1 5 1 (u8s (rsOf m)),A]⟩)
    (fun q=>q.k ≤ L.length / 64 ∧ Bts (Own a8 c8 5 1 (u8s L)) q.a q.cap (L.drop (64 * q.k))) (fun q=>L.length / 64 - q.k) ⟨0,a8,c8⟩ ⟨Nat.zero_le _,hLb⟩
    (Wk.m [4,3,2,1000] [0,0,0] kk (hok _ (q25 m)) ⟨rfl,rfl⟩) ?_
  rintro ⟨i,ar,cr⟩ ⟨hi,hbi⟩;dsimp only at hi hbi ⊢;have hdl : (L.drop (64 * i)).length = L.length - 64 * i:=List.length_drop;have hcl:=q4b (q25 m) i L;have hkc:=wmk hcl;have hc1:=hbi.2.1;(conv=>whnf);refine Cond.d (fun h=>?_) (fun h=>?_)
  · (conv=>whnf);refine ⟨by omega,?_⟩;have hl64 : ((L.drop (64 * i)).take 64).length = 64:=by rw [List.length_take];omega
    have hb64:=hbi.sub 0 64 (by omega);(conv=>whnf);refine Cq.by' [4] [] (qkq _ (Own a8 c8 5 1 (u8s L)) (Ent.a mm) (hK.ent (Ent.a mm)) (cutA ar cr 0 1) (cr - 0) ((L.drop (64 * i)).take 64) hb64 hl64 b4 _ hcl) (by rw [hl64];rfl) ⟨rfl,rfl,rfl,fun _ _=>⟨rfl,?_⟩⟩
    rw [← q8v];(conv=>whnf);refine ⟨by omega,?_⟩;(conv=>whnf);have e1 : (L.drop (64 * i)).length - 64 = (L.drop (64 * (i + 1))).length:=by rw [List.length_drop,List.length_drop];omega
    have hbn:=hbi.drop 64 (by omega);rw [List.drop_drop,← Nat.mul_succ] at hbn;refine ⟨⟨i + 1,cutA ar cr 64 1,cr - 64⟩,⟨by dsimp only;omega,hbn⟩,by dsimp only;omega,Wk.m [4,3,2,1000] [0,0,0] ⟨⟨rfl,trivial⟩,⟨rfl,trivial⟩,⟨rfl,trivial⟩,⟨rfl,trivial⟩,⟨?_,trivial⟩,trivial⟩ (hok _ (q4b (q25 m) _ _)) ⟨rfl,rfl⟩⟩;dsimp only;rw [← e1];rfl
  have hi' : i = L.length / 64:=by omega
  subst hi';rw [← hst];have hs8:=q25 (m ++ padB m.length);have hst' : ∃ x,stOf (m ++ padB m.length) = x:=⟨_,rfl⟩;obtain ⟨st,hst'⟩:=hst';rw [hst'] at hs8 ⊢;have hD : shaD m = sumB st:=by unfold shaD;rw [← hst']
  have hDl:=q1m m;rw [hD] at hDl ⊢
  have hok4 : ∀ i,i ≤ 8 → okH [(3,b3),(2,b2),(1000,g)] [(3,[.many 32 (fillL (sumB st) 32 (4 * i))],23),(2,[.many 32 z32],23),(1000,(hcel g (stOf m) a1 (rsOf m).length cap1 m.length).2)] :=
    fun i hi=>⟨⟨trivial,q2g (by omega) (by omega) _,trivial⟩,⟨trivial,q66 _,trivial⟩,⟨trivial,trivial,hks _,trivial,trivial,trivial⟩,trivial⟩
  conv=>whnf
  refine LoopOb.m (σ:=Nat) (fun i=>[(2,.c (.ptr 2 0)),(3,.c (.ptr 3 0)),(56,.agg [.many 8 (w32s st)]),(57,.c (.int .i64 i))])
    (fun i=>⟨[(3,b3),(2,b2),(1000,g)],[(3,[.many 32 (fillL (sumB st) 32 (4 * i))],23),(2,[.many 32 z32],23),(1000,(hcel g (stOf m) a1 (rsOf m).length cap1 m.length).2)],[Own a1 cap1 5 1 (u8s (rsOf m)),A]⟩)
    (fun i=>i ≤ 8) (fun i=>8 - i) 0 (Nat.zero_le _)
    (Wk.m [3,2,1000] [1,1] ⟨⟨rfl,trivial⟩,⟨rfl,trivial⟩,⟨rfl,q04 ⟨wmk hs8 _,trivial⟩⟩,⟨rfl,trivial⟩,trivial⟩ (hok4 0 (by omega)) ⟨rfl,rfl⟩) ?_
  intro i hi;(conv=>whnf);refine Cond.d (fun h=>?_) (fun h=>?_)
  · obtain ⟨g0,g1,g2,g3⟩:=qej st i (by omega);(conv=>whnf);refine ⟨by omega,?_⟩;refine q0m i (by show (i : Int).toNat * 1 = i;omega) (by omega) ?_;generalize wg st i = x at *;(conv=>whnf);refine Ar.i64 (by omega) ?_;(conv=>whnf);refine Ar.i64 (by omega) ?_;(conv=>whnf);refine Ar.i64 (by omega) ?_;(conv=>whnf);refine Ar.i64 (by omega) ?_;(conv=>whnf);refine Ar.i64 (by omega) ?_;(conv=>whnf);refine Ar.i64 (by omega) ?_;(conv=>whnf);refine Ar.i64 (by omega) ?_;(conv=>whnf);refine ⟨by decide,?_⟩
    refine Ar.wbyte (.shr (.base x) 24 (by decide)) ?_;(conv=>whnf);refine ⟨by decide,?_⟩;refine Ar.wbyte (.shr (.base x) 16 (by decide)) ?_;(conv=>whnf);refine ⟨by decide,?_⟩;refine Ar.wbyte (.shr (.base x) 8 (by decide)) ?_;(conv=>whnf);refine Ar.wbyte (.base x) ?_;(conv=>whnf);refine ⟨by omega,?_⟩;(conv=>whnf);refine ⟨⟨rfl,by show (4 * (i : Int)).toNat * 1 + 1 ≤ 32;omega⟩,?_⟩;(conv=>whnf);refine ⟨by omega,?_⟩;(conv=>whnf);refine ⟨⟨rfl,by show (4 * (i : Int) + 1).toNat * 1 + 1 ≤ 32;omega⟩,?_⟩;(conv=>whnf);refine ⟨by omega,?_⟩
    (conv=>whnf);refine ⟨⟨rfl,by show (4 * (i : Int) + 2).toNat * 1 + 1 ≤ 32;omega⟩,?_⟩;(conv=>whnf);refine ⟨by omega,?_⟩;(conv=>whnf);refine ⟨⟨rfl,by show (4 * (i : Int) + 3).toNat * 1 + 1 ≤ 32;omega⟩,?_⟩;(conv=>whnf);refine Ar.i64 (by omega) ?_;(conv=>whnf);refine ⟨i + 1,by omega,by omega,Wk.m [3,2,1000] [0,0] ⟨⟨rfl,trivial⟩,⟨rfl,trivial⟩,⟨rfl,q04 ⟨wmk hs8 _,trivial⟩⟩,⟨rfl,trivial⟩,trivial⟩ (hok4 (i + 1) (by omega)) ⟨?_,rfl⟩⟩
    rw [← fill4 hDl (by omega : i < 8) (show (4 * (i : Int)).toNat * 1 = _ by omega) (show (4 * (i : Int) + 1).toNat * 1 = _ by omega) (show (4 * (i : Int) + 2).toNat * 1 = _ by omega) (show (4 * (i : Int) + 3).toNat * 1 = _ by omega) g0 g1 g2 g3];rfl
  have hi' : i = 8:=by omega
  subst hi';rw [show 4 * 8 = 32 from rfl,q9m hDl];have hk32:=mok hDl;(conv=>whnf);exact Ret.m ((a1,cap1),()) [1000] [0,0] ⟨hk1,trivial⟩ rfl ⟨hk32 _,trivial⟩ ⟨⟨trivial,hks _,trivial,trivial,trivial⟩,trivial⟩ ⟨rfl,rfl⟩
end
section
theorem sum_c (A R : HP) (hE : Ent A R) (hK : Gl A) (a : Option Addr) (cap : Nat) (b : List UInt8) (hb : Bts R a cap b) (hn : b.length ≤ 1073741824) : Pu Tryz.prog 140 [.c (.rs a b.length cap)] A (.agg [.many 32 (u8s (shaD b))]):=by
  refine Con.of' tt_ok Tryz.func140 rfl (by decide) [.c (.rs a b.length cap)] [] [] rfl rfl trivial kk rfl ?_;have hk32:=mok (q1m b);(conv=>whnf);intro b2;(conv=>whnf);refine Cq.by' [] [] (qck _) rfl ⟨rfl,rfl,rfl,fun g _=>⟨rfl,?_⟩⟩
  (conv=>whnf);refine Cq.by' [] [0] (q39 _ R ((Ent.a mm).trans hE) (hK.ent (Ent.a mm)) g [] a cap b hb (by simp;omega)) rfl ⟨rfl,rfl,rfl,fun _ _=>⟨rfl,?_⟩⟩
  (conv=>whnf);refine Cq.by' [] [0] (qcv _ (hK.ent (Ent.a mm)) g b) rfl ⟨rfl,rfl,rfl,fun _ _=>⟨rfl,?_⟩⟩
  (conv=>whnf);exact Ret.m () [] [1] trivial rfl ⟨hk32 _,trivial⟩ kk ⟨rfl,rfl⟩
def padK (key : List UInt8) (c : UInt8) : List UInt8:=(List.range 64).map fun i=>key.getD i 0 ^^^ c
theorem q17 (key : List UInt8) (c : UInt8) : (padK key c).length = 64:=by simp [padK]
def ext64 (key : List UInt8) : List UInt8:=key ++ List.replicate (64 - key.length) 0
theorem q8t {key : List UInt8} (h : key.length ≤ 64) : (ext64 key).length = 64:=by simp [ext64];omega
theorem qjs (key : List UInt8) (i : Nat) : (ext64 key).getD i 0 = key.getD i 0:=by
  simp only [ext64,List.getD_eq_getElem?_getD]
  by_cases h : i < key.length
  · rw [List.getElem?_append_left h]
  · rw [List.getElem?_append_right (by omega),List.getElem?_eq_none (l:=key) (by omega),List.getElem?_replicate]
    split <;> rfl
def padL (key : List UInt8) (c : UInt8) (i : Nat) : List UInt8:=(padK key c).take i ++ (ext64 key).drop i
theorem qc3 {key : List UInt8} {c : UInt8} {i : Nat} (h : key.length ≤ 64) (hi : i ≤ 64) : (padL key c i).length = 64:=by simp [padL,q17,q8t h];omega
theorem qkp {key : List UInt8} {c : UInt8} {i : Nat} (h : key.length ≤ 64) (hi : i < 64) : gd (padL key c i) i = (key.getD i 0).toNat:=by
  have hp:=q17 key c;rw [← qjs];simp only [gd,padL,List.getD_eq_getElem?_getD];rw [List.getElem?_append_right (by rw [List.length_take];omega),List.length_take,List.getElem?_drop];congr 3;omega
theorem qkw {key : List UInt8} {c : UInt8} {i : Nat} (h : key.length ≤ 64) (hi : i < 64) : (padL key c i).set i (key.getD i 0 ^^^ c) = padL key c (i + 1):=by
  have hp:=q17 key c;have he:=q8t h;unfold padL;rw [List.set_append_right _ _ (by rw [List.length_take];omega),List.length_take,show i - min i (padK key c).length = 0 by omega,List.take_succ_eq_append_getElem (by omega),List.append_assoc];congr 1;rw [List.drop_eq_getElem_cons (by omega),List.set_cons_zero]
  simp [padK]
theorem xorb (a b : UInt8) : ibits .xor .u8 (a.toNat : Int) (b.toNat : Int) = ((a ^^^ b).toNat : Int):=by
  have e : ∀ x : UInt8,BitVec.ofInt 8 (x.toNat : Int) = x.toBitVec:=fun x=>by
    rw [BitVec.ofInt_natCast];exact BitVec.ofNat_toNat _ _ |>.trans (by simp)
  show IntKind.u8.wrap (((BitVec.ofInt 8 (a.toNat : Int)) ^^^ (BitVec.ofInt 8 (b.toNat : Int))).toNat : Int) = _;rw [e,e];have : (a.toBitVec ^^^ b.toBitVec).toNat = (a ^^^ b).toNat:=rfl;rw [this];have:=(a ^^^ b).toNat_lt;exact IntWalk.u8_in _ (by omega)
theorem pad_c (A R : HP) (hE : Ent A R) (a : Option Addr) (cap : Nat) (key : List UInt8) (hb : Bts R a cap key) (hn : key.length ≤ 64) (c : UInt8) :
    Con Tryz.prog 143 [.c (.rs a key.length cap),.c (.int .u8 (c.toNat : Int))] [] [] A (fun _ : Nat=>True) (fun g=>.c (.rs (some (radr (g,0))) 64 64)) (fun _=>[]) (fun g=>[Own (some (radr (g,0))) 64 5 1 (u8s (padK key c))]):=by
  refine Con.of' tt_ok Tryz.func143 rfl (by decide) [.c (.rs a key.length cap),.c (.int .u8 (c.toNat : Int))] [] [] rfl rfl trivial kk rfl ?_;(conv=>whnf);refine ⟨by decide,?_⟩;(conv=>whnf);intro b7;(conv=>whnf);refine With.own (i:=7) (n:=64) (cap:=64) (size:=1) ⟨_,_,rfl,⟨rfl,Nat.le_refl _⟩,?_⟩
  refine qm2 (p:=(b7,0)) (n:=64) (c0:=64) (k:=key.length) (ys:=u8s key) (src:=.c (.rs a key.length cap)) (.refl _) (Src.rs (A:=A) (by simp) (hb.1.ent hE)) (by rw [u8l];exact (Nat.mul_one _).symm) (q0s _) hn (by show key.length * 1 ≤ 64;omega) ?_
  have e0 : u8s key ++ ((dens [(7,b7)] [Seg.many 64 (List.replicate 64 (Value.int .u8 0))]).take (64 * 1)).drop (key.length * 1) = u8s (padL key c 0):=by
    show u8s key ++ ((List.replicate 64 (Value.int .u8 0) ++ []).take (64 * 1)).drop (key.length * 1) = _;rw [List.append_nil,List.take_of_length_le (by rw [List.length_replicate];omega),List.drop_replicate,Nat.mul_one];unfold padL ext64;rw [List.take_zero,List.nil_append,List.drop_zero,q0n];unfold u8s;rw [List.map_replicate];rfl
  conv=>whnf
  refine LoopOb.m (σ:=Nat) (fun i=>[(1,.c (.int .u8 (c.toNat : Int))),(5,.c (.rs (some (radr (b7,0))) (padL key c 0).length 64)),(12,.c (.int .i64 64)),(13,.c (.int .i64 i))])
    (fun i=>⟨[],[],[Own (some (radr (b7,0))) 64 5 1 (u8s (padL key c i)),A]⟩) (fun i=>i ≤ 64) (fun i=>64 - i) 0 (Nat.zero_le _)
    (Wk.m [] [0,0] ⟨⟨rfl,trivial⟩,⟨by rw [qc3 hn (by omega)];rfl,trivial⟩,⟨rfl,trivial⟩,⟨rfl,trivial⟩,trivial⟩ trivial ⟨rfl,by rw [← e0];rfl⟩) ?_
  rw [qc3 hn (by omega)];intro i hi;have hpl:=qc3 (c:=c) hn hi;(conv=>whnf);refine Cond.d (fun h=>?_) (fun h=>?_)
  · have hr : Rd (Own (some (radr (b7,0))) 64 5 1 (u8s (padL key c i))) (some (radr (b7,0))) (u8s (padL key c i)):=Own.rd;(conv=>whnf);refine ⟨by omega,PtrOb.rd (A:=Own (some (radr (b7,0))) 64 5 1 (u8s (padL key c i))) (by simp) hr (by rw [u8l];omega) fun p hp=>?_⟩;obtain rfl:=q1z hp;(conv=>whnf);refine ldb (A:=Own (some (radr (b7,0))) 64 5 1 (u8s (padL key c i))) i (by simp) hr (by omega) rfl rfl (by show 0 + (i : Int).toNat * 1 = 0 + i;omega) ?_;rw [qkp hn (by omega)];conv=>whnf
    refine ⟨by omega,PtrOb.rd (A:=Own (some (radr (b7,0))) 64 5 1 (u8s (padL key c i))) (by simp) hr (by rw [u8l];omega) fun p hp=>?_⟩;obtain rfl:=q1z hp;(conv=>whnf);refine qhq i (key.getD i 0 ^^^ c) (.refl _) rfl rfl (by show 0 + (i : Int).toNat * 1 = 0 + i;omega) (xorb _ _) (by omega) ?_;rw [qkw hn (by omega)];(conv=>whnf);refine Ar.i64 (by omega) ?_;(conv=>whnf);exact ⟨i + 1,by omega,by omega,Wk.m [] [0,0] ⟨⟨rfl,trivial⟩,⟨rfl,trivial⟩,⟨rfl,trivial⟩,⟨rfl,trivial⟩,trivial⟩ trivial ⟨rfl,rfl⟩⟩
  have hi' : i = 64:=by omega
  subst hi';have hp:=q17 key c;have e64 : padL key c 64 = padK key c:=by unfold padL;rw [List.take_of_length_le (by omega),List.drop_eq_nil_of_le (by rw [q8t hn];omega),List.append_nil]
  rw [e64];(conv=>whnf);exact Ret.m b7 [] [0,0] trivial rfl kk trivial ⟨rfl,rfl⟩
def macK (key : List UInt8) : List UInt8:=if key.length > 64 then shaD key else key
def macD (key b : List UInt8) : List UInt8:=shaD (padK (macK key) 0x5c ++ shaD (padK (macK key) 0x36 ++ b))
theorem qb0 {b : Nat} {key : List UInt8} {c : UInt8} : Bts (Own (some (radr (b,0))) 64 5 1 (u8s (padK key c))) (some (radr (b,0))) 64 (padK key c) :=
  ⟨Own.rd,by rw [q17];exact Nat.le_refl _,fun h=>by cases h⟩
theorem mac_c (A R : HP) (hE : Ent A R) (hK : Gl A) (a : Option Addr) (cap : Nat) (key : List UInt8) (hb : Bts R a cap key) (hn : key.length ≤ 1073741824) (a' : Option Addr) (cap' : Nat) (b : List UInt8) (hb' : Bts R a' cap' b) (hn' : b.length ≤ 1000000000) :
    Pu Tryz.prog 103 [.c (.rs a key.length cap),.c (.rs a' b.length cap')] A (.agg [.many 32 (u8s (macD key b))]):=by
  refine Con.of' tt_ok Tryz.func103 rfl (by decide) [.c (.rs a key.length cap),.c (.rs a' b.length cap')] [] [] rfl rfl trivial kk rfl ?_;(conv=>whnf);intro b4;(conv=>whnf);refine Cond.d (fun h=>?_) (fun h=>?_)
  · (conv=>whnf);refine Cq.pu (sum_c _ R ((Ent.a mm).trans hE) (hK.ent (Ent.a mm)) a cap key hb hn) rfl ?_;(conv=>whnf);intro b5;have hkl:=q1m key;have hks : Bts (blk b5 (.cells (u8s (shaD key) ++ []).toArray 23)) (some (radr (b5,0))) 32 (shaD key):=⟨q1p,by omega,fun h=>by cases h⟩;have ek : macK key = shaD key:=if_pos (by omega);(conv=>whnf);refine Cq.by' [] [] (qck _) rfl ⟨rfl,rfl,rfl,fun g1 _=>⟨rfl,?_⟩⟩
    (conv=>whnf);refine Cq.by' [] [] (pad_c _ (blk b5 (.cells (u8s (shaD key) ++ []).toArray 23)) (Ent.a mm) (some (radr (b5,0))) 32 (shaD key) hks (by omega) 0x36) (by rw [hkl];rfl) ⟨rfl,rfl,rfl,fun g2 _=>⟨rfl,?_⟩⟩
    (conv=>whnf);refine Cq.by' [] [1] (q39 _ (Own (some (radr (g2,0))) 64 5 1 (u8s (padK (shaD key) 0x36))) (Ent.a mm) (hK.ent (Ent.a mm)) g1 [] (some (radr (g2,0))) 64 (padK (shaD key) 0x36) qb0 (by rw [q17];decide)) (by rw [q17];rfl) ⟨rfl,rfl,rfl,fun _ _=>⟨rfl,?_⟩⟩
    (conv=>whnf);refine Cq.by' [] [0] (q39 _ R ((Ent.a mm).trans hE) (hK.ent (Ent.a mm)) g1 (padK (shaD key) 0x36) a' cap' b hb' (by rw [q17];omega)) rfl ⟨rfl,rfl,rfl,fun _ _=>⟨rfl,?_⟩⟩
    (conv=>whnf);refine Cq.by' [] [0] (qcv _ (hK.ent (Ent.a mm)) g1 (padK (shaD key) 0x36 ++ b)) rfl ⟨rfl,rfl,rfl,fun _ _=>⟨rfl,?_⟩⟩
    (conv=>whnf);intro b7;(conv=>whnf);refine Cq.by' [] [] (qck _) rfl ⟨rfl,rfl,rfl,fun g3 _=>⟨rfl,?_⟩⟩
    (conv=>whnf);refine Cq.by' [] [] (pad_c _ (blk b5 (.cells (u8s (shaD key) ++ []).toArray 23)) (Ent.a mm) (some (radr (b5,0))) 32 (shaD key) hks (by omega) 0x5c) (by rw [hkl];rfl) ⟨rfl,rfl,rfl,fun g4 _=>⟨rfl,?_⟩⟩
    (conv=>whnf);refine Cq.by' [] [1] (q39 _ (Own (some (radr (g4,0))) 64 5 1 (u8s (padK (shaD key) 0x5c))) (Ent.a mm) (hK.ent (Ent.a mm)) g3 [] (some (radr (g4,0))) 64 (padK (shaD key) 0x5c) qb0 (by rw [q17];decide)) (by rw [q17];rfl) ⟨rfl,rfl,rfl,fun _ _=>⟨rfl,?_⟩⟩
    (conv=>whnf);generalize hd : shaD (padK (shaD key) 0x36 ++ b) = d;have hdl : d.length = 32:=by rw [← hd];exact q1m _
    refine Cq.by' [] [0] (q39 _ (blk b7 (.cells (u8s d ++ []).toArray 23)) (Ent.a mm) (hK.ent (Ent.a mm)) g3 (padK (shaD key) 0x5c) (some (radr (b7,0))) 32 d ⟨q1p,by omega,fun h=>by cases h⟩ (by rw [q17];omega)) (by rw [hdl];rfl) ⟨rfl,rfl,rfl,fun _ _=>⟨rfl,?_⟩⟩
    (conv=>whnf);refine Cq.by' [] [0] (qcv _ (hK.ent (Ent.a mm)) g3 (padK (shaD key) 0x5c ++ d)) rfl ⟨rfl,rfl,rfl,fun _ _=>⟨rfl,?_⟩⟩
    (conv=>whnf);refine Ret.m () [] [4] trivial ?_ ⟨mok (q1m _) _,trivial⟩ kk ⟨rfl,rfl⟩;rw [macD,ek,hd];rfl
  have ek : macK key = key:=if_neg (by omega);(conv=>whnf);refine Cq.by' [] [] (qck _) rfl ⟨rfl,rfl,rfl,fun g1 _=>⟨rfl,?_⟩⟩
  (conv=>whnf);refine Cq.by' [] [] (pad_c _ R ((Ent.a mm).trans hE) a cap key hb (by omega) 0x36) rfl ⟨rfl,rfl,rfl,fun g2 _=>⟨rfl,?_⟩⟩
  (conv=>whnf);refine Cq.by' [] [1] (q39 _ (Own (some (radr (g2,0))) 64 5 1 (u8s (padK key 0x36))) (Ent.a mm) (hK.ent (Ent.a mm)) g1 [] (some (radr (g2,0))) 64 (padK key 0x36) qb0 (by rw [q17];decide)) (by rw [q17];rfl) ⟨rfl,rfl,rfl,fun _ _=>⟨rfl,?_⟩⟩
  (conv=>whnf);refine Cq.by' [] [0] (q39 _ R ((Ent.a mm).trans hE) (hK.ent (Ent.a mm)) g1 (padK key 0x36) a' cap' b hb' (by rw [q17];omega)) rfl ⟨rfl,rfl,rfl,fun _ _=>⟨rfl,?_⟩⟩
  (conv=>whnf);refine Cq.by' [] [0] (qcv _ (hK.ent (Ent.a mm)) g1 (padK key 0x36 ++ b)) rfl ⟨rfl,rfl,rfl,fun _ _=>⟨rfl,?_⟩⟩
  (conv=>whnf);intro b7;(conv=>whnf);refine Cq.by' [] [] (qck _) rfl ⟨rfl,rfl,rfl,fun g3 _=>⟨rfl,?_⟩⟩
  (conv=>whnf);refine Cq.by' [] [] (pad_c _ R ((Ent.a mm).trans hE) a cap key hb (by omega) 0x5c) rfl ⟨rfl,rfl,rfl,fun g4 _=>⟨rfl,?_⟩⟩
  (conv=>whnf);refine Cq.by' [] [1] (q39 _ (Own (some (radr (g4,0))) 64 5 1 (u8s (padK key 0x5c))) (Ent.a mm) (hK.ent (Ent.a mm)) g3 [] (some (radr (g4,0))) 64 (padK key 0x5c) qb0 (by rw [q17];decide)) (by rw [q17];rfl) ⟨rfl,rfl,rfl,fun _ _=>⟨rfl,?_⟩⟩
  (conv=>whnf);generalize hd : shaD (padK key 0x36 ++ b) = d;have hdl : d.length = 32:=by rw [← hd];exact q1m _
  refine Cq.by' [] [0] (q39 _ (blk b7 (.cells (u8s d ++ []).toArray 23)) (Ent.a mm) (hK.ent (Ent.a mm)) g3 (padK key 0x5c) (some (radr (b7,0))) 32 d ⟨q1p,by omega,fun h=>by cases h⟩ (by rw [q17];omega)) (by rw [hdl];rfl) ⟨rfl,rfl,rfl,fun _ _=>⟨rfl,?_⟩⟩
  (conv=>whnf);refine Cq.by' [] [0] (qcv _ (hK.ent (Ent.a mm)) g3 (padK key 0x5c ++ d)) rfl ⟨rfl,rfl,rfl,fun _ _=>⟨rfl,?_⟩⟩
  (conv=>whnf);refine Ret.m () [] [4] trivial ?_ ⟨mok (q1m _) _,trivial⟩ kk ⟨rfl,rfl⟩;rw [macD,ek,hd];rfl
end
section
theorem qhn (A : HP) (k : List UInt8) (hk : k.length = 32) : Pu Tryz.prog 102 [.agg [.many 32 (u8s k)]] A (.agg [.many 16 (u8s (k.take 16))]):=by
  have hk32:=mok hk;refine Con.of' tt_ok Tryz.func102 rfl (by decide) [.agg [.many 32 (u8s k)]] [] [] rfl rfl trivial ⟨⟨hk32 _,trivial⟩,trivial⟩ rfl ?_;(conv=>whnf);intro b1;(conv=>whnf);intro b2;(conv=>whnf);refine ⟨by decide,?_⟩;(conv=>whnf);refine ⟨by decide,?_⟩;(conv=>whnf);refine Ret.m () [] [0] trivial ?_ ⟨mok (by rw [List.length_take];omega) _,trivial⟩ kk ⟨rfl,rfl⟩;rw [q1e];rfl
def eqD (a b : List UInt8) : Nat → UInt8
  | 0=>0
  | i + 1=>eqD a b i ||| (UInt8.ofNat (gd a i) ^^^ UInt8.ofNat (gd b i))
theorem orb (a b : UInt8) : ibits .or .u8 (a.toNat : Int) (b.toNat : Int) = ((a ||| b).toNat : Int):=by
  have e : ∀ x : UInt8,BitVec.ofInt 8 (x.toNat : Int) = x.toBitVec:=fun x=>by
    rw [BitVec.ofInt_natCast];exact BitVec.ofNat_toNat _ _ |>.trans (by simp)
  show IntKind.u8.wrap (((BitVec.ofInt 8 (a.toNat : Int)) ||| (BitVec.ofInt 8 (b.toNat : Int))).toNat : Int) = _;rw [e,e];have : (a.toBitVec ||| b.toBitVec).toNat = (a ||| b).toNat:=rfl;rw [this];have:=(a ||| b).toNat_lt;exact IntWalk.u8_in _ (by omega)
theorem qlt (a b : UInt8) : a ||| b = 0 ↔ a = 0 ∧ b = 0:=by
  constructor
  · intro h;have h' : a.toNat ||| b.toNat = 0:=by rw [← UInt8.toNat_or,h];rfl
    have : ∀ x y : Nat,x ||| y = 0 → x = 0:=fun x y h=>Nat.eq_of_testBit_eq fun i=>by
      have:=congrArg (Nat.testBit · i) h
      simp at this
      simp [this.1]
    exact ⟨UInt8.toNat_inj.1 (this _ _ h'),UInt8.toNat_inj.1 (this _ _ (by rw [Nat.or_comm];exact h'))⟩
  · rintro ⟨rfl,rfl⟩;rfl
theorem qik (a b : UInt8) : a ^^^ b = 0 ↔ a = b:=by
  constructor
  · intro h;have : a ^^^ b ^^^ b = 0 ^^^ b:=by rw [h]
    rwa [UInt8.xor_assoc,UInt8.xor_self,UInt8.xor_zero,UInt8.zero_xor] at this
  · rintro rfl;exact UInt8.xor_self
theorem qft (a b : List UInt8) (ha : a.length = b.length) : ∀ i,i ≤ a.length → (eqD a b i = 0 ↔ a.take i = b.take i)
  | 0,_=>by simp [eqD]
  | i + 1,h=>by
    have ih:=qft a b ha i (by omega);show eqD a b i ||| _ = 0 ↔ _
    rw [qlt,ih,qik,List.take_succ_eq_append_getElem (by omega),List.take_succ_eq_append_getElem (by omega),gd_eq (by omega),gd_eq (by omega)];simp only [UInt8.ofNat_toNat]
    constructor
    · rintro ⟨h1,h2⟩;rw [h1,h2]
    · intro h3;have:=List.append_inj h3 (by simp;omega);exact ⟨this.1,by simpa using this.2⟩
theorem qin (A R R' : HP) (hE : Ent A R) (hE' : Ent A R') (a : Option Addr) (cap : Nat) (l : List UInt8) (hb : Bts R a cap l) (a' : Option Addr) (cap' : Nat) (m : List UInt8) (hb' : Bts R' a' cap' m) (hl : l.length ≤ 1000000000) :
    Pu Tryz.prog 75 [.c (.rs a l.length cap),.c (.rs a' m.length cap')] A (.c (.bool (decide (l = m)))):=by
  refine Con.of' tt_ok Tryz.func75 rfl (by decide) [.c (.rs a l.length cap),.c (.rs a' m.length cap')] [] [] rfl rfl trivial kk rfl ?_;(conv=>whnf);refine Cond.neI (fun h=>?_) (fun h=>?_)
  · (conv=>whnf);refine Ret.m () [] [0] trivial ?_ kk kk ⟨rfl,rfl⟩;rw [decide_eq_false (fun e=>h (by rw [e]))];rfl
  have h : l.length = m.length:=by omega
  have hr:=hb.1.ent hE;have hr':=hb'.1.ent hE';conv=>whnf
  refine LoopOb.m (σ:=Nat) (fun i=>[(0,.c (.rs a l.length cap)),(1,.c (.rs a' m.length cap')),(5,.c (.int .u8 ((eqD l m i).toNat : Int))),(13,.c (.int .i64 l.length)),(14,.c (.int .i64 i))])
    (fun i=>⟨[],[],[A]⟩) (fun i=>i ≤ l.length) (fun i=>l.length - i) 0 (Nat.zero_le _)
    (Wk.m [] [0] kk trivial ⟨rfl,rfl⟩) ?_
  intro i hi;(conv=>whnf);refine Cond.d (fun h1=>?_) (fun h1=>?_)
  · (conv=>whnf);refine Draw.quiet (by kernel_rfl) tt_ok (List.range 12) (by kernel_rfl) ?_;(conv=>whnf);refine idx (A:=A) i (by simp) hr (by omega) rfl fun p hp=>?_;subst hp;(conv=>whnf);refine ldb (A:=A) i (by simp) hr (by omega) rfl rfl (by show _ + (i : Int).toNat * 1 = _ + i;omega) ?_;(conv=>whnf);refine idx (A:=A) i (by simp) hr' (by omega) rfl fun p' hp'=>?_;subst hp';(conv=>whnf);refine ldb (A:=A) i (by simp) hr' (by omega) rfl rfl (by show _ + (i : Int).toNat * 1 = _ + i;omega) ?_;(conv=>whnf);refine Ar.i64 (by omega) ?_;conv=>whnf
    refine ⟨i + 1,by omega,by omega,Wk.m [] [0] ⟨⟨rfl,trivial⟩,⟨rfl,trivial⟩,⟨?_,trivial⟩,⟨rfl,trivial⟩,⟨rfl,trivial⟩,trivial⟩ trivial ⟨rfl,rfl⟩⟩;show Value.int .u8 (ibits .or .u8 _ (ibits .xor .u8 (gd l i : Int) (gd m i : Int))) = Value.int .u8 _;rw [gd8,gd8 m,xorb,orb];rfl
  have hi' : i = l.length:=by omega
  subst hi';(conv=>whnf);refine Ret.m () [] [0] trivial ?_ kk kk ⟨rfl,rfl⟩;show Value.bool (((eqD l m l.length).toNat : Int) == 0) = Value.bool _;have hz:=qft l m h l.length (Nat.le_refl _);rw [List.take_length,List.take_of_length_le (by omega)] at hz;congr 1
  by_cases e : l = m
  · rw [decide_eq_true e,hz.2 e];rfl
  · rw [decide_eq_false e];have h0 : eqD l m l.length ≠ 0:=fun h=>e (hz.1 h);have : (eqD l m l.length).toNat ≠ 0:=fun h=>h0 (UInt8.toNat_inj.1 h)
    simp;omega
end
end Go.Proofs.YtfehjfoajlfhfaaGreatDoor
