import Derived.Test.YtfehjfoajlfhfaaGreatDoorQd
import Derived.Test.YtfehjfoajlfhfaaGreatDoorQb
namespace Go.Proofs.YtfehjfoajlfhfaaGreatDoor
open Go.Sx
set_option maxRecDepth 100000
set_option pp.deepTerms false
set_option pp.maxSteps 300
set_option linter.unusedSimpArgs false
set_option linter.unusedVariables false
section
theorem q4a {l : List UInt8} {i n : Nat} (hi : i < l.length) (hn : n < 256) : (u8s l).take i ++ ([Value.int .u8 (n : Int)] ++ (u8s l).drop (i + 1)) = u8s (l.set i (UInt8.ofNat n)):=by
  show _ = (l.set i _).map u8;rw [List.map_set,List.set_eq_take_append_cons_drop,if_pos (by simpa using hi)]
  have : (u8 (UInt8.ofNat n)) = Value.int .u8 (n : Int):=by
    show Value.int .u8 ((UInt8.ofNat n).toNat : Int) = _;congr 2
    simp;omega
  rw [this];rfl
theorem qq4 (x : Nat) (h : x < 256) : ibits .and .u8 (x : Int) 248 = ((x / 8 * 8 : Nat) : Int):=by
  have : ∀ x : Fin 256,ibits .and .u8 ((x : Nat) : Int) 248 = (((x : Nat) / 8 * 8 : Nat) : Int):=by decide +kernel
  exact this ⟨x,h⟩
theorem qnp (x : Nat) (h : x < 256) : ibits .and .u8 (x : Int) 127 = ((x % 128 : Nat) : Int):=by
  have : ∀ x : Fin 256,ibits .and .u8 ((x : Nat) : Int) 127 = (((x : Nat) % 128 : Nat) : Int):=by decide +kernel
  exact this ⟨x,h⟩
theorem or64 (x : Nat) (h : x < 256) : ibits .or .u8 ((x % 128 : Nat) : Int) 64 = ((x % 64 + 64 : Nat) : Int):=by
  have : ∀ x : Fin 256,ibits .or .u8 (((x : Nat) % 128 : Nat) : Int) 64 = (((x : Nat) % 64 + 64 : Nat) : Int):=by decide +kernel
  exact this ⟨x,h⟩
theorem qbo (A : HP) (k : List UInt8) (hk : k.length = 32) : Pu Tryz.prog 30 [.agg [.many 32 (u8s k)]] A (.agg [.many 32 (u8s (q18 k))]):=by
  have h0:=gd_lt k 0;have h31:=gd_lt k 31;have hl1 : (k.set 0 (UInt8.ofNat (gd k 0 / 8 * 8))).length = 32:=by rw [List.length_set,hk]
  have hl2 : (q18 k).length = 32:=by unfold q18;rw [List.length_set,hl1]
  refine Con.of' tt_ok Tryz.func30 rfl (by decide) [.agg [.many 32 (u8s k)]] [] [] rfl rfl trivial ⟨⟨mok hk _,trivial⟩,trivial⟩ rfl ?_;(conv=>whnf);intro b1;(conv=>whnf);intro b2;(conv=>whnf);refine ⟨by decide,?_⟩;(conv=>whnf);refine q0v 0 rfl (by rw [hk];decide) ?_;(conv=>whnf);rw [qq4 _ h0];refine ⟨by decide,?_⟩;(conv=>whnf);refine ⟨⟨rfl,by decide⟩,?_⟩;have e1:=q4a (l:=k) (i:=0) (n:=gd k 0 / 8 * 8) (by omega) (by omega)
  have g1 : ((u8s k).take 0 ++ ([Value.int .u8 ((gd k 0 / 8 * 8 : Nat) : Int)] ++ (u8s k).drop (0 + 1)))[31]? = some (.int .u8 (gd k 31 : Nat)):=by
    rw [e1,q6w (by omega),List.getElem_set_ne (by decide)];rw [show gd k 31 = k[31].toNat from gd_eq (by omega)]
  have e2:=q4a (l:=k.set 0 (UInt8.ofNat (gd k 0 / 8 * 8))) (i:=31) (n:=gd k 31 % 64 + 64) (by omega) (by omega);rw [← e1] at e2;(conv=>whnf);refine ⟨by decide,?_⟩;(conv=>whnf);refine ⟨⟨.int .u8 (gd k 31 : Nat),by exact g1,trivial,?_⟩⟩;(conv=>whnf);rw [qnp _ h31,or64 _ h31];refine ⟨by decide,?_⟩;(conv=>whnf);refine ⟨⟨rfl,by decide⟩,?_⟩;(conv=>whnf);refine Ret.m () [] [0] trivial ?_ ⟨mok hl2 _,trivial⟩ trivial ⟨rfl,rfl⟩;refine congrArg (fun z=>Value.agg (List.toArray (z ++ []))) ?_;show _ = u8s (q18 k);unfold q18
  rw [← e2];rfl
theorem qb5 (A : HP) (u : List UInt8) (hu : u.length = 32) : Pu Tryz.prog 113 [.agg [.many 32 (u8s u)]] A (.agg [.many 32 (u8s (q06 u))]):=by
  have h31:=gd_lt u 31;have hl1 : (u.set 31 (UInt8.ofNat (gd u 31 % 128))).length = 32:=by rw [List.length_set,hu]
  refine Con.of' tt_ok Tryz.func113 rfl (by decide) [.agg [.many 32 (u8s u)]] [] [] rfl rfl trivial ⟨⟨mok hu _,trivial⟩,trivial⟩ rfl ?_;(conv=>whnf);intro b1;(conv=>whnf);intro b2;(conv=>whnf);refine ⟨by decide,?_⟩;(conv=>whnf);refine q0v 31 rfl (by rw [hu];decide) ?_;(conv=>whnf);rw [qnp _ h31];refine ⟨by decide,?_⟩;(conv=>whnf);refine ⟨⟨rfl,by decide⟩,?_⟩;have e1:=q4a (l:=u) (i:=31) (n:=gd u 31 % 128) (by omega) (by omega);conv=>whnf
  refine Cq.pu (qoq _ (u.set 31 (UInt8.ofNat (gd u 31 % 128))) hl1) (by show [Value.agg (((u8s u).take 31 ++ ([Value.int .u8 ((gd u 31 % 128 : Nat) : Int)] ++ (u8s u).drop (31 + 1))) ++ []).toArray] = _;rw [e1];rfl) ?_;(conv=>whnf);exact Ret.m () [] [0] trivial rfl ⟨mok (lbl 32 _) _,trivial⟩ trivial ⟨rfl,rfl⟩
end
section
theorem qc9 {x : Nat} (hx : x < 18446744073709551616) : (BitVec.ofInt IntKind.u64.bits (x : Int)).toNat = x:=by
  rw [BitVec.ofInt_natCast,BitVec.toNat_ofNat];exact Nat.mod_eq_of_lt hx
theorem xor64 {a b : Nat} (ha : a < 18446744073709551616) (hb : b < 18446744073709551616) : ibits .xor .u64 (a : Int) (b : Int) = ((a ^^^ b : Nat) : Int):=by
  simp only [ibits];have : a ^^^ b < 18446744073709551616:=Nat.xor_lt_two_pow (n:=64) ha hb;rw [BitVec.toNat_xor,qc9 ha,qc9 hb];exact qd4 _ (by omega)
theorem qcg {a : Nat} (ha : a < 18446744073709551616) : ibits .and .u64 18446744073709551615 (a : Int) = (a : Int):=by
  simp only [ibits];have e2 : (BitVec.ofInt IntKind.u64.bits 18446744073709551615).toNat = 2 ^ 64 - 1:=by decide
  rw [BitVec.toNat_and,qc9 ha,e2,Nat.and_comm,Nat.and_two_pow_sub_one_eq_mod,Nat.mod_eq_of_lt ha];exact qd4 _ (by omega)
theorem qal {a : Nat} (ha : a < 18446744073709551616) : ibits .and .u64 0 (a : Int) = ((0 : Nat) : Int):=by
  simp only [ibits];have e2 : (BitVec.ofInt IntKind.u64.bits 0).toNat = 0:=by decide
  rw [BitVec.toNat_and,qc9 ha,e2,Nat.zero_and];rfl
theorem qeq {a b : Nat} : a ^^^ (a ^^^ b) = b:=by rw [← Nat.xor_assoc,Nat.xor_self,Nat.zero_xor]
theorem qfa {a b : Nat} : b ^^^ (a ^^^ b) = a:=by rw [Nat.xor_comm a b,qeq]
abbrev lad (a b c d e : List Nat) : List Seg:=[.many 4 (n64s a),.many 4 (n64s b),.many 4 (n64s c),.many 4 (n64s d),.many 4 (n64s e)]
def mixN (a b : List Nat) (i : Nat) : List Nat:=b.take i ++ a.drop i
theorem q87 {a b : List Nat} (ha : a.length = 4) (hb : b.length = 4) {i : Nat} (hi : i ≤ 4) : (mixN a b i).length = 4:=by simp [mixN,ha,hb];omega
theorem q3n {a b : List Nat} (ha : a.length = 4) (hb : b.length = 4) {i : Nat} (hi : i < 4) : ng (mixN a b i) i = ng a i:=by
  obtain ⟨a0,a1,a2,a3,rfl⟩:=num4 ha;obtain ⟨b0,b1,b2,b3,rfl⟩:=num4 hb;obtain rfl | rfl | rfl | rfl : i = 0 ∨ i = 1 ∨ i = 2 ∨ i = 3:=by omega
  all_goals rfl
theorem q81 {a b : List Nat} (ha : a.length = 4) (hb : b.length = 4) {i : Nat} (hi : i < 4) : (mixN a b i).set i (ng b i) = mixN a b (i + 1):=by
  obtain ⟨a0,a1,a2,a3,rfl⟩:=num4 ha;obtain ⟨b0,b1,b2,b3,rfl⟩:=num4 hb;obtain rfl | rfl | rfl | rfl : i = 0 ∨ i = 1 ∨ i = 2 ∨ i = 3:=by omega
  all_goals rfl
theorem q7z {a b : List Nat} (ha : a.length = 4) (hb : b.length = 4) : mixN a b 4 = b:=by
  unfold mixN;rw [List.take_of_length_le (by omega),List.drop_of_length_le (by omega),List.append_nil]
theorem qnq (A : HP) (g T : Nat) (a b c d e : List Nat) (ha : a.length = 4) (hb : b.length = 4) (hc : c.length = 4) (hd : d.length = 4) (he : e.length = 4) (okb : ok64 b) (okd : ok64 d) :
    Con Tryz.prog 108 [.c (.int .u8 1),.c (.rp g 4),.c (.rp g 12)] [(g,lad a b c d e,T)] [] A (fun _ : Unit=>True) (fun _=>.tup []) (fun _=>[(g,lad a d c b e,T)]) (fun _=>[]):=by
  refine Con.of' tt_ok Tryz.func108 rfl (by decide) [.c (.int .u8 1),.c (.ptr 1000 4),.c (.ptr 1000 12)] (B1 g) [(1000,lad a b c d e,T)] rfl rfl ⟨⟨kk,nmk ha _,nmk hb _,nmk hc _,nmk hd _,nmk he _,trivial⟩,trivial⟩ kk rfl ?_;(conv=>whnf);refine Ar.u64 (by decide) ?_;(conv=>whnf);refine Ar.to (-1) rfl (Ar.wr ?_);rw [show IntKind.u64.wrap (-1) = 18446744073709551615 from rfl];(conv=>whnf);have hp : ∀ i,i ≤ 4 → (mixN b d i).length = 4:=fun i hi=>q87 hb hd hi;have hq : ∀ i,i ≤ 4 → (mixN d b i).length = 4:=fun i hi=>q87 hd hb hi
  refine LoopOb.m (σ:=Nat) (fun i=>[(1,.c (.ptr 1000 4)),(2,.c (.ptr 1000 12)),(6,.c (.int .u64 18446744073709551615)),(12,.c (.int .i64 i))])
    (fun i=>⟨B1 g,[(1000,lad a (mixN b d i) c (mixN d b i) e,T)],[A]⟩) (fun i=>i ≤ 4) (fun i=>4 - i) 0 (by decide)
    (Wk.m [1000] [0] kk ⟨⟨kk,nmk ha _,nmk (hp _ (by omega)) _,nmk hc _,nmk (hq _ (by omega)) _,nmk he _,trivial⟩,trivial⟩ ⟨rfl,rfl⟩) ?_
  intro i hi;(conv=>whnf);refine Cond.d (fun h=>?_) (fun h=>?_)
  · have hi' : i < 4:=by omega
    have o1:=okb.get i;have o2:=okd.get i;(conv=>whnf);refine Draw.till (by kernel_rfl) tt_ok (Tr.of (List.range 14) .nil) 1000000 (by kernel_rfl) ?_;(conv=>whnf);refine ⟨by omega,?_⟩;(conv=>whnf);refine q0i (l:=mixN b d i) i (by show (i : Int).toNat * 1 = i;omega) (by rw [hp i hi];exact hi') ?_;rw [q3n hb hd hi'];(conv=>whnf);refine ⟨by omega,?_⟩;(conv=>whnf);refine q0i (l:=mixN d b i) i (by show (i : Int).toNat * 1 = i;omega) (by rw [hq i hi];exact hi') ?_;rw [q3n hd hb hi'];conv=>whnf
    rw [xor64 o1 o2,qcg (Nat.xor_lt_two_pow (n:=64) o1 o2)];have ox:=Nat.xor_lt_two_pow (n:=64) o1 o2;refine Draw.till (by kernel_rfl) tt_ok (Tr.of (List.range 10) .nil) 9 (by kernel_rfl) ?_;(conv=>whnf);refine ⟨by omega,?_⟩;(conv=>whnf);refine q0i (l:=mixN b d i) i (by show (i : Int).toNat * 1 = i;omega) (by rw [hp i hi];exact hi') ?_;rw [q3n hb hd hi'];(conv=>whnf);rw [xor64 o1 ox,qeq];refine ⟨by omega,?_⟩;(conv=>whnf);refine ⟨⟨rfl,by show (i : Int).toNat * 1 + 1 ≤ 4;omega⟩,?_⟩;conv=>whnf
    refine Draw.till (by kernel_rfl) tt_ok (Tr.of (List.range 10) .nil) 9 (by kernel_rfl) ?_;(conv=>whnf);refine ⟨by omega,?_⟩;(conv=>whnf);refine q0i (l:=mixN d b i) i (by show (i : Int).toNat * 1 = i;omega) (by rw [hq i hi];exact hi') ?_;rw [q3n hd hb hi'];(conv=>whnf);rw [xor64 o2 ox,qfa];refine ⟨by omega,?_⟩;(conv=>whnf);refine ⟨⟨rfl,by show (i : Int).toNat * 1 + 1 ≤ 4;omega⟩,?_⟩;(conv=>whnf);refine Ar.i64 (by omega) ?_;(conv=>whnf);have s1:=q15 (l:=mixN b d i) (k:=i) (n:=ng d i) (by rw [hp i hi];exact hi')
    have s2:=q15 (l:=mixN d b i) (k:=i) (n:=ng b i) (by rw [hq i hi];exact hi');rw [q81 hb hd hi'] at s1;rw [q81 hd hb hi'] at s2;refine ⟨i + 1,by omega,by omega,Wk.m [1000] [0] kk ⟨⟨kk,nmk ha _,nmk (hp _ (by omega)) _,nmk hc _,nmk (hq _ (by omega)) _,nmk he _,trivial⟩,trivial⟩ ⟨?_,rfl⟩⟩;refine congrArg (fun z=>[blk _ (.cells (List.toArray z) _)]) ?_
    (show n64s a ++ ((n64s (mixN b d i)).take ((i : Int).toNat * 1) ++ ([Value.int .u64 ((ng d i : Nat) : Int)] ++ (n64s (mixN b d i)).drop ((i : Int).toNat * 1 + 1)) ++ (n64s c ++ ((n64s (mixN d b i)).take ((i : Int).toNat * 1) ++ ([Value.int .u64 ((ng b i : Nat) : Int)] ++ (n64s (mixN d b i)).drop ((i : Int).toNat * 1 + 1)) ++ (n64s e ++ [])))) = n64s a ++ (n64s (mixN b d (i + 1)) ++ (n64s c ++ (n64s (mixN d b (i + 1)) ++ (n64s e ++ []))));rw [show (i : Int).toNat * 1 = i by omega,s1,s2])
  have hi' : i = 4:=by omega
  subst hi';rw [q7z hb hd,q7z hd hb];(conv=>whnf);exact Ret.m () [1000] [0] trivial rfl kk ⟨⟨nmk ha _,nmk hd _,nmk hc _,nmk hb _,nmk he _,trivial⟩,trivial⟩ ⟨rfl,rfl⟩
theorem qoo (A : HP) (g T : Nat) (a b c d e : List Nat) (ha : a.length = 4) (hb : b.length = 4) (hc : c.length = 4) (hd : d.length = 4) (he : e.length = 4) (okc : ok64 c) (oke : ok64 e) :
    Con Tryz.prog 108 [.c (.int .u8 1),.c (.rp g 8),.c (.rp g 16)] [(g,lad a b c d e,T)] [] A (fun _ : Unit=>True) (fun _=>.tup []) (fun _=>[(g,lad a b e d c,T)]) (fun _=>[]):=by
  refine Con.of' tt_ok Tryz.func108 rfl (by decide) [.c (.int .u8 1),.c (.ptr 1000 8),.c (.ptr 1000 16)] (B1 g) [(1000,lad a b c d e,T)] rfl rfl ⟨⟨kk,nmk ha _,nmk hb _,nmk hc _,nmk hd _,nmk he _,trivial⟩,trivial⟩ kk rfl ?_;(conv=>whnf);refine Ar.u64 (by decide) ?_;(conv=>whnf);refine Ar.to (-1) rfl (Ar.wr ?_);rw [show IntKind.u64.wrap (-1) = 18446744073709551615 from rfl];(conv=>whnf);have hp : ∀ i,i ≤ 4 → (mixN c e i).length = 4:=fun i hi=>q87 hc he hi;have hq : ∀ i,i ≤ 4 → (mixN e c i).length = 4:=fun i hi=>q87 he hc hi
  refine LoopOb.m (σ:=Nat) (fun i=>[(1,.c (.ptr 1000 8)),(2,.c (.ptr 1000 16)),(6,.c (.int .u64 18446744073709551615)),(12,.c (.int .i64 i))])
    (fun i=>⟨B1 g,[(1000,lad a b (mixN c e i) d (mixN e c i),T)],[A]⟩) (fun i=>i ≤ 4) (fun i=>4 - i) 0 (by decide)
    (Wk.m [1000] [0] kk ⟨⟨kk,nmk ha _,nmk hb _,nmk (hp _ (by omega)) _,nmk hd _,nmk (hq _ (by omega)) _,trivial⟩,trivial⟩ ⟨rfl,rfl⟩) ?_
  intro i hi;(conv=>whnf);refine Cond.d (fun h=>?_) (fun h=>?_)
  · have hi' : i < 4:=by omega
    have o1:=okc.get i;have o2:=oke.get i;(conv=>whnf);refine Draw.till (by kernel_rfl) tt_ok (Tr.of (List.range 14) .nil) 1000000 (by kernel_rfl) ?_;(conv=>whnf);refine ⟨by omega,?_⟩;(conv=>whnf);refine q0i (l:=mixN c e i) i (by show (i : Int).toNat * 1 = i;omega) (by rw [hp i hi];exact hi') ?_;rw [q3n hc he hi'];(conv=>whnf);refine ⟨by omega,?_⟩;(conv=>whnf);refine q0i (l:=mixN e c i) i (by show (i : Int).toNat * 1 = i;omega) (by rw [hq i hi];exact hi') ?_;rw [q3n he hc hi'];conv=>whnf
    rw [xor64 o1 o2,qcg (Nat.xor_lt_two_pow (n:=64) o1 o2)];have ox:=Nat.xor_lt_two_pow (n:=64) o1 o2;refine Draw.till (by kernel_rfl) tt_ok (Tr.of (List.range 10) .nil) 9 (by kernel_rfl) ?_;(conv=>whnf);refine ⟨by omega,?_⟩;(conv=>whnf);refine q0i (l:=mixN c e i) i (by show (i : Int).toNat * 1 = i;omega) (by rw [hp i hi];exact hi') ?_;rw [q3n hc he hi'];(conv=>whnf);rw [xor64 o1 ox,qeq];refine ⟨by omega,?_⟩;(conv=>whnf);refine ⟨⟨rfl,by show (i : Int).toNat * 1 + 1 ≤ 4;omega⟩,?_⟩;conv=>whnf
    refine Draw.till (by kernel_rfl) tt_ok (Tr.of (List.range 10) .nil) 9 (by kernel_rfl) ?_;(conv=>whnf);refine ⟨by omega,?_⟩;(conv=>whnf);refine q0i (l:=mixN e c i) i (by show (i : Int).toNat * 1 = i;omega) (by rw [hq i hi];exact hi') ?_;rw [q3n he hc hi'];(conv=>whnf);rw [xor64 o2 ox,qfa];refine ⟨by omega,?_⟩;(conv=>whnf);refine ⟨⟨rfl,by show (i : Int).toNat * 1 + 1 ≤ 4;omega⟩,?_⟩;(conv=>whnf);refine Ar.i64 (by omega) ?_;(conv=>whnf);have s1:=q15 (l:=mixN c e i) (k:=i) (n:=ng e i) (by rw [hp i hi];exact hi')
    have s2:=q15 (l:=mixN e c i) (k:=i) (n:=ng c i) (by rw [hq i hi];exact hi');rw [q81 hc he hi'] at s1;rw [q81 he hc hi'] at s2;refine ⟨i + 1,by omega,by omega,Wk.m [1000] [0] kk ⟨⟨kk,nmk ha _,nmk hb _,nmk (hp _ (by omega)) _,nmk hd _,nmk (hq _ (by omega)) _,trivial⟩,trivial⟩ ⟨?_,rfl⟩⟩;refine congrArg (fun z=>[blk _ (.cells (List.toArray z) _)]) ?_
    (show n64s a ++ (n64s b ++ ((n64s (mixN c e i)).take ((i : Int).toNat * 1) ++ ([Value.int .u64 ((ng e i : Nat) : Int)] ++ (n64s (mixN c e i)).drop ((i : Int).toNat * 1 + 1)) ++ (n64s d ++ ((n64s (mixN e c i)).take ((i : Int).toNat * 1) ++ ([Value.int .u64 ((ng c i : Nat) : Int)] ++ (n64s (mixN e c i)).drop ((i : Int).toNat * 1 + 1)) ++ [])))) = n64s a ++ (n64s b ++ (n64s (mixN c e (i + 1)) ++ (n64s d ++ (n64s (mixN e c (i + 1)) ++ []))));rw [show (i : Int).toNat * 1 = i by omega,s1,s2])
  have hi' : i = 4:=by omega
  subst hi';rw [q7z hc he,q7z he hc];(conv=>whnf);exact Ret.m () [1000] [0] trivial rfl kk ⟨⟨nmk ha _,nmk hb _,nmk he _,nmk hd _,nmk hc _,trivial⟩,trivial⟩ ⟨rfl,rfl⟩
theorem qp3 (A : HP) (g T : Nat) (a b c d e : List Nat) (ha : a.length = 4) (hb : b.length = 4) (hc : c.length = 4) (hd : d.length = 4) (he : e.length = 4) (okb : ok64 b) (okd : ok64 d) :
    Con Tryz.prog 108 [.c (.int .u8 0),.c (.rp g 4),.c (.rp g 12)] [(g,lad a b c d e,T)] [] A (fun _ : Unit=>True) (fun _=>.tup []) (fun _=>[(g,lad a b c d e,T)]) (fun _=>[]):=by
  refine Con.of' tt_ok Tryz.func108 rfl (by decide) [.c (.int .u8 0),.c (.ptr 1000 4),.c (.ptr 1000 12)] (B1 g) [(1000,lad a b c d e,T)] rfl rfl ⟨⟨kk,nmk ha _,nmk hb _,nmk hc _,nmk hd _,nmk he _,trivial⟩,trivial⟩ kk rfl ?_;(conv=>whnf);refine Ar.u64 (by decide) ?_;(conv=>whnf);refine Ar.u64 (by decide) ?_;conv=>whnf
  refine LoopOb.m (σ:=Nat) (fun i=>[(1,.c (.ptr 1000 4)),(2,.c (.ptr 1000 12)),(6,.c (.int .u64 0)),(12,.c (.int .i64 i))])
    (fun i=>⟨B1 g,[(1000,lad a b c d e,T)],[A]⟩) (fun i=>i ≤ 4) (fun i=>4 - i) 0 (by decide)
    (Wk.m [1000] [0] kk ⟨⟨kk,nmk ha _,nmk hb _,nmk hc _,nmk hd _,nmk he _,trivial⟩,trivial⟩ ⟨rfl,rfl⟩) ?_
  intro i hi;(conv=>whnf);refine Cond.d (fun h=>?_) (fun h=>?_)
  · have hi' : i < 4:=by omega
    have o1:=okb.get i;have o2:=okd.get i;have x0 : ∀ {a : Nat},a < 18446744073709551616 → ibits .xor .u64 (a : Int) ((0 : Nat) : Int) = (a : Int):=fun h=>by rw [xor64 h (by decide),Nat.xor_zero]
    (conv=>whnf);refine Draw.till (by kernel_rfl) tt_ok (Tr.of (List.range 14) .nil) 1000000 (by kernel_rfl) ?_;(conv=>whnf);refine ⟨by omega,?_⟩;(conv=>whnf);refine q0i (l:=b) i (by show (i : Int).toNat * 1 = i;omega) (by rw [hb];exact hi') ?_;(conv=>whnf);refine ⟨by omega,?_⟩;(conv=>whnf);refine q0i (l:=d) i (by show (i : Int).toNat * 1 = i;omega) (by rw [hd];exact hi') ?_;(conv=>whnf);rw [xor64 o1 o2,qal (Nat.xor_lt_two_pow (n:=64) o1 o2)];refine Draw.till (by kernel_rfl) tt_ok (Tr.of (List.range 10) .nil) 9 (by kernel_rfl) ?_
    (conv=>whnf);refine ⟨by omega,?_⟩;(conv=>whnf);refine q0i (l:=b) i (by show (i : Int).toNat * 1 = i;omega) (by rw [hb];exact hi') ?_;(conv=>whnf);rw [x0 o1];refine ⟨by omega,?_⟩;(conv=>whnf);refine ⟨⟨rfl,by show (i : Int).toNat * 1 + 1 ≤ 4;omega⟩,?_⟩;(conv=>whnf);refine Draw.till (by kernel_rfl) tt_ok (Tr.of (List.range 10) .nil) 9 (by kernel_rfl) ?_;(conv=>whnf);refine ⟨by omega,?_⟩;(conv=>whnf);refine q0i (l:=d) i (by show (i : Int).toNat * 1 = i;omega) (by rw [hd];exact hi') ?_;(conv=>whnf);rw [x0 o2];refine ⟨by omega,?_⟩
    (conv=>whnf);refine ⟨⟨rfl,by show (i : Int).toNat * 1 + 1 ≤ 4;omega⟩,?_⟩;(conv=>whnf);refine Ar.i64 (by omega) ?_;conv=>whnf
    have same : ∀ {l : List Nat},l.length = 4 → (n64s l).take i ++ ([Value.int .u64 ((ng l i : Nat) : Int)] ++ (n64s l).drop (i + 1)) = n64s l:=fun {l} hl=>by
      rw [q15 (by omega),ng_eq (by omega),List.set_getElem_self]
    have s1:=same hb;have s2:=same hd;refine ⟨i + 1,by omega,by omega,Wk.m [1000] [0] kk ⟨⟨kk,nmk ha _,nmk hb _,nmk hc _,nmk hd _,nmk he _,trivial⟩,trivial⟩ ⟨?_,rfl⟩⟩;refine congrArg (fun z=>[blk _ (.cells (List.toArray z) _)]) ?_
    (show n64s a ++ ((n64s b).take ((i : Int).toNat * 1) ++ ([Value.int .u64 ((ng b i : Nat) : Int)] ++ (n64s b).drop ((i : Int).toNat * 1 + 1)) ++ (n64s c ++ ((n64s d).take ((i : Int).toNat * 1) ++ ([Value.int .u64 ((ng d i : Nat) : Int)] ++ (n64s d).drop ((i : Int).toNat * 1 + 1)) ++ (n64s e ++ [])))) = n64s a ++ (n64s b ++ (n64s c ++ (n64s d ++ (n64s e ++ []))));rw [show (i : Int).toNat * 1 = i by omega,s1,s2])
  (conv=>whnf);exact Ret.m () [1000] [0] trivial rfl kk ⟨⟨nmk ha _,nmk hb _,nmk hc _,nmk hd _,nmk he _,trivial⟩,trivial⟩ ⟨rfl,rfl⟩
theorem qns (A : HP) (g T : Nat) (a b c d e : List Nat) (ha : a.length = 4) (hb : b.length = 4) (hc : c.length = 4) (hd : d.length = 4) (he : e.length = 4) (okc : ok64 c) (oke : ok64 e) :
    Con Tryz.prog 108 [.c (.int .u8 0),.c (.rp g 8),.c (.rp g 16)] [(g,lad a b c d e,T)] [] A (fun _ : Unit=>True) (fun _=>.tup []) (fun _=>[(g,lad a b c d e,T)]) (fun _=>[]):=by
  refine Con.of' tt_ok Tryz.func108 rfl (by decide) [.c (.int .u8 0),.c (.ptr 1000 8),.c (.ptr 1000 16)] (B1 g) [(1000,lad a b c d e,T)] rfl rfl ⟨⟨kk,nmk ha _,nmk hb _,nmk hc _,nmk hd _,nmk he _,trivial⟩,trivial⟩ kk rfl ?_;(conv=>whnf);refine Ar.u64 (by decide) ?_;(conv=>whnf);refine Ar.u64 (by decide) ?_;conv=>whnf
  refine LoopOb.m (σ:=Nat) (fun i=>[(1,.c (.ptr 1000 8)),(2,.c (.ptr 1000 16)),(6,.c (.int .u64 0)),(12,.c (.int .i64 i))])
    (fun i=>⟨B1 g,[(1000,lad a b c d e,T)],[A]⟩) (fun i=>i ≤ 4) (fun i=>4 - i) 0 (by decide)
    (Wk.m [1000] [0] kk ⟨⟨kk,nmk ha _,nmk hb _,nmk hc _,nmk hd _,nmk he _,trivial⟩,trivial⟩ ⟨rfl,rfl⟩) ?_
  intro i hi;(conv=>whnf);refine Cond.d (fun h=>?_) (fun h=>?_)
  · have hi' : i < 4:=by omega
    have o1:=okc.get i;have o2:=oke.get i;have x0 : ∀ {a : Nat},a < 18446744073709551616 → ibits .xor .u64 (a : Int) ((0 : Nat) : Int) = (a : Int):=fun h=>by rw [xor64 h (by decide),Nat.xor_zero]
    (conv=>whnf);refine Draw.till (by kernel_rfl) tt_ok (Tr.of (List.range 14) .nil) 1000000 (by kernel_rfl) ?_;(conv=>whnf);refine ⟨by omega,?_⟩;(conv=>whnf);refine q0i (l:=c) i (by show (i : Int).toNat * 1 = i;omega) (by rw [hc];exact hi') ?_;(conv=>whnf);refine ⟨by omega,?_⟩;(conv=>whnf);refine q0i (l:=e) i (by show (i : Int).toNat * 1 = i;omega) (by rw [he];exact hi') ?_;(conv=>whnf);rw [xor64 o1 o2,qal (Nat.xor_lt_two_pow (n:=64) o1 o2)];refine Draw.till (by kernel_rfl) tt_ok (Tr.of (List.range 10) .nil) 9 (by kernel_rfl) ?_
    (conv=>whnf);refine ⟨by omega,?_⟩;(conv=>whnf);refine q0i (l:=c) i (by show (i : Int).toNat * 1 = i;omega) (by rw [hc];exact hi') ?_;(conv=>whnf);rw [x0 o1];refine ⟨by omega,?_⟩;(conv=>whnf);refine ⟨⟨rfl,by show (i : Int).toNat * 1 + 1 ≤ 4;omega⟩,?_⟩;(conv=>whnf);refine Draw.till (by kernel_rfl) tt_ok (Tr.of (List.range 10) .nil) 9 (by kernel_rfl) ?_;(conv=>whnf);refine ⟨by omega,?_⟩;(conv=>whnf);refine q0i (l:=e) i (by show (i : Int).toNat * 1 = i;omega) (by rw [he];exact hi') ?_;(conv=>whnf);rw [x0 o2];refine ⟨by omega,?_⟩
    (conv=>whnf);refine ⟨⟨rfl,by show (i : Int).toNat * 1 + 1 ≤ 4;omega⟩,?_⟩;(conv=>whnf);refine Ar.i64 (by omega) ?_;conv=>whnf
    have same : ∀ {l : List Nat},l.length = 4 → (n64s l).take i ++ ([Value.int .u64 ((ng l i : Nat) : Int)] ++ (n64s l).drop (i + 1)) = n64s l:=fun {l} hl=>by
      rw [q15 (by omega),ng_eq (by omega),List.set_getElem_self]
    have s1:=same hc;have s2:=same he;refine ⟨i + 1,by omega,by omega,Wk.m [1000] [0] kk ⟨⟨kk,nmk ha _,nmk hb _,nmk hc _,nmk hd _,nmk he _,trivial⟩,trivial⟩ ⟨?_,rfl⟩⟩;refine congrArg (fun z=>[blk _ (.cells (List.toArray z) _)]) ?_
    (show n64s a ++ (n64s b ++ ((n64s c).take ((i : Int).toNat * 1) ++ ([Value.int .u64 ((ng c i : Nat) : Int)] ++ (n64s c).drop ((i : Int).toNat * 1 + 1)) ++ (n64s d ++ ((n64s e).take ((i : Int).toNat * 1) ++ ([Value.int .u64 ((ng e i : Nat) : Int)] ++ (n64s e).drop ((i : Int).toNat * 1 + 1)) ++ [])))) = n64s a ++ (n64s b ++ (n64s c ++ (n64s d ++ (n64s e ++ []))));rw [show (i : Int).toNat * 1 = i by omega,s1,s2])
  (conv=>whnf);exact Ret.m () [1000] [0] trivial rfl kk ⟨⟨nmk ha _,nmk hb _,nmk hc _,nmk hd _,nmk he _,trivial⟩,trivial⟩ ⟨rfl,rfl⟩
end
section
structure Rs (v : Nat) (l : List Nat) : Prop where
  len : l.length = 4
  ok : ok64 l
  eq : num l % Pm = v
theorem q3x (A : HP) {v w : Nat} {l m : List Nat} (hl : Rs v l) (hm : Rs w m) : Con Tryz.prog 146 [.agg (nu l),.agg (nu m)] [] [] A (fun t : List Nat=>Rs (fa v w) t) (fun t=>.agg (nu t)) (fun _=>[]) (fun _=>[]):=by
  have C:=qqb A l m hl.len hm.len hl.ok hm.ok;refine ⟨C.runs,fun x hx=>(C.h x hx).mono ?_⟩;rintro e w' ⟨t,⟨h1,h2,h3⟩,r⟩;exact ⟨t,⟨h1,h2,by rw [qn7 h3,hl.eq,hm.eq]⟩,r⟩
theorem q23 (A : HP) {v w : Nat} {l m : List Nat} (hl : Rs v l) (hm : Rs w m) : Con Tryz.prog 147 [.agg (nu l),.agg (nu m)] [] [] A (fun t : List Nat=>Rs (fs v w) t) (fun t=>.agg (nu t)) (fun _=>[]) (fun _=>[]):=by
  have C:=qqv A l m hl.len hm.len hl.ok hm.ok;refine ⟨C.runs,fun x hx=>(C.h x hx).mono ?_⟩;rintro e w' ⟨t,⟨h1,h2,h3⟩,r⟩;exact ⟨t,⟨h1,h2,by rw [qnn h3,hl.eq,hm.eq]⟩,r⟩
theorem q1k (A : HP) {v w : Nat} {l m : List Nat} (hl : Rs v l) (hm : Rs w m) : Con Tryz.prog 110 [.agg (nu l),.agg (nu m)] [] [] A (fun t : List Nat=>Rs (fm v w) t) (fun t=>.agg (nu t)) (fun _=>[]) (fun _=>[]):=by
  have C:=q0t A l m hl.len hm.len hl.ok hm.ok;refine ⟨C.runs,fun x hx=>(C.h x hx).mono ?_⟩;rintro e w' ⟨t,⟨h1,h2,h3⟩,r⟩;exact ⟨t,⟨h1,h2,by rw [qkf h3,hl.eq,hm.eq]⟩,r⟩
theorem qqd (A : HP) {v : Nat} {l : List Nat} (hl : Rs v l) : Con Tryz.prog 111 [.agg (nu l)] [] [] A (fun t : List Nat=>Rs (finv v) t) (fun t=>.agg (nu t)) (fun _=>[]) (fun _=>[]):=by
  have C:=qqo A v l ⟨hl.len,hl.ok,by rw [qjx,← hl.eq,Nat.mod_mod]⟩;refine ⟨C.runs,fun x hx=>(C.h x hx).mono ?_⟩;rintro e w' ⟨t,⟨h1,h2,h3⟩,r⟩;exact ⟨t,⟨h1,h2,h3⟩,r⟩
theorem of_r {a : List UInt8} (h : a.length = 32) : Rs (le a % Pm) (ofS a):=⟨rfl,of_ok h,by rw [qmo h]⟩
end
section
theorem qpu (A : HP) (g T : Nat) (hT : T = 184) {v1 v2 w2 v3 w3 : Nat} {X1 X2 Z2 X3 Z3 : List Nat} (H1 : Rs v1 X1) (H2 : Rs v2 X2) (K2 : Rs w2 Z2) (H3 : Rs v3 X3) (K3 : Rs w3 Z3) :
    Con Tryz.prog 109 [.c (.rp g 0)] [(g,lad X1 X2 Z2 X3 Z3,T)] [] A (fun t : List Nat × List Nat × List Nat × List Nat=>Rs (dbl ⟨v2,w2⟩).x t.1 ∧ Rs (dbl ⟨v2,w2⟩).z t.2.1 ∧ Rs (sm v1 ⟨v2,w2⟩ ⟨v3,w3⟩).x t.2.2.1 ∧ Rs (sm v1 ⟨v2,w2⟩ ⟨v3,w3⟩).z t.2.2.2) (fun _=>.tup [])
      (fun t=>[(g,lad X1 t.1 t.2.1 t.2.2.1 t.2.2.2,T)]) (fun _=>[]):=by
  refine Con.of' tt_ok Tryz.func109 rfl (by decide) [.c (.ptr 1000 0)] (B1 g) [(1000,lad X1 X2 Z2 X3 Z3,T)] rfl rfl ⟨⟨kk,nmk H1.len _,nmk H2.len _,nmk K2.len _,nmk H3.len _,nmk K3.len _,trivial⟩,trivial⟩ kk rfl ?_;(conv=>whnf);refine Draw.cut (σ:=Nat × Nat × List Nat × List Nat) (fun s=>[(0,.c (.ptr 1000 0)),(2,.c (.ptr 2 0)),(3,.c (.ptr 3 0))]) (fun s=>⟨[(3,s.2.1),(2,s.1)] ++ B1 g,[(3,nu (s.2.2.2),180),(2,nu (s.2.2.1),180),(1000,lad X1 X2 Z2 X3 Z3,T)],[A]⟩) (fun s=>Rs (fa v2 w2) (s.2.2.1) ∧ Rs (fs v2 w2) (s.2.2.2)) ?_ ?_
  · refine Draw.a (by kernel_rfl) tt_ok (Tv.of [0,1,2,3,4,5,6,7,9,10,11,12,13,14,15,16] (.tre 8 (.tre 17 (.two 18 (.one 19 (Tv.of [20,21] .nil)) 19 (.one 18 (Tv.of [20,21] .nil))) 18 (.two 17 (.one 19 (Tv.of [20,21] .nil)) 19 (.one 17 (Tv.of [20,21] .nil))) 19 (.two 17 (.one 18 (Tv.of [20,21] .nil)) 18 (.one 17 (Tv.of [20,21] .nil)))) 18 (.two 8 (.two 17 (.one 19 (Tv.of [20,21] .nil)) 19 (.one 17 (Tv.of [20,21] .nil))) 19 (.one 8 (.one 17 (Tv.of [20,21] .nil)))) 19 (.two 8 (.two 17 (.one 18 (Tv.of [20,21] .nil)) 18 (.one 17 (Tv.of [20,21] .nil))) 18 (.one 8 (.one 17 (Tv.of [20,21] .nil)))))) 1000000 (by kernel_rfl) ?_
    (conv=>whnf);refine ⟨?_,?_,?_⟩
    · (conv=>whnf);refine Cq.new (q3x _ H2 K2) rfl fun qa hqa=>?_;(conv=>whnf);refine Sub.r [1000] [0] ?_;(conv=>whnf);refine ⟨?_,?_,?_⟩
      · (conv=>whnf);refine Cq.new (q23 _ H2 K2) rfl fun qb hqb=>?_;(conv=>whnf);refine Sub.r [1000] [0] ?_;(conv=>whnf);refine ⟨?_,?_⟩
        · (conv=>whnf);intro b2;refine Sub.r [1000] [0] ?_;(conv=>whnf);intro b3;refine Sub.r [1000] [0] ?_;(conv=>whnf);refine Sub.r [1000] [0] ?_;(conv=>whnf);refine Sub.r [1000] [0] ?_;(conv=>whnf);exact ⟨(b2,b3,qa,qb),⟨hqa,hqb⟩,Wk.m [3,2,1000] [0] kk ⟨⟨kk,nmk hqb.len _,trivial⟩,⟨kk,nmk hqa.len _,trivial⟩,⟨kk,nmk H1.len _,nmk H2.len _,nmk K2.len _,nmk H3.len _,nmk K3.len _,trivial⟩,trivial⟩ ⟨rfl,rfl⟩⟩
        · (conv=>whnf);intro b3;refine Sub.r [1000] [0] ?_;(conv=>whnf);intro b2;refine Sub.r [1000] [0] ?_;(conv=>whnf);refine Sub.r [1000] [0] ?_;(conv=>whnf);refine Sub.r [1000] [0] ?_;(conv=>whnf);exact ⟨(b2,b3,qa,qb),⟨hqa,hqb⟩,Wk.m [3,2,1000] [0] kk ⟨⟨kk,nmk hqb.len _,trivial⟩,⟨kk,nmk hqa.len _,trivial⟩,⟨kk,nmk H1.len _,nmk H2.len _,nmk K2.len _,nmk H3.len _,nmk K3.len _,trivial⟩,trivial⟩ ⟨rfl,rfl⟩⟩
      · (conv=>whnf);intro b2;refine Sub.r [1000] [0] ?_;(conv=>whnf);refine ⟨?_,?_⟩
        · (conv=>whnf);refine Cq.new (q23 _ H2 K2) rfl fun qb hqb=>?_;(conv=>whnf);refine Sub.r [1000] [0] ?_;(conv=>whnf);intro b3;refine Sub.r [1000] [0] ?_;(conv=>whnf);refine Sub.r [1000] [0] ?_;(conv=>whnf);refine Sub.r [1000] [0] ?_;(conv=>whnf);exact ⟨(b2,b3,qa,qb),⟨hqa,hqb⟩,Wk.m [3,2,1000] [0] kk ⟨⟨kk,nmk hqb.len _,trivial⟩,⟨kk,nmk hqa.len _,trivial⟩,⟨kk,nmk H1.len _,nmk H2.len _,nmk K2.len _,nmk H3.len _,nmk K3.len _,trivial⟩,trivial⟩ ⟨rfl,rfl⟩⟩
        · (conv=>whnf);intro b3;refine Sub.r [1000] [0] ?_;(conv=>whnf);refine Cq.new (q23 _ H2 K2) rfl fun qb hqb=>?_;(conv=>whnf);refine Sub.r [1000] [0] ?_;(conv=>whnf);refine Sub.r [1000] [0] ?_;(conv=>whnf);refine Sub.r [1000] [0] ?_;(conv=>whnf);exact ⟨(b2,b3,qa,qb),⟨hqa,hqb⟩,Wk.m [3,2,1000] [0] kk ⟨⟨kk,nmk hqb.len _,trivial⟩,⟨kk,nmk hqa.len _,trivial⟩,⟨kk,nmk H1.len _,nmk H2.len _,nmk K2.len _,nmk H3.len _,nmk K3.len _,trivial⟩,trivial⟩ ⟨rfl,rfl⟩⟩
      · (conv=>whnf);intro b3;refine Sub.r [1000] [0] ?_;(conv=>whnf);refine ⟨?_,?_⟩
        · (conv=>whnf);refine Cq.new (q23 _ H2 K2) rfl fun qb hqb=>?_;(conv=>whnf);refine Sub.r [1000] [0] ?_;(conv=>whnf);intro b2;refine Sub.r [1000] [0] ?_;(conv=>whnf);refine Sub.r [1000] [0] ?_;(conv=>whnf);refine Sub.r [1000] [0] ?_;(conv=>whnf);exact ⟨(b2,b3,qa,qb),⟨hqa,hqb⟩,Wk.m [3,2,1000] [0] kk ⟨⟨kk,nmk hqb.len _,trivial⟩,⟨kk,nmk hqa.len _,trivial⟩,⟨kk,nmk H1.len _,nmk H2.len _,nmk K2.len _,nmk H3.len _,nmk K3.len _,trivial⟩,trivial⟩ ⟨rfl,rfl⟩⟩
        · (conv=>whnf);intro b2;refine Sub.r [1000] [0] ?_;(conv=>whnf);refine Cq.new (q23 _ H2 K2) rfl fun qb hqb=>?_;(conv=>whnf);refine Sub.r [1000] [0] ?_;(conv=>whnf);refine Sub.r [1000] [0] ?_;(conv=>whnf);refine Sub.r [1000] [0] ?_;(conv=>whnf);exact ⟨(b2,b3,qa,qb),⟨hqa,hqb⟩,Wk.m [3,2,1000] [0] kk ⟨⟨kk,nmk hqb.len _,trivial⟩,⟨kk,nmk hqa.len _,trivial⟩,⟨kk,nmk H1.len _,nmk H2.len _,nmk K2.len _,nmk H3.len _,nmk K3.len _,trivial⟩,trivial⟩ ⟨rfl,rfl⟩⟩
    · (conv=>whnf);intro b2;refine Sub.r [1000] [0] ?_;(conv=>whnf);refine ⟨?_,?_⟩
      · (conv=>whnf);refine Cq.new (q3x _ H2 K2) rfl fun qa hqa=>?_;(conv=>whnf);refine Sub.r [1000] [0] ?_;(conv=>whnf);refine ⟨?_,?_⟩
        · (conv=>whnf);refine Cq.new (q23 _ H2 K2) rfl fun qb hqb=>?_;(conv=>whnf);refine Sub.r [1000] [0] ?_;(conv=>whnf);intro b3;refine Sub.r [1000] [0] ?_;(conv=>whnf);refine Sub.r [1000] [0] ?_;(conv=>whnf);refine Sub.r [1000] [0] ?_;(conv=>whnf);exact ⟨(b2,b3,qa,qb),⟨hqa,hqb⟩,Wk.m [3,2,1000] [0] kk ⟨⟨kk,nmk hqb.len _,trivial⟩,⟨kk,nmk hqa.len _,trivial⟩,⟨kk,nmk H1.len _,nmk H2.len _,nmk K2.len _,nmk H3.len _,nmk K3.len _,trivial⟩,trivial⟩ ⟨rfl,rfl⟩⟩
        · (conv=>whnf);intro b3;refine Sub.r [1000] [0] ?_;(conv=>whnf);refine Cq.new (q23 _ H2 K2) rfl fun qb hqb=>?_;(conv=>whnf);refine Sub.r [1000] [0] ?_;(conv=>whnf);refine Sub.r [1000] [0] ?_;(conv=>whnf);refine Sub.r [1000] [0] ?_;(conv=>whnf);exact ⟨(b2,b3,qa,qb),⟨hqa,hqb⟩,Wk.m [3,2,1000] [0] kk ⟨⟨kk,nmk hqb.len _,trivial⟩,⟨kk,nmk hqa.len _,trivial⟩,⟨kk,nmk H1.len _,nmk H2.len _,nmk K2.len _,nmk H3.len _,nmk K3.len _,trivial⟩,trivial⟩ ⟨rfl,rfl⟩⟩
      · (conv=>whnf);intro b3;refine Sub.r [1000] [0] ?_;(conv=>whnf);refine Cq.new (q3x _ H2 K2) rfl fun qa hqa=>?_;(conv=>whnf);refine Sub.r [1000] [0] ?_;(conv=>whnf);refine Cq.new (q23 _ H2 K2) rfl fun qb hqb=>?_;(conv=>whnf);refine Sub.r [1000] [0] ?_;(conv=>whnf);refine Sub.r [1000] [0] ?_;(conv=>whnf);refine Sub.r [1000] [0] ?_;conv=>whnf
        exact ⟨(b2,b3,qa,qb),⟨hqa,hqb⟩,Wk.m [3,2,1000] [0] kk ⟨⟨kk,nmk hqb.len _,trivial⟩,⟨kk,nmk hqa.len _,trivial⟩,⟨kk,nmk H1.len _,nmk H2.len _,nmk K2.len _,nmk H3.len _,nmk K3.len _,trivial⟩,trivial⟩ ⟨rfl,rfl⟩⟩
    · (conv=>whnf);intro b3;refine Sub.r [1000] [0] ?_;(conv=>whnf);refine ⟨?_,?_⟩
      · (conv=>whnf);refine Cq.new (q3x _ H2 K2) rfl fun qa hqa=>?_;(conv=>whnf);refine Sub.r [1000] [0] ?_;(conv=>whnf);refine ⟨?_,?_⟩
        · (conv=>whnf);refine Cq.new (q23 _ H2 K2) rfl fun qb hqb=>?_;(conv=>whnf);refine Sub.r [1000] [0] ?_;(conv=>whnf);intro b2;refine Sub.r [1000] [0] ?_;(conv=>whnf);refine Sub.r [1000] [0] ?_;(conv=>whnf);refine Sub.r [1000] [0] ?_;(conv=>whnf);exact ⟨(b2,b3,qa,qb),⟨hqa,hqb⟩,Wk.m [3,2,1000] [0] kk ⟨⟨kk,nmk hqb.len _,trivial⟩,⟨kk,nmk hqa.len _,trivial⟩,⟨kk,nmk H1.len _,nmk H2.len _,nmk K2.len _,nmk H3.len _,nmk K3.len _,trivial⟩,trivial⟩ ⟨rfl,rfl⟩⟩
        · (conv=>whnf);intro b2;refine Sub.r [1000] [0] ?_;(conv=>whnf);refine Cq.new (q23 _ H2 K2) rfl fun qb hqb=>?_;(conv=>whnf);refine Sub.r [1000] [0] ?_;(conv=>whnf);refine Sub.r [1000] [0] ?_;(conv=>whnf);refine Sub.r [1000] [0] ?_;(conv=>whnf);exact ⟨(b2,b3,qa,qb),⟨hqa,hqb⟩,Wk.m [3,2,1000] [0] kk ⟨⟨kk,nmk hqb.len _,trivial⟩,⟨kk,nmk hqa.len _,trivial⟩,⟨kk,nmk H1.len _,nmk H2.len _,nmk K2.len _,nmk H3.len _,nmk K3.len _,trivial⟩,trivial⟩ ⟨rfl,rfl⟩⟩
      · (conv=>whnf);intro b2;refine Sub.r [1000] [0] ?_;(conv=>whnf);refine Cq.new (q3x _ H2 K2) rfl fun qa hqa=>?_;(conv=>whnf);refine Sub.r [1000] [0] ?_;(conv=>whnf);refine Cq.new (q23 _ H2 K2) rfl fun qb hqb=>?_;(conv=>whnf);refine Sub.r [1000] [0] ?_;(conv=>whnf);refine Sub.r [1000] [0] ?_;(conv=>whnf);refine Sub.r [1000] [0] ?_;conv=>whnf
        exact ⟨(b2,b3,qa,qb),⟨hqa,hqb⟩,Wk.m [3,2,1000] [0] kk ⟨⟨kk,nmk hqb.len _,trivial⟩,⟨kk,nmk hqa.len _,trivial⟩,⟨kk,nmk H1.len _,nmk H2.len _,nmk K2.len _,nmk H3.len _,nmk K3.len _,trivial⟩,trivial⟩ ⟨rfl,rfl⟩⟩
  rintro ⟨b2,b3,s2,s3⟩ ⟨h2,h3⟩;dsimp only at h2 h3 ⊢;(conv=>whnf);refine Draw.cut (σ:=Nat × Nat × List Nat × List Nat) (fun s=>[(0,.c (.ptr 1000 0)),(2,.c (.ptr 2 0)),(3,.c (.ptr 3 0)),(4,.c (.ptr 4 0)),(5,.c (.ptr 5 0))]) (fun s=>⟨[(5,s.2.1),(4,s.1),(3,b3),(2,b2)] ++ B1 g,[(5,nu (s.2.2.2),180),(4,nu (s.2.2.1),180),(3,nu s3,180),(2,nu s2,180),(1000,lad X1 X2 Z2 X3 Z3,T)],[A]⟩) (fun s=>Rs (fm (fa v2 w2) (fa v2 w2)) (s.2.2.1) ∧ Rs (fm (fs v2 w2) (fs v2 w2)) (s.2.2.2)) ?_ ?_
  · refine Draw.a (by kernel_rfl) tt_ok (Tv.of [0,1,3,4] (.tre 2 (.tre 5 (.two 6 (.one 7 (Tv.of [8,9] .nil)) 7 (.one 6 (Tv.of [8,9] .nil))) 6 (.two 5 (.one 7 (Tv.of [8,9] .nil)) 7 (.one 5 (Tv.of [8,9] .nil))) 7 (.two 5 (.one 6 (Tv.of [8,9] .nil)) 6 (.one 5 (Tv.of [8,9] .nil)))) 6 (.two 2 (.two 5 (.one 7 (Tv.of [8,9] .nil)) 7 (.one 5 (Tv.of [8,9] .nil))) 7 (.one 2 (.one 5 (Tv.of [8,9] .nil)))) 7 (.two 2 (.two 5 (.one 6 (Tv.of [8,9] .nil)) 6 (.one 5 (Tv.of [8,9] .nil))) 6 (.one 2 (.one 5 (Tv.of [8,9] .nil)))))) 1000000 (by kernel_rfl) ?_;(conv=>whnf);refine ⟨?_,?_,?_⟩
    · (conv=>whnf);refine Cq.new (q1k _ h2 h2) rfl fun qaa hqaa=>?_;(conv=>whnf);refine Sub.r [3,2,1000] [0] ?_;(conv=>whnf);refine ⟨?_,?_,?_⟩
      · (conv=>whnf);refine Cq.new (q1k _ h3 h3) rfl fun qbb hqbb=>?_;(conv=>whnf);refine Sub.r [3,2,1000] [0] ?_;(conv=>whnf);refine ⟨?_,?_⟩
        · (conv=>whnf);intro b4;refine Sub.r [3,2,1000] [0] ?_;(conv=>whnf);intro b5;refine Sub.r [3,2,1000] [0] ?_;(conv=>whnf);refine Sub.r [3,2,1000] [0] ?_;(conv=>whnf);refine Sub.r [3,2,1000] [0] ?_;(conv=>whnf);exact ⟨(b4,b5,qaa,qbb),⟨hqaa,hqbb⟩,Wk.m [5,4,3,2,1000] [0] kk ⟨⟨kk,nmk hqbb.len _,trivial⟩,⟨kk,nmk hqaa.len _,trivial⟩,⟨kk,nmk h3.len _,trivial⟩,⟨kk,nmk h2.len _,trivial⟩,⟨kk,nmk H1.len _,nmk H2.len _,nmk K2.len _,nmk H3.len _,nmk K3.len _,trivial⟩,trivial⟩ ⟨rfl,rfl⟩⟩
        · (conv=>whnf);intro b5;refine Sub.r [3,2,1000] [0] ?_;(conv=>whnf);intro b4;refine Sub.r [3,2,1000] [0] ?_;(conv=>whnf);refine Sub.r [3,2,1000] [0] ?_;(conv=>whnf);refine Sub.r [3,2,1000] [0] ?_;(conv=>whnf);exact ⟨(b4,b5,qaa,qbb),⟨hqaa,hqbb⟩,Wk.m [5,4,3,2,1000] [0] kk ⟨⟨kk,nmk hqbb.len _,trivial⟩,⟨kk,nmk hqaa.len _,trivial⟩,⟨kk,nmk h3.len _,trivial⟩,⟨kk,nmk h2.len _,trivial⟩,⟨kk,nmk H1.len _,nmk H2.len _,nmk K2.len _,nmk H3.len _,nmk K3.len _,trivial⟩,trivial⟩ ⟨rfl,rfl⟩⟩
      · (conv=>whnf);intro b4;refine Sub.r [3,2,1000] [0] ?_;(conv=>whnf);refine ⟨?_,?_⟩
        · (conv=>whnf);refine Cq.new (q1k _ h3 h3) rfl fun qbb hqbb=>?_;(conv=>whnf);refine Sub.r [3,2,1000] [0] ?_;(conv=>whnf);intro b5;refine Sub.r [3,2,1000] [0] ?_;(conv=>whnf);refine Sub.r [3,2,1000] [0] ?_;(conv=>whnf);refine Sub.r [3,2,1000] [0] ?_;conv=>whnf
          exact ⟨(b4,b5,qaa,qbb),⟨hqaa,hqbb⟩,Wk.m [5,4,3,2,1000] [0] kk ⟨⟨kk,nmk hqbb.len _,trivial⟩,⟨kk,nmk hqaa.len _,trivial⟩,⟨kk,nmk h3.len _,trivial⟩,⟨kk,nmk h2.len _,trivial⟩,⟨kk,nmk H1.len _,nmk H2.len _,nmk K2.len _,nmk H3.len _,nmk K3.len _,trivial⟩,trivial⟩ ⟨rfl,rfl⟩⟩
        · (conv=>whnf);intro b5;refine Sub.r [3,2,1000] [0] ?_;(conv=>whnf);refine Cq.new (q1k _ h3 h3) rfl fun qbb hqbb=>?_;(conv=>whnf);refine Sub.r [3,2,1000] [0] ?_;(conv=>whnf);refine Sub.r [3,2,1000] [0] ?_;(conv=>whnf);refine Sub.r [3,2,1000] [0] ?_;conv=>whnf
          exact ⟨(b4,b5,qaa,qbb),⟨hqaa,hqbb⟩,Wk.m [5,4,3,2,1000] [0] kk ⟨⟨kk,nmk hqbb.len _,trivial⟩,⟨kk,nmk hqaa.len _,trivial⟩,⟨kk,nmk h3.len _,trivial⟩,⟨kk,nmk h2.len _,trivial⟩,⟨kk,nmk H1.len _,nmk H2.len _,nmk K2.len _,nmk H3.len _,nmk K3.len _,trivial⟩,trivial⟩ ⟨rfl,rfl⟩⟩
      · (conv=>whnf);intro b5;refine Sub.r [3,2,1000] [0] ?_;(conv=>whnf);refine ⟨?_,?_⟩
        · (conv=>whnf);refine Cq.new (q1k _ h3 h3) rfl fun qbb hqbb=>?_;(conv=>whnf);refine Sub.r [3,2,1000] [0] ?_;(conv=>whnf);intro b4;refine Sub.r [3,2,1000] [0] ?_;(conv=>whnf);refine Sub.r [3,2,1000] [0] ?_;(conv=>whnf);refine Sub.r [3,2,1000] [0] ?_;conv=>whnf
          exact ⟨(b4,b5,qaa,qbb),⟨hqaa,hqbb⟩,Wk.m [5,4,3,2,1000] [0] kk ⟨⟨kk,nmk hqbb.len _,trivial⟩,⟨kk,nmk hqaa.len _,trivial⟩,⟨kk,nmk h3.len _,trivial⟩,⟨kk,nmk h2.len _,trivial⟩,⟨kk,nmk H1.len _,nmk H2.len _,nmk K2.len _,nmk H3.len _,nmk K3.len _,trivial⟩,trivial⟩ ⟨rfl,rfl⟩⟩
        · (conv=>whnf);intro b4;refine Sub.r [3,2,1000] [0] ?_;(conv=>whnf);refine Cq.new (q1k _ h3 h3) rfl fun qbb hqbb=>?_;(conv=>whnf);refine Sub.r [3,2,1000] [0] ?_;(conv=>whnf);refine Sub.r [3,2,1000] [0] ?_;(conv=>whnf);refine Sub.r [3,2,1000] [0] ?_;conv=>whnf
          exact ⟨(b4,b5,qaa,qbb),⟨hqaa,hqbb⟩,Wk.m [5,4,3,2,1000] [0] kk ⟨⟨kk,nmk hqbb.len _,trivial⟩,⟨kk,nmk hqaa.len _,trivial⟩,⟨kk,nmk h3.len _,trivial⟩,⟨kk,nmk h2.len _,trivial⟩,⟨kk,nmk H1.len _,nmk H2.len _,nmk K2.len _,nmk H3.len _,nmk K3.len _,trivial⟩,trivial⟩ ⟨rfl,rfl⟩⟩
    · (conv=>whnf);intro b4;refine Sub.r [3,2,1000] [0] ?_;(conv=>whnf);refine ⟨?_,?_⟩
      · (conv=>whnf);refine Cq.new (q1k _ h2 h2) rfl fun qaa hqaa=>?_;(conv=>whnf);refine Sub.r [3,2,1000] [0] ?_;(conv=>whnf);refine ⟨?_,?_⟩
        · (conv=>whnf);refine Cq.new (q1k _ h3 h3) rfl fun qbb hqbb=>?_;(conv=>whnf);refine Sub.r [3,2,1000] [0] ?_;(conv=>whnf);intro b5;refine Sub.r [3,2,1000] [0] ?_;(conv=>whnf);refine Sub.r [3,2,1000] [0] ?_;(conv=>whnf);refine Sub.r [3,2,1000] [0] ?_;conv=>whnf
          exact ⟨(b4,b5,qaa,qbb),⟨hqaa,hqbb⟩,Wk.m [5,4,3,2,1000] [0] kk ⟨⟨kk,nmk hqbb.len _,trivial⟩,⟨kk,nmk hqaa.len _,trivial⟩,⟨kk,nmk h3.len _,trivial⟩,⟨kk,nmk h2.len _,trivial⟩,⟨kk,nmk H1.len _,nmk H2.len _,nmk K2.len _,nmk H3.len _,nmk K3.len _,trivial⟩,trivial⟩ ⟨rfl,rfl⟩⟩
        · (conv=>whnf);intro b5;refine Sub.r [3,2,1000] [0] ?_;(conv=>whnf);refine Cq.new (q1k _ h3 h3) rfl fun qbb hqbb=>?_;(conv=>whnf);refine Sub.r [3,2,1000] [0] ?_;(conv=>whnf);refine Sub.r [3,2,1000] [0] ?_;(conv=>whnf);refine Sub.r [3,2,1000] [0] ?_;conv=>whnf
          exact ⟨(b4,b5,qaa,qbb),⟨hqaa,hqbb⟩,Wk.m [5,4,3,2,1000] [0] kk ⟨⟨kk,nmk hqbb.len _,trivial⟩,⟨kk,nmk hqaa.len _,trivial⟩,⟨kk,nmk h3.len _,trivial⟩,⟨kk,nmk h2.len _,trivial⟩,⟨kk,nmk H1.len _,nmk H2.len _,nmk K2.len _,nmk H3.len _,nmk K3.len _,trivial⟩,trivial⟩ ⟨rfl,rfl⟩⟩
      · (conv=>whnf);intro b5;refine Sub.r [3,2,1000] [0] ?_;(conv=>whnf);refine Cq.new (q1k _ h2 h2) rfl fun qaa hqaa=>?_;(conv=>whnf);refine Sub.r [3,2,1000] [0] ?_;(conv=>whnf);refine Cq.new (q1k _ h3 h3) rfl fun qbb hqbb=>?_;(conv=>whnf);refine Sub.r [3,2,1000] [0] ?_;(conv=>whnf);refine Sub.r [3,2,1000] [0] ?_;(conv=>whnf);refine Sub.r [3,2,1000] [0] ?_;conv=>whnf
        exact ⟨(b4,b5,qaa,qbb),⟨hqaa,hqbb⟩,Wk.m [5,4,3,2,1000] [0] kk ⟨⟨kk,nmk hqbb.len _,trivial⟩,⟨kk,nmk hqaa.len _,trivial⟩,⟨kk,nmk h3.len _,trivial⟩,⟨kk,nmk h2.len _,trivial⟩,⟨kk,nmk H1.len _,nmk H2.len _,nmk K2.len _,nmk H3.len _,nmk K3.len _,trivial⟩,trivial⟩ ⟨rfl,rfl⟩⟩
    · (conv=>whnf);intro b5;refine Sub.r [3,2,1000] [0] ?_;(conv=>whnf);refine ⟨?_,?_⟩
      · (conv=>whnf);refine Cq.new (q1k _ h2 h2) rfl fun qaa hqaa=>?_;(conv=>whnf);refine Sub.r [3,2,1000] [0] ?_;(conv=>whnf);refine ⟨?_,?_⟩
        · (conv=>whnf);refine Cq.new (q1k _ h3 h3) rfl fun qbb hqbb=>?_;(conv=>whnf);refine Sub.r [3,2,1000] [0] ?_;(conv=>whnf);intro b4;refine Sub.r [3,2,1000] [0] ?_;(conv=>whnf);refine Sub.r [3,2,1000] [0] ?_;(conv=>whnf);refine Sub.r [3,2,1000] [0] ?_;conv=>whnf
          exact ⟨(b4,b5,qaa,qbb),⟨hqaa,hqbb⟩,Wk.m [5,4,3,2,1000] [0] kk ⟨⟨kk,nmk hqbb.len _,trivial⟩,⟨kk,nmk hqaa.len _,trivial⟩,⟨kk,nmk h3.len _,trivial⟩,⟨kk,nmk h2.len _,trivial⟩,⟨kk,nmk H1.len _,nmk H2.len _,nmk K2.len _,nmk H3.len _,nmk K3.len _,trivial⟩,trivial⟩ ⟨rfl,rfl⟩⟩
        · (conv=>whnf);intro b4;refine Sub.r [3,2,1000] [0] ?_;(conv=>whnf);refine Cq.new (q1k _ h3 h3) rfl fun qbb hqbb=>?_;(conv=>whnf);refine Sub.r [3,2,1000] [0] ?_;(conv=>whnf);refine Sub.r [3,2,1000] [0] ?_;(conv=>whnf);refine Sub.r [3,2,1000] [0] ?_;conv=>whnf
          exact ⟨(b4,b5,qaa,qbb),⟨hqaa,hqbb⟩,Wk.m [5,4,3,2,1000] [0] kk ⟨⟨kk,nmk hqbb.len _,trivial⟩,⟨kk,nmk hqaa.len _,trivial⟩,⟨kk,nmk h3.len _,trivial⟩,⟨kk,nmk h2.len _,trivial⟩,⟨kk,nmk H1.len _,nmk H2.len _,nmk K2.len _,nmk H3.len _,nmk K3.len _,trivial⟩,trivial⟩ ⟨rfl,rfl⟩⟩
      · (conv=>whnf);intro b4;refine Sub.r [3,2,1000] [0] ?_;(conv=>whnf);refine Cq.new (q1k _ h2 h2) rfl fun qaa hqaa=>?_;(conv=>whnf);refine Sub.r [3,2,1000] [0] ?_;(conv=>whnf);refine Cq.new (q1k _ h3 h3) rfl fun qbb hqbb=>?_;(conv=>whnf);refine Sub.r [3,2,1000] [0] ?_;(conv=>whnf);refine Sub.r [3,2,1000] [0] ?_;(conv=>whnf);refine Sub.r [3,2,1000] [0] ?_;conv=>whnf
        exact ⟨(b4,b5,qaa,qbb),⟨hqaa,hqbb⟩,Wk.m [5,4,3,2,1000] [0] kk ⟨⟨kk,nmk hqbb.len _,trivial⟩,⟨kk,nmk hqaa.len _,trivial⟩,⟨kk,nmk h3.len _,trivial⟩,⟨kk,nmk h2.len _,trivial⟩,⟨kk,nmk H1.len _,nmk H2.len _,nmk K2.len _,nmk H3.len _,nmk K3.len _,trivial⟩,trivial⟩ ⟨rfl,rfl⟩⟩
  rintro ⟨b4,b5,s4,s5⟩ ⟨h4,h5⟩;dsimp only at h4 h5 ⊢;(conv=>whnf);refine Cq.new (q23 _ h4 h5) rfl fun s6 h6=>?_;(conv=>whnf);intro b6;conv=>whnf
  refine Draw.cut (σ:=Nat × List Nat) (fun s=>[(0,.c (.ptr 1000 0)),(2,.c (.ptr 2 0)),(3,.c (.ptr 3 0)),(4,.c (.ptr 4 0)),(5,.c (.ptr 5 0)),(6,.c (.ptr 6 0)),(7,.c (.ptr 7 0))]) (fun s=>⟨[(7,s.1),(6,b6),(5,b5),(4,b4),(3,b3),(2,b2)] ++ B1 g,[(7,nu (s.2),180),(6,nu s6,180),(5,nu s5,180),(4,nu s4,180),(3,nu s3,180),(2,nu s2,180),(1000,lad X1 X2 Z2 X3 Z3,T)],[A]⟩) (fun s=>Rs (fm (fs v3 w3) (fa v2 w2)) (s.2)) ?_ ?_
  · refine Draw.a (by kernel_rfl) tt_ok (Tv.of [0,1,2,3,4,5,6,7,9] (.two 8 (.two 10 (.one 11 (Tv.of [12] .nil)) 11 (.one 10 (Tv.of [12] .nil))) 11 (.one 8 (.one 10 (Tv.of [12] .nil))))) 1000000 (by kernel_rfl) ?_;(conv=>whnf);refine ⟨?_,?_⟩
    · (conv=>whnf);refine Cq.new (q23 _ H3 K3) rfl fun qd0 hqd0=>?_;(conv=>whnf);refine Sub.r [6,5,4,3,2,1000] [0] ?_;(conv=>whnf);refine ⟨?_,?_⟩
      · (conv=>whnf);refine Cq.new (q1k _ hqd0 h2) rfl fun qd hqd=>?_;(conv=>whnf);refine Sub.r [6,5,4,3,2,1000] [0] ?_;(conv=>whnf);intro b7;refine Sub.r [6,5,4,3,2,1000] [0] ?_;(conv=>whnf);refine Sub.r [6,5,4,3,2,1000] [0] ?_;conv=>whnf
        exact ⟨(b7,qd),hqd,Wk.m [7,6,5,4,3,2,1000] [0] kk ⟨⟨kk,nmk hqd.len _,trivial⟩,⟨kk,nmk h6.len _,trivial⟩,⟨kk,nmk h5.len _,trivial⟩,⟨kk,nmk h4.len _,trivial⟩,⟨kk,nmk h3.len _,trivial⟩,⟨kk,nmk h2.len _,trivial⟩,⟨kk,nmk H1.len _,nmk H2.len _,nmk K2.len _,nmk H3.len _,nmk K3.len _,trivial⟩,trivial⟩ ⟨rfl,rfl⟩⟩
      · (conv=>whnf);intro b7;refine Sub.r [6,5,4,3,2,1000] [0] ?_;(conv=>whnf);refine Cq.new (q1k _ hqd0 h2) rfl fun qd hqd=>?_;(conv=>whnf);refine Sub.r [6,5,4,3,2,1000] [0] ?_;(conv=>whnf);refine Sub.r [6,5,4,3,2,1000] [0] ?_;conv=>whnf
        exact ⟨(b7,qd),hqd,Wk.m [7,6,5,4,3,2,1000] [0] kk ⟨⟨kk,nmk hqd.len _,trivial⟩,⟨kk,nmk h6.len _,trivial⟩,⟨kk,nmk h5.len _,trivial⟩,⟨kk,nmk h4.len _,trivial⟩,⟨kk,nmk h3.len _,trivial⟩,⟨kk,nmk h2.len _,trivial⟩,⟨kk,nmk H1.len _,nmk H2.len _,nmk K2.len _,nmk H3.len _,nmk K3.len _,trivial⟩,trivial⟩ ⟨rfl,rfl⟩⟩
    · (conv=>whnf);intro b7;refine Sub.r [6,5,4,3,2,1000] [0] ?_;(conv=>whnf);refine Cq.new (q23 _ H3 K3) rfl fun qd0 hqd0=>?_;(conv=>whnf);refine Sub.r [6,5,4,3,2,1000] [0] ?_;(conv=>whnf);refine Cq.new (q1k _ hqd0 h2) rfl fun qd hqd=>?_;(conv=>whnf);refine Sub.r [6,5,4,3,2,1000] [0] ?_;(conv=>whnf);refine Sub.r [6,5,4,3,2,1000] [0] ?_;conv=>whnf
      exact ⟨(b7,qd),hqd,Wk.m [7,6,5,4,3,2,1000] [0] kk ⟨⟨kk,nmk hqd.len _,trivial⟩,⟨kk,nmk h6.len _,trivial⟩,⟨kk,nmk h5.len _,trivial⟩,⟨kk,nmk h4.len _,trivial⟩,⟨kk,nmk h3.len _,trivial⟩,⟨kk,nmk h2.len _,trivial⟩,⟨kk,nmk H1.len _,nmk H2.len _,nmk K2.len _,nmk H3.len _,nmk K3.len _,trivial⟩,trivial⟩ ⟨rfl,rfl⟩⟩
  rintro ⟨b7,s7⟩ h7;dsimp only at h7 ⊢;(conv=>whnf);refine Draw.cut (σ:=Nat × List Nat) (fun s=>[(0,.c (.ptr 1000 0)),(2,.c (.ptr 2 0)),(3,.c (.ptr 3 0)),(4,.c (.ptr 4 0)),(5,.c (.ptr 5 0)),(6,.c (.ptr 6 0)),(7,.c (.ptr 7 0)),(8,.c (.ptr 8 0))]) (fun s=>⟨[(8,s.1),(7,b7),(6,b6),(5,b5),(4,b4),(3,b3),(2,b2)] ++ B1 g,[(8,nu (s.2),180),(7,nu s7,180),(6,nu s6,180),(5,nu s5,180),(4,nu s4,180),(3,nu s3,180),(2,nu s2,180),(1000,lad X1 X2 Z2 X3 Z3,T)],[A]⟩) (fun s=>Rs (fm (fa v3 w3) (fs v2 w2)) (s.2)) ?_ ?_
  · refine Draw.a (by kernel_rfl) tt_ok (Tv.of [0,1,2,3,4,5,6,7,9] (.two 8 (.two 10 (.one 11 (Tv.of [12] .nil)) 11 (.one 10 (Tv.of [12] .nil))) 11 (.one 8 (.one 10 (Tv.of [12] .nil))))) 1000000 (by kernel_rfl) ?_;(conv=>whnf);refine ⟨?_,?_⟩
    · (conv=>whnf);refine Cq.new (q3x _ H3 K3) rfl fun qc0 hqc0=>?_;(conv=>whnf);refine Sub.r [7,6,5,4,3,2,1000] [0] ?_;(conv=>whnf);refine ⟨?_,?_⟩
      · (conv=>whnf);refine Cq.new (q1k _ hqc0 h3) rfl fun qc hqc=>?_;(conv=>whnf);refine Sub.r [7,6,5,4,3,2,1000] [0] ?_;(conv=>whnf);intro b8;refine Sub.r [7,6,5,4,3,2,1000] [0] ?_;(conv=>whnf);refine Sub.r [7,6,5,4,3,2,1000] [0] ?_;conv=>whnf
        exact ⟨(b8,qc),hqc,Wk.m [8,7,6,5,4,3,2,1000] [0] kk ⟨⟨kk,nmk hqc.len _,trivial⟩,⟨kk,nmk h7.len _,trivial⟩,⟨kk,nmk h6.len _,trivial⟩,⟨kk,nmk h5.len _,trivial⟩,⟨kk,nmk h4.len _,trivial⟩,⟨kk,nmk h3.len _,trivial⟩,⟨kk,nmk h2.len _,trivial⟩,⟨kk,nmk H1.len _,nmk H2.len _,nmk K2.len _,nmk H3.len _,nmk K3.len _,trivial⟩,trivial⟩ ⟨rfl,rfl⟩⟩
      · (conv=>whnf);intro b8;refine Sub.r [7,6,5,4,3,2,1000] [0] ?_;(conv=>whnf);refine Cq.new (q1k _ hqc0 h3) rfl fun qc hqc=>?_;(conv=>whnf);refine Sub.r [7,6,5,4,3,2,1000] [0] ?_;(conv=>whnf);refine Sub.r [7,6,5,4,3,2,1000] [0] ?_;conv=>whnf
        exact ⟨(b8,qc),hqc,Wk.m [8,7,6,5,4,3,2,1000] [0] kk ⟨⟨kk,nmk hqc.len _,trivial⟩,⟨kk,nmk h7.len _,trivial⟩,⟨kk,nmk h6.len _,trivial⟩,⟨kk,nmk h5.len _,trivial⟩,⟨kk,nmk h4.len _,trivial⟩,⟨kk,nmk h3.len _,trivial⟩,⟨kk,nmk h2.len _,trivial⟩,⟨kk,nmk H1.len _,nmk H2.len _,nmk K2.len _,nmk H3.len _,nmk K3.len _,trivial⟩,trivial⟩ ⟨rfl,rfl⟩⟩
    · (conv=>whnf);intro b8;refine Sub.r [7,6,5,4,3,2,1000] [0] ?_;(conv=>whnf);refine Cq.new (q3x _ H3 K3) rfl fun qc0 hqc0=>?_;(conv=>whnf);refine Sub.r [7,6,5,4,3,2,1000] [0] ?_;(conv=>whnf);refine Cq.new (q1k _ hqc0 h3) rfl fun qc hqc=>?_;(conv=>whnf);refine Sub.r [7,6,5,4,3,2,1000] [0] ?_;(conv=>whnf);refine Sub.r [7,6,5,4,3,2,1000] [0] ?_;conv=>whnf
      exact ⟨(b8,qc),hqc,Wk.m [8,7,6,5,4,3,2,1000] [0] kk ⟨⟨kk,nmk hqc.len _,trivial⟩,⟨kk,nmk h7.len _,trivial⟩,⟨kk,nmk h6.len _,trivial⟩,⟨kk,nmk h5.len _,trivial⟩,⟨kk,nmk h4.len _,trivial⟩,⟨kk,nmk h3.len _,trivial⟩,⟨kk,nmk h2.len _,trivial⟩,⟨kk,nmk H1.len _,nmk H2.len _,nmk K2.len _,nmk H3.len _,nmk K3.len _,trivial⟩,trivial⟩ ⟨rfl,rfl⟩⟩
  rintro ⟨b8,s8⟩ h8;dsimp only at h8 ⊢;conv=>whnf
  refine Draw.cut (σ:=Nat × Nat × List Nat × List Nat) (fun s=>[(0,.c (.ptr 1000 0)),(2,.c (.ptr 2 0)),(3,.c (.ptr 3 0)),(4,.c (.ptr 4 0)),(5,.c (.ptr 5 0)),(6,.c (.ptr 6 0)),(7,.c (.ptr 7 0)),(8,.c (.ptr 8 0)),(9,.c (.ptr 9 0)),(10,.c (.ptr 10 0))]) (fun s=>⟨[(10,s.2.1),(9,s.1),(8,b8),(7,b7),(6,b6),(5,b5),(4,b4),(3,b3),(2,b2)] ++ B1 g,[(10,nu (s.2.2.2),180),(9,nu (s.2.2.1),180),(8,nu s8,180),(7,nu s7,180),(6,nu s6,180),(5,nu s5,180),(4,nu s4,180),(3,nu s3,180),(2,nu s2,180),(1000,lad X1 X2 Z2 X3 Z3,T)],[A]⟩) (fun s=>Rs (fa (fm (fs v3 w3) (fa v2 w2)) (fm (fa v3 w3) (fs v2 w2))) (s.2.2.1) ∧ Rs (fs (fm (fs v3 w3) (fa v2 w2)) (fm (fa v3 w3) (fs v2 w2))) (s.2.2.2)) ?_ ?_
  · refine Draw.a (by kernel_rfl) tt_ok (Tv.of [0,1,3,4] (.tre 2 (.tre 5 (.two 6 (.one 7 (Tv.of [8,9] .nil)) 7 (.one 6 (Tv.of [8,9] .nil))) 6 (.two 5 (.one 7 (Tv.of [8,9] .nil)) 7 (.one 5 (Tv.of [8,9] .nil))) 7 (.two 5 (.one 6 (Tv.of [8,9] .nil)) 6 (.one 5 (Tv.of [8,9] .nil)))) 6 (.two 2 (.two 5 (.one 7 (Tv.of [8,9] .nil)) 7 (.one 5 (Tv.of [8,9] .nil))) 7 (.one 2 (.one 5 (Tv.of [8,9] .nil)))) 7 (.two 2 (.two 5 (.one 6 (Tv.of [8,9] .nil)) 6 (.one 5 (Tv.of [8,9] .nil))) 6 (.one 2 (.one 5 (Tv.of [8,9] .nil)))))) 1000000 (by kernel_rfl) ?_;(conv=>whnf);refine ⟨?_,?_,?_⟩
    · (conv=>whnf);refine Cq.new (q3x _ h7 h8) rfl fun qs hqs=>?_;(conv=>whnf);refine Sub.r [8,7,6,5,4,3,2,1000] [0] ?_;(conv=>whnf);refine ⟨?_,?_,?_⟩
      · (conv=>whnf);refine Cq.new (q23 _ h7 h8) rfl fun qt hqt=>?_;(conv=>whnf);refine Sub.r [8,7,6,5,4,3,2,1000] [0] ?_;(conv=>whnf);refine ⟨?_,?_⟩
        · (conv=>whnf);intro b9;refine Sub.r [8,7,6,5,4,3,2,1000] [0] ?_;(conv=>whnf);intro b10;refine Sub.r [8,7,6,5,4,3,2,1000] [0] ?_;(conv=>whnf);refine Sub.r [8,7,6,5,4,3,2,1000] [0] ?_;(conv=>whnf);refine Sub.r [8,7,6,5,4,3,2,1000] [0] ?_;conv=>whnf
          exact ⟨(b9,b10,qs,qt),⟨hqs,hqt⟩,Wk.m [10,9,8,7,6,5,4,3,2,1000] [0] kk ⟨⟨kk,nmk hqt.len _,trivial⟩,⟨kk,nmk hqs.len _,trivial⟩,⟨kk,nmk h8.len _,trivial⟩,⟨kk,nmk h7.len _,trivial⟩,⟨kk,nmk h6.len _,trivial⟩,⟨kk,nmk h5.len _,trivial⟩,⟨kk,nmk h4.len _,trivial⟩,⟨kk,nmk h3.len _,trivial⟩,⟨kk,nmk h2.len _,trivial⟩,⟨kk,nmk H1.len _,nmk H2.len _,nmk K2.len _,nmk H3.len _,nmk K3.len _,trivial⟩,trivial⟩ ⟨rfl,rfl⟩⟩
        · (conv=>whnf);intro b10;refine Sub.r [8,7,6,5,4,3,2,1000] [0] ?_;(conv=>whnf);intro b9;refine Sub.r [8,7,6,5,4,3,2,1000] [0] ?_;(conv=>whnf);refine Sub.r [8,7,6,5,4,3,2,1000] [0] ?_;(conv=>whnf);refine Sub.r [8,7,6,5,4,3,2,1000] [0] ?_;conv=>whnf
          exact ⟨(b9,b10,qs,qt),⟨hqs,hqt⟩,Wk.m [10,9,8,7,6,5,4,3,2,1000] [0] kk ⟨⟨kk,nmk hqt.len _,trivial⟩,⟨kk,nmk hqs.len _,trivial⟩,⟨kk,nmk h8.len _,trivial⟩,⟨kk,nmk h7.len _,trivial⟩,⟨kk,nmk h6.len _,trivial⟩,⟨kk,nmk h5.len _,trivial⟩,⟨kk,nmk h4.len _,trivial⟩,⟨kk,nmk h3.len _,trivial⟩,⟨kk,nmk h2.len _,trivial⟩,⟨kk,nmk H1.len _,nmk H2.len _,nmk K2.len _,nmk H3.len _,nmk K3.len _,trivial⟩,trivial⟩ ⟨rfl,rfl⟩⟩
      · (conv=>whnf);intro b9;refine Sub.r [8,7,6,5,4,3,2,1000] [0] ?_;(conv=>whnf);refine ⟨?_,?_⟩
        · (conv=>whnf);refine Cq.new (q23 _ h7 h8) rfl fun qt hqt=>?_;(conv=>whnf);refine Sub.r [8,7,6,5,4,3,2,1000] [0] ?_;(conv=>whnf);intro b10;refine Sub.r [8,7,6,5,4,3,2,1000] [0] ?_;(conv=>whnf);refine Sub.r [8,7,6,5,4,3,2,1000] [0] ?_;(conv=>whnf);refine Sub.r [8,7,6,5,4,3,2,1000] [0] ?_;conv=>whnf
          exact ⟨(b9,b10,qs,qt),⟨hqs,hqt⟩,Wk.m [10,9,8,7,6,5,4,3,2,1000] [0] kk ⟨⟨kk,nmk hqt.len _,trivial⟩,⟨kk,nmk hqs.len _,trivial⟩,⟨kk,nmk h8.len _,trivial⟩,⟨kk,nmk h7.len _,trivial⟩,⟨kk,nmk h6.len _,trivial⟩,⟨kk,nmk h5.len _,trivial⟩,⟨kk,nmk h4.len _,trivial⟩,⟨kk,nmk h3.len _,trivial⟩,⟨kk,nmk h2.len _,trivial⟩,⟨kk,nmk H1.len _,nmk H2.len _,nmk K2.len _,nmk H3.len _,nmk K3.len _,trivial⟩,trivial⟩ ⟨rfl,rfl⟩⟩
        · (conv=>whnf);intro b10;refine Sub.r [8,7,6,5,4,3,2,1000] [0] ?_;(conv=>whnf);refine Cq.new (q23 _ h7 h8) rfl fun qt hqt=>?_;(conv=>whnf);refine Sub.r [8,7,6,5,4,3,2,1000] [0] ?_;(conv=>whnf);refine Sub.r [8,7,6,5,4,3,2,1000] [0] ?_;(conv=>whnf);refine Sub.r [8,7,6,5,4,3,2,1000] [0] ?_;conv=>whnf
          exact ⟨(b9,b10,qs,qt),⟨hqs,hqt⟩,Wk.m [10,9,8,7,6,5,4,3,2,1000] [0] kk ⟨⟨kk,nmk hqt.len _,trivial⟩,⟨kk,nmk hqs.len _,trivial⟩,⟨kk,nmk h8.len _,trivial⟩,⟨kk,nmk h7.len _,trivial⟩,⟨kk,nmk h6.len _,trivial⟩,⟨kk,nmk h5.len _,trivial⟩,⟨kk,nmk h4.len _,trivial⟩,⟨kk,nmk h3.len _,trivial⟩,⟨kk,nmk h2.len _,trivial⟩,⟨kk,nmk H1.len _,nmk H2.len _,nmk K2.len _,nmk H3.len _,nmk K3.len _,trivial⟩,trivial⟩ ⟨rfl,rfl⟩⟩
      · (conv=>whnf);intro b10;refine Sub.r [8,7,6,5,4,3,2,1000] [0] ?_;(conv=>whnf);refine ⟨?_,?_⟩
        · (conv=>whnf);refine Cq.new (q23 _ h7 h8) rfl fun qt hqt=>?_;(conv=>whnf);refine Sub.r [8,7,6,5,4,3,2,1000] [0] ?_;(conv=>whnf);intro b9;refine Sub.r [8,7,6,5,4,3,2,1000] [0] ?_;(conv=>whnf);refine Sub.r [8,7,6,5,4,3,2,1000] [0] ?_;(conv=>whnf);refine Sub.r [8,7,6,5,4,3,2,1000] [0] ?_;conv=>whnf
          exact ⟨(b9,b10,qs,qt),⟨hqs,hqt⟩,Wk.m [10,9,8,7,6,5,4,3,2,1000] [0] kk ⟨⟨kk,nmk hqt.len _,trivial⟩,⟨kk,nmk hqs.len _,trivial⟩,⟨kk,nmk h8.len _,trivial⟩,⟨kk,nmk h7.len _,trivial⟩,⟨kk,nmk h6.len _,trivial⟩,⟨kk,nmk h5.len _,trivial⟩,⟨kk,nmk h4.len _,trivial⟩,⟨kk,nmk h3.len _,trivial⟩,⟨kk,nmk h2.len _,trivial⟩,⟨kk,nmk H1.len _,nmk H2.len _,nmk K2.len _,nmk H3.len _,nmk K3.len _,trivial⟩,trivial⟩ ⟨rfl,rfl⟩⟩
        · (conv=>whnf);intro b9;refine Sub.r [8,7,6,5,4,3,2,1000] [0] ?_;(conv=>whnf);refine Cq.new (q23 _ h7 h8) rfl fun qt hqt=>?_;(conv=>whnf);refine Sub.r [8,7,6,5,4,3,2,1000] [0] ?_;(conv=>whnf);refine Sub.r [8,7,6,5,4,3,2,1000] [0] ?_;(conv=>whnf);refine Sub.r [8,7,6,5,4,3,2,1000] [0] ?_;conv=>whnf
          exact ⟨(b9,b10,qs,qt),⟨hqs,hqt⟩,Wk.m [10,9,8,7,6,5,4,3,2,1000] [0] kk ⟨⟨kk,nmk hqt.len _,trivial⟩,⟨kk,nmk hqs.len _,trivial⟩,⟨kk,nmk h8.len _,trivial⟩,⟨kk,nmk h7.len _,trivial⟩,⟨kk,nmk h6.len _,trivial⟩,⟨kk,nmk h5.len _,trivial⟩,⟨kk,nmk h4.len _,trivial⟩,⟨kk,nmk h3.len _,trivial⟩,⟨kk,nmk h2.len _,trivial⟩,⟨kk,nmk H1.len _,nmk H2.len _,nmk K2.len _,nmk H3.len _,nmk K3.len _,trivial⟩,trivial⟩ ⟨rfl,rfl⟩⟩
    · (conv=>whnf);intro b9;refine Sub.r [8,7,6,5,4,3,2,1000] [0] ?_;(conv=>whnf);refine ⟨?_,?_⟩
      · (conv=>whnf);refine Cq.new (q3x _ h7 h8) rfl fun qs hqs=>?_;(conv=>whnf);refine Sub.r [8,7,6,5,4,3,2,1000] [0] ?_;(conv=>whnf);refine ⟨?_,?_⟩
        · (conv=>whnf);refine Cq.new (q23 _ h7 h8) rfl fun qt hqt=>?_;(conv=>whnf);refine Sub.r [8,7,6,5,4,3,2,1000] [0] ?_;(conv=>whnf);intro b10;refine Sub.r [8,7,6,5,4,3,2,1000] [0] ?_;(conv=>whnf);refine Sub.r [8,7,6,5,4,3,2,1000] [0] ?_;(conv=>whnf);refine Sub.r [8,7,6,5,4,3,2,1000] [0] ?_;conv=>whnf
          exact ⟨(b9,b10,qs,qt),⟨hqs,hqt⟩,Wk.m [10,9,8,7,6,5,4,3,2,1000] [0] kk ⟨⟨kk,nmk hqt.len _,trivial⟩,⟨kk,nmk hqs.len _,trivial⟩,⟨kk,nmk h8.len _,trivial⟩,⟨kk,nmk h7.len _,trivial⟩,⟨kk,nmk h6.len _,trivial⟩,⟨kk,nmk h5.len _,trivial⟩,⟨kk,nmk h4.len _,trivial⟩,⟨kk,nmk h3.len _,trivial⟩,⟨kk,nmk h2.len _,trivial⟩,⟨kk,nmk H1.len _,nmk H2.len _,nmk K2.len _,nmk H3.len _,nmk K3.len _,trivial⟩,trivial⟩ ⟨rfl,rfl⟩⟩
        · (conv=>whnf);intro b10;refine Sub.r [8,7,6,5,4,3,2,1000] [0] ?_;(conv=>whnf);refine Cq.new (q23 _ h7 h8) rfl fun qt hqt=>?_;(conv=>whnf);refine Sub.r [8,7,6,5,4,3,2,1000] [0] ?_;(conv=>whnf);refine Sub.r [8,7,6,5,4,3,2,1000] [0] ?_;(conv=>whnf);refine Sub.r [8,7,6,5,4,3,2,1000] [0] ?_;conv=>whnf
          exact ⟨(b9,b10,qs,qt),⟨hqs,hqt⟩,Wk.m [10,9,8,7,6,5,4,3,2,1000] [0] kk ⟨⟨kk,nmk hqt.len _,trivial⟩,⟨kk,nmk hqs.len _,trivial⟩,⟨kk,nmk h8.len _,trivial⟩,⟨kk,nmk h7.len _,trivial⟩,⟨kk,nmk h6.len _,trivial⟩,⟨kk,nmk h5.len _,trivial⟩,⟨kk,nmk h4.len _,trivial⟩,⟨kk,nmk h3.len _,trivial⟩,⟨kk,nmk h2.len _,trivial⟩,⟨kk,nmk H1.len _,nmk H2.len _,nmk K2.len _,nmk H3.len _,nmk K3.len _,trivial⟩,trivial⟩ ⟨rfl,rfl⟩⟩
      · (conv=>whnf);intro b10;refine Sub.r [8,7,6,5,4,3,2,1000] [0] ?_;(conv=>whnf);refine Cq.new (q3x _ h7 h8) rfl fun qs hqs=>?_;(conv=>whnf);refine Sub.r [8,7,6,5,4,3,2,1000] [0] ?_;(conv=>whnf);refine Cq.new (q23 _ h7 h8) rfl fun qt hqt=>?_;(conv=>whnf);refine Sub.r [8,7,6,5,4,3,2,1000] [0] ?_;(conv=>whnf);refine Sub.r [8,7,6,5,4,3,2,1000] [0] ?_;(conv=>whnf);refine Sub.r [8,7,6,5,4,3,2,1000] [0] ?_;conv=>whnf
        exact ⟨(b9,b10,qs,qt),⟨hqs,hqt⟩,Wk.m [10,9,8,7,6,5,4,3,2,1000] [0] kk ⟨⟨kk,nmk hqt.len _,trivial⟩,⟨kk,nmk hqs.len _,trivial⟩,⟨kk,nmk h8.len _,trivial⟩,⟨kk,nmk h7.len _,trivial⟩,⟨kk,nmk h6.len _,trivial⟩,⟨kk,nmk h5.len _,trivial⟩,⟨kk,nmk h4.len _,trivial⟩,⟨kk,nmk h3.len _,trivial⟩,⟨kk,nmk h2.len _,trivial⟩,⟨kk,nmk H1.len _,nmk H2.len _,nmk K2.len _,nmk H3.len _,nmk K3.len _,trivial⟩,trivial⟩ ⟨rfl,rfl⟩⟩
    · (conv=>whnf);intro b10;refine Sub.r [8,7,6,5,4,3,2,1000] [0] ?_;(conv=>whnf);refine ⟨?_,?_⟩
      · (conv=>whnf);refine Cq.new (q3x _ h7 h8) rfl fun qs hqs=>?_;(conv=>whnf);refine Sub.r [8,7,6,5,4,3,2,1000] [0] ?_;(conv=>whnf);refine ⟨?_,?_⟩
        · (conv=>whnf);refine Cq.new (q23 _ h7 h8) rfl fun qt hqt=>?_;(conv=>whnf);refine Sub.r [8,7,6,5,4,3,2,1000] [0] ?_;(conv=>whnf);intro b9;refine Sub.r [8,7,6,5,4,3,2,1000] [0] ?_;(conv=>whnf);refine Sub.r [8,7,6,5,4,3,2,1000] [0] ?_;(conv=>whnf);refine Sub.r [8,7,6,5,4,3,2,1000] [0] ?_;conv=>whnf
          exact ⟨(b9,b10,qs,qt),⟨hqs,hqt⟩,Wk.m [10,9,8,7,6,5,4,3,2,1000] [0] kk ⟨⟨kk,nmk hqt.len _,trivial⟩,⟨kk,nmk hqs.len _,trivial⟩,⟨kk,nmk h8.len _,trivial⟩,⟨kk,nmk h7.len _,trivial⟩,⟨kk,nmk h6.len _,trivial⟩,⟨kk,nmk h5.len _,trivial⟩,⟨kk,nmk h4.len _,trivial⟩,⟨kk,nmk h3.len _,trivial⟩,⟨kk,nmk h2.len _,trivial⟩,⟨kk,nmk H1.len _,nmk H2.len _,nmk K2.len _,nmk H3.len _,nmk K3.len _,trivial⟩,trivial⟩ ⟨rfl,rfl⟩⟩
        · (conv=>whnf);intro b9;refine Sub.r [8,7,6,5,4,3,2,1000] [0] ?_;(conv=>whnf);refine Cq.new (q23 _ h7 h8) rfl fun qt hqt=>?_;(conv=>whnf);refine Sub.r [8,7,6,5,4,3,2,1000] [0] ?_;(conv=>whnf);refine Sub.r [8,7,6,5,4,3,2,1000] [0] ?_;(conv=>whnf);refine Sub.r [8,7,6,5,4,3,2,1000] [0] ?_;conv=>whnf
          exact ⟨(b9,b10,qs,qt),⟨hqs,hqt⟩,Wk.m [10,9,8,7,6,5,4,3,2,1000] [0] kk ⟨⟨kk,nmk hqt.len _,trivial⟩,⟨kk,nmk hqs.len _,trivial⟩,⟨kk,nmk h8.len _,trivial⟩,⟨kk,nmk h7.len _,trivial⟩,⟨kk,nmk h6.len _,trivial⟩,⟨kk,nmk h5.len _,trivial⟩,⟨kk,nmk h4.len _,trivial⟩,⟨kk,nmk h3.len _,trivial⟩,⟨kk,nmk h2.len _,trivial⟩,⟨kk,nmk H1.len _,nmk H2.len _,nmk K2.len _,nmk H3.len _,nmk K3.len _,trivial⟩,trivial⟩ ⟨rfl,rfl⟩⟩
      · (conv=>whnf);intro b9;refine Sub.r [8,7,6,5,4,3,2,1000] [0] ?_;(conv=>whnf);refine Cq.new (q3x _ h7 h8) rfl fun qs hqs=>?_;(conv=>whnf);refine Sub.r [8,7,6,5,4,3,2,1000] [0] ?_;(conv=>whnf);refine Cq.new (q23 _ h7 h8) rfl fun qt hqt=>?_;(conv=>whnf);refine Sub.r [8,7,6,5,4,3,2,1000] [0] ?_;(conv=>whnf);refine Sub.r [8,7,6,5,4,3,2,1000] [0] ?_;(conv=>whnf);refine Sub.r [8,7,6,5,4,3,2,1000] [0] ?_;conv=>whnf
        exact ⟨(b9,b10,qs,qt),⟨hqs,hqt⟩,Wk.m [10,9,8,7,6,5,4,3,2,1000] [0] kk ⟨⟨kk,nmk hqt.len _,trivial⟩,⟨kk,nmk hqs.len _,trivial⟩,⟨kk,nmk h8.len _,trivial⟩,⟨kk,nmk h7.len _,trivial⟩,⟨kk,nmk h6.len _,trivial⟩,⟨kk,nmk h5.len _,trivial⟩,⟨kk,nmk h4.len _,trivial⟩,⟨kk,nmk h3.len _,trivial⟩,⟨kk,nmk h2.len _,trivial⟩,⟨kk,nmk H1.len _,nmk H2.len _,nmk K2.len _,nmk H3.len _,nmk K3.len _,trivial⟩,trivial⟩ ⟨rfl,rfl⟩⟩
  rintro ⟨b9,b10,s9,s10⟩ ⟨h9,h10⟩;dsimp only at h9 h10 ⊢;(conv=>whnf);refine Cq.new (q1k _ h9 h9) rfl fun x3 hx3=>?_;(conv=>whnf);refine Draw.a (by kernel_rfl) tt_ok (Tv.of (List.range 12) .nil) 11 (by kernel_rfl) ?_;(conv=>whnf);refine Cq.new (q1k _ h10 h10) rfl fun tt2 htt=>?_;(conv=>whnf);refine Sub.whole ?_;(conv=>whnf);refine Cq.new (q1k _ H1 htt) rfl fun z3 hz3=>?_;(conv=>whnf);refine Sub.whole ?_;(conv=>whnf);refine Cq.new (q1k _ h4 h5) rfl fun x2 hx2=>?_;conv=>whnf
  refine Draw.a (by kernel_rfl) tt_ok (Tv.of (List.range 11) .nil) 10 (by kernel_rfl) ?_;(conv=>whnf);refine Cq.new (q1k _ h6 (show Rs 121665 [121665,0,0,0] from ⟨rfl,by intro a ha;simp at ha;omega,by unfold Pm;rfl⟩)) rfl fun e1 he1=>?_;(conv=>whnf);refine Sub.whole ?_;(conv=>whnf);refine Cq.new (q3x _ h4 he1) rfl fun e2 he2=>?_;(conv=>whnf);refine Sub.whole ?_;(conv=>whnf);refine Cq.new (q1k _ h6 he2) rfl fun z2 hz2=>?_;(conv=>whnf);refine Sub.whole ?_;conv=>whnf
  have hz2' : Rs (dbl ⟨v2,w2⟩).z z2:=by
    have e : (dbl ⟨v2,w2⟩).z = fm (fs (fm (fa v2 w2) (fa v2 w2)) (fm (fs v2 w2) (fs v2 w2))) (fa (fm (fa v2 w2) (fa v2 w2)) (fm (fs (fm (fa v2 w2) (fa v2 w2)) (fm (fs v2 w2) (fs v2 w2))) 121665)):=by
      unfold dbl;dsimp only;rw [show fm 121665 (fs (fm (fa v2 w2) (fa v2 w2)) (fm (fs v2 w2) (fs v2 w2))) = fm (fs (fm (fa v2 w2) (fa v2 w2)) (fm (fs v2 w2) (fs v2 w2))) 121665 by unfold fm;rw [Nat.mul_comm]]
    rw [e];exact hz2
  exact Ret.m (x2,z2,x3,z3) [1000] [0] ⟨hx2,hz2',hx3,hz3⟩ rfl kk ⟨⟨nmk H1.len _,nmk hx2.len _,nmk hz2.len _,nmk hx3.len _,nmk hz3.len _,trivial⟩,trivial⟩ ⟨rfl,rfl⟩
end
section
def lst (k : List UInt8) : Nat → Nat
  | 0=>0
  | j + 1=>bitS k (254 - j)
theorem qqi (k : List UInt8) (i : Nat) : bitS k i ≤ 1:=by unfold bitS;omega
theorem qiu (k : List UInt8) : ∀ j,lst k j ≤ 1
  | 0=>Nat.zero_le _
  | j + 1=>qqi k _
structure Ld (b : Nat) (s : Pt × Pt) (X2 Z2 X3 Z3 : List Nat) : Prop where
  x2 : Rs (if b = 1 then s.2 else s.1).x X2
  z2 : Rs (if b = 1 then s.2 else s.1).z Z2
  x3 : Rs (if b = 1 then s.1 else s.2).x X3
  z3 : Rs (if b = 1 then s.1 else s.2).z Z3
theorem qow (x r : Nat) (hx : x < 256) (hr : r < 8) : ibits .and .u8 ((x : Int).fdiv (2 ^ min ((r : Nat) : Int).toNat IntKind.u8.bits)) 1 = ((x / 2 ^ r % 2 : Nat) : Int):=by
  have : ∀ x : Fin 256,∀ r : Fin 8,ibits .and .u8 (((x : Nat) : Int).fdiv (2 ^ min (((r : Nat) : Nat) : Int).toNat IntKind.u8.bits)) 1 = (((x : Nat) / 2 ^ (r : Nat) % 2 : Nat) : Int):=by decide +kernel
  exact this ⟨x,hx⟩ ⟨r,hr⟩
theorem xor8 {a b : Nat} (ha : a ≤ 1) (hb : b ≤ 1) : ibits .xor .u8 (a : Int) (b : Int) = ((a ^^^ b : Nat) : Int) ∧ a ^^^ b ≤ 1:=by
  have : ∀ a : Fin 2,∀ b : Fin 2,ibits .xor .u8 ((a : Nat) : Int) ((b : Nat) : Int) = (((a : Nat) ^^^ (b : Nat) : Nat) : Int) ∧ (a : Nat) ^^^ (b : Nat) ≤ 1:=by decide +kernel
  exact this ⟨a,by omega⟩ ⟨b,by omega⟩
def pk (s : Nat) (a b : List Nat) : List Nat:=if s = 1 then b else a
theorem qit (A : HP) (s : Nat) (hs : s ≤ 1) (g T : Nat) (a b c d e : List Nat) (ha : a.length = 4) (hb : b.length = 4) (hc : c.length = 4) (hd : d.length = 4) (he : e.length = 4) (okb : ok64 b) (okd : ok64 d) :
    Con Tryz.prog 108 [.c (.int .u8 s),.c (.rp g 4),.c (.rp g 12)] [(g,lad a b c d e,T)] [] A (fun _ : Unit=>True) (fun _=>.tup []) (fun _=>[(g,lad a (pk s b d) c (pk s d b) e,T)]) (fun _=>[]):=by
  obtain rfl | rfl : s = 0 ∨ s = 1:=by omega
  · exact qp3 A g T a b c d e ha hb hc hd he okb okd
  · exact qnq A g T a b c d e ha hb hc hd he okb okd
theorem qk8 (A : HP) (s : Nat) (hs : s ≤ 1) (g T : Nat) (a b c d e : List Nat) (ha : a.length = 4) (hb : b.length = 4) (hc : c.length = 4) (hd : d.length = 4) (he : e.length = 4) (okc : ok64 c) (oke : ok64 e) :
    Con Tryz.prog 108 [.c (.int .u8 s),.c (.rp g 8),.c (.rp g 16)] [(g,lad a b c d e,T)] [] A (fun _ : Unit=>True) (fun _=>.tup []) (fun _=>[(g,lad a b (pk s c e) d (pk s e c),T)]) (fun _=>[]):=by
  obtain rfl | rfl : s = 0 ∨ s = 1:=by omega
  · exact qns A g T a b c d e ha hb hc hd he okc oke
  · exact qoo A g T a b c d e ha hb hc hd he okc oke
theorem Ld.turn {l b : Nat} {s : Pt × Pt} {X2 Z2 X3 Z3 : List Nat} (hl : l ≤ 1) (hb : b ≤ 1) (h : Ld l s X2 Z2 X3 Z3) : Ld b s (pk (l ^^^ b) X2 X3) (pk (l ^^^ b) Z2 Z3) (pk (l ^^^ b) X3 X2) (pk (l ^^^ b) Z3 Z2):=by
  obtain ⟨h1,h2,h3,h4⟩:=h;obtain rfl | rfl : l = 0 ∨ l = 1:=by omega
  all_goals (obtain rfl | rfl : b = 0 ∨ b = 1:=by omega)
  all_goals exact ⟨by simpa [pk] using (by assumption),by simpa [pk] using (by assumption),by simpa [pk] using (by assumption),by simpa [pk] using (by assumption)⟩
theorem Ld.end {l : Nat} {s : Pt × Pt} {X2 Z2 X3 Z3 : List Nat} (hl : l ≤ 1) (h : Ld l s X2 Z2 X3 Z3) : Rs s.1.x (pk l X2 X3) ∧ Rs s.1.z (pk l Z2 Z3) ∧ (pk l X3 X2).length = 4 ∧ (pk l Z3 Z2).length = 4:=by
  have h':=Ld.turn (b:=0) hl (by omega) h;rw [Nat.xor_zero] at h';exact ⟨h'.x2,h'.z2,h'.x3.len,h'.z3.len⟩
theorem Ld.step {x1 : Nat} {k : List UInt8} {j : Nat} {X2 Z2 X3 Z3 : List Nat} {v2 w2 v3 w3 : Nat} (h2 : (if bitS k (254 - j) = 1 then (ladS x1 k j).2 else (ladS x1 k j).1) = ⟨v2,w2⟩) (h3 : (if bitS k (254 - j) = 1 then (ladS x1 k j).1 else (ladS x1 k j).2) = ⟨v3,w3⟩)
    (h : Rs (dbl ⟨v2,w2⟩).x X2 ∧ Rs (dbl ⟨v2,w2⟩).z Z2 ∧ Rs (sm x1 ⟨v2,w2⟩ ⟨v3,w3⟩).x X3 ∧ Rs (sm x1 ⟨v2,w2⟩ ⟨v3,w3⟩).z Z3) : Ld (bitS k (254 - j)) (ladS x1 k (j + 1)) X2 Z2 X3 Z3:=by
  rw [← h2,← h3] at h;obtain ⟨a1,a2,a3,a4⟩:=h;have e : ladS x1 k (j + 1) = if bitS k (254 - j) = 1 then (sm x1 (ladS x1 k j).2 (ladS x1 k j).1,dbl (ladS x1 k j).2) else (dbl (ladS x1 k j).1,sm x1 (ladS x1 k j).1 (ladS x1 k j).2):=rfl;rw [e]
  by_cases hb : bitS k (254 - j) = 1
  · simp only [hb,if_true] at a1 a2 a3 a4 ⊢;exact ⟨by simpa using a1,by simpa using a2,by simpa using a3,by simpa using a4⟩
  · simp only [hb,if_false] at a1 a2 a3 a4 ⊢;exact ⟨by simpa [hb] using a1,by simpa [hb] using a2,by simpa [hb] using a3,by simpa [hb] using a4⟩
structure TiS where
  j : Nat
  X2 : List Nat
  Z2 : List Nat
  X3 : List Nat
  Z3 : List Nat
theorem q6f (A : HP) (k u : List UInt8) (hk : k.length = 32) (hu : u.length = 32) : Pu Tryz.prog 73 [.agg [.many 32 (u8s k)],.agg [.many 32 (u8s u)]] A (.agg [.many 32 (u8s (q0e k u))]):=by
  refine Con.of' tt_ok Tryz.func73 rfl (by decide) [.agg [.many 32 (u8s k)],.agg [.many 32 (u8s u)]] [] [] rfl rfl trivial ⟨⟨mok hk _,trivial⟩,⟨mok hu _,trivial⟩,trivial⟩ rfl ?_;(conv=>whnf);intro b2;(conv=>whnf);intro b3;(conv=>whnf);intro b4;(conv=>whnf);refine Cq.pu (fof_c _ u hu) rfl ?_;(conv=>whnf);intro b5;(conv=>whnf);intro b6;(conv=>whnf);intro b19;(conv=>whnf);have hx1:=of_r hu;obtain ⟨x1,hx⟩ : ∃ x1,x1 = le u % Pm:=⟨_,rfl⟩;obtain ⟨X1,hX1⟩ : ∃ X1,X1 = ofS u:=⟨_,rfl⟩;rw [← hx,← hX1] at hx1
  have r1 : Rs 1 [1,0,0,0]:=⟨rfl,by intro a ha;simp at ha;omega,by unfold Pm;rfl⟩;have r0 : Rs 0 [0,0,0,0]:=⟨rfl,by intro a ha;simp at ha;omega,by unfold Pm;rfl⟩;have hz : (List.replicate 32 (Value.int .u8 0)).length = 32:=List.length_replicate
  refine LoopOb.m (σ:=TiS) (fun s=>[(2,.c (.ptr 2 0)),(4,.c (.ptr 4 0)),(7,.c (.ptr 19 0)),(8,.c (.int .u8 (lst k s.j : Nat))),(9,.c (.int .i64 ((254 : Int) - s.j)))])
    (fun s=>⟨[(19,b19),(6,b6),(5,b5),(4,b4),(3,b3),(2,b2)],[(19,lad X1 s.X2 s.Z2 s.X3 s.Z3,184),(4,[.many 32 (List.replicate 32 (Value.int .u8 0))],23),(2,[.many 32 (u8s k)],23)],[A]⟩)
    (fun s=>s.j ≤ 255 ∧ Ld (lst k s.j) (ladS x1 k s.j) s.X2 s.Z2 s.X3 s.Z3) (fun s=>255 - s.j) ⟨0,[1,0,0,0],[0,0,0,0],X1,[1,0,0,0]⟩ ⟨Nat.zero_le _,r1,r0,hx1,r1⟩
    (Wk.m [19,4,2] [0] kk ⟨⟨kk,nmk hx1.len _,nmk rfl _,nmk rfl _,nmk hx1.len _,nmk rfl _,trivial⟩,⟨kk,⟨hz,fun v hv=>by rw [(List.mem_replicate.1 hv).2];rfl⟩,trivial⟩,⟨kk,mok hk _,trivial⟩,trivial⟩ ⟨by rw [hX1];rfl,rfl⟩) ?_
  rintro ⟨j,X2,Z2,X3,Z3⟩ ⟨hj,L⟩;dsimp only at hj L ⊢;(conv=>whnf);refine Cond.d (fun h=>?_) (fun h=>?_)
  · have hj' : j < 255:=by omega
    obtain ⟨i,hi⟩ : ∃ i : Nat,254 - j = i:=⟨_,rfl⟩;have hi2 : (254 : Int) - j = i:=by omega
    rw [hi2];(conv=>whnf);refine ⟨by decide,?_⟩;(conv=>whnf);refine Ar.to ((i / 8 : Nat) : Int) rfl (Ar.i64 (by omega) ?_);(conv=>whnf);refine ⟨by omega,?_⟩;(conv=>whnf);refine q0v (i / 8) (by show ((i / 8 : Nat) : Int).toNat * 1 = _;omega) (by rw [hk];omega) ?_;(conv=>whnf);refine ⟨by decide,?_⟩;(conv=>whnf);rw [show (i : Int).tmod 8 = ((i % 8 : Nat) : Int) from rfl];refine ⟨by omega,?_⟩;(conv=>whnf);rw [qow _ _ (gd_lt _ _) (by omega)];(conv=>whnf);obtain ⟨b,hb⟩ : ∃ b,gd k (i / 8) / 2 ^ (i % 8) % 2 = b:=⟨_,rfl⟩
    have hbb : bitS k (254 - j) = b:=by rw [← hb,hi];rfl
    have hb1 : b ≤ 1:=by omega
    rw [hb];obtain ⟨ex,hx1'⟩:=xor8 (qiu k j) hb1;refine Draw.a (by kernel_rfl) tt_ok (Tv.of (List.range 10) .nil) 9 (by kernel_rfl) ?_;(conv=>whnf);rw [ex];have L':=L.turn (qiu k j) hb1;obtain ⟨s,hs⟩ : ∃ s,lst k j ^^^ b = s:=⟨_,rfl⟩;rw [hs] at hx1' L' ⊢;have l2:=L.x2.len;have l3:=L.x3.len;have m2:=L.z2.len;have m3:=L.z3.len;have o2:=L.x2.ok;have o3:=L.x3.ok;have q2:=L.z2.ok;have q3:=L.z3.ok;refine Cq.by' [19] [] (qit _ s hx1' b19 184 X1 X2 Z2 X3 Z3 hx1.len l2 m2 l3 m3 o2 o3) rfl ⟨rfl,rfl,rfl,fun _ _=>⟨rfl,?_⟩⟩
    (conv=>whnf);refine Draw.a (by kernel_rfl) tt_ok (Tv.of (List.range 10) .nil) 9 (by kernel_rfl) ?_;(conv=>whnf);rw [ex,hs];refine Cq.by' [19] [] (qk8 _ s hx1' b19 184 X1 (pk s X2 X3) Z2 (pk s X3 X2) Z3 hx1.len L'.x2.len m2 L'.x3.len m3 q2 q3) rfl ⟨rfl,rfl,rfl,fun _ _=>⟨rfl,?_⟩⟩
    (conv=>whnf);rw [← hbb] at L';obtain ⟨⟨v2,w2⟩,h2⟩ : ∃ p,(if bitS k (254 - j) = 1 then (ladS x1 k j).2 else (ladS x1 k j).1) = p:=⟨_,rfl⟩;obtain ⟨⟨v3,w3⟩,h3⟩ : ∃ p,(if bitS k (254 - j) = 1 then (ladS x1 k j).1 else (ladS x1 k j).2) = p:=⟨_,rfl⟩;have a2:=L'.x2;have b2':=L'.z2;have a3:=L'.x3;have b3':=L'.z3;rw [h2] at a2 b2';rw [h3] at a3 b3';refine Cq.by' [19] [] (qpu _ b19 184 rfl hx1 a2 b2' a3 b3') rfl ⟨rfl,rfl,rfl,fun t ht=>⟨rfl,?_⟩⟩
    (conv=>whnf);have L2:=Ld.step h2 h3 ht;obtain ⟨Y2,W2,Y3,W3⟩:=t;dsimp only at L2 ⊢;(conv=>whnf);refine Ar.to ((254 : Int) - (j + 1 : Nat)) (by omega) (Ar.i64 (by omega) ?_);(conv=>whnf);rw [← hbb,show bitS k (254 - j) = lst k (j + 1) from rfl]
    exact ⟨⟨j + 1,Y2,W2,Y3,W3⟩,⟨by dsimp only;omega,L2⟩,by dsimp only;omega,Wk.m [19,4,2] [0] kk ⟨⟨kk,nmk hx1.len _,nmk L2.x2.len _,nmk L2.z2.len _,nmk L2.x3.len _,nmk L2.z3.len _,trivial⟩,⟨kk,⟨hz,fun v hv=>by rw [(List.mem_replicate.1 hv).2];rfl⟩,trivial⟩,⟨kk,mok hk _,trivial⟩,trivial⟩ ⟨rfl,rfl⟩⟩
  obtain rfl : j = 255:=by omega
  have hl1:=qiu k 255;obtain ⟨l,hl⟩ : ∃ l,lst k 255 = l:=⟨_,rfl⟩;obtain ⟨st,hst⟩ : ∃ st,ladS x1 k 255 = st:=⟨_,rfl⟩;rw [hl,hst] at L;rw [hl] at hl1;rw [hl];have l2:=L.x2.len;have l3:=L.x3.len;have m2:=L.z2.len;have m3:=L.z3.len;have o2:=L.x2.ok;have o3:=L.x3.ok;have q2:=L.z2.ok;have q3:=L.z3.ok;obtain ⟨e1,e2,e3,e4⟩:=L.end hl1;(conv=>whnf);refine Draw.a (by kernel_rfl) tt_ok (Tv.of (List.range 8) .nil) 7 (by kernel_rfl) ?_;conv=>whnf
  refine Cq.by' [19] [] (qit _ l hl1 b19 184 X1 X2 Z2 X3 Z3 hx1.len l2 m2 l3 m3 o2 o3) rfl ⟨rfl,rfl,rfl,fun _ _=>⟨rfl,?_⟩⟩
  (conv=>whnf);refine Draw.a (by kernel_rfl) tt_ok (Tv.of (List.range 8) .nil) 7 (by kernel_rfl) ?_;(conv=>whnf);refine Cq.by' [19] [] (qk8 _ l hl1 b19 184 X1 (pk l X2 X3) Z2 (pk l X3 X2) Z3 hx1.len e1.len m2 e3 m3 q2 q3) rfl ⟨rfl,rfl,rfl,fun _ _=>⟨rfl,?_⟩⟩
  (conv=>whnf);refine Draw.a (by kernel_rfl) tt_ok (Tv.of (List.range 12) .nil) 11 (by kernel_rfl) ?_;(conv=>whnf);refine Cq.new (qqd _ e2) rfl fun q hq=>?_;(conv=>whnf);refine Sub.whole ?_;(conv=>whnf);refine Cq.new (q1k _ e1 hq) rfl fun r hr=>?_;(conv=>whnf);refine Sub.whole ?_;(conv=>whnf);refine Cq.pu (qmr _ r hr.len hr.ok) rfl ?_;(conv=>whnf);refine Sub.whole ?_;conv=>whnf
  have ev : leB (num r % Pm) 32 = q0e k u:=by rw [hr.eq,qb3 (by rw [← e2.eq];exact Nat.mod_lt _ q2k)];show _ = leB (fm (ladS (le u % Pm) k 255).1.x (powL (ladS (le u % Pm) k 255).1.z 255)) 32;rw [← hx,hst]
  rw [ev];exact Ret.m () [] [0] trivial rfl ⟨mok (lbl 32 _) _,trivial⟩ trivial ⟨rfl,rfl⟩
end
section
theorem q1s {k : List UInt8} (hk : k.length = 32) : (q18 k).length = 32:=by unfold q18;rw [List.length_set,List.length_set,hk]
theorem q1v (u : List UInt8) : (q06 u).length = 32:=lbl 32 _
theorem q10 (k u : List UInt8) : (q0e k u).length = 32:=lbl 32 _
theorem q1h : zk.length = 32:=List.length_replicate
theorem qkt : nineS.length = 32:=by decide
theorem qac : Fits Tryz.prog (.barr 32) 23 = true:=by simp only [Fits,Tryz.underlying23,Tryz.underlying5];kernel_rfl
theorem key32 : Tryz.prog.keyTypeAt 5 23 = true:=by kernel_rfl
theorem grd32 : Tryz.prog.eqGuardType Tryz.prog.depth 23 = false:=by kernel_rfl
theorem q7o {l m : List UInt8} {xs ys : List Value} {f : Bool → Prop} (hl : l.length = 32) (hm : m.length = 32) (ex : xs = u8s l) (ey : ys = u8s m) (h : f (decide (l = m))) : EqAgg Tryz.prog 23 xs ys f:=by
  subst ex ey;refine qfo (s:=.barr 32) (R:=fun _=>True) (R':=fun _=>True) ⟨.unit,.unit,.inr ⟨32,.inl rfl⟩⟩ rfl qac key32 (by decide) grd32 (q31 hl _) (q31 hm _) fun b hb=>?_
  have : b = decide (l = m):=by
    cases b with
    | true=>rw [decide_eq_true (hb.1 rfl)]
    | false=>rw [decide_eq_false (fun e=>by cases hb.2 e)]
  rw [this];exact h
theorem qbp (A : HP) (k : List UInt8) (hk : k.length = 32) : Pu Tryz.prog 44 [.agg [.many 32 (u8s k)]] A (.agg [.many 32 (u8s (q05 k))]):=by
  refine Con.of' tt_ok Tryz.func44 rfl (by decide) [.agg [.many 32 (u8s k)]] [] [] rfl rfl trivial ⟨⟨mok hk _,trivial⟩,trivial⟩ rfl ?_;(conv=>whnf);intro b1;(conv=>whnf);intro b2;(conv=>whnf);refine Cq.pu (qbo _ k hk) rfl ?_;(conv=>whnf);refine Cq.pu (q6f _ (q18 k) nineS (q1s hk) qkt) rfl ?_;(conv=>whnf);exact Ret.m () [] [0] trivial rfl ⟨mok (q10 _ _) _,trivial⟩ trivial ⟨rfl,rfl⟩
theorem q84 (A : HP) (k u : List UInt8) (hk : k.length = 32) (hu : u.length = 32) : Pu Tryz.prog 74 [.agg [.many 32 (u8s k)],.agg [.many 32 (u8s u)]] A (.tup [.agg [.many 32 (u8s (q00 k u).1)],.c (.int .i64 (q00 k u).2)]):=by
  refine Con.of' tt_ok Tryz.func74 rfl (by decide) [.agg [.many 32 (u8s k)],.agg [.many 32 (u8s u)]] [] [] rfl rfl trivial ⟨⟨mok hk _,trivial⟩,⟨mok hu _,trivial⟩,trivial⟩ rfl ?_;(conv=>whnf);intro b2;(conv=>whnf);intro b3;(conv=>whnf);intro b4;(conv=>whnf);have hz : (List.replicate 32 (Value.int .u8 0)).length = 32:=List.length_replicate
  refine Draw.cut (σ:=Nat) (fun b=>[(2,.c (.ptr 2 0)),(4,.c (.ptr 4 0)),(6,.c (.ptr 6 0))])
    (fun b=>⟨[(6,b),(4,b4),(3,b3),(2,b2)],[(6,[.many 32 (u8s (q0e (q18 k) (q06 u)))],23),(4,[.many 32 (List.replicate 32 (Value.int .u8 0))],23)],[A]⟩) (fun _=>True) ?_ ?_
  · refine Draw.a (by kernel_rfl) tt_ok (Tv.of [0,2] (.two 1 ((.two 3 ((.two 4 (Tv.of [5,6] .nil) 5 (Tv.of [4,6] .nil))) 5 (Tv.of [3,4,6] .nil))) 5 (Tv.of [1,3,4,6] .nil))) 1000000 (by kernel_rfl) ?_;(conv=>whnf);refine ⟨?_,?_⟩
    · (conv=>whnf);refine Cq.pu (qbo _ k hk) rfl ?_;refine Sub.r [4,3,2] [0] ?_;(conv=>whnf);refine ⟨?_,?_⟩
      · (conv=>whnf);refine Cq.pu (qb5 _ u hu) rfl ?_;refine Sub.r [4,3,2] [0] ?_;(conv=>whnf);refine ⟨?_,?_⟩
        · (conv=>whnf);refine Cq.pu (q6f _ (q18 k) (q06 u) (q1s hk) (q1v u)) rfl ?_;refine Sub.r [4,3,2] [0] ?_;(conv=>whnf);intro b6;refine Sub.r [4,3,2] [0] ?_;(conv=>whnf);refine Sub.r [4,3,2] [0] ?_;(conv=>whnf);exact ⟨b6,trivial,Wk.m [6,4] [0] kk ⟨⟨kk,mok (q10 _ _) _,trivial⟩,⟨kk,⟨hz,fun v hv=>by rw [(List.mem_replicate.1 hv).2];rfl⟩,trivial⟩,trivial⟩ ⟨rfl,rfl⟩⟩
        · (conv=>whnf);intro b6;refine Sub.r [4,3,2] [0] ?_;(conv=>whnf);refine Cq.pu (q6f _ (q18 k) (q06 u) (q1s hk) (q1v u)) rfl ?_;refine Sub.r [4,3,2] [0] ?_;(conv=>whnf);refine Sub.r [4,3,2] [0] ?_;(conv=>whnf);exact ⟨b6,trivial,Wk.m [6,4] [0] kk ⟨⟨kk,mok (q10 _ _) _,trivial⟩,⟨kk,⟨hz,fun v hv=>by rw [(List.mem_replicate.1 hv).2];rfl⟩,trivial⟩,trivial⟩ ⟨rfl,rfl⟩⟩
      · (conv=>whnf);intro b6;refine Sub.r [4,3,2] [0] ?_;(conv=>whnf);refine Cq.pu (qb5 _ u hu) rfl ?_;refine Sub.r [4,3,2] [0] ?_;(conv=>whnf);refine Cq.pu (q6f _ (q18 k) (q06 u) (q1s hk) (q1v u)) rfl ?_;refine Sub.r [4,3,2] [0] ?_;(conv=>whnf);refine Sub.r [4,3,2] [0] ?_;(conv=>whnf);exact ⟨b6,trivial,Wk.m [6,4] [0] kk ⟨⟨kk,mok (q10 _ _) _,trivial⟩,⟨kk,⟨hz,fun v hv=>by rw [(List.mem_replicate.1 hv).2];rfl⟩,trivial⟩,trivial⟩ ⟨rfl,rfl⟩⟩
    · (conv=>whnf);intro b6;refine Sub.r [4,3,2] [0] ?_;(conv=>whnf);refine Cq.pu (qbo _ k hk) rfl ?_;refine Sub.r [4,3,2] [0] ?_;(conv=>whnf);refine Cq.pu (qb5 _ u hu) rfl ?_;refine Sub.r [4,3,2] [0] ?_;(conv=>whnf);refine Cq.pu (q6f _ (q18 k) (q06 u) (q1s hk) (q1v u)) rfl ?_;refine Sub.r [4,3,2] [0] ?_;(conv=>whnf);refine Sub.r [4,3,2] [0] ?_;conv=>whnf
      exact ⟨b6,trivial,Wk.m [6,4] [0] kk ⟨⟨kk,mok (q10 _ _) _,trivial⟩,⟨kk,⟨hz,fun v hv=>by rw [(List.mem_replicate.1 hv).2];rfl⟩,trivial⟩,trivial⟩ ⟨rfl,rfl⟩⟩
  intro b6 _;dsimp only;(conv=>whnf);refine q7o (q10 (q18 k) (q06 u)) q1h (by simp [dens,Seg.den]) (by rfl) ?_;(conv=>whnf);refine Cond.d (fun h=>?_) (fun h=>?_)
  · (conv=>whnf);have e : q00 k u = (zk,7):=by unfold q00;rw [if_pos h]
    rw [e];exact Ret.m () [] [0] trivial rfl ⟨⟨mok q1h _,trivial⟩,trivial,trivial⟩ trivial ⟨rfl,rfl⟩
  · (conv=>whnf);have e : q00 k u = (q0e (q18 k) (q06 u),0):=by unfold q00;rw [if_neg h]
    rw [e];exact Ret.m () [] [0] trivial rfl ⟨⟨mok (q10 _ _) _,trivial⟩,trivial,trivial⟩ trivial ⟨rfl,rfl⟩
end
end Go.Proofs.YtfehjfoajlfhfaaGreatDoor
