import Derived.Test.YtfehjfoajlfhfaaGreatDoorQj
import Derived.Test.YtfehjfoajlfhfaaGreatDoorQn
import Derived.Test.YtfehjfoajlfhfaaGreatDoorQo
namespace Go.Proofs.YtfehjfoajlfhfaaGreatDoor
open Go.Sx
set_option maxRecDepth 100000
set_option pp.deepTerms false
set_option pp.maxSteps 300
set_option linter.unusedSimpArgs false
set_option linter.unusedVariables false
section
def lionL (i : Nat) : List UInt8:=[108,105,111,110,32,UInt8.ofNat (48 + i)]
def lionK (key : List UInt8) (i : Nat) : List UInt8:=q01 key (lionL i)
def lionX (k b : List UInt8) : List UInt8:=b.take 32 ++ xorB (b.drop 32) (strS (xorB k (b.take 32)) zn 0 ((b.length - 32 + 63) / 64))
def lionT (k b : List UInt8) : List UInt8:=xorB (b.take 32) (macD k (b.drop 32)) ++ b.drop 32
def lionR (key : List UInt8) (i : Nat) (b : List UInt8) : List UInt8:=if i % 2 = 1 then lionX (lionK key i) b else lionT (lionK key i) b
def lionB (key b : List UInt8) : List Nat → List UInt8
  | []=>b
  | i :: r=>lionB key (lionR key i b) r
def lionS (l : List Nat) (key b : List UInt8) : List UInt8 × Int:=if b.length < 33 then ([],4) else if 4096 < b.length then ([],3) else (lionB key b l,0)
def lockS (key b : List UInt8) : List UInt8 × Int:=lionS [1,2,3,4] key b
def q0m (key b : List UInt8) : List UInt8 × Int:=lionS [4,3,2,1] key b
theorem q8b : ∀ (a y : List UInt8),a.length ≤ y.length → xorB (xorB a y) y = a
  | [],_,_=>rfl
  | _ :: _,[],h=>absurd h (by simp)
  | x :: a,z :: y,h=>by
    have:=q8b a y (by simpa using h);show (x ^^^ z ^^^ z) :: xorB (xorB a y) y = x :: a;rw [this,UInt8.xor_assoc,UInt8.xor_self,UInt8.xor_zero]
theorem qca {k b : List UInt8} (h : 32 ≤ b.length) : (lionX k b).length = b.length:=by
  unfold lionX;rw [List.length_append,List.length_take,q0r (by rw [q25,List.length_drop];omega),List.length_drop];omega
theorem qfn {k b : List UInt8} (h : 32 ≤ b.length) : (lionT k b).length = b.length:=by
  unfold lionT;rw [List.length_append,q0r (by rw [q1t,List.length_take];omega),List.length_take,List.length_drop];omega
theorem q39 {key b : List UInt8} {i : Nat} (h : 32 ≤ b.length) : (lionR key i b).length = b.length:=by
  unfold lionR
  split
  · exact qca h
  · exact qfn h
theorem q3a : ∀ (l : List Nat) {key b : List UInt8},32 ≤ b.length → (lionB key b l).length = b.length
  | [],_,_,_=>rfl
  | i :: r,key,b,h=>by
    have h1:=q39 (key:=key) (i:=i) h;show (lionB key (lionR key i b) r).length = _;rw [q3a r (by omega),h1]
attribute [local irreducible] macD q01 strS
theorem qdl {k b : List UInt8} (h : 32 ≤ b.length) : lionX k (lionX k b) = b:=by
  have hl:=qca (k:=k) h;have h32 : (b.take 32).length = 32:=by rw [List.length_take];omega
  have ht : (lionX k b).take 32 = b.take 32:=by
    unfold lionX;rw [List.take_append_of_le_length (by omega),List.take_of_length_le (by omega)]
  have hd : (lionX k b).drop 32 = xorB (b.drop 32) (strS (xorB k (b.take 32)) zn 0 ((b.length - 32 + 63) / 64)):=by
    unfold lionX;rw [List.drop_left' h32]
  have e : lionX k (lionX k b) = (lionX k b).take 32 ++ xorB ((lionX k b).drop 32) (strS (xorB k ((lionX k b).take 32)) zn 0 (((lionX k b).length - 32 + 63) / 64)):=rfl;rw [e,ht,hd,hl,q8b _ _ (by rw [q25,List.length_drop];omega),List.take_append_drop]
theorem qcx {k b : List UInt8} (h : 32 ≤ b.length) : lionT k (lionT k b) = b:=by
  have h32 : (xorB (b.take 32) (macD k (b.drop 32))).length = 32:=by rw [q0r (by rw [q1t,List.length_take];omega),List.length_take];omega
  have ht : (lionT k b).take 32 = xorB (b.take 32) (macD k (b.drop 32)):=by
    unfold lionT;rw [List.take_append_of_le_length (by omega),List.take_of_length_le (by omega)]
  have hd : (lionT k b).drop 32 = b.drop 32:=by
    unfold lionT;rw [List.drop_left' h32]
  have e : lionT k (lionT k b) = xorB ((lionT k b).take 32) (macD k ((lionT k b).drop 32)) ++ (lionT k b).drop 32:=rfl;rw [e,ht,hd,q8b _ _ (by rw [q1t,List.length_take];omega),List.take_append_drop]
theorem q1x {key b : List UInt8} {i : Nat} (h : 32 ≤ b.length) : lionR key i (lionR key i b) = b:=by
  unfold lionR
  split
  · exact qdl h
  · exact qcx h
theorem qgc {key b : List UInt8} (h1 : 33 ≤ b.length) (h2 : b.length ≤ 4096) : q0m key (lockS key b).1 = (b,0):=by
  have e1 : lockS key b = (lionB key b [1,2,3,4],0):=by
    show (if b.length < 33 then _ else if 4096 < b.length then _ else _) = _;rw [if_neg (by omega),if_neg (by omega)]
  have hl:=q3a [1,2,3,4] (key:=key) (b:=b) (by omega);rw [e1]
  have e2 : q0m key (lionB key b [1,2,3,4]) = (lionB key (lionB key b [1,2,3,4]) [4,3,2,1],0):=by
    show (if (lionB key b [1,2,3,4]).length < 33 then _ else if 4096 < (lionB key b [1,2,3,4]).length then _ else _) = _;rw [if_neg (by omega),if_neg (by omega)]
  show q0m key (lionB key b [1,2,3,4]) = _;rw [e2];have q1:=q39 (key:=key) (i:=1) (b:=b) (by omega);have q2:=q39 (key:=key) (i:=2) (b:=lionR key 1 b) (by omega);have q3:=q39 (key:=key) (i:=3) (b:=lionR key 2 (lionR key 1 b)) (by omega);show (lionR key 1 (lionR key 2 (lionR key 3 (lionR key 4 (lionR key 4 (lionR key 3 (lionR key 2 (lionR key 1 b))))))),(0 : Int)) = _;rw [q1x (by omega),q1x (by omega),q1x (by omega),q1x (by omega)]
theorem q8x {key b : List UInt8} (h1 : 33 ≤ b.length) (h2 : b.length ≤ 4096) : (lockS key b).1.length = b.length ∧ (lockS key b).2 = 0:=by
  have e1 : lockS key b = (lionB key b [1,2,3,4],0):=by
    show (if b.length < 33 then _ else if 4096 < b.length then _ else _) = _;rw [if_neg (by omega),if_neg (by omega)]
  rw [e1];exact ⟨q3a _ (by omega),rfl⟩
theorem q57 {key b : List UInt8} (h1 : 33 ≤ b.length) (h2 : b.length ≤ 4096) : (q0m key b).1.length = b.length ∧ (q0m key b).2 = 0:=by
  have e1 : q0m key b = (lionB key b [4,3,2,1],0):=by
    show (if b.length < 33 then _ else if 4096 < b.length then _ else _) = _;rw [if_neg (by omega),if_neg (by omega)]
  rw [e1];exact ⟨q3a _ (by omega),rfl⟩
end
section
def z16 : List UInt8:=List.replicate 16 0
theorem q4c : z16.length = 16:=List.length_replicate
def q0e (s : List UInt8) : List UInt8:=q01 s [112,105]
theorem q3r (s : List UInt8) : (q0e s).length = 32:=q1i _ _
def sealS (key room : List UInt8) : List UInt8 × Int:=if room.length = 512 then lockS key (z16 ++ room) else ([],5)
def roomS (b : List UInt8) : List UInt8 × Int:=if b.take 16 = z16 then (b.drop 16,0) else ([],5)
def openS (key body : List UInt8) : List UInt8 × Int:=if body.length = 528 then roomS (q0m key body).1 else ([],5)
structure PeelS where
  cmd : Cmd
  next : List UInt8
  tag : List UInt8
  room : List UInt8
def peel0 : PeelS:=⟨cmd0,[],z16,[]⟩
def peel2 (st : StepS) (b : List UInt8) : PeelS × Int :=
  if st.cmd.k = 1 then (⟨st.cmd,encH st.next ++ b,st.tag,[]⟩,0)
  else if st.cmd.k = 2 then (if (roomS b).2 = 0 then (⟨st.cmd,[],st.tag,(roomS b).1⟩,0) else (peel0,(roomS b).2))
  else if st.cmd.k = 3 then (⟨st.cmd,[],st.tag,b⟩,0)
  else (⟨st.cmd,[],st.tag,[]⟩,0)
def peel1 (own p : List UInt8) : PeelS × Int :=
  if (q0f own (hdrOf (p.take 208))).2 = 0 then peel2 (q0f own (hdrOf (p.take 208))).1 (q0m (q0e (q0f own (hdrOf (p.take 208))).1.secret) (p.drop 208)).1
  else (peel0,(q0f own (hdrOf (p.take 208))).2)
def peelS (own p : List UInt8) : PeelS × Int:=if p.length = 736 then peel1 own p else (peel0,5)
attribute [local irreducible] macD q01 strS q05 q00 q03 q0h q07 q06 q08 openB q0p decC q0j q13 q0g q0f tagH leB q0w q0x q0v q0a
theorem q61 (key : List UInt8) : ∀ (l : List Nat) (b : List UInt8) (i : Nat),lionB key b (l ++ [i]) = lionR key i (lionB key b l)
  | [],_,_=>by unfold lionB;rfl
  | x :: r,b,i=>by
    have:=q61 key r (lionR key x b) i;unfold lionB;exact this
theorem q43 {key room : List UInt8} (h : room.length = 512) : (sealS key room).1.length = 528 ∧ (sealS key room).2 = 0:=by
  have hl : (z16 ++ room).length = 528:=by rw [List.length_append,q4c,h]
  have:=q8x (key:=key) (b:=z16 ++ room) (by omega) (by omega);unfold sealS;rw [if_pos h,hl] at *;exact ⟨this.1.trans hl,this.2⟩
theorem qbg {key room : List UInt8} (h : room.length = 512) : openS key (sealS key room).1 = (room,0):=by
  have hl : (z16 ++ room).length = 528:=by rw [List.length_append,q4c,h]
  have h1:=q43 (key:=key) h;have h2 : (sealS key room).1 = (lockS key (z16 ++ room)).1:=by unfold sealS;rw [if_pos h]
  unfold openS;rw [if_pos h1.1,h2,qgc (by omega) (by omega)];unfold roomS;have e1 : (z16 ++ room).take 16 = z16:=by rw [List.take_left' q4c]
  have e2 : (z16 ++ room).drop 16 = room:=by rw [List.drop_left' q4c]
  show (if (z16 ++ room).take 16 = z16 then ((z16 ++ room).drop 16,(0 : Int)) else _) = _;rw [if_pos e1,e2]
end
section
attribute [local irreducible] macD q01 strS q05 q00 q03 q0h q07 q06 q08 openB q0p decC q0j q13 lionB tagH
end
section
attribute [local irreducible] macD q01 strS
theorem q6l : ∀ (y s : List UInt8) (n : Nat),y.length ≤ n → xorB y (s.take n) = xorB y s
  | [],_,_,_=>rfl
  | _ :: _,[],n,_=>by rw [List.take_nil]
  | _ :: _,_ :: _,0,h=>absurd h (by simp)
  | a :: y,b :: s,n + 1,h=>by
    have:=q6l y s n (by simpa using h);show (a ^^^ b) :: xorB y (s.take n) = (a ^^^ b) :: xorB y s;rw [this]
theorem qnf (A R : HP) (hE : Ent A R) (key n : List UInt8) (count : UInt32) (hk : key.length = 32) (hn : n.length = 12) (a : Option Addr) (cap : Nat) (b : List UInt8) (hb : Rd R a (u8s b)) (hl : b.length ≤ 65536) (hc : count.toNat + (b.length + 63) / 64 ≤ 4294967296) :
    Con Tryz.prog 167 [.agg [.many 32 (u8s key)],.agg [.many 12 (u8s n)],.c (.int .u32 (count.toNat : Int)),.c (.rs a b.length cap)] [] [] A (fun t : Option Addr × Nat=>Fc t.1 t.2 (xorB b (strS key n count ((b.length + 63) / 64))))
      (fun t=>.tup [.c (.rs t.1 (xorB b (strS key n count ((b.length + 63) / 64))).length t.2),.c (.int .i64 0)]) (fun _=>[]) (fun t=>[Own t.1 t.2 5 1 (u8s (xorB b (strS key n count ((b.length + 63) / 64))))]):=by
  have hb:=hb.ent hE;have hsl:=q25 key n count ((b.length + 63) / 64);have hxt:=q6l b (strS key n count ((b.length + 63) / 64)) b.length (Nat.le_refl _);have CS:=fun A=>qg4 A key n count b.length hk hn hl hc;have hYl : ((strS key n count ((b.length + 63) / 64)).take b.length).length = b.length:=by rw [List.length_take];omega
  rw [← hxt];generalize (strS key n count ((b.length + 63) / 64)).take b.length = Y at CS hYl ⊢;refine Con.of' tt_ok Tryz.func167 rfl (by decide) [.agg [.many 32 (u8s key)],.agg [.many 12 (u8s n)],.c (.int .u32 (count.toNat : Int)),.c (.rs a b.length cap)] [] [] rfl rfl trivial ⟨⟨mok hk _,trivial⟩,⟨mok hn _,trivial⟩,trivial,trivial,trivial⟩ rfl ?_;(conv=>whnf);intro b4;(conv=>whnf);intro b5;(conv=>whnf);refine Cq.new (CS _) rfl ?_;rintro ⟨a10,c10⟩ h10;dsimp only at h10 ⊢;(conv=>whnf);refine Cond.neI (fun h=>absurd rfl h) (fun _=>?_)
  (conv=>whnf);refine Cq.fb (qdt _ (Own a10 c10 5 1 (u8s Y)) A (Ent.a mm) (Ent.a mm) a10 c10 Y Own.rd a cap b hb (by omega) (by omega)) (by rw [hYl];rfl) fun a12 c12 h12=>?_;(conv=>whnf);exact Ret.m (a12,c12) [] [0,1] h12 rfl kk kk ⟨rfl,rfl⟩
theorem qf5 (A R : HP) (hE : Ent A R) (k : List UInt8) (hk : k.length = 32) (a : Option Addr) (cap : Nat) (b : List UInt8) (hb : Bts R a cap b) (h1 : 33 ≤ b.length) (h2 : b.length ≤ 4096) :
    FB Tryz.prog 129 [.agg [.many 32 (u8s k)],.c (.rs a b.length cap)] A 5 (lionX k b):=by
  have hr:=hb.1.ent hE;have hcp:=hb.2.1;have hks:=mok hk;have h32 : (b.take 32).length = 32:=by rw [List.length_take];omega
  have hz : xorI k (b.take 32) 0 = k:=by simp [xorI]
  have hxl:=q4u (l:=k) (y:=b.take 32) (by omega);refine Con.of' tt_ok Tryz.func129 rfl (by decide) [.agg [.many 32 (u8s k)],.c (.rs a b.length cap)] [] [] rfl rfl trivial ⟨⟨hks _,trivial⟩,trivial,trivial⟩ rfl ?_;(conv=>whnf);intro b2;conv=>whnf
  refine LoopOb.m (σ:=Nat) (fun i=>[(1,.c (.rs a b.length cap)),(2,.c (.ptr 2 0)),(5,.c (.int .i64 i))])
    (fun i=>⟨[(2,b2)],[(2,[.many 32 (u8s (xorI k (b.take 32) i))],23)],[A]⟩) (fun i=>i ≤ 32) (fun i=>32 - i) 0 (Nat.zero_le _)
    (Wk.m [2] [0] kk ⟨⟨kk,mok (by rw [hxl,hk]) _,trivial⟩,trivial⟩ ⟨by rw [hz],rfl⟩) ?_
  intro i hi;(conv=>whnf);refine Cond.d (fun h=>?_) (fun h=>?_)
  · have hi' : i < 32:=by omega
    (conv=>whnf);refine Draw.a (by kernel_rfl) tt_ok (Tv.of (List.range 11) .nil) 10 (by kernel_rfl) ?_;(conv=>whnf);refine ⟨by omega,?_⟩;(conv=>whnf);refine q1j i (by show (i : Int).toNat * 1 = i;omega) (by rw [hxl];omega) ?_;rw [q5r (by omega) (by omega)];(conv=>whnf);refine ⟨by omega,PtrOb.rd (A:=A) (by simp) hr (by rw [u8l];omega) fun p hp=>?_⟩;subst hp;(conv=>whnf);refine ldb (A:=A) (l:=b) i (by simp) hr (by omega) rfl rfl (by show _ + (i : Int).toNat * 1 = _;omega) ?_
    rw [q2r (l:=k) (by omega),q2r (l:=b) (i:=i) (by omega)];(conv=>whnf);rw [xorb];refine ⟨by omega,?_⟩;(conv=>whnf);refine ⟨⟨rfl,by show (i : Int).toNat * 1 + 1 ≤ 32;omega⟩,?_⟩;(conv=>whnf);refine Ar.i64 (by omega) ?_;(conv=>whnf);have s1:=q5f (l:=k) (y:=b.take 32) (by omega) (i:=i) (by omega);rw [List.getElem_take] at s1;have em : (i : Int).toNat * 1 = i:=by omega
    have s2 : (u8s (xorI k (b.take 32) i)).take ((i : Int).toNat * 1) ++ ([u8 (k[i]'(by omega) ^^^ b[i]'(by omega))] ++ (u8s (xorI k (b.take 32) i)).drop ((i : Int).toNat * 1 + 1)) = u8s (xorI k (b.take 32) (i + 1)):=by
      rw [em,← s1,List.set_eq_take_append_cons_drop,if_pos (by rw [hxl];omega)]
      simp [u8s]
    refine ⟨i + 1,by omega,by omega,Wk.m [2] [0] kk ⟨⟨kk,mok (by rw [hxl,hk]) _,trivial⟩,trivial⟩ ⟨?_,rfl⟩⟩;rw [← s2];rfl
  obtain rfl : i = 32:=by omega
  have e32 : xorI k (b.take 32) 32 = xorB k (b.take 32):=by
    unfold xorI;rw [List.drop_of_length_le (by omega),List.append_nil,List.take_of_length_le (by rw [q0r (by omega)];omega)]
  rw [e32];have hkl : (xorB k (b.take 32)).length = 32:=by rw [q0r (by omega),hk]
  have hdl : (b.drop 32).length = b.length - 32:=List.length_drop
  have hrd : Rd A (cutA a cap 32 1) (u8s (b.drop 32)):=by
    have:=q7w hr cap 32 (b.length - 32) (by omega)
    rwa [List.take_of_length_le (by omega)] at this
  have hrt : Rd A (cutA a cap 0 1) (u8s (b.take 32)):=by
    have:=q7w hr cap 0 32 (by omega)
    rwa [List.drop_zero] at this
  have hX : lionX k b = b.take 32 ++ xorB (b.drop 32) (strS (xorB k (b.take 32)) zn 0 (((b.drop 32).length + 63) / 64)):=by rw [hdl];rfl
  rw [hX];generalize xorB k (b.take 32) = K at hkl ⊢;(conv=>whnf);intro b6;(conv=>whnf);refine Draw.a (by kernel_rfl) tt_ok (Tv.of (List.range 10) .nil) 1000000 (by kernel_rfl) ?_;(conv=>whnf);refine ⟨⟨by omega,by omega⟩,?_⟩;(conv=>whnf);refine Cq.new (qnf _ A (Ent.a mm) K zn 0 hkl (by decide) (cutA a cap 32 1) (cap - 32) (b.drop 32) hrd (by omega) (by rw [hdl];show 0 + _ ≤ _;omega)) (by rw [hdl];rfl) ?_;have hYl : (xorB (b.drop 32) (strS K zn 0 (((b.drop 32).length + 63) / 64))).length = b.length - 32:=by rw [q0r (by rw [q25];omega),hdl]
  generalize xorB (b.drop 32) (strS K zn 0 (((b.drop 32).length + 63) / 64)) = Y at hYl ⊢;rintro ⟨a8,c8⟩ h8;dsimp only at h8 ⊢;(conv=>whnf);refine Sub.r [6,2] [1] ?_;(conv=>whnf);refine ⟨⟨by omega,by omega⟩,?_⟩;(conv=>whnf);refine Cq.fb (q4a _ A (Own a8 c8 5 1 (u8s Y)) (Ent.a mm) (Ent.a mm) (cutA a cap 0 1) (cap - 0) (b.take 32) hrt (by omega) a8 c8 Y Own.rd (by omega)) (by rw [h32];rfl) fun a9 c9 h9=>?_;(conv=>whnf);exact Ret.m (a9,c9) [] [0,1] h9 rfl kk kk ⟨rfl,rfl⟩
theorem qli (A R : HP) (hE : Ent A R) (k : List UInt8) (hk : k.length = 32) (a : Option Addr) (cap : Nat) (b : List UInt8) (hb : Bts R a cap b) (h1 : 33 ≤ b.length) (h2 : b.length ≤ 4096) :
    FB Tryz.prog 130 [.agg [.many 32 (u8s k)],.c (.rs a b.length cap)] A 5 (lionT k b):=by
  have hr:=hb.1.ent hE;have hcp:=hb.2.1;have hks:=mok hk;have h32 : (b.take 32).length = 32:=by rw [List.length_take];omega
  have hdl : (b.drop 32).length = b.length - 32:=List.length_drop
  have hrd : Rd A (cutA a cap 32 1) (u8s (b.drop 32)):=by
    have:=q7w hr cap 32 (b.length - 32) (by omega)
    rwa [List.take_of_length_le (by omega)] at this
  have hrt : Rd A (cutA a cap 0 1) (u8s (b.take 32)):=by
    have:=q7w hr cap 0 32 (by omega)
    rwa [List.drop_zero] at this
  have hml:=q1t k (b.drop 32);have hX : lionT k b = xorB (b.take 32) (macD k (b.drop 32)) ++ b.drop 32:=rfl;rw [hX];refine Con.of' tt_ok Tryz.func130 rfl (by decide) [.agg [.many 32 (u8s k)],.c (.rs a b.length cap)] [] [] rfl rfl trivial ⟨⟨hks _,trivial⟩,trivial,trivial⟩ rfl ?_;(conv=>whnf);intro b2;(conv=>whnf);have hbd : Bts A (cutA a cap 32 1) (cap - 32) (b.drop 32):=(hb.ent hE).drop 32 (by omega)
  refine Draw.cut (σ:=Nat) (fun b5=>[(1,.c (.rs a b.length cap)),(5,.c (.ptr 5 0))]) (fun b5=>⟨[(5,b5)],[(5,[.many 32 (u8s (macD k (b.drop 32)))],23)],[A]⟩) (fun _=>True) ?_ ?_
  · refine Draw.a (by kernel_rfl) tt_ok (Tv.of [0,2,3] (.two 1 ((.two 4 (Tv.of [5,6] .nil) 5 (Tv.of [4,6] .nil))) 5 (Tv.of [1,4,6] .nil))) 1000000 (by kernel_rfl) ?_;(conv=>whnf);refine ⟨⟨by omega,by omega⟩,?_⟩;(conv=>whnf);refine ⟨?_,?_⟩
    · (conv=>whnf);refine Cq.fb (q1y _ k hk) rfl fun a6 c6 h6=>?_;refine Sub.r [2] [1] ?_;(conv=>whnf);refine ⟨?_,?_⟩
      · (conv=>whnf);refine Cq.pu (qdx _ A (Own a6 c6 5 1 (u8s k)) (Ent.a mm) (Ent.a mm) a6 c6 k ⟨Own.rd,h6⟩ (by omega) (cutA a cap 32 1) (cap - 32) (b.drop 32) hbd (by omega)) (by rw [hdl];rfl) ?_;refine Sub.r [2] [1] ?_;(conv=>whnf);intro b5;refine Sub.r [2] [1] ?_;(conv=>whnf);refine Sub.r [2] [1] ?_;(conv=>whnf);exact ⟨b5,trivial,Wk.m [5] [1] kk ⟨⟨kk,mok hml _,trivial⟩,trivial⟩ ⟨rfl,rfl⟩⟩
      · (conv=>whnf);intro b5;refine Sub.r [2] [1] ?_;(conv=>whnf);refine Cq.pu (qdx _ A (Own a6 c6 5 1 (u8s k)) (Ent.a mm) (Ent.a mm) a6 c6 k ⟨Own.rd,h6⟩ (by omega) (cutA a cap 32 1) (cap - 32) (b.drop 32) hbd (by omega)) (by rw [hdl];rfl) ?_;refine Sub.r [2] [1] ?_;(conv=>whnf);refine Sub.r [2] [1] ?_;(conv=>whnf);exact ⟨b5,trivial,Wk.m [5] [1] kk ⟨⟨kk,mok hml _,trivial⟩,trivial⟩ ⟨rfl,rfl⟩⟩
    · (conv=>whnf);intro b5;refine Sub.r [2] [0] ?_;(conv=>whnf);refine Cq.fb (q1y _ k hk) rfl fun a6 c6 h6=>?_;refine Sub.r [2] [1] ?_;(conv=>whnf);refine Cq.pu (qdx _ A (Own a6 c6 5 1 (u8s k)) (Ent.a mm) (Ent.a mm) a6 c6 k ⟨Own.rd,h6⟩ (by omega) (cutA a cap 32 1) (cap - 32) (b.drop 32) hbd (by omega)) (by rw [hdl];rfl) ?_;refine Sub.r [2] [1] ?_;(conv=>whnf);refine Sub.r [2] [1] ?_;(conv=>whnf);exact ⟨b5,trivial,Wk.m [5] [1] kk ⟨⟨kk,mok hml _,trivial⟩,trivial⟩ ⟨rfl,rfl⟩⟩
  intro b5 _;generalize macD k (b.drop 32) = T at hml ⊢;(conv=>whnf);refine Draw.a (by kernel_rfl) tt_ok (Tv.of [0,2,3,1,4,5] .nil) 1000000 (by kernel_rfl) ?_;(conv=>whnf);refine ⟨⟨by omega,by omega⟩,?_⟩;(conv=>whnf);refine Cq.fb (q1y _ T hml) rfl fun a13 c13 h13=>?_;(conv=>whnf);refine Sub.r [5] [1] ?_;(conv=>whnf);refine Cq.fb (qdt _ (Own a13 c13 5 1 (u8s T)) A (Ent.a mm) (Ent.a mm) a13 c13 T Own.rd (cutA a cap 0 1) (cap - 0) (b.take 32) hrt (by omega) (by omega)) (by rw [h32];rfl) fun a6 c6 h6=>?_
  have hxl:=q0r (l:=b.take 32) (y:=T) (by omega);generalize xorB (b.take 32) T = L at hxl h6 ⊢;(conv=>whnf);refine Sub.r [5] [2] ?_;(conv=>whnf);refine ⟨⟨by omega,by omega⟩,?_⟩;(conv=>whnf);refine Cq.fb (q4a _ (Own a6 c6 5 1 (u8s L)) A (Ent.a mm) (Ent.a mm) a6 c6 L Own.rd (by omega) (cutA a cap 32 1) (cap - 32) (b.drop 32) hrd (by omega)) (by rw [hdl];rfl) fun a9 c9 h9=>?_;(conv=>whnf);exact Ret.m (a9,c9) [] [0,2] h9 rfl kk kk ⟨rfl,rfl⟩
theorem qle (A : HP) (key : List UInt8) (hk : key.length = 32) (i : Nat) (hi : 1 ≤ i) (hi4 : i ≤ 4) : Pu Tryz.prog 128 [.agg [.many 32 (u8s key)],.c (.int .i64 i)] A (.agg [.many 32 (u8s (lionK key i))]):=by
  have hks:=mok hk;have hl:=q1i key (lionL i);refine Con.of' tt_ok Tryz.func128 rfl (by decide) [.agg [.many 32 (u8s key)],.c (.int .i64 i)] [] [] rfl rfl trivial ⟨⟨hks _,trivial⟩,trivial,trivial⟩ rfl ?_;(conv=>whnf);intro b2;(conv=>whnf);intro b4;(conv=>whnf);refine Cond.eqI (fun h=>?_) (fun h=>?_)
  · obtain rfl : i = 1:=by omega
    (conv=>whnf);refine Cq.pu (q5c _ key hk (lionL 1) (by decide)) rfl ?_;(conv=>whnf);exact Ret.m () [] [0] trivial rfl ⟨mok hl _,trivial⟩ kk ⟨rfl,rfl⟩
  (conv=>whnf);refine Cond.eqI (fun h=>?_) (fun h=>?_)
  · obtain rfl : i = 2:=by omega
    (conv=>whnf);refine Cq.pu (q5c _ key hk (lionL 2) (by decide)) rfl ?_;(conv=>whnf);exact Ret.m () [] [0] trivial rfl ⟨mok hl _,trivial⟩ kk ⟨rfl,rfl⟩
  (conv=>whnf);refine Cond.eqI (fun h=>?_) (fun h=>?_)
  · obtain rfl : i = 3:=by omega
    (conv=>whnf);refine Cq.pu (q5c _ key hk (lionL 3) (by decide)) rfl ?_;(conv=>whnf);exact Ret.m () [] [0] trivial rfl ⟨mok hl _,trivial⟩ kk ⟨rfl,rfl⟩
  obtain rfl : i = 4:=by omega
  (conv=>whnf);refine Cq.pu (q5c _ key hk (lionL 4) (by decide)) rfl ?_;(conv=>whnf);exact Ret.m () [] [0] trivial rfl ⟨mok hl _,trivial⟩ kk ⟨rfl,rfl⟩
theorem qhi (A R : HP) (hE : Ent A R) (key : List UInt8) (hk : key.length = 32) (i : Nat) (hi : 1 ≤ i) (hi4 : i ≤ 4) (a : Option Addr) (cap : Nat) (b : List UInt8) (hb : Bts R a cap b) (h1 : 33 ≤ b.length) (h2 : b.length ≤ 4096) :
    FB Tryz.prog 90 [.agg [.many 32 (u8s key)],.c (.int .i64 i),.c (.rs a b.length cap)] A 5 (lionR key i b):=by
  have hks:=mok hk;have hl : (lionK key i).length = 32:=q1i _ _;have hX : lionR key i b = if i % 2 = 1 then lionX (lionK key i) b else lionT (lionK key i) b:=rfl;rw [hX];have CK:=fun A=>qle A key hk i hi hi4;generalize lionK key i = K at hl CK ⊢;refine Con.of' tt_ok Tryz.func90 rfl (by decide) [.agg [.many 32 (u8s key)],.c (.int .i64 i),.c (.rs a b.length cap)] [] [] rfl rfl trivial ⟨⟨hks _,trivial⟩,trivial,trivial,trivial⟩ rfl ?_;(conv=>whnf);intro b3;(conv=>whnf);refine Cq.pu (CK _) rfl ?_;(conv=>whnf);intro b7;conv=>whnf
  refine ⟨by decide,?_⟩;rw [show ((i : Nat) : Int).tmod 2 = ((i % 2 : Nat) : Int) from rfl];(conv=>whnf);refine Cond.eqI (fun h=>?_) (fun h=>?_)
  · rw [if_pos (by omega)];(conv=>whnf);refine Cq.fb (qf5 _ R ((Ent.a mm).trans hE) K hl a cap b hb h1 h2) rfl fun a9 c9 h9=>?_;(conv=>whnf);exact Ret.m (a9,c9) [] [0,0] h9 rfl kk kk ⟨rfl,rfl⟩
  · rw [if_neg (by omega)];(conv=>whnf);refine Cq.fb (qli _ R ((Ent.a mm).trans hE) K hl a cap b hb h1 h2) rfl fun a9 c9 h9=>?_;(conv=>whnf);exact Ret.m (a9,c9) [] [0,0] h9 rfl kk kk ⟨rfl,rfl⟩
def lionE (n : Nat) : Int:=if n < 33 then 4 else if 4096 < n then 3 else 0
theorem qlb (A : HP) (a : Option Addr) (cap : Nat) (b : List UInt8) (hn : b.length ≤ 1000000000) : Pu Tryz.prog 89 [.c (.rs a b.length cap)] A (.c (.int .i64 (lionE b.length))):=by
  refine Con.of' tt_ok Tryz.func89 rfl (by decide) [.c (.rs a b.length cap)] [] [] rfl rfl trivial kk rfl ?_;(conv=>whnf);refine Cond.d (fun h=>?_) (fun h=>?_)
  · have e : lionE b.length = 4:=if_pos (by omega);rw [e];(conv=>whnf);exact Ret.m () [] [0] trivial rfl kk kk ⟨rfl,rfl⟩
  (conv=>whnf);refine Cond.d (fun h3=>?_) (fun h3=>?_)
  · have e : lionE b.length = 3:=(if_neg (by omega)).trans (if_pos (by omega));rw [e];(conv=>whnf);exact Ret.m () [] [0] trivial rfl kk kk ⟨rfl,rfl⟩
  have e : lionE b.length = 0:=(if_neg (by omega)).trans (if_neg (by omega));rw [e];(conv=>whnf);exact Ret.m () [] [0] trivial rfl kk kk ⟨rfl,rfl⟩
theorem q8q (l : List Nat) (key b : List UInt8) : (lionE b.length ≠ 0 ∧ lionS l key b = ([],lionE b.length)) ∨ (lionE b.length = 0 ∧ 33 ≤ b.length ∧ b.length ≤ 4096 ∧ lionS l key b = (lionB key b l,0)):=by
  unfold lionS lionE
  by_cases h1 : b.length < 33
  · rw [if_pos h1,if_pos h1];exact .inl ⟨by decide,rfl⟩
  · rw [if_neg h1,if_neg h1]
    by_cases h2 : 4096 < b.length
    · rw [if_pos h2,if_pos h2];exact .inl ⟨by decide,rfl⟩
    · rw [if_neg h2,if_neg h2];exact .inr ⟨rfl,by omega,by omega,rfl⟩
structure LkS where
  j : Nat
  a : Option Addr
  c : Nat
  R : HP
structure LkI (A : HP) (key b : List UInt8) (l : List Nat) (s : LkS) : Prop where
  j : s.j ≤ 4
  q : ∀ X,Ent X s.R → Ent X A → Bts X s.a s.c (lionB key b (l.take s.j))
  o : s.j ≠ 0 → s.R = Own s.a s.c 5 1 (u8s (lionB key b (l.take s.j))) ∧ Fc s.a s.c (lionB key b (l.take s.j))
theorem qm4 (A R : HP) (hE : Ent A R) (key : List UInt8) (hk : key.length = 32) (a : Option Addr) (cap : Nat) (b : List UInt8) (hb : Bts R a cap b) (hn : b.length ≤ 1000000000) :
    Con Tryz.prog 58 [.agg [.many 32 (u8s key)],.c (.rs a b.length cap)] [] [] A (fun t : Option Addr × Nat=>Fc t.1 t.2 (lockS key b).1) (fun t=>.tup [.c (.rs t.1 (lockS key b).1.length t.2),.c (.int .i64 (lockS key b).2)]) (fun _=>[]) (fun t=>[Own t.1 t.2 5 1 (u8s (lockS key b).1)]):=by
  have hb:=hb.ent hE;have hks:=mok hk;have hS:=q8q [1,2,3,4] key b;unfold lockS;refine Con.of' tt_ok Tryz.func58 rfl (by decide) [.agg [.many 32 (u8s key)],.c (.rs a b.length cap)] [] [] rfl rfl trivial ⟨⟨hks _,trivial⟩,trivial,trivial⟩ rfl ?_;(conv=>whnf);intro b2;(conv=>whnf);refine Cq.pu (qlb _ a cap b hn) rfl ?_;(conv=>whnf);refine Cond.neI (fun h=>?_) (fun h=>?_)
  · rcases hS with ⟨_,hS⟩ | ⟨h0,_⟩
    case inr=>exact absurd h0 h
    rw [hS];(conv=>whnf);refine Ret.own0 5 1 ?_;exact Ret.m (none,0) [] [0,0] Fc.nil rfl kk kk ⟨rfl,rfl⟩
  rcases hS with ⟨h0,_⟩ | ⟨h0,h1,h2,hS⟩
  · exact absurd h h0
  rw [hS];conv=>whnf
  refine LoopOb.m (σ:=LkS) (fun s=>[(1,.c (.rs s.a b.length s.c)),(2,.c (.ptr 2 0)),(7,.c (.int .i64 ((s.j + 1 : Nat) : Int)))])
    (fun s=>⟨[(2,b2)],[(2,[.many 32 (u8s key)],23)],[s.R,A]⟩) (LkI A key b [1,2,3,4]) (fun s=>4 - s.j) ⟨0,a,cap,Own none 0 5 1 []⟩ ⟨Nat.zero_le _,fun X _ h=>hb.ent h,fun h=>absurd rfl h⟩ ?_ ?_
  · refine Wk.own0 5 1 ?_;exact Wk.m [2] [0,0] kk ⟨⟨kk,hks _,trivial⟩,trivial⟩ ⟨rfl,rfl⟩
  rintro ⟨j,a1,c1,R1⟩ I;have hj:=I.j;have hq:=I.q;have ho:=I.o;dsimp only at hj hq ho ⊢;have hbl:=q3a ([1,2,3,4].take j) (key:=key) (b:=b) (by omega);(conv=>whnf);refine Cond.d (fun h=>?_) (fun h=>?_)
  · have hj' : j < 4:=by omega
    have hs : lionB key b ([1,2,3,4].take (j + 1)) = lionR key (j + 1) (lionB key b ([1,2,3,4].take j)):=by
      have e : [1,2,3,4].take (j + 1) = [1,2,3,4].take j ++ [j + 1]:=by
        match j,hj' with
        | 0,_=>rfl
        | 1,_=>rfl
        | 2,_=>rfl
        | 3,_=>rfl
      rw [e,q61]
    obtain ⟨B1,hB1⟩ : ∃ B1,lionB key b ([1,2,3,4].take (j + 1)) = B1:=⟨_,rfl⟩;have hbl1:=q3a ([1,2,3,4].take (j + 1)) (key:=key) (b:=b) (by omega);rw [hB1] at hs hbl1;generalize lionB key b ([1,2,3,4].take j) = Bj at hq ho hbl hs;rw [← hbl];(conv=>whnf);refine Cq.fb (qhi _ _ (Ent.refl _) key hk (j + 1) (by omega) (by omega) a1 c1 Bj (hq _ (Ent.a mm) (Ent.a mm)) (by omega) (by omega)) ?_ fun a2 c2 h2'=>?_
    · rfl
    rw [← hs] at h2' ⊢;(conv=>whnf);refine Ar.i64 (by omega) ?_;(conv=>whnf);refine ⟨⟨j + 1,a2,c2,Own a2 c2 5 1 (u8s B1)⟩,⟨by dsimp only;omega,fun X e1 _=>?_,fun _=>?_⟩,by dsimp only;omega,?_⟩
    · dsimp only;rw [hB1];exact ⟨(Own.rd).ent e1,h2'⟩
    · dsimp only;rw [hB1];exact ⟨rfl,h2'⟩
    refine Wk.m [2] [0,1] ⟨⟨?_,kk⟩,⟨rfl,kk⟩,⟨?_,kk⟩,trivial⟩ ⟨⟨kk,hks _,trivial⟩,trivial⟩ ⟨rfl,rfl⟩
    · show Value.slice a2 B1.length c2 = Value.slice a2 Bj.length c2;rw [hbl1,hbl]
    · show Value.int .i64 _ = Value.int .i64 _;congr 1 <;> (dsimp only;omega)
  obtain rfl : j = 4:=by omega
  obtain ⟨hR,hf⟩:=ho (by decide);have e4 : [1,2,3,4].take 4 = [1,2,3,4]:=rfl;rw [e4] at hR hf hbl;subst hR;rw [← hbl];(conv=>whnf);exact Ret.m (a1,c1) [] [0,0] hf rfl kk kk ⟨rfl,rfl⟩
end
section
abbrev BXE (f : Nat) (args : List SV) (A : HP) (Z : List UInt8 × Int) : Prop :=
  Con Tryz.prog f args [] [] A (fun t : Option Addr × Nat × HP=>Bts t.2.2 t.1 t.2.1 Z.1) (fun t=>.tup [.c (.rs t.1 Z.1.length t.2.1),.c (.int .i64 Z.2)]) (fun _=>[]) (fun t=>[t.2.2])
theorem q0u {R : HP} : Bts R none 0 []:=⟨fun _ _=>.inl rfl,Nat.le_refl _,fun _=>rfl⟩
theorem q2i {a : Option Addr} {c e : Nat} {l : List UInt8} (h : Fc a c l) : Bts (Own a c e 1 (u8s l)) a c l:=⟨Own.rd,h⟩
attribute [local irreducible] macD q01 strS lionB
theorem ql4 (A R : HP) (hE : Ent A R) (key : List UInt8) (hk : key.length = 32) (a : Option Addr) (cap : Nat) (room : List UInt8) (hb : Bts R a cap room) (hn : room.length ≤ 1000000) :
    BXE 21 [.agg [.many 32 (u8s key)],.c (.rs a room.length cap)] A (sealS key room):=by
  have hr:=hb.1.ent hE;have hks:=mok hk;refine Con.of' tt_ok Tryz.func21 rfl (by decide) [.agg [.many 32 (u8s key)],.c (.rs a room.length cap)] [] [] rfl rfl trivial ⟨⟨hks _,trivial⟩,trivial,trivial⟩ rfl ?_;(conv=>whnf);intro b2;(conv=>whnf);refine Cond.neI (fun h=>?_) (fun h=>?_)
  · have e : sealS key room = ([],5):=if_neg (by omega);rw [e];(conv=>whnf);refine Ret.own0 5 1 ?_;exact Ret.m (none,0,Own none 0 5 1 []) [] [0,0] q0u rfl kk kk ⟨rfl,rfl⟩
  have e : sealS key room = lockS key (z16 ++ room):=if_pos (by omega);rw [e];have h5 : room.length = 512:=by omega
  have hzl : (z16 ++ room).length = 528:=by rw [List.length_append,q4c,h5]
  (conv=>whnf);refine Draw.a (by kernel_rfl) tt_ok (Tv.of [0,2,1,3,4,5,6,7,8] .nil) 1000000 (by kernel_rfl) ?_;(conv=>whnf);refine ⟨by decide,?_⟩;intro b10;(conv=>whnf);refine Sub.r [2] [0] ?_;(conv=>whnf);refine Cq.fb (q4a _ (blk b10 (.cells (List.replicate 16 (Value.int .u8 0) ++ []).toArray 5)) A (Ent.a mm) (Ent.a mm) (some (radr (b10,0))) 16 z16 (by unfold z16;rw [q4r];exact q1c) (by decide) a cap room hr (by omega)) rfl fun a12 c12 h12=>?_;(conv=>whnf);refine Sub.r [2] [1] ?_;conv=>whnf
  refine Cq.new (qm4 _ (Own a12 c12 5 1 (u8s (z16 ++ room))) (Ent.a mm) key hk a12 c12 (z16 ++ room) ⟨Own.rd,h12⟩ (by omega)) rfl ?_;rintro ⟨a13,c13⟩ h13;generalize lockS key (z16 ++ room) = Z at h13 ⊢;obtain ⟨B,e⟩:=Z;dsimp only at h13 ⊢;(conv=>whnf);refine Sub.r [2] [2] ?_;(conv=>whnf);exact Ret.m (a13,c13,Own a13 c13 5 1 (u8s B)) [] [0,1] (q2i h13) rfl kk kk ⟨rfl,rfl⟩
end
section
attribute [local irreducible] macD q01 strS q05 q00 q03 q0h q07 q06 q08 q0a q0j q0g lionB lockS q0e
end
section
attribute [local irreducible] macD q01 strS q05 q00 q03 q0h q07 q06 q08 q0a q0j q0g lionB lockS q0e openB q0p decC tagH q0w q0x q0v q0f
structure PlS where
  an : Option Addr
  cn : Nat
  ar : Option Addr
  cr : Nat
  X : HP
abbrev rpl (Z : PeelS) (t : PlS) : List Seg:=[.one (.int .i64 Z.cmd.k),.one (.int .i64 Z.cmd.n),.one (.int .i64 Z.cmd.d),.many 8 (u8s Z.cmd.id),.one (.rs t.an Z.next.length t.cn),.many 16 (u8s Z.tag),.one (.rs t.ar Z.room.length t.cr)]
structure PeelS.ok (Z : PeelS) : Prop where
  c : Z.cmd.id.length = 8
  t : Z.tag.length = 16
theorem q8y {Z : PeelS} (o : Z.ok) (t : PlS) (B : Names) : okL B (rpl Z t):=⟨trivial,trivial,trivial,mok o.c _,trivial,mok o.t _,trivial,trivial⟩
theorem qax : peel0.ok:=⟨List.length_replicate,q4c⟩
theorem qmm {own p : List UInt8} (h : p.length ≠ 736) : peelS own p = (peel0,5):=if_neg h
theorem qn9 {own p : List UInt8} (h : p.length = 736) (e : (q0f own (hdrOf (p.take 208))).2 ≠ 0) : peelS own p = (peel0,(q0f own (hdrOf (p.take 208))).2):=(if_pos h).trans (if_neg e)
theorem qk9 {own p : List UInt8} (h : p.length = 736) (e : (q0f own (hdrOf (p.take 208))).2 = 0) : peelS own p = peel2 (q0f own (hdrOf (p.take 208))).1 (q0m (q0e (q0f own (hdrOf (p.take 208))).1.secret) (p.drop 208)).1:=(if_pos h).trans (if_pos e)
theorem qm1 {st : StepS} {b : List UInt8} (h : st.cmd.k = 1) : peel2 st b = (⟨st.cmd,encH st.next ++ b,st.tag,[]⟩,0):=if_pos h
theorem qlh {st : StepS} {b : List UInt8} (h : st.cmd.k = 2) (e : b.take 16 = z16) : peel2 st b = (⟨st.cmd,[],st.tag,b.drop 16⟩,0):=by
  have e1 : roomS b = (b.drop 16,0):=if_pos e;unfold peel2;rw [if_neg (by omega),if_pos h,e1,if_pos rfl]
theorem qlr {st : StepS} {b : List UInt8} (h : st.cmd.k = 2) (e : b.take 16 ≠ z16) : peel2 st b = (peel0,5):=by
  have e1 : roomS b = ([],5):=if_neg e;unfold peel2;rw [if_neg (by omega),if_pos h,e1,if_neg (by decide)]
theorem ql9 {st : StepS} {b : List UInt8} (h : st.cmd.k = 3) : peel2 st b = (⟨st.cmd,[],st.tag,b⟩,0):=by
  unfold peel2;rw [if_neg (by omega),if_neg (by omega),if_pos h]
theorem qmh {st : StepS} {b : List UInt8} (h1 : st.cmd.k ≠ 1) (h2 : st.cmd.k ≠ 2) (h3 : st.cmd.k ≠ 3) : peel2 st b = (⟨st.cmd,[],st.tag,[]⟩,0):=by
  unfold peel2;rw [if_neg h1,if_neg h2,if_neg h3]
end
end Go.Proofs.YtfehjfoajlfhfaaGreatDoor
