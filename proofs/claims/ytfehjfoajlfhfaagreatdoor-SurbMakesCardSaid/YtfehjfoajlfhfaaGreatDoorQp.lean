import Derived.Test.YtfehjfoajlfhfaaGreatDoorQj
import Derived.Test.YtfehjfoajlfhfaaGreatDoorQn
import Derived.Test.YtfehjfoajlfhfaaGreatDoorQo
namespace Go.Proofs.YtfehjfoajlfhfaaGreatDoor
open Go.Sx
set_option maxRecDepth 100000
set_option pp.deepTerms false
set_option pp.maxSteps 300
set_option linter.unusedSimpArgs false
set_option linter.unusedVariables false
section
def lionL (i : Nat) : List UInt8:=[108,105,111,110,32,UInt8.ofNat (48 + i)]
def lionK (key : List UInt8) (i : Nat) : List UInt8:=q01 key (lionL i)
def lionX (k b : List UInt8) : List UInt8:=b.take 32 ++ xorB (b.drop 32) (strS (xorB k (b.take 32)) zn 0 ((b.length - 32 + 63) / 64))
def lionT (k b : List UInt8) : List UInt8:=xorB (b.take 32) (macD k (b.drop 32)) ++ b.drop 32
def lionR (key : List UInt8) (i : Nat) (b : List UInt8) : List UInt8:=if i % 2 = 1 then lionX (lionK key i) b else lionT (lionK key i) b
def lionB (key b : List UInt8) : List Nat → List UInt8
  | []=>b
  | i :: r=>lionB key (lionR key i b) r
def lionS (l : List Nat) (key b : List UInt8) : List UInt8 × Int:=if b.length < 33 then ([],4) else if 4096 < b.length then ([],3) else (lionB key b l,0)
def lockS (key b : List UInt8) : List UInt8 × Int:=lionS [1,2,3,4] key b
def q0p (key b : List UInt8) : List UInt8 × Int:=lionS [4,3,2,1] key b
theorem q98 : ∀ (a y : List UInt8),a.length ≤ y.length → xorB (xorB a y) y = a
  | [],_,_=>rfl
  | _ :: _,[],h=>absurd h (by simp)
  | x :: a,z :: y,h=>by
    have:=q98 a y (by simpa using h);show (x ^^^ z ^^^ z) :: xorB (xorB a y) y = x :: a;rw [this,UInt8.xor_assoc,UInt8.xor_self,UInt8.xor_zero]
theorem qd6 {k b : List UInt8} (h : 32 ≤ b.length) : (lionX k b).length = b.length:=by
  unfold lionX;rw [List.length_append,List.length_take,q16 (by rw [q2t,List.length_drop];omega),List.length_drop];omega
theorem qhf {k b : List UInt8} (h : 32 ≤ b.length) : (lionT k b).length = b.length:=by
  unfold lionT;rw [List.length_append,q16 (by rw [q27,List.length_take];omega),List.length_take,List.length_drop];omega
theorem q3e {key b : List UInt8} {i : Nat} (h : 32 ≤ b.length) : (lionR key i b).length = b.length:=by
  unfold lionR
  split
  · exact qd6 h
  · exact qhf h
theorem q4r : ∀ (l : List Nat) {key b : List UInt8},32 ≤ b.length → (lionB key b l).length = b.length
  | [],_,_,_=>rfl
  | i :: r,key,b,h=>by
    have h1:=q3e (key:=key) (i:=i) h;show (lionB key (lionR key i b) r).length = _;rw [q4r r (by omega),h1]
attribute [local irreducible] macD q01 strS
theorem qeo {k b : List UInt8} (h : 32 ≤ b.length) : lionX k (lionX k b) = b:=by
  have hl:=qd6 (k:=k) h;have h32 : (b.take 32).length = 32:=by rw [List.length_take];omega
  have ht : (lionX k b).take 32 = b.take 32:=by
    unfold lionX;rw [List.take_append_of_le_length (by omega),List.take_of_length_le (by omega)]
  have hd : (lionX k b).drop 32 = xorB (b.drop 32) (strS (xorB k (b.take 32)) zn 0 ((b.length - 32 + 63) / 64)):=by
    unfold lionX;rw [List.drop_left' h32]
  have e : lionX k (lionX k b) = (lionX k b).take 32 ++ xorB ((lionX k b).drop 32) (strS (xorB k ((lionX k b).take 32)) zn 0 (((lionX k b).length - 32 + 63) / 64)):=rfl;rw [e,ht,hd,hl,q98 _ _ (by rw [q2t,List.length_drop];omega),List.take_append_drop]
theorem qef {k b : List UInt8} (h : 32 ≤ b.length) : lionT k (lionT k b) = b:=by
  have h32 : (xorB (b.take 32) (macD k (b.drop 32))).length = 32:=by rw [q16 (by rw [q27,List.length_take];omega),List.length_take];omega
  have ht : (lionT k b).take 32 = xorB (b.take 32) (macD k (b.drop 32)):=by
    unfold lionT;rw [List.take_append_of_le_length (by omega),List.take_of_length_le (by omega)]
  have hd : (lionT k b).drop 32 = b.drop 32:=by
    unfold lionT;rw [List.drop_left' h32]
  have e : lionT k (lionT k b) = xorB ((lionT k b).take 32) (macD k ((lionT k b).drop 32)) ++ (lionT k b).drop 32:=rfl;rw [e,ht,hd,q98 _ _ (by rw [q27,List.length_take];omega),List.take_append_drop]
theorem q29 {key b : List UInt8} {i : Nat} (h : 32 ≤ b.length) : lionR key i (lionR key i b) = b:=by
  unfold lionR
  split
  · exact qeo h
  · exact qef h
theorem qhr {key b : List UInt8} (h1 : 33 ≤ b.length) (h2 : b.length ≤ 4096) : q0p key (lockS key b).1 = (b,0):=by
  have e1 : lockS key b = (lionB key b [1,2,3,4],0):=by
    show (if b.length < 33 then _ else if 4096 < b.length then _ else _) = _;rw [if_neg (by omega),if_neg (by omega)]
  have hl:=q4r [1,2,3,4] (key:=key) (b:=b) (by omega);rw [e1]
  have e2 : q0p key (lionB key b [1,2,3,4]) = (lionB key (lionB key b [1,2,3,4]) [4,3,2,1],0):=by
    show (if (lionB key b [1,2,3,4]).length < 33 then _ else if 4096 < (lionB key b [1,2,3,4]).length then _ else _) = _;rw [if_neg (by omega),if_neg (by omega)]
  show q0p key (lionB key b [1,2,3,4]) = _;rw [e2];have q1:=q3e (key:=key) (i:=1) (b:=b) (by omega);have q2:=q3e (key:=key) (i:=2) (b:=lionR key 1 b) (by omega);have q3:=q3e (key:=key) (i:=3) (b:=lionR key 2 (lionR key 1 b)) (by omega);show (lionR key 1 (lionR key 2 (lionR key 3 (lionR key 4 (lionR key 4 (lionR key 3 (lionR key 2 (lionR key 1 b))))))),(0 : Int)) = _;rw [q29 (by omega),q29 (by omega),q29 (by omega),q29 (by omega)]
theorem q8u {key b : List UInt8} (h1 : 33 ≤ b.length) (h2 : b.length ≤ 4096) : (lockS key b).1.length = b.length ∧ (lockS key b).2 = 0:=by
  have e1 : lockS key b = (lionB key b [1,2,3,4],0):=by
    show (if b.length < 33 then _ else if 4096 < b.length then _ else _) = _;rw [if_neg (by omega),if_neg (by omega)]
  rw [e1];exact ⟨q4r _ (by omega),rfl⟩
theorem q5i {key b : List UInt8} (h1 : 33 ≤ b.length) (h2 : b.length ≤ 4096) : (q0p key b).1.length = b.length ∧ (q0p key b).2 = 0:=by
  have e1 : q0p key b = (lionB key b [4,3,2,1],0):=by
    show (if b.length < 33 then _ else if 4096 < b.length then _ else _) = _;rw [if_neg (by omega),if_neg (by omega)]
  rw [e1];exact ⟨q4r _ (by omega),rfl⟩
end
section
def z16 : List UInt8:=List.replicate 16 0
theorem q5j : z16.length = 16:=List.length_replicate
def q09 (s : List UInt8) : List UInt8:=q01 s [112,105]
theorem q2n (s : List UInt8) : (q09 s).length = 32:=q1n _ _
def sealS (key room : List UInt8) : List UInt8 × Int:=if room.length = 512 then lockS key (z16 ++ room) else ([],5)
def roomS (b : List UInt8) : List UInt8 × Int:=if b.take 16 = z16 then (b.drop 16,0) else ([],5)
def openS (key body : List UInt8) : List UInt8 × Int:=if body.length = 528 then roomS (q0p key body).1 else ([],5)
structure PeelS where
  cmd : Cmd
  next : List UInt8
  tag : List UInt8
  room : List UInt8
def peel0 : PeelS:=⟨cmd0,[],z16,[]⟩
def peel2 (st : StepS) (b : List UInt8) : PeelS × Int :=
  if st.cmd.k = 1 then (⟨st.cmd,encH st.next ++ b,st.tag,[]⟩,0)
  else if st.cmd.k = 2 then (if (roomS b).2 = 0 then (⟨st.cmd,[],st.tag,(roomS b).1⟩,0) else (peel0,(roomS b).2))
  else if st.cmd.k = 3 then (⟨st.cmd,[],st.tag,b⟩,0)
  else (⟨st.cmd,[],st.tag,[]⟩,0)
def peel1 (own p : List UInt8) : PeelS × Int :=
  if (q0h own (hdrOf (p.take 208))).2 = 0 then peel2 (q0h own (hdrOf (p.take 208))).1 (q0p (q09 (q0h own (hdrOf (p.take 208))).1.secret) (p.drop 208)).1
  else (peel0,(q0h own (hdrOf (p.take 208))).2)
def peelS (own p : List UInt8) : PeelS × Int:=if p.length = 736 then peel1 own p else (peel0,5)
attribute [local irreducible] macD q01 strS q03 q00 q02 q0e q06 q05 q08 openB q0j decC q0d q0u q0b q0h tagH leB q13 q12 q11 q0a
theorem qa9 (key : List UInt8) : ∀ (l : List Nat) (b : List UInt8) (i : Nat),lionB key b (l ++ [i]) = lionR key i (lionB key b l)
  | [],_,_=>by unfold lionB;rfl
  | x :: r,b,i=>by
    have:=qa9 key r (lionR key x b) i;unfold lionB;exact this
theorem q7y {key room : List UInt8} (h : room.length = 512) : (sealS key room).1.length = 528 ∧ (sealS key room).2 = 0:=by
  have hl : (z16 ++ room).length = 528:=by rw [List.length_append,q5j,h]
  have:=q8u (key:=key) (b:=z16 ++ room) (by omega) (by omega);unfold sealS;rw [if_pos h,hl] at *;exact ⟨this.1.trans hl,this.2⟩
theorem qje {key room : List UInt8} (h : room.length = 512) : openS key (sealS key room).1 = (room,0):=by
  have hl : (z16 ++ room).length = 528:=by rw [List.length_append,q5j,h]
  have h1:=q7y (key:=key) h;have h2 : (sealS key room).1 = (lockS key (z16 ++ room)).1:=by unfold sealS;rw [if_pos h]
  unfold openS;rw [if_pos h1.1,h2,qhr (by omega) (by omega)];unfold roomS;have e1 : (z16 ++ room).take 16 = z16:=by rw [List.take_left' q5j]
  have e2 : (z16 ++ room).drop 16 = room:=by rw [List.drop_left' q5j]
  show (if (z16 ++ room).take 16 = z16 then ((z16 ++ room).drop 16,(0 : Int)) else _) = _;rw [if_pos e1,e2]
end
section
attribute [local irreducible] macD q01 strS q03 q00 q02 q0e q06 q05 q08 openB q0j decC q0d q0u lionB tagH
end
section
attribute [local irreducible] macD q01 strS
theorem q9x : ∀ (y s : List UInt8) (n : Nat),y.length ≤ n → xorB y (s.take n) = xorB y s
  | [],_,_,_=>rfl
  | _ :: _,[],n,_=>by rw [List.take_nil]
  | _ :: _,_ :: _,0,h=>absurd h (by simp)
  | a :: y,b :: s,n + 1,h=>by
    have:=q9x y s n (by simpa using h);show (a ^^^ b) :: xorB y (s.take n) = (a ^^^ b) :: xorB y s;rw [this]
def lionE (n : Nat) : Int:=if n < 33 then 4 else if 4096 < n then 3 else 0
theorem qe5 (l : List Nat) (key b : List UInt8) : (lionE b.length ≠ 0 ∧ lionS l key b = ([],lionE b.length)) ∨ (lionE b.length = 0 ∧ 33 ≤ b.length ∧ b.length ≤ 4096 ∧ lionS l key b = (lionB key b l,0)):=by
  unfold lionS lionE
  by_cases h1 : b.length < 33
  · rw [if_pos h1,if_pos h1];exact .inl ⟨by decide,rfl⟩
  · rw [if_neg h1,if_neg h1]
    by_cases h2 : 4096 < b.length
    · rw [if_pos h2,if_pos h2];exact .inl ⟨by decide,rfl⟩
    · rw [if_neg h2,if_neg h2];exact .inr ⟨rfl,by omega,by omega,rfl⟩
end
section
abbrev BXE (f : Nat) (args : List SV) (A : HP) (Z : List UInt8 × Int) : Prop :=
  Con Tryz.prog f args [] [] A (fun t : Option Addr × Nat × HP=>Bts t.2.2 t.1 t.2.1 Z.1) (fun t=>.tup [.c (.rs t.1 Z.1.length t.2.1),.c (.int .i64 Z.2)]) (fun _=>[]) (fun t=>[t.2.2])
theorem q1d {R : HP} : Bts R none 0 []:=⟨fun _ _=>.inl rfl,Nat.le_refl _,fun _=>rfl⟩
theorem q4f {a : Option Addr} {c e : Nat} {l : List UInt8} (h : Fc a c l) : Bts (Own a c e 1 (u8s l)) a c l:=⟨Own.rd,h⟩
attribute [local irreducible] macD q01 strS lionB
theorem ql7 (A : HP) (s : List UInt8) (hs : s.length = 32) : Pu Tryz.prog 23 [.agg [.many 32 (u8s s)]] A (.agg [.many 32 (u8s (q09 s))]):=by
  have hks:=mok hs;refine Con.of' tt_ok Tryz.func23 rfl (by decide) [.agg [.many 32 (u8s s)]] [] [] rfl rfl trivial ⟨⟨hks _,trivial⟩,trivial⟩ rfl ?_;(conv=>whnf);intro b1;(conv=>whnf);intro b2;(conv=>whnf);refine Cq.pu (q8l _ s hs [112,105] (by decide)) rfl ?_;(conv=>whnf);exact Ret.m () [] [0] trivial rfl ⟨mok (q2n s) _,trivial⟩ kk ⟨rfl,rfl⟩
end
section
attribute [local irreducible] macD q01 strS q03 q00 q02 q0e q06 q05 q08 q0a q0d q0b lionB lockS q09
end
section
attribute [local irreducible] macD q01 strS q03 q00 q02 q0e q06 q05 q08 q0a q0d q0b lionB lockS q09 openB q0j decC tagH q13 q12 q11 q0h
structure PlS where
  an : Option Addr
  cn : Nat
  ar : Option Addr
  cr : Nat
  X : HP
abbrev rpl (Z : PeelS) (t : PlS) : List Seg:=[.one (.int .i64 Z.cmd.k),.one (.int .i64 Z.cmd.n),.one (.int .i64 Z.cmd.d),.many 8 (u8s Z.cmd.id),.one (.rs t.an Z.next.length t.cn),.many 16 (u8s Z.tag),.one (.rs t.ar Z.room.length t.cr)]
structure PeelS.ok (Z : PeelS) : Prop where
  c : Z.cmd.id.length = 8
  t : Z.tag.length = 16
theorem q9i {Z : PeelS} (o : Z.ok) (t : PlS) (B : Names) : okL B (rpl Z t):=⟨trivial,trivial,trivial,mok o.c _,trivial,mok o.t _,trivial,trivial⟩
theorem qb8 : peel0.ok:=⟨List.length_replicate,q5j⟩
theorem qqr {own p : List UInt8} (h : p.length ≠ 736) : peelS own p = (peel0,5):=if_neg h
theorem qr7 {own p : List UInt8} (h : p.length = 736) (e : (q0h own (hdrOf (p.take 208))).2 ≠ 0) : peelS own p = (peel0,(q0h own (hdrOf (p.take 208))).2):=(if_pos h).trans (if_neg e)
theorem qmx {own p : List UInt8} (h : p.length = 736) (e : (q0h own (hdrOf (p.take 208))).2 = 0) : peelS own p = peel2 (q0h own (hdrOf (p.take 208))).1 (q0p (q09 (q0h own (hdrOf (p.take 208))).1.secret) (p.drop 208)).1:=(if_pos h).trans (if_pos e)
theorem qpa {st : StepS} {b : List UInt8} (h : st.cmd.k = 1) : peel2 st b = (⟨st.cmd,encH st.next ++ b,st.tag,[]⟩,0):=if_pos h
theorem qoa {st : StepS} {b : List UInt8} (h : st.cmd.k = 2) (e : b.take 16 = z16) : peel2 st b = (⟨st.cmd,[],st.tag,b.drop 16⟩,0):=by
  have e1 : roomS b = (b.drop 16,0):=if_pos e;unfold peel2;rw [if_neg (by omega),if_pos h,e1,if_pos rfl]
theorem qp0 {st : StepS} {b : List UInt8} (h : st.cmd.k = 2) (e : b.take 16 ≠ z16) : peel2 st b = (peel0,5):=by
  have e1 : roomS b = ([],5):=if_neg e;unfold peel2;rw [if_neg (by omega),if_pos h,e1,if_neg (by decide)]
theorem qpo {st : StepS} {b : List UInt8} (h : st.cmd.k = 3) : peel2 st b = (⟨st.cmd,[],st.tag,b⟩,0):=by
  unfold peel2;rw [if_neg (by omega),if_neg (by omega),if_pos h]
theorem qol {st : StepS} {b : List UInt8} (h1 : st.cmd.k ≠ 1) (h2 : st.cmd.k ≠ 2) (h3 : st.cmd.k ≠ 3) : peel2 st b = (⟨st.cmd,[],st.tag,[]⟩,0):=by
  unfold peel2;rw [if_neg h1,if_neg h2,if_neg h3]
end
end Go.Proofs.YtfehjfoajlfhfaaGreatDoor
