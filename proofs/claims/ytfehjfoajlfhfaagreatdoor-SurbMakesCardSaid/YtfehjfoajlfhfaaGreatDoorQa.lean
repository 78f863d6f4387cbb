import Derived.Test.YtfehjfoajlfhfaaGreatDoorWc
namespace Go.Proofs.YtfehjfoajlfhfaaGreatDoor
open Go.Sx
set_option maxRecDepth 100000
set_option linter.unusedSimpArgs false
set_option linter.unusedVariables false
section
abbrev n64s (l : List Nat) : List Value:=l.map fun (n : Nat)=>Value.int .u64 (n : Int)
theorem qe7 (l : List Nat) : (n64s l).length = l.length:=List.length_map ..
theorem qm5 (l : List Nat) : ∀ v ∈ n64s l,v.oneCell' = true:=by
  intro v hv;obtain ⟨n,_,rfl⟩:=List.mem_map.1 hv;rfl
def ng (l : List Nat) (k : Nat) : Nat:=l[k]?.getD 0
theorem ng_eq {l : List Nat} {k : Nat} (h : k < l.length) : ng l k = l[k]:=by simp [ng,h]
theorem qlh {l : List Nat} {k : Nat} (h : k < l.length) : (n64s l)[k]? = some (.int .u64 (ng l k : Int)):=by simp [n64s,h,ng]
theorem nmk {n : Nat} {l : List Nat} (h : l.length = n) : ∀ B,Seg.ok B (.many n (n64s l)):=fun _=>⟨by rw [qe7,h],qm5 l⟩
theorem q0i {B : Names} {l : List Nat} {j : Nat} {f : SC → Prop} (k : Nat) (hj : j = k) (hk : k < l.length) (h : f (.int .u64 (ng l k : Int))) : Elem B (n64s l) j f :=
  ⟨⟨.int .u64 (ng l k : Int),by subst hj;rw [qlh hk];rfl,trivial,h⟩⟩
theorem q15 {l : List Nat} {k n : Nat} (hk : k < l.length) : (n64s l).take k ++ ([Value.int .u64 (n : Int)] ++ (n64s l).drop (k + 1)) = n64s (l.set k n):=by
  show _ = (l.set k n).map _;rw [List.map_set,List.set_eq_take_append_cons_drop,if_pos (by simpa using hk)];rfl
def num : List Nat → Nat
  | []=>0
  | a :: r=>a + 18446744073709551616 * num r
def ok64 (l : List Nat) : Prop:=∀ a ∈ l,a < 18446744073709551616
theorem ok64.get {l : List Nat} (h : ok64 l) (k : Nat) : ng l k < 18446744073709551616:=by
  unfold ng
  cases e : l[k]? with
  | none=>decide
  | some a=>exact h a (List.mem_of_getElem? e)
theorem ok64.set {l : List Nat} (h : ok64 l) {k n : Nat} (hn : n < 18446744073709551616) : ok64 (l.set k n):=by
  intro a ha
  rcases List.mem_or_eq_of_mem_set ha with ha | rfl
  · exact h a ha
  · exact hn
theorem num4 {l : List Nat} (h : l.length = 4) : ∃ a b c d,l = [a,b,c,d]:=by
  match l,h with
  | [a,b,c,d],_=>exact ⟨a,b,c,d,rfl⟩
theorem num8 {l : List Nat} (h : l.length = 8) : ∃ a b c d e f g k,l = [a,b,c,d,e,f,g,k]:=by
  match l,h with
  | [a,b,c,d,e,f,g,k],_=>exact ⟨a,b,c,d,e,f,g,k,rfl⟩
end
section
def Pm : Nat:=57896044618658097711785492504343953926634992332820282019728792003956564819949
def chn (d k : Nat → Nat → Nat) (l : List Nat) (c : Nat) : Nat → List Nat × Nat
  | 0=>(l,c)
  | i + 1=>((chn d k l c i).1.set i (d i (chn d k l c i).2),k i (chn d k l c i).2)
theorem q2e {d k : Nat → Nat → Nat} {l : List Nat} {c : Nat} : ∀ i,(chn d k l c i).1.length = l.length
  | 0=>rfl
  | i + 1=>by show (List.set _ _ _).length = _;rw [List.length_set,q2e i]
theorem q4h {d k : Nat → Nat → Nat} {l : List Nat} {c : Nat} : ∀ {i j : Nat},i ≤ j → ng (chn d k l c i).1 j = ng l j
  | 0,_,_=>rfl
  | i + 1,j,h=>by
    have:=q4h (d:=d) (k:=k) (l:=l) (c:=c) (i:=i) (j:=j) (by omega);show ng (List.set _ _ _) j = _;unfold ng at *;rw [List.getElem?_set_ne (by omega)];exact this
theorem q9j {d k : Nat → Nat → Nat} {l : List Nat} {c : Nat} (hl : ok64 l) (hd : ∀ i c,d i c < 18446744073709551616) : ∀ i,ok64 (chn d k l c i).1
  | 0=>hl
  | i + 1=>(q9j hl hd i).set (hd _ _)
def sumD (g : Nat → Nat) (i c : Nat) : Nat:=(g i + c) % 18446744073709551616
def sumK (g : Nat → Nat) (i c : Nat) : Nat:=(g i + c) / 18446744073709551616
theorem sum4 {g : Nat → Nat} {l : List Nat} {c : Nat} (h : l.length = 4) :
    num (chn (sumD g) (sumK g) l c 4).1 + 115792089237316195423570985008687907853269984665640564039457584007913129639936 * (chn (sumD g) (sumK g) l c 4).2 =
      g 0 + 18446744073709551616 * g 1 + 340282366920938463463374607431768211456 * g 2 + 6277101735386680763835789423207666416102355444464034512896 * g 3 + c:=by
  obtain ⟨a,b,x,y,rfl⟩:=num4 h;simp only [chn,List.set_cons_zero,List.set_cons_succ,num,sumD,sumK];omega
def difD (f g : Nat → Nat) (i c : Nat) : Nat:=(f i + 18446744073709551616 - g i - c) % 18446744073709551616
def difK (f g : Nat → Nat) (i c : Nat) : Nat:=if f i < g i + c then 1 else 0
theorem dif1 {f g : Nat → Nat} (hf : ∀ i,f i < 18446744073709551616) (hg : ∀ i,g i < 18446744073709551616) (i c : Nat) (hc : c ≤ 1) : difK f g i c ≤ 1 ∧ difD f g i c + g i + c = f i + 18446744073709551616 * difK f g i c:=by
  have:=hf i;have:=hg i;unfold difK difD
  split <;> omega
theorem dif4 {f g : Nat → Nat} {l : List Nat} {c : Nat} (h : l.length = 4) (hc : c ≤ 1) (hf : ∀ i,f i < 18446744073709551616) (hg : ∀ i,g i < 18446744073709551616) :
    num (chn (difD f g) (difK f g) l c 4).1 + (g 0 + 18446744073709551616 * g 1 + 340282366920938463463374607431768211456 * g 2 + 6277101735386680763835789423207666416102355444464034512896 * g 3) + c =
      (f 0 + 18446744073709551616 * f 1 + 340282366920938463463374607431768211456 * f 2 + 6277101735386680763835789423207666416102355444464034512896 * f 3) + 115792089237316195423570985008687907853269984665640564039457584007913129639936 * (chn (difD f g) (difK f g) l c 4).2
    ∧ (chn (difD f g) (difK f g) l c 4).2 ≤ 1:=by
  obtain ⟨a,b,x,y,rfl⟩:=num4 h;obtain ⟨k10,k1⟩:=dif1 hf hg 0 c hc;obtain ⟨k20,k2⟩:=dif1 hf hg 1 _ k10;obtain ⟨k30,k3⟩:=dif1 hf hg 2 _ k20;obtain ⟨k40,k4⟩:=dif1 hf hg 3 _ k30;simp only [chn,List.set_cons_zero,List.set_cons_succ,num];omega
theorem num_g {l : List Nat} (h : l.length = 4) : num l = ng l 0 + 18446744073709551616 * ng l 1 + 340282366920938463463374607431768211456 * ng l 2 + 6277101735386680763835789423207666416102355444464034512896 * ng l 3:=by
  obtain ⟨a,b,x,y,rfl⟩:=num4 h;simp only [num,ng,List.getElem?_cons_zero,List.getElem?_cons_succ,Option.getD_some];omega
theorem q5e {l : List Nat} (h : l.length = 4) (hl : ok64 l) : num l < 115792089237316195423570985008687907853269984665640564039457584007913129639936:=by
  have h0:=hl.get 0;have h1:=hl.get 1;have h2:=hl.get 2;have h3:=hl.get 3;rw [num_g h];omega
attribute [irreducible] Pm
end
section
theorem q4g (x k : Nat) : (x + Pm * k) % Pm = x % Pm:=Nat.add_mul_mod_self_left _ _ _
theorem qem (g : Nat → Nat) (i c : Nat) : sumD g i c < 18446744073709551616:=Nat.mod_lt _ (by decide)
theorem qep (f g : Nat → Nat) (i c : Nat) : difD f g i c < 18446744073709551616:=Nat.mod_lt _ (by decide)
def plusG (l : List Nat) (n i : Nat) : Nat:=if i = 0 then ng l 0 + n else ng l i
def plusS (l : List Nat) (n : Nat) : List Nat × Nat:=chn (sumD (plusG l n)) (sumK (plusG l n)) l 0 4
theorem qbd {l : List Nat} (h : l.length = 4) (n : Nat) : num (plusS l n).1 + 115792089237316195423570985008687907853269984665640564039457584007913129639936 * (plusS l n).2 = num l + n:=by
  have:=sum4 (g:=plusG l n) (l:=l) (c:=0) h;rw [num_g h];unfold plusS;rw [this];rw [show plusG l n 0 = ng l 0 + n from rfl,show plusG l n 1 = ng l 1 from rfl,show plusG l n 2 = ng l 2 from rfl,show plusG l n 3 = ng l 3 from rfl];omega
theorem qll {l : List Nat} (h : l.length = 4) (n : Nat) : (plusS l n).1.length = 4:=(q2e 4).trans h
theorem qoj {l : List Nat} (h : ok64 l) (n : Nat) : ok64 (plusS l n).1:=q9j h (qem _) 4
def itS (l : List Nat) (o : Nat) : Nat → List Nat × Nat
  | 0=>(l,o)
  | k + 1=>plusS (itS l o k).1 ((itS l o k).2 * 38)
theorem qae {l : List Nat} (h : l.length = 4) (o : Nat) : ∀ k,(itS l o k).1.length = 4
  | 0=>h
  | k + 1=>qll (qae h o k) _
theorem it_ok {l : List Nat} (h : ok64 l) (o : Nat) : ∀ k,ok64 (itS l o k).1
  | 0=>h
  | k + 1=>qoj (it_ok h o k) _
theorem qng {l : List Nat} (h : l.length = 4) (o : Nat) : ∀ k,(num (itS l o k).1 + 38 * (itS l o k).2) % Pm = (num l + 38 * o) % Pm
  | 0=>rfl
  | k + 1=>by
    rw [← qng h o k];have:=qbd (qae h o k) ((itS l o k).2 * 38);show (num (plusS _ _).1 + 38 * (plusS _ _).2) % Pm = _;rw [← q4g (num (plusS (itS l o k).1 ((itS l o k).2 * 38)).1 + 38 * (plusS (itS l o k).1 ((itS l o k).2 * 38)).2) (2 * (plusS (itS l o k).1 ((itS l o k).2 * 38)).2)];congr 1;unfold Pm;omega
theorem qqp {l : List Nat} (h : l.length = 4) (hl : ok64 l) {o : Nat} (ho : o ≤ 144115188075855872) : (itS l o 1).2 ≤ 1 ∧ (itS l o 2).2 = 0:=by
  have n0:=q5e h hl;have n1:=q5e (qae h o 1) (it_ok hl o 1);have n2:=q5e (qae h o 2) (it_ok hl o 2);have e1 : num (itS l o 1).1 + 115792089237316195423570985008687907853269984665640564039457584007913129639936 * (itS l o 1).2 = num l + o * 38:=qbd h (o * 38);have e2 : num (itS l o 2).1 + 115792089237316195423570985008687907853269984665640564039457584007913129639936 * (itS l o 2).2 = num (itS l o 1).1 + (itS l o 1).2 * 38:=qbd (qae h o 1) _;omega
def addG (l m : List Nat) (i : Nat) : Nat:=ng l i + ng m i
def addS (l m : List Nat) : List Nat × Nat:=chn (sumD (addG l m)) (sumK (addG l m)) l 0 4
theorem qnu {l m : List Nat} (h : l.length = 4) (h' : m.length = 4) : num (addS l m).1 + 115792089237316195423570985008687907853269984665640564039457584007913129639936 * (addS l m).2 = num l + num m:=by
  have:=sum4 (g:=addG l m) (l:=l) (c:=0) h;rw [num_g h,num_g h'];unfold addS;rw [this];unfold addG;omega
theorem add_mod {l m : List Nat} (h : l.length = 4) (h' : m.length = 4) : (num (addS l m).1 + 38 * (addS l m).2) % Pm = (num l + num m) % Pm:=by
  have:=qnu h h';rw [← q4g _ (2 * (addS l m).2)];congr 1;unfold Pm;omega
def subS (l m : List Nat) : List Nat × Nat:=chn (difD (ng l) (ng m)) (difK (ng l) (ng m)) l 0 4
def low38 (i : Nat) : Nat:=if i = 0 then 38 else 0
def sub38 (l : List Nat) : List Nat × Nat:=chn (difD (ng l) low38) (difK (ng l) low38) l 0 4
theorem ql5 (i : Nat) : low38 i < 18446744073709551616:=by unfold low38;split <;> decide
theorem qkg {l m : List Nat} (h : l.length = 4) (h' : m.length = 4) (hl : ok64 l) (hm : ok64 m) : num (subS l m).1 + num m = num l + 115792089237316195423570985008687907853269984665640564039457584007913129639936 * (subS l m).2 ∧ (subS l m).2 ≤ 1:=by
  have:=dif4 (f:=ng l) (g:=ng m) (l:=l) (c:=0) h (by decide) hl.get hm.get;rw [num_g h,num_g h'];exact ⟨by unfold subS;omega,this.2⟩
theorem q8q {l : List Nat} (h : l.length = 4) (hl : ok64 l) : num (sub38 l).1 + 38 = num l + 115792089237316195423570985008687907853269984665640564039457584007913129639936 * (sub38 l).2 ∧ (sub38 l).2 ≤ 1:=by
  have:=dif4 (f:=ng l) (g:=low38) (l:=l) (c:=0) h (by decide) hl.get ql5;have e0 : low38 0 = 38:=rfl;have e1 : low38 1 = 0:=rfl;have e2 : low38 2 = 0:=rfl;have e3 : low38 3 = 0:=rfl;rw [e0,e1,e2,e3] at this;rw [num_g h];exact ⟨by unfold sub38;omega,this.2⟩
def itD (l m : List Nat) : Nat → List Nat × Nat
  | 0=>subS l m
  | k + 1=>sub38 (itD l m k).1
theorem q4s {l m : List Nat} (h : l.length = 4) : ∀ k,(itD l m k).1.length = 4
  | 0=>(q2e 4).trans h
  | k + 1=>(q2e 4).trans (q4s h k)
theorem q7d {l m : List Nat} (hl : ok64 l) : ∀ k,ok64 (itD l m k).1
  | 0=>q9j hl (qep _ _) 4
  | k + 1=>q9j (q7d hl k) (qep _ _) 4
theorem qgx {a b : Nat} (h : (a + 38) % Pm = (b + 38) % Pm) : a % Pm = b % Pm:=by
  unfold Pm at *;omega
theorem qii {l m : List Nat} (h : l.length = 4) (h' : m.length = 4) (hl : ok64 l) (hm : ok64 m) : ∀ k,(∀ j,j < k → (itD l m j).2 = 1) → (num (itD l m k).1 + num m) % Pm = (num l + 38 * (itD l m k).2) % Pm
  | 0,_=>by
    have:=(qkg h h' hl hm).1;show (num (subS l m).1 + num m) % Pm = (num l + 38 * (subS l m).2) % Pm;rw [← q4g (num l + 38 * (subS l m).2) (2 * (subS l m).2)];congr 1;unfold Pm;omega
  | k + 1,hb=>by
    have ih:=qii h h' hl hm k fun j hj=>hb j (by omega);have hk:=hb k (by omega);have e:=(q8q (q4s (m:=m) h k) (q7d hl k)).1;rw [hk] at ih;show (num (sub38 (itD l m k).1).1 + num m) % Pm = (num l + 38 * (sub38 (itD l m k).1).2) % Pm;generalize sub38 (itD l m k).1 = q at e ⊢;generalize num (itD l m k).1 = z at ih e;obtain ⟨q1,q2⟩:=q;dsimp only at e ⊢;generalize num q1 = y at e ⊢;generalize num l = x at ih ⊢;generalize num m = u at ih ⊢;clear hb hk hl hm h h';have e2 : y + u + 38 = z + u + 38 * q2 + Pm * (2 * q2):=by unfold Pm;omega
    refine qgx ?_;rw [e2,q4g,← Nat.mod_add_mod,ih,Nat.mod_add_mod];have : x + 38 * 1 + 38 * q2 = x + 38 * q2 + 38:=by omega
    rw [this]
theorem qp1 {l m : List Nat} (h : l.length = 4) (h' : m.length = 4) (hl : ok64 l) (hm : ok64 m) : (itD l m 0).2 ≤ 1 ∧ (itD l m 1).2 ≤ 1 ∧ ((itD l m 1).2 = 1 → (itD l m 2).2 = 0):=by
  have e0:=qkg h h' hl hm;have e1:=q8q (q4s (m:=m) h 0) (q7d hl 0);have e2:=q8q (q4s (m:=m) h 1) (q7d hl 1);have n0:=q5e (q4s (m:=m) h 0) (q7d hl 0);have n1:=q5e (q4s (m:=m) h 1) (q7d hl 1);have n2:=q5e (q4s (m:=m) h 2) (q7d hl 2);refine ⟨e0.2,e1.2,fun hb=>?_⟩;have e1' : num (itD l m 1).1 + 38 = num (itD l m 0).1 + 115792089237316195423570985008687907853269984665640564039457584007913129639936 * (itD l m 1).2:=e1.1
  have e2' : num (itD l m 2).1 + 38 = num (itD l m 1).1 + 115792089237316195423570985008687907853269984665640564039457584007913129639936 * (itD l m 2).2:=e2.1;omega
end
section
def rowG (to l : List Nat) (d i : Nat) : Nat:=ng to i + ng l i * d
def rowS (to l : List Nat) (d : Nat) : List Nat × Nat:=chn (sumD (rowG to l d)) (sumK (rowG to l d)) to 0 4
theorem q5q {to l : List Nat} {d : Nat} (h : to.length = 4) : (rowS to l d).1.length = 4:=(q2e 4).trans h
theorem qj9 {to l : List Nat} {d : Nat} (h : ok64 to) : ok64 (rowS to l d).1:=q9j h (qem _) 4
theorem qdx {to l : List Nat} {d : Nat} (h : to.length = 4) (h' : l.length = 4) : num (rowS to l d).1 + 115792089237316195423570985008687907853269984665640564039457584007913129639936 * (rowS to l d).2 = num to + num l * d:=by
  have:=sum4 (g:=rowG to l d) (l:=to) (c:=0) h;unfold rowS;rw [this,num_g h,num_g h'];unfold rowG;simp only [Nat.add_mul,Nat.mul_assoc];omega
theorem qql {to l : List Nat} {d : Nat} (h : ok64 to) (h' : ok64 l) (hd : d < 18446744073709551616) (i c : Nat) (hc : c < 18446744073709551616) : rowG to l d i + c < 18446744073709551616 * 18446744073709551616:=by
  have h1:=h.get i;have h2:=h'.get i;have : ng l i * d ≤ 18446744073709551615 * 18446744073709551615:=Nat.mul_le_mul (by omega) (by omega);unfold rowG;omega
theorem row_c {to l : List Nat} {d : Nat} (h : ok64 to) (h' : ok64 l) (hd : d < 18446744073709551616) : ∀ i,(chn (sumD (rowG to l d)) (sumK (rowG to l d)) to 0 i).2 < 18446744073709551616
  | 0=>by show 0 < _;decide
  | i + 1=>by
    have:=qql h h' hd i _ (row_c h h' hd i);exact Nat.div_lt_of_lt_mul this
theorem q69 {p t c : Nat} (hp : p ≤ 18446744073709551615 * 18446744073709551615) (ht : t < 18446744073709551616) (hc : c < 18446744073709551616) :
    ((p % 18446744073709551616 + t + 0) % 18446744073709551616 + c + 0) % 18446744073709551616 = (t + p + c) % 18446744073709551616 ∧
    p / 18446744073709551616 + (p % 18446744073709551616 + t + 0) / 18446744073709551616 < 18446744073709551616 ∧
    p / 18446744073709551616 + (p % 18446744073709551616 + t + 0) / 18446744073709551616 + ((p % 18446744073709551616 + t + 0) % 18446744073709551616 + c + 0) / 18446744073709551616 = (t + p + c) / 18446744073709551616 ∧
    (t + p + c) / 18446744073709551616 < 18446744073709551616:=by
  refine ⟨?_,?_,?_,?_⟩ <;> omega
def mulAt (w l : List Nat) (d i : Nat) : List Nat:=w.take i ++ ((rowS ((w.drop i).take 4) l d).1 ++ ((rowS ((w.drop i).take 4) l d).2 :: w.drop (i + 5)))
theorem q40 : ∀ (a b : List Nat),num (a ++ b) = num a + 18446744073709551616 ^ a.length * num b
  | [],b=>by simp [num]
  | x :: r,b=>by
    show x + 18446744073709551616 * num (r ++ b) = x + 18446744073709551616 * num r + 18446744073709551616 ^ (r.length + 1) * num b;rw [q40 r b,Nat.mul_add,Nat.pow_succ,Nat.mul_assoc (18446744073709551616 ^ r.length),Nat.mul_left_comm (18446744073709551616 ^ r.length) 18446744073709551616];omega
theorem qaf {w l : List Nat} {d i : Nat} (hw : w.length = 8) (hl : l.length = 4) (hi : i < 4) (h0 : ∀ j,i + 4 ≤ j → ng w j = 0) :
    num (mulAt w l d i) = num w + 18446744073709551616 ^ i * (num l * d) ∧ (mulAt w l d i).length = 8 ∧ ∀ j,i + 5 ≤ j → ng (mulAt w l d i) j = 0:=by
  have ht : ((w.drop i).take 4).length = 4:=by rw [List.length_take,List.length_drop];omega
  have hr:=qdx (d:=d) ht hl;have hrl:=q5q (l:=l) (d:=d) ht;have hti : (w.take i).length = i:=by rw [List.length_take];omega
  have e1 : w = w.take i ++ ((w.drop i).take 4 ++ (0 :: w.drop (i + 5))):=by
    have e2 : w.drop (i + 4) = 0 :: w.drop (i + 5):=by
      rw [List.drop_eq_getElem_cons (by omega)];congr 1;have:=h0 (i + 4) (by omega)
      rwa [ng_eq (by omega)] at this
    rw [← e2,← List.drop_drop,List.take_append_drop,List.take_append_drop]
  unfold mulAt;generalize rowS ((w.drop i).take 4) l d = q at hr hrl ⊢;obtain ⟨q1,q2⟩:=q;dsimp only at hr hrl ⊢;refine ⟨?_,?_,fun j hj=>?_⟩
  · (conv=>rhs;rw [e1]);rw [q40,q40,q40,q40,hti,hrl,ht];show num (w.take i) + 18446744073709551616 ^ i * (num q1 + 18446744073709551616 ^ 4 * (q2 + 18446744073709551616 * num (w.drop (i + 5)))) = num (w.take i) + 18446744073709551616 ^ i * (num ((w.drop i).take 4) + 18446744073709551616 ^ 4 * (0 + 18446744073709551616 * num (w.drop (i + 5)))) + 18446744073709551616 ^ i * (num l * d);generalize num (w.drop (i + 5)) = D;generalize num ((w.drop i).take 4) = T at hr ⊢;generalize num l * d = X at hr ⊢;generalize num q1 = Y at hr ⊢
    generalize num (w.take i) = U;rw [Nat.add_assoc,← Nat.mul_add]
    have : Y + 18446744073709551616 ^ 4 * (q2 + 18446744073709551616 * D) = T + 18446744073709551616 ^ 4 * (0 + 18446744073709551616 * D) + X:=by
      rw [show 18446744073709551616 ^ 4 = 115792089237316195423570985008687907853269984665640564039457584007913129639936 from rfl];omega
    rw [this]
  · simp only [List.length_append,List.length_cons,List.length_drop,hti,hrl];omega
  · have:=h0 j (by omega);unfold ng at this ⊢;rw [List.getElem?_append_right (by omega),List.getElem?_append_right (by omega),hti,hrl];obtain ⟨k,hk⟩ : ∃ k,j - i - 4 = k + 1:=⟨j - i - 5,by omega⟩;rw [hk,List.getElem?_cons_succ,List.getElem?_drop,show i + 5 + k = j by omega];exact this
def wS (l m : List Nat) : Nat → List Nat
  | 0=>List.replicate 8 0
  | i + 1=>mulAt (wS l m i) l (ng m i) i
theorem qbx {l m : List Nat} (hl : l.length = 4) : ∀ i,i ≤ 4 → (wS l m i).length = 8 ∧ ∀ j,i + 4 ≤ j → ng (wS l m i) j = 0
  | 0,_=>⟨rfl,fun j hj=>by
    show ((List.replicate 8 0)[j]?).getD 0 = 0;rw [List.getElem?_replicate];split <;> rfl⟩
  | i + 1,h=>by
    obtain ⟨h1,h2⟩:=qbx (m:=m) hl i (by omega);obtain ⟨_,h4,h5⟩:=qaf (d:=ng m i) h1 hl (by omega) h2;exact ⟨h4,fun j hj=>h5 j (by omega)⟩
theorem qmi {w l : List Nat} {d i : Nat} (hw : ok64 w) (hl : ok64 l) (hd : d < 18446744073709551616) : ok64 (mulAt w l d i):=by
  have ht : ok64 ((w.drop i).take 4):=fun a ha=>hw a (List.mem_of_mem_drop (List.mem_of_mem_take ha));intro a ha;unfold mulAt at ha
  rcases List.mem_append.1 ha with ha | ha
  · exact hw a (List.mem_of_mem_take ha)
  rcases List.mem_append.1 ha with ha | ha
  · exact qj9 ht a ha
  rcases List.mem_cons.1 ha with rfl | ha
  · exact row_c ht hl hd 4
  · exact hw a (List.mem_of_mem_drop ha)
theorem wS_ok {l m : List Nat} (hl : ok64 l) (hm : ok64 m) : ∀ i,ok64 (wS l m i)
  | 0=>fun a ha=>by rw [(List.mem_replicate.1 ha).2];decide
  | i + 1=>qmi (wS_ok hl hm i) hl (hm.get i)
theorem qr5 {l m : List Nat} (hl : l.length = 4) (hm : m.length = 4) : num (wS l m 4) = num l * num m:=by
  have s : ∀ i,i < 4 → num (wS l m (i + 1)) = num (wS l m i) + 18446744073709551616 ^ i * (num l * ng m i):=fun i hi =>
    (qaf (qbx hl i (by omega)).1 hl hi (qbx hl i (by omega)).2).1
  have s0:=s 0 (by decide);have s1:=s 1 (by decide);have s2:=s 2 (by decide);have s3:=s 3 (by decide);rw [s3,s2,s1,s0,show num (wS l m 0) = 0 from rfl,num_g hm];simp only [Nat.mul_add,Nat.pow_zero,Nat.pow_one,show 18446744073709551616 ^ 2 = 340282366920938463463374607431768211456 from rfl,show 18446744073709551616 ^ 3 = 6277101735386680763835789423207666416102355444464034512896 from rfl]
  rw [Nat.mul_left_comm (num l) 18446744073709551616,Nat.mul_left_comm (num l) 340282366920938463463374607431768211456,Nat.mul_left_comm (num l) 6277101735386680763835789423207666416102355444464034512896];omega
def foldS (w : List Nat) : List Nat × Nat:=rowS (w.take 4) (w.drop 4) 38
theorem qgk {w : List Nat} (h : w.length = 8) : (num (foldS w).1 + 38 * (foldS w).2) % Pm = num w % Pm:=by
  obtain ⟨a,b,c,e,f,g,k,j,rfl⟩:=num8 h;have:=qdx (to:=[a,b,c,e]) (l:=[f,g,k,j]) (d:=38) rfl rfl;show (num (rowS [a,b,c,e] [f,g,k,j] 38).1 + 38 * (rowS [a,b,c,e] [f,g,k,j] 38).2) % Pm = _;generalize rowS [a,b,c,e] [f,g,k,j] 38 = q at this ⊢;obtain ⟨q1,q2⟩:=q;dsimp only at this ⊢;generalize num q1 = y at this ⊢;rw [← q4g (y + 38 * q2) (2 * q2 + 2 * num [f,g,k,j])];congr 1;simp only [num] at *;unfold Pm;omega
theorem qn3 {w : List Nat} (h : w.length = 8) (hw : ok64 w) : (foldS w).2 ≤ 144115188075855872:=by
  obtain ⟨a,b,c,e,f,g,k,j,rfl⟩:=num8 h;have:=qdx (to:=[a,b,c,e]) (l:=[f,g,k,j]) (d:=38) rfl rfl;have n1:=q5e (l:=[a,b,c,e]) rfl (fun x hx=>hw x (by simp at hx ⊢;omega));have n2:=q5e (l:=[f,g,k,j]) rfl (fun x hx=>hw x (by simp at hx ⊢;omega));show (rowS [a,b,c,e] [f,g,k,j] 38).2 ≤ _;omega
end
section
def le : List UInt8 → Nat
  | []=>0
  | c :: r=>c.toNat + 256 * le r
def leB : Nat → Nat → List UInt8
  | _,0=>[]
  | n,k + 1=>UInt8.ofNat (n % 256) :: leB (n / 256) k
theorem lbl : ∀ (k n : Nat),(leB n k).length = k
  | 0,_=>rfl
  | k + 1,n=>by show (leB (n / 256) k).length + 1 = k + 1;rw [lbl k]
theorem le_lt : ∀ l : List UInt8,le l < 256 ^ l.length
  | []=>by decide
  | c :: r=>by
    have h:=le_lt r;have hc:=c.toNat_lt;show c.toNat + 256 * le r < 256 ^ (r.length + 1);rw [Nat.pow_succ];omega
theorem qgp : ∀ (k n : Nat),n < 256 ^ k → le (leB n k) = n
  | 0,n,h=>by simp at h;subst h;rfl
  | k + 1,n,h=>by
    rw [Nat.pow_succ] at h;show (UInt8.ofNat (n % 256)).toNat + 256 * le (leB (n / 256) k) = n;rw [qgp k (n / 256) (by omega)];have : (UInt8.ofNat (n % 256)).toNat = n % 256:=by simp
    rw [this];omega
theorem qjg : ∀ l : List UInt8,leB (le l) l.length = l
  | []=>rfl
  | c :: r=>by
    have hc:=c.toNat_lt;show UInt8.ofNat ((c.toNat + 256 * le r) % 256) :: leB ((c.toNat + 256 * le r) / 256) r.length = c :: r;have e1 : (c.toNat + 256 * le r) % 256 = c.toNat:=by omega
    have e2 : (c.toNat + 256 * le r) / 256 = le r:=by omega
    rw [e1,e2,qjg r];congr 1
    simp
theorem q4u : ∀ (a b : List UInt8),le (a ++ b) = le a + 256 ^ a.length * le b
  | [],b=>by simp [le]
  | x :: r,b=>by
    show x.toNat + 256 * le (r ++ b) = x.toNat + 256 * le r + 256 ^ (r.length + 1) * le b;rw [q4u r b,Nat.mul_add,Nat.pow_succ,Nat.mul_assoc (256 ^ r.length),Nat.mul_left_comm (256 ^ r.length) 256];omega
theorem qen : ∀ (k n j : Nat),j < k → (leB n k)[j]? = some (UInt8.ofNat (n / 256 ^ j % 256))
  | 0,_,_,h=>absurd h (by omega)
  | k + 1,n,0,_=>by simp [leB]
  | k + 1,n,j + 1,h=>by
    show (leB (n / 256) k)[j]? = _;rw [qen k (n / 256) j (by omega),Nat.div_div_eq_div_mul,Nat.pow_succ,Nat.mul_comm]
def ofS (a : List UInt8) : List Nat:=[le (a.take 8),le ((a.drop 8).take 8),le ((a.drop 16).take 8),le ((a.drop 24).take 8)]
theorem qmo {a : List UInt8} (h : a.length = 32) : num (ofS a) = le a:=by
  have e : a = a.take 8 ++ ((a.drop 8).take 8 ++ ((a.drop 16).take 8 ++ (a.drop 24).take 8)):=by
    have e3 : (a.drop 24).take 8 = a.drop 24:=List.take_of_length_le (by rw [List.length_drop];omega);rw [e3,show a.drop 24 = (a.drop 16).drop 8 by rw [List.drop_drop],List.take_append_drop,show a.drop 16 = (a.drop 8).drop 8 by rw [List.drop_drop],List.take_append_drop,List.take_append_drop]
  (conv=>rhs;rw [e]);have l1 : (a.take 8).length = 8:=by rw [List.length_take];omega
  have l2 : ((a.drop 8).take 8).length = 8:=by rw [List.length_take,List.length_drop];omega
  have l3 : ((a.drop 16).take 8).length = 8:=by rw [List.length_take,List.length_drop];omega
  rw [q4u,q4u,q4u,l1,l2,l3];show _ + 18446744073709551616 * (_ + 18446744073709551616 * (_ + 18446744073709551616 * (_ + 18446744073709551616 * 0))) = _;rw [show 256 ^ 8 = 18446744073709551616 from rfl];omega
theorem of_ok {a : List UInt8} (h : a.length = 32) : ok64 (ofS a):=by
  have : ∀ l : List UInt8,l.length ≤ 8 → le l < 18446744073709551616:=fun l hl=>Nat.lt_of_lt_of_le (le_lt l) (by rw [show (18446744073709551616 : Nat) = 256 ^ 8 from rfl];exact Nat.pow_le_pow_right (by decide) hl);intro x hx;simp only [ofS,List.mem_cons,List.not_mem_nil,or_false] at hx
  rcases hx with rfl | rfl | rfl | rfl <;> exact this _ (by rw [List.length_take];omega)
def pl : List Nat:=[18446744073709551597,18446744073709551615,18446744073709551615,9223372036854775807]
theorem pl_ok : ok64 pl:=by intro a ha;simp [pl] at ha;omega
theorem qqh : num pl = Pm:=by unfold Pm;rfl
def lessS (l : List Nat) : List Nat × Nat:=chn (difD (ng l) (ng pl)) (difK (ng l) (ng pl)) [0,0,0,0] 0 4
theorem qfh {l : List Nat} (h : l.length = 4) (hl : ok64 l) : num (lessS l).1 + Pm = num l + 115792089237316195423570985008687907853269984665640564039457584007913129639936 * (lessS l).2 ∧ (lessS l).2 ≤ 1:=by
  have:=dif4 (f:=ng l) (g:=ng pl) (l:=[0,0,0,0]) (c:=0) rfl (by decide) hl.get pl_ok.get;rw [← qqh,num_g h,num_g (l:=pl) rfl];exact ⟨by unfold lessS;omega,this.2⟩
theorem q7w (l : List Nat) : (lessS l).1.length = 4:=(q2e 4).trans rfl
theorem qbc (l : List Nat) : ok64 (lessS l).1:=q9j (by intro a ha;simp at ha;omega) (qep _ _) 4
def canS (l : List Nat) : Nat → List Nat
  | 0=>l
  | k + 1=>(lessS (canS l k)).1
theorem qfe {l : List Nat} (h : l.length = 4) : ∀ k,(canS l k).length = 4
  | 0=>h
  | k + 1=>q7w _
theorem qji {l : List Nat} (h : ok64 l) : ∀ k,ok64 (canS l k)
  | 0=>h
  | k + 1=>qbc _
theorem qg8 {l : List Nat} (h : l.length = 4) (hl : ok64 l) (hb : (lessS l).2 = 0) : num (lessS l).1 + Pm = num l:=by
  have:=(qfh h hl).1;rw [hb] at this;omega
theorem qoy {l : List Nat} (h : l.length = 4) (hl : ok64 l) (hb : (lessS l).2 ≠ 0) : num l < Pm:=by
  have h1:=qfh h hl;have h2:=q5e (q7w l) (qbc l);have : (lessS l).2 = 1:=by omega
  rw [this] at h1;omega
theorem qoc {l : List Nat} (h : l.length = 4) (hl : ok64 l) (h0 : (lessS l).2 = 0) (h1 : (lessS (lessS l).1).2 = 0) : (lessS (lessS (lessS l).1).1).2 ≠ 0:=by
  intro h2;have e0:=qg8 h hl h0;have e1:=qg8 (q7w l) (qbc l) h1;have e2:=qg8 (q7w _) (qbc _) h2;have:=q5e h hl;unfold Pm at *;omega
end
section
theorem q2k : 0 < Pm:=by unfold Pm;decide
def fa (x y : Nat) : Nat:=(x + y) % Pm
def fs (x y : Nat) : Nat:=(x + Pm - y) % Pm
def fm (x y : Nat) : Nat:=x * y % Pm
def val (l : List Nat) : Nat:=num l % Pm
theorem qn7 {a b c : Nat} (h : c % Pm = (a + b) % Pm) : c % Pm = fa (a % Pm) (b % Pm):=by
  unfold fa;rw [h,Nat.add_mod]
theorem qkf {a b c : Nat} (h : c % Pm = a * b % Pm) : c % Pm = fm (a % Pm) (b % Pm):=by
  unfold fm;rw [h,Nat.mul_mod]
theorem fs_eq {r m l : Nat} (hr : r < Pm) (hm : m < Pm) (hl : l < Pm) (h : (r + m) % Pm = l) : r = fs l m:=by
  unfold fs;unfold Pm at *;omega
theorem qnn {a b c : Nat} (h : (c + b) % Pm = a % Pm) : c % Pm = fs (a % Pm) (b % Pm) :=
  fs_eq (Nat.mod_lt _ q2k) (Nat.mod_lt _ q2k) (Nat.mod_lt _ q2k) (by rw [← Nat.add_mod];exact h)
def pwm (v e : Nat) : Nat:=v ^ e % Pm
theorem qjx (v : Nat) : pwm v 1 = v % Pm:=by unfold pwm;rw [Nat.pow_one]
theorem qlf (v : Nat) : pwm v 0 = 1:=by unfold pwm;rw [Nat.pow_zero];unfold Pm;rfl
theorem qaw (v e f : Nat) : fm (pwm v e) (pwm v f) = pwm v (e + f):=by
  unfold fm pwm;rw [← Nat.mul_mod,Nat.pow_add]
attribute [irreducible] pwm
def invE : Nat:=57896044618658097711785492504343953926634992332820282019728792003956564819947
def finv (v : Nat) : Nat:=pwm v invE
def expB : Nat → Nat
  | 0=>0
  | j + 1=>2 * expB j + (if 254 - j = 2 ∨ 254 - j = 4 then 0 else 1)
theorem qky : expB 255 = invE:=by decide +kernel
def powL (v : Nat) : Nat → Nat
  | 0=>1
  | j + 1=>if 254 - j = 2 ∨ 254 - j = 4 then fm (powL v j) (powL v j) else fm (fm (powL v j) (powL v j)) v
theorem qka {v : Nat} (hv : v < Pm) : ∀ j,powL v j = pwm v (expB j)
  | 0=>by rw [show expB 0 = 0 from rfl,qlf];rfl
  | j + 1=>by
    have h1 : v = pwm v 1:=by rw [qjx,Nat.mod_eq_of_lt hv]
    show (if 254 - j = 2 ∨ 254 - j = 4 then fm (powL v j) (powL v j) else fm (fm (powL v j) (powL v j)) v) = pwm v (2 * expB j + _);rw [qka hv j]
    by_cases h : 254 - j = 2 ∨ 254 - j = 4
    · rw [if_pos h,if_pos h,qaw];congr 1;omega
    · rw [if_neg h,if_neg h,qaw];refine (congrArg (fm (pwm v (expB j + expB j))) h1).trans ((qaw v _ 1).trans ?_);congr 1;omega
theorem qb3 {v : Nat} (hv : v < Pm) : finv v = powL v 255:=by
  rw [qka hv,qky];rfl
structure Pt where
  x : Nat
  z : Nat
def dbl (p : Pt) : Pt :=
  let a:=fa p.x p.z;let b:=fs p.x p.z;let aa:=fm a a;let bb:=fm b b;let e:=fs aa bb
  ⟨fm aa bb,fm e (fa aa (fm 121665 e))⟩
def sm (x1 : Nat) (p q : Pt) : Pt :=
  let da:=fm (fs q.x q.z) (fa p.x p.z);let cb:=fm (fa q.x q.z) (fs p.x p.z);let s:=fa da cb;let t:=fs da cb
  ⟨fm s s,fm x1 (fm t t)⟩
def bitS (k : List UInt8) (i : Nat) : Nat:=gd k (i / 8) / 2 ^ (i % 8) % 2
def ladS (x1 : Nat) (k : List UInt8) : Nat → Pt × Pt
  | 0=>(⟨1,0⟩,⟨x1,1⟩)
  | j + 1=>let s:=ladS x1 k j;if bitS k (254 - j) = 1 then (sm x1 s.2 s.1,dbl s.2) else (dbl s.1,sm x1 s.1 s.2)
def q0e (k u : List UInt8) : List UInt8:=let p:=(ladS (le u % Pm) k 255).1;leB (fm p.x (powL p.z 255)) 32
def q18 (k : List UInt8) : List UInt8:=(k.set 0 (UInt8.ofNat (gd k 0 / 8 * 8))).set 31 (UInt8.ofNat (gd k 31 % 64 + 64))
def q06 (u : List UInt8) : List UInt8:=leB (le (u.set 31 (UInt8.ofNat (gd u 31 % 128))) % Pm) 32
def zk : List UInt8:=List.replicate 32 0
def q00 (k u : List UInt8) : List UInt8 × Int:=let r:=q0e (q18 k) (q06 u);if r = zk then (zk,7) else (r,0)
def nineS : List UInt8:=9 :: List.replicate 31 0
def q05 (k : List UInt8) : List UInt8:=q0e (q18 k) nineS
def q2i : List (List UInt8) → List UInt8 → List UInt8 × Int
  | [],r=>(r,0)
  | k :: l,r=>if (q00 k r).2 = 0 then q2i l (q00 k r).1 else (zk,(q00 k r).2)
def q02 (u : List UInt8) (l : List (List UInt8)) : List UInt8 × Int :=
  if l.length > 8 then (zk,3) else if q06 u = zk then (zk,7) else q2i l (q06 u)
end
end Go.Proofs.YtfehjfoajlfhfaaGreatDoor
