import Derived.Test.YtckkhagclfmmdaaDoorWc
import Derived.Test.YtckkhagclfmmdaaDoorQa
/- Rows of 64-bit numbers; the number that they make, the lowest first. -/
namespace Go.Proofs.YtckkhagclfmmdaaDoor
open Go.Sx
set_option maxRecDepth 100000
set_option linter.unusedSimpArgs false
set_option linter.unusedVariables false
abbrev n64s (l : List Nat) : List Value:=l.map fun (n : Nat)=>Value.int .u64 (n : Int)
theorem qca (l : List Nat) : (n64s l).length = l.length:=List.length_map ..
theorem qho (l : List Nat) : ∀ v ∈ n64s l,v.oneCell' = true:=by
  intro v hv;obtain ⟨n,_,rfl⟩:=List.mem_map.1 hv;rfl
def ng (l : List Nat) (k : Nat) : Nat:=l[k]?.getD 0
theorem ng_eq {l : List Nat} {k : Nat} (h : k < l.length) : ng l k = l[k]:=by simp [ng,h]
theorem qhj {l : List Nat} {k : Nat} (h : k < l.length) : (n64s l)[k]? = some (.int .u64 (ng l k : Int)):=by simp [n64s,h,ng]
theorem nmk {n : Nat} {l : List Nat} (h : l.length = n) : ∀ B,Seg.ok B (.many n (n64s l)):=fun _=>⟨by rw [qca,h],qho l⟩
theorem q0a {B : Names} {l : List Nat} {j : Nat} {f : SC → Prop} (k : Nat) (hj : j = k) (hk : k < l.length) (h : f (.int .u64 (ng l k : Int))) : Elem B (n64s l) j f :=
  ⟨⟨.int .u64 (ng l k : Int),by subst hj;rw [qhj hk];rfl,trivial,h⟩⟩
theorem q0l {l : List Nat} {k n : Nat} (hk : k < l.length) : (n64s l).take k ++ ([Value.int .u64 (n : Int)] ++ (n64s l).drop (k + 1)) = n64s (l.set k n):=by
  show _ = (l.set k n).map _;rw [List.map_set,List.set_eq_take_append_cons_drop,if_pos (by simpa using hk)];rfl
def num : List Nat → Nat
  | []=>0
  | a :: r=>a + 18446744073709551616 * num r
def ok64 (l : List Nat) : Prop:=∀ a ∈ l,a < 18446744073709551616
theorem ok64.get {l : List Nat} (h : ok64 l) (k : Nat) : ng l k < 18446744073709551616:=by
  unfold ng
  cases e : l[k]? with
  | none=>decide
  | some a=>exact h a (List.mem_of_getElem? e)
theorem ok64.set {l : List Nat} (h : ok64 l) {k n : Nat} (hn : n < 18446744073709551616) : ok64 (l.set k n):=by
  intro a ha
  rcases List.mem_or_eq_of_mem_set ha with ha | rfl
  · exact h a ha
  · exact hn
theorem num4 {l : List Nat} (h : l.length = 4) : ∃ a b c d,l = [a,b,c,d]:=by
  match l,h with
  | [a,b,c,d],_=>exact ⟨a,b,c,d,rfl⟩
theorem num8 {l : List Nat} (h : l.length = 8) : ∃ a b c d e f g k,l = [a,b,c,d,e,f,g,k]:=by
  match l,h with
  | [a,b,c,d,e,f,g,k],_=>exact ⟨a,b,c,d,e,f,g,k,rfl⟩
end Go.Proofs.YtckkhagclfmmdaaDoor

namespace Go.Proofs.YtckkhagclfmmdaaDoor
open Go.Sx
set_option maxRecDepth 100000
set_option linter.unusedSimpArgs false
set_option linter.unusedVariables false
def Pm : Nat:=57896044618658097711785492504343953926634992332820282019728792003956564819949
def chn (d k : Nat → Nat → Nat) (l : List Nat) (c : Nat) : Nat → List Nat × Nat
  | 0=>(l,c)
  | i + 1=>((chn d k l c i).1.set i (d i (chn d k l c i).2),k i (chn d k l c i).2)
theorem q1q {d k : Nat → Nat → Nat} {l : List Nat} {c : Nat} : ∀ i,(chn d k l c i).1.length = l.length
  | 0=>rfl
  | i + 1=>by show (List.set _ _ _).length = _;rw [List.length_set,q1q i]
theorem q3b {d k : Nat → Nat → Nat} {l : List Nat} {c : Nat} : ∀ {i j : Nat},i ≤ j → ng (chn d k l c i).1 j = ng l j
  | 0,_,_=>rfl
  | i + 1,j,h=>by
    have:=q3b (d:=d) (k:=k) (l:=l) (c:=c) (i:=i) (j:=j) (by omega);show ng (List.set _ _ _) j = _;unfold ng at *;rw [List.getElem?_set_ne (by omega)];exact this
theorem q7s {d k : Nat → Nat → Nat} {l : List Nat} {c : Nat} (hl : ok64 l) (hd : ∀ i c,d i c < 18446744073709551616) : ∀ i,ok64 (chn d k l c i).1
  | 0=>hl
  | i + 1=>(q7s hl hd i).set (hd _ _)
def sumD (g : Nat → Nat) (i c : Nat) : Nat:=(g i + c) % 18446744073709551616
def sumK (g : Nat → Nat) (i c : Nat) : Nat:=(g i + c) / 18446744073709551616
theorem sum4 {g : Nat → Nat} {l : List Nat} {c : Nat} (h : l.length = 4) :
    num (chn (sumD g) (sumK g) l c 4).1 + 115792089237316195423570985008687907853269984665640564039457584007913129639936 * (chn (sumD g) (sumK g) l c 4).2 =
      g 0 + 18446744073709551616 * g 1 + 340282366920938463463374607431768211456 * g 2 + 6277101735386680763835789423207666416102355444464034512896 * g 3 + c:=by
  obtain ⟨a,b,x,y,rfl⟩:=num4 h;simp only [chn,List.set_cons_zero,List.set_cons_succ,num,sumD,sumK];omega
def difD (f g : Nat → Nat) (i c : Nat) : Nat:=(f i + 18446744073709551616 - g i - c) % 18446744073709551616
def difK (f g : Nat → Nat) (i c : Nat) : Nat:=if f i < g i + c then 1 else 0
theorem dif1 {f g : Nat → Nat} (hf : ∀ i,f i < 18446744073709551616) (hg : ∀ i,g i < 18446744073709551616) (i c : Nat) (hc : c ≤ 1) : difK f g i c ≤ 1 ∧ difD f g i c + g i + c = f i + 18446744073709551616 * difK f g i c:=by
  have:=hf i;have:=hg i;unfold difK difD
  split <;> omega
theorem dif4 {f g : Nat → Nat} {l : List Nat} {c : Nat} (h : l.length = 4) (hc : c ≤ 1) (hf : ∀ i,f i < 18446744073709551616) (hg : ∀ i,g i < 18446744073709551616) :
    num (chn (difD f g) (difK f g) l c 4).1 + (g 0 + 18446744073709551616 * g 1 + 340282366920938463463374607431768211456 * g 2 + 6277101735386680763835789423207666416102355444464034512896 * g 3) + c =
      (f 0 + 18446744073709551616 * f 1 + 340282366920938463463374607431768211456 * f 2 + 6277101735386680763835789423207666416102355444464034512896 * f 3) + 115792089237316195423570985008687907853269984665640564039457584007913129639936 * (chn (difD f g) (difK f g) l c 4).2
    ∧ (chn (difD f g) (difK f g) l c 4).2 ≤ 1:=by
  obtain ⟨a,b,x,y,rfl⟩:=num4 h;obtain ⟨k10,k1⟩:=dif1 hf hg 0 c hc;obtain ⟨k20,k2⟩:=dif1 hf hg 1 _ k10;obtain ⟨k30,k3⟩:=dif1 hf hg 2 _ k20;obtain ⟨k40,k4⟩:=dif1 hf hg 3 _ k30;simp only [chn,List.set_cons_zero,List.set_cons_succ,num];omega
theorem num_g {l : List Nat} (h : l.length = 4) : num l = ng l 0 + 18446744073709551616 * ng l 1 + 340282366920938463463374607431768211456 * ng l 2 + 6277101735386680763835789423207666416102355444464034512896 * ng l 3:=by
  obtain ⟨a,b,x,y,rfl⟩:=num4 h;simp only [num,ng,List.getElem?_cons_zero,List.getElem?_cons_succ,Option.getD_some];omega
theorem q4d {l : List Nat} (h : l.length = 4) (hl : ok64 l) : num l < 115792089237316195423570985008687907853269984665640564039457584007913129639936:=by
  have h0:=hl.get 0;have h1:=hl.get 1;have h2:=hl.get 2;have h3:=hl.get 3;rw [num_g h];omega
attribute [irreducible] Pm
end Go.Proofs.YtckkhagclfmmdaaDoor

namespace Go.Proofs.YtckkhagclfmmdaaDoor
open Go.Sx
set_option maxRecDepth 100000
set_option linter.unusedSimpArgs false
set_option linter.unusedVariables false
theorem q43 (x k : Nat) : (x + Pm * k) % Pm = x % Pm:=Nat.add_mul_mod_self_left _ _ _
theorem qc6 (g : Nat → Nat) (i c : Nat) : sumD g i c < 18446744073709551616:=Nat.mod_lt _ (by decide)
theorem qbp (f g : Nat → Nat) (i c : Nat) : difD f g i c < 18446744073709551616:=Nat.mod_lt _ (by decide)
def plusG (l : List Nat) (n i : Nat) : Nat:=if i = 0 then ng l 0 + n else ng l i
def plusS (l : List Nat) (n : Nat) : List Nat × Nat:=chn (sumD (plusG l n)) (sumK (plusG l n)) l 0 4
theorem q9d {l : List Nat} (h : l.length = 4) (n : Nat) : num (plusS l n).1 + 115792089237316195423570985008687907853269984665640564039457584007913129639936 * (plusS l n).2 = num l + n:=by
  have:=sum4 (g:=plusG l n) (l:=l) (c:=0) h;rw [num_g h];unfold plusS;rw [this];rw [show plusG l n 0 = ng l 0 + n from rfl,show plusG l n 1 = ng l 1 from rfl,show plusG l n 2 = ng l 2 from rfl,show plusG l n 3 = ng l 3 from rfl];omega
theorem qi8 {l : List Nat} (h : l.length = 4) (n : Nat) : (plusS l n).1.length = 4:=(q1q 4).trans h
theorem ql2 {l : List Nat} (h : ok64 l) (n : Nat) : ok64 (plusS l n).1:=q7s h (qc6 _) 4
def itS (l : List Nat) (o : Nat) : Nat → List Nat × Nat
  | 0=>(l,o)
  | k + 1=>plusS (itS l o k).1 ((itS l o k).2 * 38)
theorem q8h {l : List Nat} (h : l.length = 4) (o : Nat) : ∀ k,(itS l o k).1.length = 4
  | 0=>h
  | k + 1=>qi8 (q8h h o k) _
theorem it_ok {l : List Nat} (h : ok64 l) (o : Nat) : ∀ k,ok64 (itS l o k).1
  | 0=>h
  | k + 1=>ql2 (it_ok h o k) _
theorem qim {l : List Nat} (h : l.length = 4) (o : Nat) : ∀ k,(num (itS l o k).1 + 38 * (itS l o k).2) % Pm = (num l + 38 * o) % Pm
  | 0=>rfl
  | k + 1=>by
    rw [← qim h o k];have:=q9d (q8h h o k) ((itS l o k).2 * 38);show (num (plusS _ _).1 + 38 * (plusS _ _).2) % Pm = _;rw [← q43 (num (plusS (itS l o k).1 ((itS l o k).2 * 38)).1 + 38 * (plusS (itS l o k).1 ((itS l o k).2 * 38)).2) (2 * (plusS (itS l o k).1 ((itS l o k).2 * 38)).2)];congr 1;unfold Pm;omega
theorem qls {l : List Nat} (h : l.length = 4) (hl : ok64 l) {o : Nat} (ho : o ≤ 144115188075855872) : (itS l o 1).2 ≤ 1 ∧ (itS l o 2).2 = 0:=by
  have n0:=q4d h hl;have n1:=q4d (q8h h o 1) (it_ok hl o 1);have n2:=q4d (q8h h o 2) (it_ok hl o 2);have e1 : num (itS l o 1).1 + 115792089237316195423570985008687907853269984665640564039457584007913129639936 * (itS l o 1).2 = num l + o * 38:=q9d h (o * 38);have e2 : num (itS l o 2).1 + 115792089237316195423570985008687907853269984665640564039457584007913129639936 * (itS l o 2).2 = num (itS l o 1).1 + (itS l o 1).2 * 38:=q9d (q8h h o 1) _;omega
def addG (l m : List Nat) (i : Nat) : Nat:=ng l i + ng m i
def addS (l m : List Nat) : List Nat × Nat:=chn (sumD (addG l m)) (sumK (addG l m)) l 0 4
theorem qk8 {l m : List Nat} (h : l.length = 4) (h' : m.length = 4) : num (addS l m).1 + 115792089237316195423570985008687907853269984665640564039457584007913129639936 * (addS l m).2 = num l + num m:=by
  have:=sum4 (g:=addG l m) (l:=l) (c:=0) h;rw [num_g h,num_g h'];unfold addS;rw [this];unfold addG;omega
theorem add_mod {l m : List Nat} (h : l.length = 4) (h' : m.length = 4) : (num (addS l m).1 + 38 * (addS l m).2) % Pm = (num l + num m) % Pm:=by
  have:=qk8 h h';rw [← q43 _ (2 * (addS l m).2)];congr 1;unfold Pm;omega
def subS (l m : List Nat) : List Nat × Nat:=chn (difD (ng l) (ng m)) (difK (ng l) (ng m)) l 0 4
def low38 (i : Nat) : Nat:=if i = 0 then 38 else 0
def sub38 (l : List Nat) : List Nat × Nat:=chn (difD (ng l) low38) (difK (ng l) low38) l 0 4
theorem qi7 (i : Nat) : low38 i < 18446744073709551616:=by unfold low38;split <;> decide
theorem qek {l m : List Nat} (h : l.length = 4) (h' : m.length = 4) (hl : ok64 l) (hm : ok64 m) : num (subS l m).1 + num m = num l + 115792089237316195423570985008687907853269984665640564039457584007913129639936 * (subS l m).2 ∧ (subS l m).2 ≤ 1:=by
  have:=dif4 (f:=ng l) (g:=ng m) (l:=l) (c:=0) h (by decide) hl.get hm.get;rw [num_g h,num_g h'];exact ⟨by unfold subS;omega,this.2⟩
theorem q7u {l : List Nat} (h : l.length = 4) (hl : ok64 l) : num (sub38 l).1 + 38 = num l + 115792089237316195423570985008687907853269984665640564039457584007913129639936 * (sub38 l).2 ∧ (sub38 l).2 ≤ 1:=by
  have:=dif4 (f:=ng l) (g:=low38) (l:=l) (c:=0) h (by decide) hl.get qi7;have e0 : low38 0 = 38:=rfl;have e1 : low38 1 = 0:=rfl;have e2 : low38 2 = 0:=rfl;have e3 : low38 3 = 0:=rfl;rw [e0,e1,e2,e3] at this;rw [num_g h];exact ⟨by unfold sub38;omega,this.2⟩
def itD (l m : List Nat) : Nat → List Nat × Nat
  | 0=>subS l m
  | k + 1=>sub38 (itD l m k).1
theorem q3u {l m : List Nat} (h : l.length = 4) : ∀ k,(itD l m k).1.length = 4
  | 0=>(q1q 4).trans h
  | k + 1=>(q1q 4).trans (q3u h k)
theorem q64 {l m : List Nat} (hl : ok64 l) : ∀ k,ok64 (itD l m k).1
  | 0=>q7s hl (qbp _ _) 4
  | k + 1=>q7s (q64 hl k) (qbp _ _) 4
theorem qe2 {a b : Nat} (h : (a + 38) % Pm = (b + 38) % Pm) : a % Pm = b % Pm:=by
  unfold Pm at *;omega
theorem qft {l m : List Nat} (h : l.length = 4) (h' : m.length = 4) (hl : ok64 l) (hm : ok64 m) : ∀ k,(∀ j,j < k → (itD l m j).2 = 1) → (num (itD l m k).1 + num m) % Pm = (num l + 38 * (itD l m k).2) % Pm
  | 0,_=>by
    have:=(qek h h' hl hm).1;show (num (subS l m).1 + num m) % Pm = (num l + 38 * (subS l m).2) % Pm;rw [← q43 (num l + 38 * (subS l m).2) (2 * (subS l m).2)];congr 1;unfold Pm;omega
  | k + 1,hb=>by
    have ih:=qft h h' hl hm k fun j hj=>hb j (by omega);have hk:=hb k (by omega);have e:=(q7u (q3u (m:=m) h k) (q64 hl k)).1;rw [hk] at ih;show (num (sub38 (itD l m k).1).1 + num m) % Pm = (num l + 38 * (sub38 (itD l m k).1).2) % Pm;generalize sub38 (itD l m k).1 = q at e ⊢;generalize num (itD l m k).1 = z at ih e;obtain ⟨q1,q2⟩:=q;dsimp only at e ⊢;generalize num q1 = y at e ⊢;generalize num l = x at ih ⊢;generalize num m = u at ih ⊢;clear hb hk hl hm h h';have e2 : y + u + 38 = z + u + 38 * q2 + Pm * (2 * q2):=by unfold Pm;omega
    refine qe2 ?_;rw [e2,q43,← Nat.mod_add_mod,ih,Nat.mod_add_mod];have : x + 38 * 1 + 38 * q2 = x + 38 * q2 + 38:=by omega
    rw [this]
theorem qk4 {l m : List Nat} (h : l.length = 4) (h' : m.length = 4) (hl : ok64 l) (hm : ok64 m) : (itD l m 0).2 ≤ 1 ∧ (itD l m 1).2 ≤ 1 ∧ ((itD l m 1).2 = 1 → (itD l m 2).2 = 0):=by
  have e0:=qek h h' hl hm;have e1:=q7u (q3u (m:=m) h 0) (q64 hl 0);have e2:=q7u (q3u (m:=m) h 1) (q64 hl 1);have n0:=q4d (q3u (m:=m) h 0) (q64 hl 0);have n1:=q4d (q3u (m:=m) h 1) (q64 hl 1);have n2:=q4d (q3u (m:=m) h 2) (q64 hl 2);refine ⟨e0.2,e1.2,fun hb=>?_⟩;have e1' : num (itD l m 1).1 + 38 = num (itD l m 0).1 + 115792089237316195423570985008687907853269984665640564039457584007913129639936 * (itD l m 1).2:=e1.1
  have e2' : num (itD l m 2).1 + 38 = num (itD l m 1).1 + 115792089237316195423570985008687907853269984665640564039457584007913129639936 * (itD l m 2).2:=e2.1;omega
end Go.Proofs.YtckkhagclfmmdaaDoor

namespace Go.Proofs.YtckkhagclfmmdaaDoor
open Go.Sx
set_option maxRecDepth 100000
set_option linter.unusedSimpArgs false
set_option linter.unusedVariables false
def rowG (to l : List Nat) (d i : Nat) : Nat:=ng to i + ng l i * d
def rowS (to l : List Nat) (d : Nat) : List Nat × Nat:=chn (sumD (rowG to l d)) (sumK (rowG to l d)) to 0 4
theorem q4g {to l : List Nat} {d : Nat} (h : to.length = 4) : (rowS to l d).1.length = 4:=(q1q 4).trans h
theorem qeo {to l : List Nat} {d : Nat} (h : ok64 to) : ok64 (rowS to l d).1:=q7s h (qc6 _) 4
theorem qbz {to l : List Nat} {d : Nat} (h : to.length = 4) (h' : l.length = 4) : num (rowS to l d).1 + 115792089237316195423570985008687907853269984665640564039457584007913129639936 * (rowS to l d).2 = num to + num l * d:=by
  have:=sum4 (g:=rowG to l d) (l:=to) (c:=0) h;unfold rowS;rw [this,num_g h,num_g h'];unfold rowG;simp only [Nat.add_mul,Nat.mul_assoc];omega
theorem qlh {to l : List Nat} {d : Nat} (h : ok64 to) (h' : ok64 l) (hd : d < 18446744073709551616) (i c : Nat) (hc : c < 18446744073709551616) : rowG to l d i + c < 18446744073709551616 * 18446744073709551616:=by
  have h1:=h.get i;have h2:=h'.get i;have : ng l i * d ≤ 18446744073709551615 * 18446744073709551615:=Nat.mul_le_mul (by omega) (by omega);unfold rowG;omega
theorem row_c {to l : List Nat} {d : Nat} (h : ok64 to) (h' : ok64 l) (hd : d < 18446744073709551616) : ∀ i,(chn (sumD (rowG to l d)) (sumK (rowG to l d)) to 0 i).2 < 18446744073709551616
  | 0=>by show 0 < _;decide
  | i + 1=>by
    have:=qlh h h' hd i _ (row_c h h' hd i);exact Nat.div_lt_of_lt_mul this
theorem q58 {p t c : Nat} (hp : p ≤ 18446744073709551615 * 18446744073709551615) (ht : t < 18446744073709551616) (hc : c < 18446744073709551616) :
    ((p % 18446744073709551616 + t + 0) % 18446744073709551616 + c + 0) % 18446744073709551616 = (t + p + c) % 18446744073709551616 ∧
    p / 18446744073709551616 + (p % 18446744073709551616 + t + 0) / 18446744073709551616 < 18446744073709551616 ∧
    p / 18446744073709551616 + (p % 18446744073709551616 + t + 0) / 18446744073709551616 + ((p % 18446744073709551616 + t + 0) % 18446744073709551616 + c + 0) / 18446744073709551616 = (t + p + c) / 18446744073709551616 ∧
    (t + p + c) / 18446744073709551616 < 18446744073709551616:=by
  refine ⟨?_,?_,?_,?_⟩ <;> omega
def mulAt (w l : List Nat) (d i : Nat) : List Nat:=w.take i ++ ((rowS ((w.drop i).take 4) l d).1 ++ ((rowS ((w.drop i).take 4) l d).2 :: w.drop (i + 5)))
theorem q34 : ∀ (a b : List Nat),num (a ++ b) = num a + 18446744073709551616 ^ a.length * num b
  | [],b=>by simp [num]
  | x :: r,b=>by
    show x + 18446744073709551616 * num (r ++ b) = x + 18446744073709551616 * num r + 18446744073709551616 ^ (r.length + 1) * num b;rw [q34 r b,Nat.mul_add,Nat.pow_succ,Nat.mul_assoc (18446744073709551616 ^ r.length),Nat.mul_left_comm (18446744073709551616 ^ r.length) 18446744073709551616];omega
theorem q82 {w l : List Nat} {d i : Nat} (hw : w.length = 8) (hl : l.length = 4) (hi : i < 4) (h0 : ∀ j,i + 4 ≤ j → ng w j = 0) :
    num (mulAt w l d i) = num w + 18446744073709551616 ^ i * (num l * d) ∧ (mulAt w l d i).length = 8 ∧ ∀ j,i + 5 ≤ j → ng (mulAt w l d i) j = 0:=by
  have ht : ((w.drop i).take 4).length = 4:=by rw [List.length_take,List.length_drop];omega
  have hr:=qbz (d:=d) ht hl;have hrl:=q4g (l:=l) (d:=d) ht;have hti : (w.take i).length = i:=by rw [List.length_take];omega
  have e1 : w = w.take i ++ ((w.drop i).take 4 ++ (0 :: w.drop (i + 5))):=by
    have e2 : w.drop (i + 4) = 0 :: w.drop (i + 5):=by
      rw [List.drop_eq_getElem_cons (by omega)];congr 1;have:=h0 (i + 4) (by omega)
      rwa [ng_eq (by omega)] at this
    rw [← e2,← List.drop_drop,List.take_append_drop,List.take_append_drop]
  unfold mulAt;generalize rowS ((w.drop i).take 4) l d = q at hr hrl ⊢;obtain ⟨q1,q2⟩:=q;dsimp only at hr hrl ⊢;refine ⟨?_,?_,fun j hj=>?_⟩
  · (conv=>rhs;rw [e1]);rw [q34,q34,q34,q34,hti,hrl,ht];show num (w.take i) + 18446744073709551616 ^ i * (num q1 + 18446744073709551616 ^ 4 * (q2 + 18446744073709551616 * num (w.drop (i + 5)))) = num (w.take i) + 18446744073709551616 ^ i * (num ((w.drop i).take 4) + 18446744073709551616 ^ 4 * (0 + 18446744073709551616 * num (w.drop (i + 5)))) + 18446744073709551616 ^ i * (num l * d);generalize num (w.drop (i + 5)) = D;generalize num ((w.drop i).take 4) = T at hr ⊢;generalize num l * d = X at hr ⊢;generalize num q1 = Y at hr ⊢
    generalize num (w.take i) = U;rw [Nat.add_assoc,← Nat.mul_add]
    have : Y + 18446744073709551616 ^ 4 * (q2 + 18446744073709551616 * D) = T + 18446744073709551616 ^ 4 * (0 + 18446744073709551616 * D) + X:=by
      rw [show 18446744073709551616 ^ 4 = 115792089237316195423570985008687907853269984665640564039457584007913129639936 from rfl];omega
    rw [this]
  · simp only [List.length_append,List.length_cons,List.length_drop,hti,hrl];omega
  · have:=h0 j (by omega);unfold ng at this ⊢;rw [List.getElem?_append_right (by omega),List.getElem?_append_right (by omega),hti,hrl];obtain ⟨k,hk⟩ : ∃ k,j - i - 4 = k + 1:=⟨j - i - 5,by omega⟩;rw [hk,List.getElem?_cons_succ,List.getElem?_drop,show i + 5 + k = j by omega];exact this
def wS (l m : List Nat) : Nat → List Nat
  | 0=>List.replicate 8 0
  | i + 1=>mulAt (wS l m i) l (ng m i) i
theorem q9j {l m : List Nat} (hl : l.length = 4) : ∀ i,i ≤ 4 → (wS l m i).length = 8 ∧ ∀ j,i + 4 ≤ j → ng (wS l m i) j = 0
  | 0,_=>⟨rfl,fun j hj=>by
    show ((List.replicate 8 0)[j]?).getD 0 = 0;rw [List.getElem?_replicate];split <;> rfl⟩
  | i + 1,h=>by
    obtain ⟨h1,h2⟩:=q9j (m:=m) hl i (by omega);obtain ⟨_,h4,h5⟩:=q82 (d:=ng m i) h1 hl (by omega) h2;exact ⟨h4,fun j hj=>h5 j (by omega)⟩
theorem qhi {w l : List Nat} {d i : Nat} (hw : ok64 w) (hl : ok64 l) (hd : d < 18446744073709551616) : ok64 (mulAt w l d i):=by
  have ht : ok64 ((w.drop i).take 4):=fun a ha=>hw a (List.mem_of_mem_drop (List.mem_of_mem_take ha));intro a ha;unfold mulAt at ha
  rcases List.mem_append.1 ha with ha | ha
  · exact hw a (List.mem_of_mem_take ha)
  rcases List.mem_append.1 ha with ha | ha
  · exact qeo ht a ha
  rcases List.mem_cons.1 ha with rfl | ha
  · exact row_c ht hl hd 4
  · exact hw a (List.mem_of_mem_drop ha)
theorem wS_ok {l m : List Nat} (hl : ok64 l) (hm : ok64 m) : ∀ i,ok64 (wS l m i)
  | 0=>fun a ha=>by rw [(List.mem_replicate.1 ha).2];decide
  | i + 1=>qhi (wS_ok hl hm i) hl (hm.get i)
theorem qlu {l m : List Nat} (hl : l.length = 4) (hm : m.length = 4) : num (wS l m 4) = num l * num m:=by
  have s : ∀ i,i < 4 → num (wS l m (i + 1)) = num (wS l m i) + 18446744073709551616 ^ i * (num l * ng m i):=fun i hi =>
    (q82 (q9j hl i (by omega)).1 hl hi (q9j hl i (by omega)).2).1
  have s0:=s 0 (by decide);have s1:=s 1 (by decide);have s2:=s 2 (by decide);have s3:=s 3 (by decide);rw [s3,s2,s1,s0,show num (wS l m 0) = 0 from rfl,num_g hm];simp only [Nat.mul_add,Nat.pow_zero,Nat.pow_one,show 18446744073709551616 ^ 2 = 340282366920938463463374607431768211456 from rfl,show 18446744073709551616 ^ 3 = 6277101735386680763835789423207666416102355444464034512896 from rfl]
  rw [Nat.mul_left_comm (num l) 18446744073709551616,Nat.mul_left_comm (num l) 340282366920938463463374607431768211456,Nat.mul_left_comm (num l) 6277101735386680763835789423207666416102355444464034512896];omega
def foldS (w : List Nat) : List Nat × Nat:=rowS (w.take 4) (w.drop 4) 38
theorem qcl {w : List Nat} (h : w.length = 8) : (num (foldS w).1 + 38 * (foldS w).2) % Pm = num w % Pm:=by
  obtain ⟨a,b,c,e,f,g,k,j,rfl⟩:=num8 h;have:=qbz (to:=[a,b,c,e]) (l:=[f,g,k,j]) (d:=38) rfl rfl;show (num (rowS [a,b,c,e] [f,g,k,j] 38).1 + 38 * (rowS [a,b,c,e] [f,g,k,j] 38).2) % Pm = _;generalize rowS [a,b,c,e] [f,g,k,j] 38 = q at this ⊢;obtain ⟨q1,q2⟩:=q;dsimp only at this ⊢;generalize num q1 = y at this ⊢;rw [← q43 (y + 38 * q2) (2 * q2 + 2 * num [f,g,k,j])];congr 1;simp only [num] at *;unfold Pm;omega
theorem qii {w : List Nat} (h : w.length = 8) (hw : ok64 w) : (foldS w).2 ≤ 144115188075855872:=by
  obtain ⟨a,b,c,e,f,g,k,j,rfl⟩:=num8 h;have:=qbz (to:=[a,b,c,e]) (l:=[f,g,k,j]) (d:=38) rfl rfl;have n1:=q4d (l:=[a,b,c,e]) rfl (fun x hx=>hw x (by simp at hx ⊢;omega));have n2:=q4d (l:=[f,g,k,j]) rfl (fun x hx=>hw x (by simp at hx ⊢;omega));show (rowS [a,b,c,e] [f,g,k,j] 38).2 ≤ _;omega
end Go.Proofs.YtckkhagclfmmdaaDoor

namespace Go.Proofs.YtckkhagclfmmdaaDoor
open Go.Sx
set_option maxRecDepth 100000
set_option linter.unusedSimpArgs false
set_option linter.unusedVariables false
def le : List UInt8 → Nat
  | []=>0
  | c :: r=>c.toNat + 256 * le r
def leB : Nat → Nat → List UInt8
  | _,0=>[]
  | n,k + 1=>UInt8.ofNat (n % 256) :: leB (n / 256) k
theorem lbl : ∀ (k n : Nat),(leB n k).length = k
  | 0,_=>rfl
  | k + 1,n=>by show (leB (n / 256) k).length + 1 = k + 1;rw [lbl k]
theorem le_lt : ∀ l : List UInt8,le l < 256 ^ l.length
  | []=>by decide
  | c :: r=>by
    have h:=le_lt r;have hc:=c.toNat_lt;show c.toNat + 256 * le r < 256 ^ (r.length + 1);rw [Nat.pow_succ];omega
theorem qd8 : ∀ (k n : Nat),n < 256 ^ k → le (leB n k) = n
  | 0,n,h=>by simp at h;subst h;rfl
  | k + 1,n,h=>by
    rw [Nat.pow_succ] at h;show (UInt8.ofNat (n % 256)).toNat + 256 * le (leB (n / 256) k) = n;rw [qd8 k (n / 256) (by omega)];have : (UInt8.ofNat (n % 256)).toNat = n % 256:=by simp
    rw [this];omega
theorem qj8 : ∀ l : List UInt8,leB (le l) l.length = l
  | []=>rfl
  | c :: r=>by
    have hc:=c.toNat_lt;show UInt8.ofNat ((c.toNat + 256 * le r) % 256) :: leB ((c.toNat + 256 * le r) / 256) r.length = c :: r;have e1 : (c.toNat + 256 * le r) % 256 = c.toNat:=by omega
    have e2 : (c.toNat + 256 * le r) / 256 = le r:=by omega
    rw [e1,e2,qj8 r];congr 1
    simp
theorem q3x : ∀ (a b : List UInt8),le (a ++ b) = le a + 256 ^ a.length * le b
  | [],b=>by simp [le]
  | x :: r,b=>by
    show x.toNat + 256 * le (r ++ b) = x.toNat + 256 * le r + 256 ^ (r.length + 1) * le b;rw [q3x r b,Nat.mul_add,Nat.pow_succ,Nat.mul_assoc (256 ^ r.length),Nat.mul_left_comm (256 ^ r.length) 256];omega
theorem qb7 : ∀ (k n j : Nat),j < k → (leB n k)[j]? = some (UInt8.ofNat (n / 256 ^ j % 256))
  | 0,_,_,h=>absurd h (by omega)
  | k + 1,n,0,_=>by simp [leB]
  | k + 1,n,j + 1,h=>by
    show (leB (n / 256) k)[j]? = _;rw [qb7 k (n / 256) j (by omega),Nat.div_div_eq_div_mul,Nat.pow_succ,Nat.mul_comm]
def ofS (a : List UInt8) : List Nat:=[le (a.take 8),le ((a.drop 8).take 8),le ((a.drop 16).take 8),le ((a.drop 24).take 8)]
theorem qj9 {a : List UInt8} (h : a.length = 32) : num (ofS a) = le a:=by
  have e : a = a.take 8 ++ ((a.drop 8).take 8 ++ ((a.drop 16).take 8 ++ (a.drop 24).take 8)):=by
    have e3 : (a.drop 24).take 8 = a.drop 24:=List.take_of_length_le (by rw [List.length_drop];omega);rw [e3,show a.drop 24 = (a.drop 16).drop 8 by rw [List.drop_drop],List.take_append_drop,show a.drop 16 = (a.drop 8).drop 8 by rw [List.drop_drop],List.take_append_drop,List.take_append_drop]
  (conv=>rhs;rw [e]);have l1 : (a.take 8).length = 8:=by rw [List.length_take];omega
  have l2 : ((a.drop 8).take 8).length = 8:=by rw [List.length_take,List.length_drop];omega
  have l3 : ((a.drop 16).take 8).length = 8:=by rw [List.length_take,List.length_drop];omega
  rw [q3x,q3x,q3x,l1,l2,l3];show _ + 18446744073709551616 * (_ + 18446744073709551616 * (_ + 18446744073709551616 * (_ + 18446744073709551616 * 0))) = _;rw [show 256 ^ 8 = 18446744073709551616 from rfl];omega
theorem of_ok {a : List UInt8} (h : a.length = 32) : ok64 (ofS a):=by
  have : ∀ l : List UInt8,l.length ≤ 8 → le l < 18446744073709551616:=fun l hl=>Nat.lt_of_lt_of_le (le_lt l) (by rw [show (18446744073709551616 : Nat) = 256 ^ 8 from rfl];exact Nat.pow_le_pow_right (by decide) hl);intro x hx;simp only [ofS,List.mem_cons,List.not_mem_nil,or_false] at hx
  rcases hx with rfl | rfl | rfl | rfl <;> exact this _ (by rw [List.length_take];omega)
def pl : List Nat:=[18446744073709551597,18446744073709551615,18446744073709551615,9223372036854775807]
theorem pl_ok : ok64 pl:=by intro a ha;simp [pl] at ha;omega
theorem qld : num pl = Pm:=by unfold Pm;rfl
def lessS (l : List Nat) : List Nat × Nat:=chn (difD (ng l) (ng pl)) (difK (ng l) (ng pl)) [0,0,0,0] 0 4
theorem qco {l : List Nat} (h : l.length = 4) (hl : ok64 l) : num (lessS l).1 + Pm = num l + 115792089237316195423570985008687907853269984665640564039457584007913129639936 * (lessS l).2 ∧ (lessS l).2 ≤ 1:=by
  have:=dif4 (f:=ng l) (g:=ng pl) (l:=[0,0,0,0]) (c:=0) rfl (by decide) hl.get pl_ok.get;rw [← qld,num_g h,num_g (l:=pl) rfl];exact ⟨by unfold lessS;omega,this.2⟩
theorem q6a (l : List Nat) : (lessS l).1.length = 4:=(q1q 4).trans rfl
theorem q97 (l : List Nat) : ok64 (lessS l).1:=q7s (by intro a ha;simp at ha;omega) (qbp _ _) 4
def canS (l : List Nat) : Nat → List Nat
  | 0=>l
  | k + 1=>(lessS (canS l k)).1
theorem qdy {l : List Nat} (h : l.length = 4) : ∀ k,(canS l k).length = 4
  | 0=>h
  | k + 1=>q6a _
theorem qgt {l : List Nat} (h : ok64 l) : ∀ k,ok64 (canS l k)
  | 0=>h
  | k + 1=>q97 _
theorem qcj {l : List Nat} (h : l.length = 4) (hl : ok64 l) (hb : (lessS l).2 = 0) : num (lessS l).1 + Pm = num l:=by
  have:=(qco h hl).1;rw [hb] at this;omega
theorem qk1 {l : List Nat} (h : l.length = 4) (hl : ok64 l) (hb : (lessS l).2 ≠ 0) : num l < Pm:=by
  have h1:=qco h hl;have h2:=q4d (q6a l) (q97 l);have : (lessS l).2 = 1:=by omega
  rw [this] at h1;omega
theorem qk5 {l : List Nat} (h : l.length = 4) (hl : ok64 l) (h0 : (lessS l).2 = 0) (h1 : (lessS (lessS l).1).2 = 0) : (lessS (lessS (lessS l).1).1).2 ≠ 0:=by
  intro h2;have e0:=qcj h hl h0;have e1:=qcj (q6a l) (q97 l) h1;have e2:=qcj (q6a _) (q97 _) h2;have:=q4d h hl;unfold Pm at *;omega
end Go.Proofs.YtckkhagclfmmdaaDoor

namespace Go.Proofs.YtckkhagclfmmdaaDoor
open Go.Sx
set_option maxRecDepth 100000
set_option linter.unusedSimpArgs false
set_option linter.unusedVariables false
theorem q4c : 0 < Pm:=by unfold Pm;decide
def fa (x y : Nat) : Nat:=(x + y) % Pm
def fs (x y : Nat) : Nat:=(x + Pm - y) % Pm
def fm (x y : Nat) : Nat:=x * y % Pm
def val (l : List Nat) : Nat:=num l % Pm
theorem qle {a b c : Nat} (h : c % Pm = (a + b) % Pm) : c % Pm = fa (a % Pm) (b % Pm):=by
  unfold fa;rw [h,Nat.add_mod]
theorem qit {a b c : Nat} (h : c % Pm = a * b % Pm) : c % Pm = fm (a % Pm) (b % Pm):=by
  unfold fm;rw [h,Nat.mul_mod]
theorem fs_eq {r m l : Nat} (hr : r < Pm) (hm : m < Pm) (hl : l < Pm) (h : (r + m) % Pm = l) : r = fs l m:=by
  unfold fs;unfold Pm at *;omega
theorem qlb {a b c : Nat} (h : (c + b) % Pm = a % Pm) : c % Pm = fs (a % Pm) (b % Pm) :=
  fs_eq (Nat.mod_lt _ q4c) (Nat.mod_lt _ q4c) (Nat.mod_lt _ q4c) (by rw [← Nat.add_mod];exact h)
def pwm (v e : Nat) : Nat:=v ^ e % Pm
theorem qgr (v : Nat) : pwm v 1 = v % Pm:=by unfold pwm;rw [Nat.pow_one]
theorem qhn (v : Nat) : pwm v 0 = 1:=by unfold pwm;rw [Nat.pow_zero];unfold Pm;rfl
theorem q95 (v e f : Nat) : fm (pwm v e) (pwm v f) = pwm v (e + f):=by
  unfold fm pwm;rw [← Nat.mul_mod,Nat.pow_add]
attribute [irreducible] pwm
def invE : Nat:=57896044618658097711785492504343953926634992332820282019728792003956564819947
def finv (v : Nat) : Nat:=pwm v invE
def expB : Nat → Nat
  | 0=>0
  | j + 1=>2 * expB j + (if 254 - j = 2 ∨ 254 - j = 4 then 0 else 1)
theorem qhz : expB 255 = invE:=by decide +kernel
def powL (v : Nat) : Nat → Nat
  | 0=>1
  | j + 1=>if 254 - j = 2 ∨ 254 - j = 4 then fm (powL v j) (powL v j) else fm (fm (powL v j) (powL v j)) v
theorem qfw {v : Nat} (hv : v < Pm) : ∀ j,powL v j = pwm v (expB j)
  | 0=>by rw [show expB 0 = 0 from rfl,qhn];rfl
  | j + 1=>by
    have h1 : v = pwm v 1:=by rw [qgr,Nat.mod_eq_of_lt hv]
    show (if 254 - j = 2 ∨ 254 - j = 4 then fm (powL v j) (powL v j) else fm (fm (powL v j) (powL v j)) v) = pwm v (2 * expB j + _);rw [qfw hv j]
    by_cases h : 254 - j = 2 ∨ 254 - j = 4
    · rw [if_pos h,if_pos h,q95];congr 1;omega
    · rw [if_neg h,if_neg h,q95];refine (congrArg (fm (pwm v (expB j + expB j))) h1).trans ((q95 v _ 1).trans ?_);congr 1;omega
theorem qd5 {v : Nat} (hv : v < Pm) : finv v = powL v 255:=by
  rw [qfw hv,qhz];rfl
structure Pt where
  x : Nat
  z : Nat
def dbl (p : Pt) : Pt :=
  let a:=fa p.x p.z;let b:=fs p.x p.z;let aa:=fm a a;let bb:=fm b b;let e:=fs aa bb
  ⟨fm aa bb,fm e (fa aa (fm 121665 e))⟩
def sm (x1 : Nat) (p q : Pt) : Pt :=
  let da:=fm (fs q.x q.z) (fa p.x p.z);let cb:=fm (fa q.x q.z) (fs p.x p.z);let s:=fa da cb;let t:=fs da cb
  ⟨fm s s,fm x1 (fm t t)⟩
def bitS (k : List UInt8) (i : Nat) : Nat:=gd k (i / 8) / 2 ^ (i % 8) % 2
def ladS (x1 : Nat) (k : List UInt8) : Nat → Pt × Pt
  | 0=>(⟨1,0⟩,⟨x1,1⟩)
  | j + 1=>let s:=ladS x1 k j;if bitS k (254 - j) = 1 then (sm x1 s.2 s.1,dbl s.2) else (dbl s.1,sm x1 s.1 s.2)
def q0v (k u : List UInt8) : List UInt8:=let p:=(ladS (le u % Pm) k 255).1;leB (fm p.x (powL p.z 255)) 32
def q03 (k : List UInt8) : List UInt8:=(k.set 0 (UInt8.ofNat (gd k 0 / 8 * 8))).set 31 (UInt8.ofNat (gd k 31 % 64 + 64))
def q0c (u : List UInt8) : List UInt8:=leB (le (u.set 31 (UInt8.ofNat (gd u 31 % 128))) % Pm) 32
def zk : List UInt8:=List.replicate 32 0
def q00 (k u : List UInt8) : List UInt8 × Int:=let r:=q0v (q03 k) (q0c u);if r = zk then (zk,7) else (r,0)
def nineS : List UInt8:=9 :: List.replicate 31 0
def q01 (k : List UInt8) : List UInt8:=q0v (q03 k) nineS
def q1r : List (List UInt8) → List UInt8 → List UInt8 × Int
  | [],r=>(r,0)
  | k :: l,r=>if (q00 k r).2 = 0 then q1r l (q00 k r).1 else (zk,(q00 k r).2)
def q05 (u : List UInt8) (l : List (List UInt8)) : List UInt8 × Int :=
  if l.length > 8 then (zk,3) else if q0c u = zk then (zk,7) else q1r l (q0c u)
end Go.Proofs.YtckkhagclfmmdaaDoor

namespace Go.Proofs.YtckkhagclfmmdaaDoor.Gr
open Go.Sx
set_option maxRecDepth 100000
set_option linter.unusedSimpArgs false
set_option linter.unusedVariables false
instance : NeZero Pm:=⟨by unfold Pm;decide⟩
def cf (x : Nat) : Fin Pm:=Fin.ofNat Pm x
theorem q2x (x : Nat) : (cf x).val = x % Pm:=rfl
theorem qg1 {x y : Nat} (hx : x < Pm) (hy : y < Pm) (h : cf x = cf y) : x = y:=by
  have:=congrArg Fin.val h
  rwa [q2x,q2x,Nat.mod_eq_of_lt hx,Nat.mod_eq_of_lt hy] at this
theorem q5b (x y : Nat) : cf (fa x y) = cf x + cf y:=by
  refine Fin.ext ?_;rw [Fin.val_add,q2x,q2x,q2x];unfold fa;rw [Nat.mod_mod,← Nat.add_mod]
theorem q2j (x y : Nat) : cf (fm x y) = cf x * cf y:=by
  refine Fin.ext ?_;rw [Fin.val_mul,q2x,q2x,q2x];unfold fm;rw [Nat.mod_mod,← Nat.mul_mod]
theorem q4v (x : Nat) {y : Nat} (hy : y < Pm) : cf (fs x y) = cf x - cf y:=by
  have e : cf (fs x y) + cf y = cf x:=by
    rw [← q5b];refine Fin.ext ?_;rw [q2x,q2x];unfold fa fs;rw [Nat.mod_mod,Nat.mod_add_mod,show x + Pm - y + y = x + Pm by omega,Nat.add_mod_right]
  rw [← e];grobner
theorem fm_lt (x y : Nat) : fm x y < Pm:=Nat.mod_lt _ q4c
theorem qgh : 1 < Pm:=by unfold Pm;decide
theorem pw_at {x e y : Nat} (he : e < 2 ^ 256) (h : pmod Pm 256 x e = y) : pw (cf x) e = cf y:=by
  refine Fin.ext ?_;rw [qdu qgh,q2x,q2x,← Nat.pow_mod,← q7d Pm 256 x e he,h];rw [← h,q7d Pm 256 x e he,Nat.mod_mod]
def kP : Nat:=7237005577332262213973186563042994240829374041602535252466099000494570602493
theorem kP_eq : Pm = 8 * kP + 5:=by decide +kernel
theorem kP_lt : 4 * kP + 2 < 2 ^ 256:=by decide +kernel
theorem m1_cf : cf (Pm - 1) = -1:=by decide +kernel
theorem n1_cf : pw (cf 121665) (4 * kP + 2) = -1:=(pw_at (x:=121665) (y:=Pm - 1) kP_lt (by decide +kernel)).trans m1_cf
theorem n2_cf : pw (cf 243332) (4 * kP + 2) = -1:=(pw_at (x:=243332) (y:=Pm - 1) kP_lt (by decide +kernel)).trans m1_cf
theorem n3_cf : pw (cf 2) (4 * kP + 2) = -1:=(pw_at (x:=2) (y:=Pm - 1) kP_lt (by decide +kernel)).trans m1_cf
theorem qlj : (2 : Fin Pm) = cf 2:=by decide +kernel
theorem d2_cf : (2 : Fin Pm) * (cf 121665 + 1) = cf 243332:=by decide +kernel
def fac : Fac Pm where
  p:=by unfold Pm;exact qlx
  k:=kP
  hk:=kP_eq
  c:=cf 121665
  r1:=cf 53349024335595116287218880480235248380932224208407348260407321313250266849793
  r2:=cf 51433253462520500264212897900760618405213415304451317506555883227270826074491
  i:=cf 19681161376707505956807079304988542015446066515923890162744021073123829784752
  hi:=by decide +kernel
  h1:=by decide +kernel
  h2:=by decide +kernel
  n1:=n1_cf
  n2:=by rw [d2_cf];exact n2_cf
  n3:=by rw [qlj];exact n3_cf
def bts (k : List UInt8) (j : Nat) : Bool:=decide (bitS k (254 - j) = 1)
theorem qiu (p : Pt) : (dbl p).x < Pm ∧ (dbl p).z < Pm:=⟨fm_lt _ _,fm_lt _ _⟩
theorem sm_lt (x : Nat) (p q : Pt) : (sm x p q).x < Pm ∧ (sm x p q).z < Pm:=⟨fm_lt _ _,fm_lt _ _⟩
theorem dbl_x {p : Pt} (h : p.z < Pm) : cf (dbl p).x = dX (cf p.x) (cf p.z):=by
  show cf (fm (fm (fa p.x p.z) (fa p.x p.z)) (fm (fs p.x p.z) (fs p.x p.z))) = _;rw [q2j,q2j,q2j,q5b,q4v _ h];rfl
theorem dbl_z {p : Pt} (h : p.z < Pm) : cf (dbl p).z = dZ (cf 121665) (cf p.x) (cf p.z):=by
  show cf (fm (fs (fm (fa p.x p.z) (fa p.x p.z)) (fm (fs p.x p.z) (fs p.x p.z))) (fa (fm (fa p.x p.z) (fa p.x p.z)) (fm 121665 (fs (fm (fa p.x p.z) (fa p.x p.z)) (fm (fs p.x p.z) (fs p.x p.z)))))) = _;rw [q2j,q4v _ (fm_lt _ _),q5b (fm _ _),q2j 121665,q4v _ (fm_lt _ _),q2j,q2j,q5b,q4v _ h];rfl
theorem sm_x (x : Nat) {p q : Pt} (h : p.z < Pm) (k : q.z < Pm) : cf (sm x p q).x = sX (cf p.x) (cf p.z) (cf q.x) (cf q.z):=by
  show cf (fm (fa (fm (fs q.x q.z) (fa p.x p.z)) (fm (fa q.x q.z) (fs p.x p.z))) (fa (fm (fs q.x q.z) (fa p.x p.z)) (fm (fa q.x q.z) (fs p.x p.z)))) = _;rw [q2j,q5b (fm _ _),q2j,q2j,q4v _ h,q4v _ k,q5b,q5b];rfl
theorem sm_z (x : Nat) {p q : Pt} (h : p.z < Pm) (k : q.z < Pm) : cf (sm x p q).z = sZ (cf x) (cf p.x) (cf p.z) (cf q.x) (cf q.z):=by
  show cf (fm x (fm (fs (fm (fs q.x q.z) (fa p.x p.z)) (fm (fa q.x q.z) (fs p.x p.z))) (fs (fm (fs q.x q.z) (fa p.x p.z)) (fm (fa q.x q.z) (fs p.x p.z))))) = _;rw [q2j,q2j,q4v _ (fm_lt _ _),q2j,q2j,q4v _ h,q4v _ k,q5b,q5b];rfl
theorem qep {x : Nat} (hx : x < Pm) (k : List UInt8) : ∀ j,((ladS x k j).1.z < Pm ∧ (ladS x k j).2.z < Pm) ∧
    lad (cf 121665) (cf x) (bts k) j = ⟨cf (ladS x k j).1.x,cf (ladS x k j).1.z,cf (ladS x k j).2.x,cf (ladS x k j).2.z⟩
  | 0=>⟨⟨show 0 < Pm from q4c,show 1 < Pm from qgh⟩,rfl⟩
  | j + 1=>by
    obtain ⟨⟨h1,h2⟩,ih⟩:=qep hx k j
    by_cases hb : bitS k (254 - j) = 1
    · have e : ladS x k (j + 1) = (sm x (ladS x k j).2 (ladS x k j).1,dbl (ladS x k j).2):=if_pos hb;have e2 : lad (cf 121665) (cf x) (bts k) (j + 1) = _:=if_pos (show bts k j = true by unfold bts;rw [hb];rfl);rw [e];refine ⟨⟨(sm_lt _ _ _).2,(qiu _).2⟩,?_⟩;rw [e2,ih,sm_x _ h2 h1,sm_z _ h2 h1,dbl_x h2,dbl_z h2]
    · have e : ladS x k (j + 1) = (dbl (ladS x k j).1,sm x (ladS x k j).1 (ladS x k j).2):=if_neg hb;have e2 : lad (cf 121665) (cf x) (bts k) (j + 1) = _:=if_neg (show ¬bts k j = true by unfold bts;rw [decide_eq_true_eq];exact hb);rw [e];refine ⟨⟨(qiu _).2,(sm_lt _ _ _).2⟩,?_⟩;rw [e2,ih,sm_x _ h1 h2,sm_z _ h1 h2,dbl_x h1,dbl_z h1]
def tn (k : List UInt8) (x : Nat) : Nat:=fm (ladS x k 255).1.x (powL (ladS x k 255).1.z 255)
theorem tn_lt (k : List UInt8) (x : Nat) : tn k x < Pm:=fm_lt _ _
theorem qma (v e : Nat) : cf (pwm v e) = pw (cf v) e:=by
  refine Fin.ext ?_;rw [qdu qgh,q2x,q2x];unfold pwm;rw [Nat.mod_mod,← Nat.pow_mod]
theorem tn_cf {x : Nat} (hx : x < Pm) (k : List UInt8) : cf (tn k x) = told fac (cf x) (bts k) 255:=by
  obtain ⟨⟨h1,_⟩,e⟩:=qep hx k 255;unfold tn told;have hc : fac.c = cf 121665:=rfl;rw [hc,e,q2j,← qd5 h1];show _ * cf (pwm _ invE) = _ * pw _ (Pm - 2);rw [qma];have : invE = Pm - 2:=by decide +kernel
  rw [this]
theorem qkc (k l : List UInt8) {x : Nat} (hx : x < Pm) : tn k (tn l x) = tn l (tn k x):=by
  refine qg1 (tn_lt _ _) (tn_lt _ _) ?_;rw [tn_cf (tn_lt _ _),tn_cf hx,tn_cf (tn_lt _ _),tn_cf hx,qfj]
theorem qf6 (k u : List UInt8) : q0v k u = leB (tn k (le u % Pm)) 32:=rfl
def Lo : Nat:=7237005577332262213973186563042994240857116359379907606001950938285454250989
theorem Lo_prim : Prim Lo:=qm7
def loK : List UInt8:=leB Lo 32
theorem qjx : nob (bts loK) 255 = Lo:=by decide +kernel
theorem qlt : (ladS 9 loK 255).1.z = 0:=by decide +kernel
theorem kill {C : Crv Pm} (m : Mon C) (hc : m.c = fac.c) (B : Poi C) (hB : toU m B = cf 9) : Poi.mul Lo B = Poi.o C:=by
  have h9 : (9 : Nat) < Pm:=by unfold Pm;decide
  have h0 : toU m B ≠ 0:=fun h=>by
    have h1 : cf 9 = cf 0:=hB.symm.trans h;exact absurd (qg1 h9 q4c h1) (by decide)
  have h1 : 1 - B.y ≠ 0:=fun h=>h0 (q48 m B (by grobner));have h2 : 1 + B.y ≠ 0:=fun h=>h0 (q48 m B (by grobner))
  have hb : toU m B * (1 - B.y) = m.s * (1 + B.y):=by
    have i1:=C.invm _ h1;unfold toU;have : m.s * (1 + B.y) * C.inv (1 - B.y) * (1 - B.y) = m.s * (1 + B.y) * ((1 - B.y) * C.inv (1 - B.y)):=by grobner
    rw [this,i1];grobner
  have hr:=(qcd m B hb h2 h1 (bts loK) 255).1;have hn:=qjx;have hz:=qlt;obtain ⟨_,e⟩:=qep h9 loK 255;rw [hB,hc,show fac.c = cf 121665 from rfl,e] at hr;generalize nob (bts loK) 255 = N at hr hn;generalize ladS 9 loK 255 = L at hr hz;rw [hz] at hr;rw [← hn];clear hn e;obtain ⟨l,hl,_,hq⟩:=hr;rw [show cf 0 = 0 from rfl] at hq;have h3:=(C.toFld.mul hq.symm).resolve_left hl
  have hy : (Poi.mul N B).y = 1:=by
    generalize (Poi.mul N B).y = y at h3
    grobner
  have hx:=qet m (Poi.mul N B) (by rw [hy];grobner);exact Poi.ext hx hy
def tns : List (List UInt8) → Nat → Nat
  | [],x=>x
  | k :: l,x=>tns l (tn k x)
def prods : List (List UInt8) → Nat
  | []=>1
  | k :: l=>nob (bts k) 255 * prods l
theorem q4p (x : Nat) : tns [] x = x:=rfl
theorem q21 (k : List UInt8) (l : List (List UInt8)) (x : Nat) : tns (k :: l) x = tns l (tn k x):=rfl
theorem qea (k : List UInt8) (l : List (List UInt8)) : prods (k :: l) = nob (bts k) 255 * prods l:=rfl
theorem qg4 : ∀ (l : List (List UInt8)) {x : Nat},x < Pm → tns l x < Pm
  | [],_,h=>h
  | _ :: l,_,_=>qg4 l (tn_lt _ _)
theorem qgl {C : Crv Pm} (m : Mon C) (hc : m.c = fac.c) (hF : C.toFld = fac.fld) (B : Poi C) : ∀ (l : List (List UInt8)) (N x : Nat),x < Pm → cf x = toU m (Poi.mul N B) → cf (tns l x) = toU m (Poi.mul (prods l * N) B)
  | [],N,x,_,h=>by rw [show prods [] * N = N from Nat.one_mul _,q4p];exact h
  | k :: l,N,x,hx,h=>by
    have e : cf (tn k x) = toU m (Poi.mul (nob (bts k) 255 * N) B):=by
      rw [tn_cf hx,h,q3i fac m hc hF,← Poi.mul_mul]
    have:=qgl m hc hF B l (nob (bts k) 255 * N) (tn k x) (tn_lt _ _) e;rw [q21,qea,this,show prods l * (nob (bts k) 255 * N) = nob (bts k) 255 * prods l * N by rw [Nat.mul_left_comm,Nat.mul_assoc]]
theorem ne0 {C : Crv Pm} (m : Mon C) (hc : m.c = fac.c) (B : Poi C) (hB : toU m B = cf 9) {N : Nat} (hN : ¬ Lo ∣ N) : toU m (Poi.mul N B) ≠ 0:=fun h=>by
  have hy:=qe1 m _ h;have hx:=qet m _ hy
  have h2 : Poi.mul (2 * N) B = Poi.o C:=by
    rw [Poi.mul_mul];have i:=q8w (Poi.mul N B) hx hy 2;refine Poi.ext i.1 ?_;show ay (Poi.mul 1 (Poi.mul N B)) (Poi.mul N B) = 1;rw [Poi.mul_one];have e2:=ay_e (Poi.mul N B) (Poi.mul N B);rw [hx] at e2
    grobner
  have hg:=Poi.cop (kill m hc B hB) h2
  have hco : Nat.gcd Lo (2 * N) = 1:=Lo_prim.cop fun hd=>by
    rcases Lo_prim.mul hd with k | k
    · have:=Nat.le_of_dvd (by decide) k;exact absurd this (by unfold Lo;decide)
    · exact hN k
  rw [hco,Poi.mul_one] at hg;rw [hg] at hB;have h9 : (9 : Nat) < Pm:=by unfold Pm;decide
  have h0 : toU m (Poi.o C) = 0:=q48 m _ (by show (1 : Fin Pm) * 1 = 1;grobner);have h1 : cf 9 = cf 0:=hB.symm.trans h0;exact absurd (qg1 h9 q4c h1) (by decide)
theorem qjb (b : Nat → Bool) : ∀ j,nob b j < 2 ^ j
  | 0=>show 0 < 1 from Nat.one_pos
  | j + 1=>by
    have:=qjb b j;have h2 : (b j).toNat ≤ 1:=Bool.toNat_le _;show 2 * nob b j + (b j).toNat < 2 ^ (j + 1);rw [Nat.pow_succ];omega
theorem qin {b : Nat → Bool} (h : b 0 = true) : ∀ j,2 ^ j ≤ nob b (j + 1)
  | 0=>by
    show 1 ≤ 2 * 0 + (b 0).toNat;rw [h];decide
  | j + 1=>by
    have:=qin h j;show 2 ^ (j + 1) ≤ 2 * nob b (j + 1) + (b (j + 1)).toNat;rw [Nat.pow_succ];omega
def q7c (k : List UInt8) : Prop:=bts k 0 = true ∧ bts k 252 = false ∧ bts k 253 = false ∧ bts k 254 = false
theorem qeh {k : List UInt8} (h : q7c k) : ¬ Lo ∣ nob (bts k) 255:=fun hd=>by
  obtain ⟨h0,h1,h2,h3⟩:=h
  have e : nob (bts k) 255 = 8 * nob (bts k) 252:=by
    show 2 * (2 * (2 * nob (bts k) 252 + (bts k 252).toNat) + (bts k 253).toNat) + (bts k 254).toNat = _;rw [h1,h2,h3];show 2 * (2 * (2 * nob (bts k) 252 + 0) + 0) + 0 = _;omega
  have g1:=qin h0 251;have g2:=qjb (bts k) 252;rw [e] at hd
  rcases Lo_prim.mul hd with k | k
  · have:=Nat.le_of_dvd (by decide) k;exact absurd this (by unfold Lo;decide)
  · have:=Nat.le_of_dvd (by exact Nat.lt_of_lt_of_le (show 0 < 2 ^ 251 by decide +kernel) g1) k
    have h5 : 2 ^ 252 < Lo:=by decide +kernel
    omega
theorem q9h : ∀ {l : List (List UInt8)},(∀ k ∈ l,q7c k) → ¬ Lo ∣ prods l
  | [],_,hd=>by
    have:=Nat.le_of_dvd (by decide) hd;exact absurd this (by unfold Lo;decide)
  | k :: l,h,hd=>by
    rcases Lo_prim.mul hd with e | e
    · exact qeh (h k List.mem_cons_self) e
    · exact q9h (fun x hx=>h x (List.mem_cons_of_mem _ hx)) e
theorem qds {l : List (List UInt8)} (h : ∀ k ∈ l,q7c k) : tns l 9 ≠ 0:=fun h0=>by
  have h9 : (9 : Nat) < Pm:=by unfold Pm;decide
  have hz : cf (tns l 9) = 0:=by rw [h0];rfl
  rcases fac.onto (cf 9) with ⟨B,hB⟩ | ⟨B,hB⟩
  · have:=qgl fac.M1 rfl rfl B l 1 9 h9 (by rw [Poi.mul_one];exact hB.symm);rw [Nat.mul_one] at this;exact ne0 fac.M1 rfl B hB (q9h h) (this ▸ hz)
  · have:=qgl fac.M2 rfl rfl B l 1 9 h9 (by rw [Poi.mul_one];exact hB.symm);rw [Nat.mul_one] at this;exact ne0 fac.M2 rfl B hB (q9h h) (this ▸ hz)
theorem qdj (k : List UInt8) : ∀ (l : List (List UInt8)) {x : Nat},x < Pm → tns l (tn k x) = tn k (tns l x)
  | [],x,_=>by rw [q4p,q4p]
  | a :: l,x,hx=>by
    rw [q21,q21,qkc a k hx,qdj k l (tn_lt _ _)]
theorem qkr (c : UInt8) : (UInt8.ofNat (c.toNat / 8 * 8)).toNat = c.toNat / 8 * 8:=by
  have:=c.toNat_lt;have h : (UInt8.ofNat (c.toNat / 8 * 8)).toNat = c.toNat / 8 * 8 % 256:=by simp
  rw [h];omega
theorem q4b {k : List UInt8} (h : k.length = 32) : q7c (q03 k):=by
  have hl : (q03 k).length = 32:=by unfold q03;rw [List.length_set,List.length_set,h]
  have g0 : gd (q03 k) 0 = gd k 0 / 8 * 8:=by
    have hc:=(k[0]?.getD 0).toNat_lt;unfold q03
    have e : gd ((k.set 0 (UInt8.ofNat (gd k 0 / 8 * 8))).set 31 (UInt8.ofNat (gd k 31 % 64 + 64))) 0 = (UInt8.ofNat (gd k 0 / 8 * 8)).toNat:=by
      unfold gd;generalize (UInt8.ofNat ((k[31]?.getD 0).toNat % 64 + 64)) = z;generalize (UInt8.ofNat ((k[0]?.getD 0).toNat / 8 * 8)) = y;rw [List.getElem?_set_ne (by decide),List.getElem?_set_self (by omega)];rfl
    rw [e];exact qkr _
  have g31 : gd (q03 k) 31 = gd k 31 % 64 + 64:=by
    unfold q03
    have e : gd ((k.set 0 (UInt8.ofNat (gd k 0 / 8 * 8))).set 31 (UInt8.ofNat (gd k 31 % 64 + 64))) 31 = (UInt8.ofNat (gd k 31 % 64 + 64)).toNat:=by
      have h2 : 31 < (k.set 0 (UInt8.ofNat (gd k 0 / 8 * 8))).length:=by rw [List.length_set];omega
      generalize UInt8.ofNat (gd k 31 % 64 + 64) = z;generalize k.set 0 (UInt8.ofNat (gd k 0 / 8 * 8)) = w at h2;unfold gd;rw [List.getElem?_set_self h2];rfl
    rw [e];have h : (UInt8.ofNat (gd k 31 % 64 + 64)).toNat = (gd k 31 % 64 + 64) % 256:=by simp
    rw [h];omega
  refine ⟨?_,?_,?_,?_⟩
  · unfold bts bitS;show decide (gd (q03 k) 31 / 64 % 2 = 1) = true;rw [g31,decide_eq_true_eq];omega
  · unfold bts bitS;show decide (gd (q03 k) 0 / 4 % 2 = 1) = false;rw [g0,decide_eq_false_iff_not];omega
  · unfold bts bitS;show decide (gd (q03 k) 0 / 2 % 2 = 1) = false;rw [g0,decide_eq_false_iff_not];omega
  · unfold bts bitS;show decide (gd (q03 k) 0 / 1 % 2 = 1) = false;rw [g0,decide_eq_false_iff_not];omega
end Go.Proofs.YtckkhagclfmmdaaDoor.Gr
