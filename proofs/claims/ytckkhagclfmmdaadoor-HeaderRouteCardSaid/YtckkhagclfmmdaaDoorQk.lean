import Derived.Test.YtckkhagclfmmdaaDoorQb
import Derived.Test.YtckkhagclfmmdaaDoorQj
import Derived.Test.YtckkhagclfmmdaaDoorQc
import Derived.Test.YtckkhagclfmmdaaDoorQg
namespace Go.Proofs.YtckkhagclfmmdaaDoor
open Go.Sx
set_option maxRecDepth 100000
set_option linter.unusedSimpArgs false
set_option linter.unusedVariables false
set_option pp.deepTerms false
set_option pp.maxSteps 300
section
open Gr
def nb (v : Nat) : List UInt8:=leB v 32
theorem ql8 (v : Nat) : (nb v).length = 32:=lbl _ _
theorem le_nb {v : Nat} (h : v < Pm) : le (nb v) = v:=qd8 _ _ (by unfold Pm at h;omega)
theorem nb_ne {v : Nat} (h : v < Pm) (h0 : v ≠ 0) : nb v ≠ zk:=fun e=>by
  have h1:=le_nb h;rw [e] at h1;have h2 : le zk = 0:=by decide +kernel
  omega
theorem le_gd (l : List UInt8) (n : Nat) (h : l.length = n + 1) : le l = le (l.take n) + 256 ^ n * gd l n:=by
  have e : l = l.take n ++ [l[n]'(by omega)]:=by
    conv=>lhs;rw [← List.take_append_drop n l,List.drop_eq_getElem_cons (by omega : n < l.length),List.drop_of_length_le (by omega)]
  have hg : gd l n = (l[n]'(by omega)).toNat:=gd_eq (by omega);have hl : (l.take n).length = n:=by rw [List.length_take];omega
  rw [hg];(conv=>lhs;rw [e,q3x,hl]);show _ + 256 ^ n * ((l[n]'(by omega)).toNat + 256 * 0) = _;rw [Nat.mul_zero,Nat.add_zero]
theorem qhb (l : List UInt8) (h : l.length = 32) (hg : gd l 31 < 128) : l.set 31 (UInt8.ofNat (gd l 31 % 128)) = l:=by
  apply List.ext_getElem (by simp)
  intro i h1 h2;rw [List.getElem_set]
  split
  · rename_i e
    subst e;have : gd l 31 = (l[31]'(by omega)).toNat:=gd_eq (by omega);rw [this] at hg ⊢;rw [Nat.mod_eq_of_lt hg,UInt8.ofNat_toNat]
  · rfl
theorem qcz {v : Nat} (h : v < Pm) : q0c (nb v) = nb v:=by
  have hl:=ql8 v;have h1:=le_nb h;have h2:=le_gd (nb v) 31 hl
  have hg : gd (nb v) 31 < 128:=by
    unfold Pm at h;have e : (256 : Nat) ^ 31 = 452312848583266388373324160190187140051835877600158453279131187530910662656:=by decide +kernel
    rw [e] at h2;omega
  unfold q0c;rw [qhb _ hl hg,h1,Nat.mod_eq_of_lt h];rfl
theorem qdn (k : List UInt8) {v : Nat} (h : v < Pm) : q0v k (nb v) = nb (tn k v):=by
  rw [qf6,le_nb h,Nat.mod_eq_of_lt h];rfl
theorem q7e (k : List UInt8) {v : Nat} (h : v < Pm) (h0 : tn (q03 k) v ≠ 0) : q00 k (nb v) = (nb (tn (q03 k) v),0):=by
  unfold q00;rw [qcz h,qdn _ h];exact if_neg (nb_ne (tn_lt _ _) h0)
theorem q9l : (9 : Nat) < Pm:=by unfold Pm;decide
theorem qan (k : List UInt8) : q01 k = nb (tn (q03 k) 9):=by
  have e : nineS = nb 9:=by decide +kernel
  unfold q01;rw [e,qdn _ q9l]
theorem q5o : ∀ (a b : List (List UInt8)) (x : Nat),tns (a ++ b) x = tns b (tns a x)
  | [],_,_=>rfl
  | k :: a,b,x=>by
    rw [List.cons_append,q21,q21,q5o a b]
def okC (l : List (List UInt8)) : Prop:=∀ k ∈ l,q7c k
theorem q8o {a b : List (List UInt8)} (h : okC a) (k : okC b) : okC (a ++ b):=fun x hx=>(List.mem_append.1 hx).elim (h x) (k x)
theorem qg3 {l : List (List UInt8)} (h : okK l) : okC (l.map q03):=fun k hk=>by
  obtain ⟨s,hs,rfl⟩:=List.mem_map.1 hk;exact q4b (h s hs)
theorem qbm {k : List UInt8} (h : k.length = 32) : okC [q03 k]:=fun x hx=>by
  rw [List.mem_singleton] at hx;subst hx;exact q4b h
attribute [local irreducible] macD q0h strS q0b q00 q0v q0c q01 q08 tn tns q03
theorem q8k : ∀ (l pre : List (List UInt8)),okC pre → okK l → q1r l (nb (tns pre 9)) = (nb (tns (pre ++ l.map q03) 9),0)
  | [],pre,_,_=>by
    show (nb (tns pre 9),(0 : Int)) = (nb (tns (pre ++ []) 9),0);rw [List.append_nil]
  | k :: l,pre,hp,hl=>by
    have hk:=hl k List.mem_cons_self;have hp2 : okC (pre ++ [q03 k]):=q8o hp (qbm hk);have hne:=qds hp2;have e1 : tns (pre ++ [q03 k]) 9 = tn (q03 k) (tns pre 9):=by rw [q5o,q21,q4p]
    rw [e1] at hne;have hs:=q7e k (qg4 pre q9l) hne;have ih:=q8k l (pre ++ [q03 k]) hp2 (fun x hx=>hl x (List.mem_cons_of_mem _ hx));rw [e1] at ih;have e2 : q1r (k :: l) (nb (tns pre 9)) = if (q00 k (nb (tns pre 9))).2 = 0 then q1r l (q00 k (nb (tns pre 9))).1 else (zk,(q00 k (nb (tns pre 9))).2):=rfl;rw [e2,hs,if_pos rfl];refine ih.trans ?_;rw [List.append_assoc];rfl
theorem qhp {o : List UInt8} {l : List (List UInt8)} (ho : o.length = 32) (hl : okK l) (h8 : l.length ≤ 8) : q05 (q01 o) l = (nb (tns ((q03 o) :: l.map q03) 9),0):=by
  have hc : okC [q03 o]:=qbm ho;have hne:=qds hc;have e1 : tns [q03 o] 9 = tn (q03 o) 9:=by rw [q21,q4p]
  rw [e1] at hne;have hlt:=tn_lt (q03 o) 9;have hg:=q8k l [q03 o] hc hl;rw [e1] at hg;unfold q05;rw [if_neg (by omega),qan,qcz hlt,if_neg (nb_ne hlt hne)];exact hg
def alI (ss : List (List UInt8)) (a : List UInt8) : Nat → List UInt8
  | 0=>a
  | i + 1=>(q00 (q08 (kAt ss i) (alI ss a i)) (alI ss a i)).1
theorem qe0 (s : List UInt8) (ss : List (List UInt8)) (a : List UInt8) : ∀ i,alI (s :: ss) a (i + 1) = alI ss (q00 (q08 s a) a).1 i
  | 0=>rfl
  | i + 1=>by
    show (q00 (q08 (kAt (s :: ss) (i + 1)) (alI (s :: ss) a (i + 1))) (alI (s :: ss) a (i + 1))).1 = (q00 (q08 (kAt ss i) (alI ss (q00 (q08 s a) a).1 i)) (alI ss (q00 (q08 s a) a).1 i)).1;rw [qe0 s ss a i];rfl
def opens (own ss : List (List UInt8)) (a : List UInt8) : Prop :=
  ∀ i,i < own.length → q00 (kAt own i) (alI ss a i) = (kAt ss i,0) ∧ (q00 (q08 (kAt ss i) (alI ss a i)) (alI ss a i)).2 = 0
theorem q7t : ∀ (hs : List HopS) (own chain out : List (List UInt8)),own.length = hs.length → (∀ i,(h : i < hs.length) → hs[i].key = q01 (kAt own i)) → okK own → okK chain → chain.length + hs.length ≤ 9 →
    ∃ ss,q1y chain (nb (tns (chain.map q03) 9)) out hs = (out ++ ss,0) ∧ ss.length = hs.length ∧ opens own ss (nb (tns (chain.map q03) 9))
  | [],own,chain,out,hl,_,_,_,_=>⟨[],by show (out,(0 : Int)) = _;rw [List.append_nil],rfl,fun i hi=>absurd hi (by rw [hl];simp)⟩
  | h :: r,[],chain,out,hl,_,_,_,_=>by simp at hl
  | h :: r,o :: own,chain,out,hl,hk,ho,hc,hn=>by
    simp only [List.length_cons] at hl hn;have hkey : h.key = q01 o:=hk 0 (by simp);have ho1:=ho o List.mem_cons_self;have hC:=qg3 hc;have hco : okC (q03 o :: chain.map q03):=q8o (qbm ho1) hC;have hlt:=qg4 (chain.map q03) q9l;have h1:=qhp ho1 hc (by omega);rw [← hkey] at h1;have hs0 : tns (q03 o :: chain.map q03) 9 = tn (q03 o) (tns (chain.map q03) 9):=by rw [q21,qdj _ _ q9l]
    have hne:=qds hco;rw [hs0] at h1 hne;have h2:=q7e o hlt hne;generalize hS : nb (tn (q03 o) (tns (chain.map q03) 9)) = s at h1 h2;have hbl:=q45 s (nb (tns (chain.map q03) 9));generalize hB : q08 s (nb (tns (chain.map q03) 9)) = b at hbl;have hcb : okC ((chain ++ [b]).map q03):=qg3 fun x hx=>(List.mem_append.1 hx).elim (hc x) (fun e=>by rw [List.mem_singleton.1 e];exact hbl)
    have e3 : tns ((chain ++ [b]).map q03) 9 = tn (q03 b) (tns (chain.map q03) 9):=by
      rw [List.map_append,q5o];show tns [q03 b] _ = _;rw [q21,q4p]
    have hneb:=qds hcb;rw [e3] at hneb;have h3:=q7e b hlt hneb;rw [← e3] at h3
    obtain ⟨ss,i1,i2,i3⟩:=q7t r own (chain ++ [b]) (out ++ [s]) (by omega) (fun i hi=>hk (i + 1) (by simp;omega)) (fun x hx=>ho x (List.mem_cons_of_mem _ hx))
      (fun x hx=>(List.mem_append.1 hx).elim (hc x) (fun e=>by rw [List.mem_singleton.1 e];exact hbl)) (by rw [List.length_append];simp only [List.length_cons,List.length_nil];omega)
    refine ⟨s :: ss,?_,by simp [i2],?_⟩
    · rw [q4k (by rw [h1]) (by rw [h1];dsimp only;rw [hB,h3])];rw [h1];dsimp only;rw [hB,h3];dsimp only;rw [i1,List.append_assoc];rfl
    · intro i hi
      cases i with
      | zero =>
        refine ⟨h2,?_⟩;show (q00 (q08 s (nb (tns (chain.map q03) 9))) (nb (tns (chain.map q03) 9))).2 = 0;rw [hB,h3]
      | succ i =>
        rw [qe0,hB,h3];exact i3 i (by simp only [List.length_cons] at hi;omega)
theorem qbf {x : List UInt8} (hx : x.length = 32) {hs : List HopS} {own : List (List UInt8)} (hl : own.length = hs.length) (hk : ∀ i,(h : i < hs.length) → hs[i].key = q01 (kAt own i)) (ho : okK own) (h5 : hs.length ≤ 8) :
    ∃ ss,q0j x hs = (ss,0) ∧ ss.length = hs.length ∧ opens own ss (q01 x):=by
  have e : q01 x = nb (tns ([x].map q03) 9):=by
    rw [qan];show _ = nb (tns [q03 x] 9);rw [q21,q4p]
  obtain ⟨ss,h1,h2,h3⟩:=q7t hs own [x] [] hl hk ho (q7w hx) (by simp only [List.length_cons,List.length_nil];omega);rw [← e] at h1 h3;exact ⟨ss,h1,h2,h3⟩
end
section
attribute [local irreducible] macD q0h strS q0b q00 q05 q0v q0c q01 q08 q0j q0p
set_option maxHeartbeats 2000000 in
theorem qb6 (A R : HP) (hE : Ent A R) (hK : Gl A) (x : List UInt8) (hx : x.length = 32) (a : Option Addr) (cap : Nat) (hs : List HopS) (ho : okHs hs) (hr : Rd R a (rowH hs)) (hn : hs.length ≤ 1000000) :
    Con Tryd.prog 7 [.agg [.many 32 (u8s x)],.c (.rs a hs.length cap)] [] [] A (fun t : Option Addr × Nat=>Fc t.1 t.2 (q1d x hs).2.1) (fun t=>.tup [.agg (q1d x hs).1.sg,.c (.rs t.1 (q1d x hs).2.1.length t.2),.c (.int .i64 (q1d x hs).2.2)]) (fun _=>[]) (fun t=>[RowK t.1 t.2 23 (q1d x hs).2.1]):=by
  have hr:=hr.ent hE;have hks:=mok hx;have hok0 : ∀ B,okL B hdr0.sg:=HdrS.okL q8p;refine Con.of' tt_ok Tryd.func7 rfl (by decide) [.agg [.many 32 (u8s x)],.c (.rs a hs.length cap)] [] [] rfl rfl trivial ⟨⟨hks _,trivial⟩,trivial,trivial⟩ rfl ?_;(conv=>whnf);intro b2;(conv=>whnf);intro b4;(conv=>whnf);refine Cq.pu (qkz _ A (Ent.a mm) a cap hs ho hr (by omega)) rfl ?_
  cases hrt : q0p hs with
  | false =>
    rw [q7x hrt];(conv=>whnf);refine ⟨(fun _=>?_),(fun e=>nomatch e)⟩;(conv=>whnf);refine Ret.own0 23 32 ?_;exact Ret.m (none,0) [] [0,0] Fc.nil rfl ⟨hok0 _,trivial,trivial,trivial⟩ kk ⟨rfl,rfl⟩
  | true =>
  obtain ⟨h1,h5⟩:=q40 hrt;obtain ⟨hak,hal,hae⟩:=q54 x hs;(conv=>whnf);refine ⟨(fun e=>nomatch e),(fun _=>?_)⟩;(conv=>whnf);refine Cq.new (qjq _ A (Ent.a mm) (hK.ent (Ent.a mm)) x hx a cap hs ho hr h5) rfl ?_;rintro ⟨a7,c7⟩ hf7;have hB:=qb9 (x:=x) hrt;have hC:=q76 (x:=x) hrt;generalize q0j x hs = Z at hak hal hae hf7 hB hC ⊢;obtain ⟨ss,e7⟩:=Z;dsimp only at hak hal hae hf7 hB hC ⊢;(conv=>whnf);refine Cond.neI (fun h2=>?_) (fun h2=>?_)
  · rw [hB h2];(conv=>whnf);refine Ret.own0 23 32 ?_;exact Ret.m (none,0) [] [0,1] Fc.nil rfl ⟨hok0 _,trivial,trivial,trivial⟩ kk ⟨rfl,rfl⟩
  rw [hC h2];have hsl:=hae h2;clear hB hC;dsimp only;(conv=>whnf);have e0 : (hs.length : Int) - 1 = ((hs.length - 1 : Nat) : Int):=by omega
  rw [e0];refine Ar.i64 (by omega) ?_;(conv=>whnf);have hfl:=q3c (l:=ss) (by omega) (by omega);refine Cq.fb (qh4 _ (RowK a7 c7 61 ss) (Ent.a mm) (hK.ent (Ent.a mm)) a7 c7 ss hak Own.rd (by omega) (by omega) hf7.1) rfl fun a10 c10 hc10=>?_;(conv=>whnf);refine Draw.a (by kernel_rfl) tt_ok (Tv.of (List.range 16) .nil) 1000000 (by kernel_rfl) ?_;(conv=>whnf);have hi7 : hs.length - 1 < ss.length:=by omega
  have hih : hs.length - 1 < hs.length:=by omega
  refine ⟨by omega,PtrOb.rd (A:=RowK a7 c7 61 ss) (by simp) Own.rd (by rw [q0q hak];omega) fun p7 hp7=>?_⟩;subst hp7;(conv=>whnf);refine ldk (A:=RowK (some (radr p7)) c7 61 ss) (l:=ss) (hs.length - 1) (by simp) Own.rd hak hi7 rfl rfl rfl (by show _ + ((hs.length - 1 : Nat) : Int).toNat * 32 = _;omega) ?_;(conv=>whnf);refine ⟨by omega,PtrOb.rd (A:=A) (by simp) hr (by rw [q2d ho];omega) fun p hp=>?_⟩;subst hp;conv=>whnf
  refine ldhc (A:=A) (l:=hs) (hs.length - 1) (by simp) hr ho hih rfl rfl rfl (by show _ + ((hs.length - 1 : Nat) : Int).toNat * 43 + 32 = _;omega) ?_;(conv=>whnf);refine Ar.i64 (by omega) ?_;(conv=>whnf);have e1 : (160 : Int) - (q0n ss).length - 16 = ((160 - (q0n ss).length - 16 : Nat) : Int):=by omega
  rw [e1];refine Ar.i64 (by omega) ?_;(conv=>whnf);refine ⟨⟨by omega,by omega,by omega,by show (1 : Int) * _ ≤ _;omega⟩,?_⟩;intro b49;(conv=>whnf);refine Sub.r [4,2] [0,0,0] ?_;(conv=>whnf);have hkl : ss[hs.length - 1].length = 32:=hak _ (List.getElem_mem hi7);have hcl : hs[hs.length - 1].cmd.id.length = 8:=(ho _ (List.getElem_mem hih)).c
  have hb0 : betaJ ss hs 0 = layH ss[hs.length - 1] hs[hs.length - 1].cmd (List.replicate (160 - (q0n ss).length - 16) 0) ++ q0n ss:=by
    show layH (kAt ss (hs.length - 1)) (cAt hs (hs.length - 1)) _ ++ _ = _;rw [q56 hi7,qay hih]
  obtain ⟨m,hm⟩ : ∃ m,160 - (q0n ss).length - 16 = m:=⟨_,rfl⟩;rw [hm] at hb0 ⊢;have hzm : u8s (List.replicate m 0) = List.replicate m (Value.int .u8 0):=qdp m;refine Cq.fb (lay_h _ (blk b49 (.cells (List.replicate m (Value.int .u8 0) ++ []).toArray 5)) (Ent.a mm) (hK.ent (Ent.a mm)) ss[hs.length - 1] hkl hs[hs.length - 1].cmd hcl (some (radr (b49,0))) m (List.replicate m 0) (by rw [hzm];exact q1l) (by rw [List.length_replicate];omega) (by rw [List.length_replicate];omega)) (by rw [List.length_replicate];rfl) fun a11 c11 hc11=>?_
  have hll:=q6k (s:=ss[hs.length - 1]) (beh:=List.replicate m 0) hcl (by rw [List.length_replicate];omega);rw [List.length_replicate] at hll;generalize layH ss[hs.length - 1] hs[hs.length - 1].cmd (List.replicate m 0) = L at hb0 hc11 hll ⊢;(conv=>whnf);refine Sub.r [4,2] [1,1,1] ?_;(conv=>whnf);refine appb (l:=L) (m:=q0n ss) (.refl _) (Src.rs (A:=Own a10 c10 5 1 (u8s (q0n ss))) (by simp) Own.rd) rfl rfl ⟨rfl,by decide,by decide⟩ (by omega) 53 (.inr rfl) ?_;clear hc11;intro a11 c11 hc11;rw [← hb0] at hc11 ⊢;conv=>whnf
  refine Ar.i64 (by omega) ?_;(conv=>whnf);obtain ⟨N,hN⟩ : ∃ N,hs.length - 1 = N:=⟨_,rfl⟩;have hbl:=q2p ho h1 h5 hsl;rw [hN] at hbl
  refine LoopOb.m (σ:=Nat × Option Addr × Nat) (fun s=>[(1,.c (.rs (some (radr p)) hs.length cap)),(2,.c (.ptr 2 0)),(4,.c (.ptr 4 0)),(7,.c (.rs (some (radr p7)) ss.length c7)),(11,.c (.rs s.2.1 (betaJ ss hs s.1).length s.2.2)),(12,.c (.int .i64 ((N : Int) - 1 - s.1)))])
    (fun s=>⟨[(4,b4),(2,b2)],[(4,hdr0.sg,43),(2,[.many 32 (u8s x)],23)],[Own s.2.1 s.2.2 5 1 (u8s (betaJ ss hs s.1)),RowK (some (radr p7)) c7 61 ss,A]⟩)
    (fun s=>s.1 ≤ N ∧ Fc s.2.1 s.2.2 (betaJ ss hs s.1)) (fun s=>N - s.1) (0,a11,c11) ⟨Nat.zero_le _,hc11⟩ ?_ ?_
  · refine Wk.m [4,2] [0,1,1] ⟨⟨rfl,kk⟩,⟨rfl,kk⟩,⟨rfl,kk⟩,⟨rfl,kk⟩,⟨rfl,kk⟩,⟨?_,kk⟩,trivial⟩ ⟨⟨kk,hok0 _⟩,⟨kk,hks _,trivial⟩,trivial⟩ ⟨rfl,rfl⟩;show Value.int .i64 (((hs.length - 1 : Nat) : Int) - 1) = Value.int .i64 ((N : Int) - 1 - (0 : Nat));congr 1;omega
  clear hc11;rintro ⟨j,a11,c11⟩ ⟨hj,hc11⟩;dsimp only at hj hc11 ⊢;have hbj:=hbl j hj;(conv=>whnf);refine Cond.d (fun h=>?_) (fun h=>?_)
  · obtain ⟨i,hi⟩ : ∃ i,N - 1 - j = i:=⟨_,rfl⟩;have hi2 : (N : Int) - 1 - j = (i : Int):=by omega
    have his : i + 1 < ss.length:=by omega
    have hih2 : i < hs.length:=by omega
    have hk1 : ss[i + 1].length = 32:=hak _ (List.getElem_mem his);have hk0 : ss[i].length = 32:=hak _ (List.getElem_mem (by omega : i < ss.length));have hci : hs[i].cmd.id.length = 8:=(ho _ (List.getElem_mem hih2)).c
    have hbs : betaJ ss hs (j + 1) = layH ss[i] hs[i].cmd (q0f ss[i + 1] (betaJ ss hs j) ++ (betaJ ss hs j).take 128):=by
      show layH (kAt ss (hs.length - 2 - j)) (cAt hs (hs.length - 2 - j)) (q0f (kAt ss (hs.length - 2 - j + 1)) _ ++ _) = _;rw [show hs.length - 2 - j = i by omega,q56 (by omega),q56 his,qay hih2]
    have hbl1:=hbl (j + 1) (by omega);obtain ⟨B1,hB1⟩ : ∃ B1,betaJ ss hs (j + 1) = B1:=⟨_,rfl⟩;rw [hB1] at hbs hbl1;generalize betaJ ss hs j = Bj at hbj hc11 hbs ⊢;rw [hi2];(conv=>whnf);refine Ar.i64 (by omega) ?_;(conv=>whnf);refine ⟨by omega,PtrOb.rd (A:=RowK (some (radr p7)) c7 61 ss) (by simp) Own.rd (by rw [q0q hak];omega) fun q hq=>?_⟩;obtain rfl:=q3h hq;(conv=>whnf);refine ldk (A:=RowK (some (radr p7)) c7 61 ss) (l:=ss) (i + 1) (by simp) Own.rd hak his rfl rfl rfl (by show _ + ((i : Int) + 1).toNat * 32 = _;omega) ?_;conv=>whnf
    refine Cq.pu (q75 _ (Own a11 c11 5 1 (u8s Bj)) (Ent.a mm) (hK.ent (Ent.a mm)) ss[i + 1] hk1 a11 c11 Bj ⟨Own.rd,hc11⟩ (by omega)) rfl ?_;have hpl:=q0x ss[i + 1] Bj;generalize q0f ss[i + 1] Bj = T at hpl hbs ⊢;(conv=>whnf);intro b13;(conv=>whnf);refine Draw.a (by kernel_rfl) tt_ok (Tv.of (List.range 15) .nil) 1000000 (by kernel_rfl) ?_;(conv=>whnf);refine ⟨by omega,PtrOb.rd (A:=RowK (some (radr p7)) c7 61 ss) (by simp) Own.rd (by rw [q0q hak];omega) fun q hq=>?_⟩;obtain rfl:=q3h hq;conv=>whnf
    refine ldk (A:=RowK (some (radr p7)) c7 61 ss) (l:=ss) i (by simp) Own.rd hak (by omega) rfl rfl rfl (by show _ + (i : Int).toNat * 32 = _;omega) ?_;(conv=>whnf);refine ⟨by omega,PtrOb.rd (A:=A) (by simp) hr (by rw [q2d ho];omega) fun q hq=>?_⟩;obtain rfl:=q3h hq;(conv=>whnf);refine ldhc (A:=A) (l:=hs) i (by simp) hr ho hih2 rfl rfl rfl (by show _ + (i : Int).toNat * 43 + 32 = _;omega) ?_;(conv=>whnf);have hcc:=hc11.1;refine ⟨⟨by omega,by omega⟩,?_⟩;conv=>whnf
    have h128 : Rd (Own a11 c11 5 1 (u8s Bj)) (cutA a11 c11 0 1) (u8s (Bj.take 128)):=by
      have:=(Own.rd (a:=a11) (cap:=c11) (e:=5) (size:=1) (xs:=u8s Bj)).cut c11 0 128 (by omega)
      rwa [List.drop_zero,← q1w] at this
    have hl128 : (Bj.take 128).length = 128:=by rw [List.length_take];omega
    refine q7q (a:=some (radr (b13,0))) (n:=16) (cap:=16) (k:=128) (xs:=u8s T) (ys:=u8s (Bj.take 128)) rfl (Src.slc (by exact ⟨[],by show (u8s T ++ []) = u8s T ++ [];rfl⟩)) (by omega) (by rw [u8l,hpl]) (q14 _) (by rw [u8l,hl128]) (Src.rs (A:=Own a11 c11 5 1 (u8s Bj)) (by simp) h128) (q14 _) ⟨rfl,by decide,by decide⟩ (by omega) 53 (.inr rfl) ?_;intro a14 c14 hc14 hn14;rw [← q1i];refine Sub.r [13,4,2] [1,1,1] ?_;(conv=>whnf);have hl14 : (T ++ Bj.take 128).length = 16 + 128:=by rw [List.length_append];omega
    refine Cq.fb (lay_h _ (Own a14 c14 5 1 (u8s (T ++ Bj.take 128))) (Ent.a mm) (hK.ent (Ent.a mm)) ss[i] hk0 hs[i].cmd hci a14 c14 (T ++ Bj.take 128) Own.rd (by omega) (by omega)) (by rw [hl14];rfl) fun a15 c15 hc15=>?_;rw [← hbs] at hc15 ⊢;(conv=>whnf);refine Sub.r [13,4,2] [2,2,2] ?_;(conv=>whnf);refine Ar.i64 (by omega) ?_;(conv=>whnf);refine ⟨(j + 1,a15,c15),⟨by dsimp only;omega,by dsimp only;rw [hB1];exact hc15⟩,by dsimp only;omega,?_⟩;dsimp only;rw [hB1]
    refine Wk.m [4,2] [0,2,2] ⟨⟨rfl,kk⟩,⟨rfl,kk⟩,⟨rfl,kk⟩,⟨rfl,kk⟩,⟨rfl,kk⟩,⟨?_,kk⟩,trivial⟩ ⟨⟨kk,hok0 _⟩,⟨kk,hks _,trivial⟩,trivial⟩ ⟨rfl,rfl⟩;show Value.int .i64 ((i : Int) - 1) = Value.int .i64 ((N : Int) - 1 - (j + 1 : Nat));congr 1;omega
  obtain rfl : j = N:=by omega
  rw [hN];generalize betaJ ss hs j = B at hbj hc11 ⊢;have er : ∀ (x : List (List UInt8)) (y : List UInt8),rowK (x ++ [y]) = rowK x ++ u8s y:=fun x y=>by rw [q4s];simp [rowK]
  conv=>whnf
  refine LoopOb.m (σ:=Nat × Option Addr × Nat) (fun s=>[(2,.c (.ptr 2 0)),(4,.c (.ptr 4 0)),(7,.c (.rs (some (radr p7)) ss.length c7)),(11,.c (.rs a11 B.length c11)),(14,.c (.rs s.2.1 s.1 s.2.2)),(81,.c (.rs (some (radr p7)) ss.length c7)),(82,.c (.int .i64 ss.length)),(83,.c (.int .i64 s.1))])
    (fun s=>⟨[(4,b4),(2,b2)],[(4,hdr0.sg,43),(2,[.many 32 (u8s x)],23)],[Own s.2.1 s.2.2 23 32 (rowK (ss.take s.1)),Own a11 c11 5 1 (u8s B),RowK (some (radr p7)) c7 61 ss,A]⟩)
    (fun s=>s.1 ≤ ss.length ∧ s.1 ≤ s.2.2 ∧ (s.2.1 = none → s.1 = 0)) (fun s=>ss.length - s.1) (0,none,0) ⟨Nat.zero_le _,Nat.le_refl _,fun _=>rfl⟩ ?_ ?_
  · refine Wk.own0 23 32 ?_;exact Wk.m [4,2] [0,0,0,0] kk ⟨⟨kk,hok0 _⟩,⟨kk,hks _,trivial⟩,trivial⟩ ⟨rfl,rfl⟩
  rintro ⟨i,a14,c14⟩ ⟨hi,hc14,hn14⟩;dsimp only at hi hc14 hn14 ⊢;(conv=>whnf);refine Cond.d (fun h=>?_) (fun h=>?_)
  · have hi' : i < ss.length:=by omega
    have hk0 : ss[i].length = 32:=hak _ (List.getElem_mem hi');(conv=>whnf);refine ⟨by omega,PtrOb.rd (A:=RowK (some (radr p7)) c7 61 ss) (by simp) Own.rd (by rw [q0q hak];omega) fun q hq=>?_⟩;obtain rfl:=q3h hq;(conv=>whnf);refine ldk (A:=RowK (some (radr p7)) c7 61 ss) (l:=ss) i (by simp) Own.rd hak hi' rfl rfl rfl (by show _ + (i : Int).toNat * 32 = _;omega) ?_;(conv=>whnf);intro b16;(conv=>whnf);intro b89;(conv=>whnf);have htl : (ss.take i).length = i:=by rw [List.length_take];omega
    refine q12 (a:=a14) (n:=i) (cap:=c14) (xs:=rowK (ss.take i)) (k:=1) (ys:=u8s ss[i]) (src:=.c (.slc 89 0 1 1)) (F':=[Own a11 c11 5 1 (u8s B),RowK (some (radr p7)) c7 61 ss,A]) (.refl _) (by rw [q0q (qdx hak i),htl]) (by rw [u8l,hk0];rfl) (by exact Src.slc ⟨[],rfl⟩) (q14 _) (by show (i + 1 + (i + 1) / 4 + 192) * 32 ≤ 281474976710656;omega) (by omega) (by decide) 24 (.inr rfl) ?_;intro a15 c15 hc15 hn15;rw [← er,← List.take_succ_eq_append_getElem hi'];(conv=>whnf);refine Ar.i64 (by omega) ?_;conv=>whnf
    exact ⟨(i + 1,a15,c15),⟨by dsimp only;omega,hc15,fun e=>absurd (hn15 e) (by omega)⟩,by dsimp only;omega,Wk.m [4,2] [0,0,0,0] kk ⟨⟨kk,hok0 _⟩,⟨kk,hks _,trivial⟩,trivial⟩ ⟨rfl,rfl⟩⟩
  obtain rfl : i = ss.length:=by omega
  rw [List.take_length];(conv=>whnf);refine Draw.a (by kernel_rfl) tt_ok (Tv.of [0,2,3,4,5,6,7,8,11,1,9,10,12,13,14] .nil) 12 (by kernel_rfl) ?_;(conv=>whnf);refine ⟨by omega,PtrOb.rd (A:=Own a11 c11 5 1 (u8s B)) (by simp) Own.rd (by rw [u8l];omega) fun q hq=>?_⟩;subst hq;(conv=>whnf);refine lds (A:=Own (some (radr q)) c11 5 1 (u8s B)) 0 [.many 160 (u8s B)] rfl (by simp) Own.rd rfl rfl ?_ ?_ (by decide) (q02 ⟨mok hbj _,trivial⟩) ?_
  · show u8s B ++ [] = ((u8s B).drop 0).take 160;rw [List.append_nil,List.drop_zero,List.take_of_length_le (by rw [u8l];omega)]
  · show (u8s B ++ []).length = 160;rw [List.append_nil,u8l,hbj]
  (conv=>whnf);refine ⟨by omega,PtrOb.rd (A:=RowK (some (radr p7)) c7 61 ss) (by simp) Own.rd (by rw [q0q hak];omega) fun q2 hq2=>?_⟩;obtain rfl:=q3h hq2;(conv=>whnf);have hk0 : kAt ss 0 = ss[0]:=q56 (by omega);have hkl0 : ss[0].length = 32:=hak _ (List.getElem_mem (by omega : 0 < ss.length));rw [hk0];refine ldk (A:=RowK (some (radr p7)) c7 61 ss) (l:=ss) 0 (by simp) Own.rd hak (by omega) rfl rfl rfl rfl ?_;(conv=>whnf);refine Cq.pu (q4y _ x hx) rfl ?_;(conv=>whnf);refine Sub.r [4,2] [0,0,0,0] ?_;conv=>whnf
  refine Cq.pu (q75 _ (Own (some (radr q)) c11 5 1 (u8s B)) (Ent.a mm) (hK.ent (Ent.a mm)) ss[0] hkl0 (some (radr q)) c11 B ⟨Own.rd,hc11⟩ (by omega)) rfl ?_;(conv=>whnf);refine Sub.r [4,2] [0,0,0,0] ?_;(conv=>whnf);exact Ret.m (a14,c14) [] [0,2] ⟨hc14,fun e=>List.eq_nil_of_length_eq_zero (hn14 e)⟩ rfl ⟨⟨mok (q1h x) _,mok hbj _,mok (q0x _ _) _,trivial⟩,trivial,trivial,trivial⟩ kk ⟨rfl,rfl⟩
end
section
structure StepS where
  cmd : Cmd
  next : HdrS
  secret : List UInt8
  tag : List UInt8
abbrev StepS.sg (s : StepS) : List Seg:=[.one (.int .i64 s.cmd.k),.one (.int .i64 s.cmd.n),.one (.int .i64 s.cmd.d),.many 8 (u8s s.cmd.id),.many 32 (u8s s.next.alpha),.many 160 (u8s s.next.beta),.many 16 (u8s s.next.gamma),.many 32 (u8s s.secret),.many 16 (u8s s.tag)]
structure StepS.ok (x : StepS) : Prop where
  c : x.cmd.id.length = 8
  n : x.next.ok
  s : x.secret.length = 32
  t : x.tag.length = 16
theorem StepS.okL {s : StepS} (o : s.ok) (B : Names) : okL B s.sg:=⟨trivial,trivial,trivial,mok o.c _,mok o.n.a _,mok o.n.b _,mok o.n.g _,mok o.s _,mok o.t _,trivial⟩
def step0 : StepS:=⟨cmd0,hdr0,zk,List.replicate 16 0⟩
theorem q4w : step0.ok:=⟨List.length_replicate,q8p,q3n,List.length_replicate⟩
def openB (s beta : List UInt8) : List UInt8:=xorB (beta ++ List.replicate 32 0) (q0b s)
theorem q79 {s beta : List UInt8} (h : beta.length = 160) : (openB s beta).length = 192:=by
  unfold openB;rw [q1p (by rw [q17];simp [h])];simp [h]
def q2a (own s : List UInt8) (h : HdrS) : StepS × Int :=
  if (q00 (q08 s h.alpha) h.alpha).2 = 0 then (⟨(decC ((openB s h.beta).take 16)).1,⟨(q00 (q08 s h.alpha) h.alpha).1,((openB s h.beta).drop 32).take 160,((openB s h.beta).drop 16).take 16⟩,s,tagH s⟩,0)
  else (step0,(q00 (q08 s h.alpha) h.alpha).2)
def q29 (own s : List UInt8) (h : HdrS) : StepS × Int :=
  if (decC ((openB s h.beta).take 16)).2 = 0 then q2a own s h else (step0,(decC ((openB s h.beta).take 16)).2)
def q28 (own s : List UInt8) (h : HdrS) : StepS × Int :=
  if q0f s h.beta = h.gamma then q29 own s h else (step0,6)
def q0w (own : List UInt8) (h : HdrS) : StepS × Int :=
  if (q00 own h.alpha).2 = 0 then q28 own (q00 own h.alpha).1 h else (step0,(q00 own h.alpha).2)
theorem uw_a {own : List UInt8} {h : HdrS} (e : (q00 own h.alpha).2 ≠ 0) : q0w own h = (step0,(q00 own h.alpha).2):=if_neg e
theorem uw_b {own : List UInt8} {h : HdrS} (e : (q00 own h.alpha).2 = 0) : q0w own h = q28 own (q00 own h.alpha).1 h:=if_pos e
theorem uw_c {own s : List UInt8} {h : HdrS} (e : q0f s h.beta ≠ h.gamma) : q28 own s h = (step0,6):=if_neg e
theorem uw_d {own s : List UInt8} {h : HdrS} (e : q0f s h.beta = h.gamma) : q28 own s h = q29 own s h:=if_pos e
theorem uw_e {own s : List UInt8} {h : HdrS} (e : (decC ((openB s h.beta).take 16)).2 ≠ 0) : q29 own s h = (step0,(decC ((openB s h.beta).take 16)).2):=if_neg e
theorem uw_f {own s : List UInt8} {h : HdrS} (e : (decC ((openB s h.beta).take 16)).2 = 0) : q29 own s h = q2a own s h:=if_pos e
theorem uw_g {own s : List UInt8} {h : HdrS} (e : (q00 (q08 s h.alpha) h.alpha).2 ≠ 0) : q2a own s h = (step0,(q00 (q08 s h.alpha) h.alpha).2):=if_neg e
theorem uw_h {own s : List UInt8} {h : HdrS} (e : (q00 (q08 s h.alpha) h.alpha).2 = 0) : q2a own s h = (⟨(decC ((openB s h.beta).take 16)).1,⟨(q00 (q08 s h.alpha) h.alpha).1,((openB s h.beta).drop 32).take 160,((openB s h.beta).drop 16).take 16⟩,s,tagH s⟩,0):=if_pos e
attribute [local irreducible] macD q0h strS q0b q00 q05 q0v q0c q01 q08 openB q28 q29 q2a q0w
theorem qgk {b : List UInt8} (h : b.length = 16) : (decC b).1.id.length = 8:=q9f h
theorem qlv (c : Cmd) (a b g s t : List UInt8) (q1 : c.id.length = 8) (q2 : a.length = 32) (q3 : b.length = 160) (q4 : g.length = 16) (q5 : s.length = 32) (q6 : t.length = 16) (e : Int) : StepS.ok ((⟨c,⟨a,b,g⟩,s,t⟩ : StepS),e).1:=⟨q1,⟨q2,q3,q4⟩,q5,q6⟩
theorem q8j (own : List UInt8) {h : HdrS} (o : h.ok) : (q0w own h).1.ok:=by
  by_cases h1 : (q00 own h.alpha).2 = 0
  · rw [uw_b h1];have hsl:=q1f own h.alpha;generalize (q00 own h.alpha).1 = s at hsl ⊢
    by_cases h2 : q0f s h.beta = h.gamma
    · rw [uw_d h2];have hol:=q79 (s:=s) o.b
      by_cases h3 : (decC ((openB s h.beta).take 16)).2 = 0
      · rw [uw_f h3]
        by_cases h4 : (q00 (q08 s h.alpha) h.alpha).2 = 0
        · rw [uw_h h4];have q1:=qgk (b:=(openB s h.beta).take 16) (by rw [List.length_take];omega);have q2:=q1f (q08 s h.alpha) h.alpha;have q3 : (((openB s h.beta).drop 32).take 160).length = 160:=by rw [List.length_take,List.length_drop];omega
          have q4 : (((openB s h.beta).drop 16).take 16).length = 16:=by rw [List.length_take,List.length_drop];omega
          have q5:=q96 s;generalize (decC ((openB s h.beta).take 16)).1 = c at q1 ⊢;generalize (q00 (q08 s h.alpha) h.alpha).1 = a at q2 ⊢;generalize ((openB s h.beta).drop 32).take 160 = b at q3 ⊢;generalize ((openB s h.beta).drop 16).take 16 = g at q4 ⊢;generalize tagH s = t at q5 ⊢;exact qlv _ _ _ _ _ _ q1 q2 q3 q4 hsl q5 _
        · rw [uw_g h4];exact q4w
      · rw [uw_e h3];exact q4w
    · rw [uw_c h2];exact q4w
  · rw [uw_a h1];exact q4w
theorem qj2 {b t k : Nat} {X Y Z : List Value} {fz : Nat × Nat} (h : X.length = k) : Rd (blk b (.cells (X ++ (Y ++ Z)).toArray t fz)) (some (radr (b,k))) Y :=
  Rd.blk rfl fun j u hj=>by
    show (X ++ (Y ++ Z)).toArray[k + j]? = some u;have:=(List.getElem?_eq_some_iff.1 hj).1;rw [List.getElem?_toArray,List.getElem?_append_right (by omega),show k + j - X.length = j by omega,List.getElem?_append_left this,hj]
theorem PtrOb.eqa {a : Option Addr} {q : Nat × Nat} {m : M} {f : Nat × Nat → Prop} (e : a = some (radr q)) (h : f q) : PtrOb a m f:=by rw [e];exact PtrOb.at h
theorem q9n (A : HP) (hK : Gl A) (own : List UInt8) (ho : own.length = 32) (h : HdrS) (o : h.ok) :
    Pu Tryd.prog 8 [.agg [.many 32 (u8s own)],.agg h.sg] A (.tup [.agg (q0w own h).1.sg,.c (.int .i64 (q0w own h).2)]):=by
  obtain ⟨al,be,ga⟩:=h;have hal:=o.a;have hbe:=o.b;have hga:=o.g;dsimp only at hal hbe hga;have hok0 : ∀ B,okL B step0.sg:=StepS.okL q4w;refine Con.of' tt_ok Tryd.func8 rfl (by decide) [.agg [.many 32 (u8s own)],.agg [.many 32 (u8s al),.many 160 (u8s be),.many 16 (u8s ga)]] [] [] rfl rfl trivial ⟨⟨mok ho _,trivial⟩,⟨mok hal _,mok hbe _,mok hga _,trivial⟩,trivial⟩ rfl ?_;(conv=>whnf);intro b2;(conv=>whnf);intro b3;(conv=>whnf);intro b4;(conv=>whnf);refine Cq.pu (q6i _ own al ho hal) rfl ?_
  have hkl:=q1f own al;have hA:=uw_a (own:=own) (h:=⟨al,be,ga⟩);have hB:=uw_b (own:=own) (h:=⟨al,be,ga⟩);dsimp only at hA hB;generalize q0w own ⟨al,be,ga⟩ = Z at hA hB ⊢;generalize q00 own al = y at hkl hA hB ⊢;obtain ⟨s,e1⟩:=y;dsimp only at hkl hA hB ⊢;(conv=>whnf);intro b6;(conv=>whnf);refine Cond.neI (fun h1=>?_) (fun h1=>?_)
  · rw [hA h1];(conv=>whnf);exact Ret.m () [] [0] trivial rfl ⟨hok0 _,trivial,trivial⟩ kk ⟨rfl,rfl⟩
  have hZ:=hB h1;clear hA hB;(conv=>whnf);intro b8;(conv=>whnf);have hrb : Rd (blk b3 (.cells (u8s al ++ (u8s be ++ (u8s ga ++ []))).toArray 43)) (some (radr (b3,32))) (u8s be):=qj2 (by rw [u8l,hal])
  have hrg : Rd (blk b3 (.cells (u8s al ++ (u8s be ++ (u8s ga ++ []))).toArray 43)) (some (radr (b3,192))) (u8s ga):=by
    rw [← List.append_assoc];exact qj2 (by rw [List.length_append,u8l,u8l];omega)
  have hpl:=q0x s be;have hC:=uw_c (own:=own) (s:=s) (h:=⟨al,be,ga⟩);have hD:=uw_d (own:=own) (s:=s) (h:=⟨al,be,ga⟩);dsimp only at hC hD;rw [← hZ] at hC hD;clear hZ
  refine Draw.cut (σ:=Nat) (fun b=>[(3,.c (.ptr 3 0)),(4,.c (.ptr 4 0)),(6,.c (.ptr 6 0)),(8,.c (.ptr 8 0)),(9,.c (.ptr 9 0))])
    (fun b=>⟨[(9,b),(8,b8),(6,b6),(4,b4),(3,b3)],[(9,[.many 16 (u8s (q0f s be))],41),(8,[.many 32 (u8s s)],61),(6,[.many 32 (u8s s)],23),(4,step0.sg,48),(3,[.many 32 (u8s al),.many 160 (u8s be),.many 16 (u8s ga)],43)],[A]⟩) (fun _=>True) ?_ ?_
  · refine Draw.a (by kernel_rfl) tt_ok (Tv.of [0,1,2] (.two 3 (Tv.of [4,5] .nil) 4 (Tv.of [3,5] .nil))) 1000000 (by kernel_rfl) ?_;(conv=>whnf);refine ⟨?_,?_⟩
    · (conv=>whnf);refine Cq.pu (q75 _ _ (Ent.refl _) (hK.ent (Ent.a mm)) s hkl (some (radr (b3,32))) 160 be ⟨Rd.all (A:=blk b3 (.cells (u8s al ++ (u8s be ++ (u8s ga ++ []))).toArray 43)) mm hrb,by omega,fun h=>by cases h⟩ (by omega)) (by rw [hbe];rfl) ?_;refine Sub.r [8,6,4,3,2] [0] ?_;(conv=>whnf);intro b9;refine Sub.r [8,6,4,3,2] [0] ?_;(conv=>whnf);refine Sub.r [8,6,4,3,2] [0] ?_;conv=>whnf
      exact ⟨b9,trivial,Wk.m [9,8,6,4,3] [0] kk ⟨⟨kk,mok hpl _,trivial⟩,⟨kk,mok hkl _,trivial⟩,⟨kk,mok hkl _,trivial⟩,⟨kk,hok0 _⟩,⟨kk,mok hal _,mok hbe _,mok hga _,trivial⟩,trivial⟩ ⟨rfl,rfl⟩⟩
    · (conv=>whnf);intro b9;refine Sub.r [8,6,4,3,2] [0] ?_;(conv=>whnf);refine Cq.pu (q75 _ _ (Ent.refl _) (hK.ent (Ent.a mm)) s hkl (some (radr (b3,32))) 160 be ⟨Rd.all (A:=blk b3 (.cells (u8s al ++ (u8s be ++ (u8s ga ++ []))).toArray 43)) mm hrb,by omega,fun h=>by cases h⟩ (by omega)) (by rw [hbe];rfl) ?_;refine Sub.r [8,6,4,3,2] [0] ?_;(conv=>whnf);refine Sub.r [8,6,4,3,2] [0] ?_;conv=>whnf
      exact ⟨b9,trivial,Wk.m [9,8,6,4,3] [0] kk ⟨⟨kk,mok hpl _,trivial⟩,⟨kk,mok hkl _,trivial⟩,⟨kk,mok hkl _,trivial⟩,⟨kk,hok0 _⟩,⟨kk,mok hal _,mok hbe _,mok hga _,trivial⟩,trivial⟩ ⟨rfl,rfl⟩⟩
  intro b9 _;generalize q0f s be = T at hpl hC hD ⊢;(conv=>whnf);refine Draw.a (by kernel_rfl) tt_ok (Tv.of (List.range 5) .nil) 1000000 (by kernel_rfl) ?_;(conv=>whnf);refine Cq.pu (qjm _ _ _ (Ent.refl _) (Ent.refl _) (some (radr (b9,0))) 16 T ⟨Rd.all (A:=blk b9 (.cells (u8s T ++ []).toArray 41)) mm q1l,by omega,fun h=>by cases h⟩ (some (radr (b3,192))) 16 ga ⟨Rd.all (A:=blk b3 (.cells (u8s al ++ (u8s be ++ (u8s ga ++ []))).toArray 43)) mm hrg,by omega,fun h=>by cases h⟩ (by omega)) (by rw [hpl,hga];rfl) ?_;refine Sub.whole ?_;conv=>whnf
  refine Cond.not (Cond.d (fun h2=>?_) (fun h2=>?_))
  case' refine_2 =>
    rw [hC h2];(conv=>whnf);exact Ret.m () [] [0] trivial rfl ⟨hok0 _,trivial,trivial⟩ kk ⟨rfl,rfl⟩
  have hZ:=hD h2;clear hC hD;(conv=>whnf);refine q5n (a:=some (radr (b3,32))) (n:=160) (cap:=160) (k:=32) (xs:=u8s be) (z0:=.int .u8 0) rfl (Src.slc (by exact ⟨u8s ga ++ [],by show (u8s al ++ (u8s be ++ (u8s ga ++ []))).drop 32 = u8s be ++ (u8s ga ++ []);rw [List.drop_left' (by rw [u8l,hal])]⟩)) (by omega) (by decide) (by rw [u8l,hbe]) (q14 _) rfl ⟨rfl,by decide,by decide⟩ rfl (by omega) 3 rfl ?_;intro a10 c10 hc10 hn10
  have hul : u8s be ++ List.replicate 32 (Value.int .u8 0) = u8s (be ++ List.replicate 32 0):=by rw [q1i];simp [u8s,u8]
  rw [hul];(conv=>whnf);refine Cq.new (q9e _ (hK.ent (Ent.a mm)) s hkl) rfl fun t ht=>?_;have hsl:=q17 s;have hO : openB s be = xorB (be ++ List.replicate 32 0) (q0b s):=by unfold openB;rfl
  have hOl:=q79 (s:=s) hbe;(conv=>whnf);have hfz : (be ++ List.replicate 32 (0 : UInt8)).length = 192:=by simp [hbe]
  generalize q0b s = Y at hsl hO ⊢;refine Cq.by' [] [1] (mix_c _ (OwnO t 192 5 1 (u8s Y)) (Ent.a mm) a10 c10 (be ++ List.replicate 32 0) ⟨by omega,fun h=>absurd h hn10⟩ t 192 Y OwnO.rd (by omega) (by omega)) (by rw [hfz,hsl];rfl) ⟨rfl,rfl,rfl,fun _ _=>⟨rfl,?_⟩⟩
  rw [← hO];have hE2:=uw_e (own:=own) (s:=s) (h:=⟨al,be,ga⟩);have hF2:=uw_f (own:=own) (s:=s) (h:=⟨al,be,ga⟩);have hG:=uw_g (own:=own) (s:=s) (h:=⟨al,be,ga⟩);have hH:=uw_h (own:=own) (s:=s) (h:=⟨al,be,ga⟩);dsimp only at hE2 hF2 hG hH;generalize openB s be = O at hOl hE2 hF2 hG hH ⊢;(conv=>whnf);have hrO : Rd (Own a10 c10 5 1 (u8s O)) a10 (u8s O):=Own.rd;refine ⟨by omega,PtrOb.rd (A:=Own a10 c10 5 1 (u8s O)) (by simp) hrO (by rw [u8l];omega) fun p hp=>?_⟩;subst hp;conv=>whnf
  have h16 : (O.take 16).length = 16:=by rw [List.length_take];omega
  refine lds (A:=Own (some (radr p)) c10 5 1 (u8s O)) 0 [.many 16 (u8s (O.take 16))] rfl (by simp) hrO rfl rfl ?_ ?_ (by decide) (q02 ⟨mok h16 _,trivial⟩) ?_
  · show u8s (O.take 16) ++ [] = ((u8s O).drop 0).take 16;rw [List.append_nil,List.drop_zero,q1w]
  · show (u8s (O.take 16) ++ []).length = 16;rw [List.append_nil,u8l,h16]
  (conv=>whnf);refine Cq.pu (qfp _ (O.take 16) h16) rfl ?_;have hcl:=qgk h16;generalize decC (O.take 16) = y at hcl hE2 hF2 hH ⊢;obtain ⟨c,e3⟩:=y;dsimp only at hcl hE2 hF2 hH ⊢;(conv=>whnf);intro b11;(conv=>whnf);refine Cond.neI (fun h3=>?_) (fun h3=>?_)
  · rw [hZ,hE2 h3];(conv=>whnf);exact Ret.m () [] [2] trivial rfl ⟨hok0 _,trivial,trivial⟩ kk ⟨rfl,rfl⟩
  have hZ2:=hZ.trans (hF2 h3);clear hE2 hF2 hZ;have hul2:=q1f (q08 s al) al;have hsh:=fun A=>q6i A (q08 s al) al (q45 s al) hal;generalize q00 (q08 s al) al = y at hul2 hsh hG hH;obtain ⟨u,e4⟩:=y;dsimp only at hul2 hsh hG hH
  refine Draw.cut (σ:=Nat) (fun b=>[(4,.c (.ptr 4 0)),(6,.c (.ptr 6 0)),(7,.c (.int .i64 e4)),(8,.c (.ptr 8 0)),(10,.c (.rs (some (radr p)) 192 c10)),(11,.c (.ptr 11 0)),(12,.c (.ptr 12 0))])
    (fun b=>⟨[(12,b),(11,b11),(8,b8),(6,b6),(4,b4)],[(12,[.many 32 (u8s u)],23),(11,c.sg,32),(8,[.many 32 (u8s s)],61),(6,[.many 32 (u8s s)],23),(4,step0.sg,48)],[Own (some (radr p)) c10 5 1 (u8s O),A]⟩) (fun _=>True) ?_ ?_
  · refine Draw.a (by kernel_rfl) tt_ok (Tv.of [0,1,2,4,5] (.two 3 ((.two 6 (Tv.of [7,8,9,10,11,12] .nil) 10 (Tv.of [6,7,8,9,11,12] .nil))) 10 (Tv.of [3,6,7,8,9,11,12] .nil))) 1000000 (by kernel_rfl) ?_;(conv=>whnf);refine ⟨?_,?_⟩
    · (conv=>whnf);refine Cq.pu (q5f _ (hK.ent (Ent.a mm)) s al hkl hal) rfl ?_;refine Sub.r [11,9,8,6,4,3] [0,0,0] ?_;(conv=>whnf);refine ⟨?_,?_⟩
      · (conv=>whnf);refine Cq.pu (hsh _) rfl ?_;refine Sub.r [11,9,8,6,4,3] [0,0,0] ?_;(conv=>whnf);intro b12;refine Sub.r [11,9,8,6,4,3] [0,0,0] ?_;(conv=>whnf);refine Sub.r [11,9,8,6,4,3] [0,0,0] ?_;(conv=>whnf);exact ⟨b12,trivial,Wk.m [12,11,8,6,4] [0,1] kk ⟨⟨kk,mok hul2 _,trivial⟩,⟨kk,Seg.ok_cmd c hcl _⟩,⟨kk,mok hkl _,trivial⟩,⟨kk,mok hkl _,trivial⟩,⟨kk,hok0 _⟩,trivial⟩ ⟨rfl,rfl⟩⟩
      · (conv=>whnf);intro b12;refine Sub.r [11,9,8,6,4,3] [0,0,0] ?_;(conv=>whnf);refine Cq.pu (hsh _) rfl ?_;refine Sub.r [11,9,8,6,4,3] [0,0,0] ?_;(conv=>whnf);refine Sub.r [11,9,8,6,4,3] [0,0,0] ?_;(conv=>whnf);exact ⟨b12,trivial,Wk.m [12,11,8,6,4] [0,1] kk ⟨⟨kk,mok hul2 _,trivial⟩,⟨kk,Seg.ok_cmd c hcl _⟩,⟨kk,mok hkl _,trivial⟩,⟨kk,mok hkl _,trivial⟩,⟨kk,hok0 _⟩,trivial⟩ ⟨rfl,rfl⟩⟩
    · (conv=>whnf);intro b12;refine Sub.r [11,9,8,6,4,3] [0,0,0] ?_;(conv=>whnf);refine Cq.pu (q5f _ (hK.ent (Ent.a mm)) s al hkl hal) rfl ?_;refine Sub.r [11,9,8,6,4,3] [0,0,0] ?_;(conv=>whnf);refine Cq.pu (hsh _) rfl ?_;refine Sub.r [11,9,8,6,4,3] [0,0,0] ?_;(conv=>whnf);refine Sub.r [11,9,8,6,4,3] [0,0,0] ?_;conv=>whnf
      exact ⟨b12,trivial,Wk.m [12,11,8,6,4] [0,1] kk ⟨⟨kk,mok hul2 _,trivial⟩,⟨kk,Seg.ok_cmd c hcl _⟩,⟨kk,mok hkl _,trivial⟩,⟨kk,mok hkl _,trivial⟩,⟨kk,hok0 _⟩,trivial⟩ ⟨rfl,rfl⟩⟩
  intro b12 _;(conv=>whnf);refine Cond.neI (fun h4=>?_) (fun h4=>?_)
  · rw [hZ2,hG h4];(conv=>whnf);exact Ret.m () [] [1] trivial rfl ⟨hok0 _,trivial,trivial⟩ kk ⟨rfl,rfl⟩
  rw [hZ2,hH h4];clear hG hH hZ2;(conv=>whnf);refine Draw.a (by kernel_rfl) tt_ok (Tv.of (List.range 17) .nil) 15 (by kernel_rfl) ?_;(conv=>whnf);refine ⟨by omega,?_⟩;have hc10' : 192 ≤ c10:=by omega
  have hcut : ∀ k,k < 192 → cutA (some (radr p)) c10 k 1 = some (radr (p.1,p.2 + k)):=fun k hk=>by
    unfold cutA;rw [if_neg (by omega),Nat.mul_one];show some ((⟨p.1,p.2,none⟩ : Addr).add k) = _;rw [q0g];rfl
  (conv=>whnf);refine ⟨by decide,PtrOb.eqa (hcut 32 (by decide)) ?_⟩;(conv=>whnf);have h160 : ((O.drop 32).take 160).length = 160:=by rw [List.length_take,List.length_drop];omega
  have hg16 : ((O.drop 16).take 16).length = 16:=by rw [List.length_take,List.length_drop];omega
  refine lds (A:=Own (some (radr p)) c10 5 1 (u8s O)) 32 [.many 160 (u8s ((O.drop 32).take 160))] rfl (by simp) hrO rfl rfl ?_ ?_ (by decide) (q02 ⟨mok h160 _,trivial⟩) ?_
  · show u8s ((O.drop 32).take 160) ++ [] = ((u8s O).drop 32).take 160;rw [List.append_nil,q1w,q50]
  · show (u8s ((O.drop 32).take 160) ++ []).length = 160;rw [List.append_nil,u8l,h160]
  (conv=>whnf);refine ⟨by omega,?_⟩;(conv=>whnf);refine ⟨by decide,PtrOb.eqa (hcut 16 (by decide)) ?_⟩;(conv=>whnf);refine lds (A:=Own (some (radr p)) c10 5 1 (u8s O)) 16 [.many 16 (u8s ((O.drop 16).take 16))] rfl (by simp) hrO rfl rfl ?_ ?_ (by decide) (q02 ⟨mok hg16 _,trivial⟩) ?_
  · show u8s ((O.drop 16).take 16) ++ [] = ((u8s O).drop 16).take 16;rw [List.append_nil,q1w,q50]
  · show (u8s ((O.drop 16).take 16) ++ []).length = 16;rw [List.append_nil,u8l,hg16]
  (conv=>whnf);refine Cq.pu (tag_h _ (hK.ent (Ent.a mm)) s hkl) rfl ?_;(conv=>whnf);refine Sub.whole ?_;(conv=>whnf);exact Ret.m () [] [1] trivial rfl ⟨⟨trivial,trivial,trivial,mok hcl _,mok hul2 _,mok h160 _,mok hg16 _,mok hkl _,mok (q96 s) _,trivial⟩,trivial,trivial⟩ kk ⟨rfl,rfl⟩
end
section
theorem q9u (a b y : List UInt8) : xorB (a ++ b) y = xorB a (y.take a.length) ++ xorB b (y.drop a.length):=by
  unfold xorB;conv=>lhs;rw [← List.take_append_drop a.length y]
  by_cases h : a.length ≤ y.length
  · rw [List.zipWith_append (by rw [List.length_take];omega)]
  · rw [List.drop_of_length_le (by omega),List.append_nil,List.take_of_length_le (by omega),List.zipWith_nil_right,List.append_nil]
    have : ∀ (a b y : List UInt8),y.length ≤ a.length → List.zipWith (· ^^^ ·) (a ++ b) y = List.zipWith (· ^^^ ·) a y:=fun a b=>by
      induction a with
      | nil=>intro y h;cases y with
        | nil=>simp
        | cons c t=>simp at h
      | cons c t ih =>
        intro y h
        cases y with
        | nil=>simp
        | cons d u=>simp only [List.cons_append,List.zipWith_cons_cons];rw [ih u (by simpa using h)]
    exact this a b y (by omega)
theorem qjg (l y : List UInt8) (k : Nat) : (xorB l y).drop k = xorB (l.drop k) (y.drop k):=by unfold xorB;rw [List.drop_zipWith]
theorem qf5 (l y : List UInt8) (k : Nat) : (xorB l y).take k = xorB (l.take k) (y.take k):=by unfold xorB;rw [List.take_zipWith]
theorem qc5 : ∀ (l y : List UInt8),xorB l (y.take l.length) = xorB l y
  | [],y=>by simp [xorB]
  | a :: l,[]=>by simp [xorB]
  | a :: l,b :: y=>by
    have:=qc5 l y;unfold xorB at this ⊢;simp only [List.length_cons,List.take_succ_cons,List.zipWith_cons_cons];rw [this]
theorem q6o : ∀ (l y : List UInt8),l.length ≤ y.length → xorB (xorB l y) y = l
  | [],y,_=>by simp [xorB]
  | a :: l,[],h=>by simp at h
  | a :: l,b :: y,h=>by
    have:=q6o l y (by simpa using h);unfold xorB at this ⊢;simp only [List.zipWith_cons_cons];rw [this,UInt8.xor_assoc,UInt8.xor_self,UInt8.xor_zero]
theorem qbw : ∀ (n : Nat) (y : List UInt8),xorB (List.replicate n 0) y = y.take n
  | 0,y=>by simp [xorB]
  | n + 1,[]=>by simp [xorB]
  | n + 1,b :: y=>by
    have:=qbw n y;unfold xorB at this ⊢;simp only [List.replicate_succ,List.zipWith_cons_cons,List.take_succ_cons];rw [this,UInt8.zero_xor]
attribute [local irreducible] macD q0h strS q0b q00 q05 q0v q0c q01 q08 openB q0f decC
theorem ql1 {c : Cmd} (h : c.may = true) : c.enc = (c.bytes,0):=by unfold Cmd.enc;rw [if_pos h]
theorem qdq {ss : List (List UInt8)} {hs : List HopS} (ho : okHs hs) (h1 : 1 ≤ hs.length) (h5 : hs.length ≤ 5) (hl : ss.length = hs.length) : ∀ j,j ≤ hs.length - 1 →
    (betaJ ss hs j).drop (160 - 32 * (hs.length - 1 - j)) = fillG [] (ss.take (hs.length - 1 - j))
  | 0,_=>by
    have hf:=q3c (l:=ss) (by omega) (by omega)
    have hL : (layH (kAt ss (hs.length - 1)) (cAt hs (hs.length - 1)) (List.replicate (160 - (q0n ss).length - 16) 0)).length = 160 - 32 * (hs.length - 1):=by
      rw [q6k (q4n ho (by omega)) (by rw [List.length_replicate];omega),List.length_replicate];omega
    show (layH _ _ _ ++ q0n ss).drop _ = _;rw [Nat.sub_zero,List.drop_left' hL];unfold q0n;rw [hl]
  | j + 1,h=>by
    have ih:=qdq ho h1 h5 hl j (by omega);have hbl:=q2p ho h1 h5 hl j (by omega);obtain ⟨i,hi⟩ : ∃ i,hs.length - 2 - j = i:=⟨_,rfl⟩;have e1 : hs.length - 1 - j = i + 1:=by omega
    have e2 : hs.length - 1 - (j + 1) = i:=by omega
    have his : i < ss.length:=by omega
    have hc:=q4n ho (i:=i) (by omega);have hp:=q0x (kAt ss (i + 1)) (betaJ ss hs j);rw [e1] at ih;rw [e2]
    have hst : betaJ ss hs (j + 1) = layH (kAt ss i) (cAt hs i) (q0f (kAt ss (i + 1)) (betaJ ss hs j) ++ (betaJ ss hs j).take 128):=by
      rw [← hi];rfl
    have hfl : (fillG [] (ss.take i)).length = 32 * i:=by
      have ht : (ss.take i).length = i:=by rw [List.length_take];omega
      rw [q3o _ _ (by rw [ht];show 0 + _ ≤ _;omega),ht];show 0 + _ = _;omega
    have hsn:=q41 (ss.take i) [] (kAt ss i);rw [show ss.take i ++ [kAt ss i] = ss.take (i + 1) by rw [q56 his,List.take_succ_eq_append_getElem his],hfl] at hsn;rw [hsn] at ih;rw [hst];unfold layH;have hel:=Cmd.enc_len hc;have hsl:=q17 (kAt ss i);generalize (cAt hs i).enc.1 = E at hel ⊢;generalize q0f (kAt ss (i + 1)) (betaJ ss hs j) = T at hp ⊢;generalize betaJ ss hs j = B at ih hbl ⊢;generalize q0b (kAt ss i) = S at ih hsl ⊢;generalize fillG [] (ss.take i) = f at hfl ih ⊢
    rw [qjg,← List.append_assoc,List.drop_append,List.drop_of_length_le (by rw [List.length_append];omega),List.nil_append,List.length_append,hel,hp]
    have e3 : (B.take 128).drop (160 - 32 * i - (16 + 16)) = (B.drop (160 - 32 * (i + 1))).take (32 * i):=by
      rw [List.drop_take,show 160 - 32 * i - (16 + 16) = 160 - 32 * (i + 1) by omega,show 128 - (160 - 32 * (i + 1)) = 32 * i by omega]
    rw [e3,ih,q9u,hfl]
    have e4 : (xorB f ((S.drop (192 - (32 * i + 32))).take (32 * i))).length = 32 * i:=by
      rw [q1p (by rw [List.length_take,List.length_drop];omega),hfl]
    rw [List.take_left' e4]
    have e5 : xorB f ((S.drop (192 - (32 * i + 32))).take (32 * i)) = xorB f (S.drop (160 - 32 * i)):=by
      have:=qc5 f (S.drop (192 - (32 * i + 32)));rw [hfl] at this;rw [this];congr 2;omega
    rw [e5];exact q6o _ _ (by rw [List.length_drop];omega)
theorem qeu {ss : List (List UInt8)} {hs : List HopS} (ho : okHs hs) (h1 : 1 ≤ hs.length) (h5 : hs.length ≤ 5) (hl : ss.length = hs.length) {j i : Nat} (hj : j + 1 ≤ hs.length - 1) (hi : hs.length - 2 - j = i) :
    openB (kAt ss i) (betaJ ss hs (j + 1)) = (cAt hs i).enc.1 ++ (q0f (kAt ss (i + 1)) (betaJ ss hs j) ++ betaJ ss hs j):=by
  have ih:=qdq ho h1 h5 hl j (by omega);have hbl:=q2p ho h1 h5 hl j (by omega);have e1 : hs.length - 1 - j = i + 1:=by omega
  have his : i < ss.length:=by omega
  have hc:=q4n ho (i:=i) (by omega);have hp:=q0x (kAt ss (i + 1)) (betaJ ss hs j);rw [e1] at ih
  have hst : betaJ ss hs (j + 1) = layH (kAt ss i) (cAt hs i) (q0f (kAt ss (i + 1)) (betaJ ss hs j) ++ (betaJ ss hs j).take 128):=by
    rw [← hi];rfl
  have hfl : (fillG [] (ss.take i)).length = 32 * i:=by
    have ht : (ss.take i).length = i:=by rw [List.length_take];omega
    rw [q3o _ _ (by rw [ht];show 0 + _ ≤ _;omega),ht];show 0 + _ = _;omega
  have hsn:=q41 (ss.take i) [] (kAt ss i);rw [show ss.take i ++ [kAt ss i] = ss.take (i + 1) by rw [q56 his,List.take_succ_eq_append_getElem his],hfl] at hsn;rw [hsn] at ih;rw [hst];unfold layH openB;have hel:=Cmd.enc_len hc;have hsl:=q17 (kAt ss i);generalize (cAt hs i).enc.1 = E at hel ⊢;generalize q0f (kAt ss (i + 1)) (betaJ ss hs j) = T at hp ⊢;generalize betaJ ss hs j = B at ih hbl ⊢;generalize q0b (kAt ss i) = S at ih hsl ⊢;generalize fillG [] (ss.take i) = f at hfl ih ⊢
  have hM : (E ++ (T ++ B.take 128)).length = 160:=by rw [List.length_append,List.length_append,List.length_take];omega
  have hx:=q1p (l:=E ++ (T ++ B.take 128)) (y:=S) (by omega);rw [q9u,hx,hM]
  have e3 : xorB (xorB (E ++ (T ++ B.take 128)) S) (S.take 160) = E ++ (T ++ B.take 128):=by
    have k:=qc5 (xorB (E ++ (T ++ B.take 128)) S) S;rw [hx,hM] at k;rw [k];exact q6o _ _ (by omega)
  have e4 : B.drop 128 = S.drop 160:=by
    have k:=congrArg (List.drop (32 * i)) ih
    have hz : (xorB f ((S.drop (192 - (32 * i + 32))).take f.length)).length = 32 * i:=by
      rw [q1p (by rw [List.length_take,List.length_drop];omega),hfl]
    rw [List.drop_drop,q9u,List.drop_left' hz,qbw,List.drop_drop,List.take_of_length_le (by rw [List.length_drop];omega),hfl] at k;rw [show 160 - 32 * (i + 1) + 32 * i = 128 by omega] at k;rw [k];congr 1;omega
  have e5 : xorB (List.replicate 32 0) (S.drop 160) = B.drop 128:=by rw [qbw,e4,List.take_of_length_le (by rw [List.length_drop];omega)]
  rw [e3,e5,List.append_assoc,List.append_assoc,List.take_append_drop]
theorem qfk {ss : List (List UInt8)} {hs : List HopS} (ho : okHs hs) (h1 : 1 ≤ hs.length) (h5 : hs.length ≤ 5) (hl : ss.length = hs.length) :
    (openB (kAt ss (hs.length - 1)) (betaJ ss hs 0)).take 16 = (cAt hs (hs.length - 1)).enc.1:=by
  have hf:=q3c (l:=ss) (by omega) (by omega);have hc:=q4n ho (i:=hs.length - 1) (by omega);have hel:=Cmd.enc_len hc;have hsl:=q17 (kAt ss (hs.length - 1));show (openB _ (layH _ _ _ ++ q0n ss)).take 16 = _;unfold openB layH;generalize (cAt hs (hs.length - 1)).enc.1 = E at hel ⊢;generalize q0b (kAt ss (hs.length - 1)) = S at hsl ⊢;generalize hn : 160 - (q0n ss).length - 16 = n
  have hxl : (xorB (E ++ List.replicate n 0) S).length = 16 + n:=by
    rw [q1p (by rw [List.length_append,List.length_replicate];omega),List.length_append,List.length_replicate,hel]
  rw [qf5,List.append_assoc,List.take_append_of_le_length (by omega),qf5,List.take_left' hel];exact q6o _ _ (by rw [List.length_take];omega)
end
section
def hdrOf (b : List UInt8) : HdrS:=⟨b.take 32,(b.drop 32).take 160,(b.drop 192).take 16⟩
def encH (h : HdrS) : List UInt8:=h.alpha ++ h.beta ++ h.gamma
theorem qd6 {h : HdrS} (o : h.ok) : (encH h).length = 208:=by
  have:=o.a;have:=o.b;have:=o.g;unfold encH;rw [List.length_append,List.length_append];omega
theorem hdrOf_enc {h : HdrS} (o : h.ok) : hdrOf (encH h) = h:=by
  obtain ⟨a,b,g⟩:=h;have ha:=o.a;have hb:=o.b;have hg:=o.g;dsimp only at ha hb hg;unfold hdrOf encH;dsimp only;have h1 : (a ++ b ++ g).take 32 = a:=by rw [List.append_assoc,List.take_left' ha]
  have h2 : ((a ++ b ++ g).drop 32).take 160 = b:=by rw [List.append_assoc,List.drop_left' ha,List.take_left' hb]
  have h3 : ((a ++ b ++ g).drop 192).take 16 = g:=by rw [List.drop_left' (by rw [List.length_append];omega),List.take_of_length_le (by omega)]
  rw [h1,h2,h3]
theorem qh8 (A : HP) (h : HdrS) (o : h.ok) : FB Tryd.prog 10 [.agg h.sg] A 5 (encH h):=by
  obtain ⟨al,be,ga⟩:=h;have hal:=o.a;have hbe:=o.b;have hga:=o.g;dsimp only at hal hbe hga;have hel:=qd6 o;show FB Tryd.prog 10 [.agg [.many 32 (u8s al),.many 160 (u8s be),.many 16 (u8s ga)]] A 5 (al ++ be ++ ga);refine Con.of' tt_ok Tryd.func10 rfl (by decide) [.agg [.many 32 (u8s al),.many 160 (u8s be),.many 16 (u8s ga)]] [] [] rfl rfl trivial ⟨⟨mok hal _,mok hbe _,mok hga _,trivial⟩,trivial⟩ rfl ?_;(conv=>whnf);intro b1;(conv=>whnf);refine With.own0 5 1 ?_
  refine appb (l:=[]) (m:=al) (.refl _) (Src.slc (by exact ⟨_,rfl⟩)) rfl hal.symm ⟨rfl,by decide,by decide⟩ (by show 0 + _ ≤ _;omega) 53 (.inr rfl) ?_;intro a3 c3 hc3;rw [List.nil_append] at hc3 ⊢;(conv=>whnf);refine appb (l:=al) (m:=be) (.refl _) (Src.slc (by exact ⟨u8s ga ++ [],by show (u8s al ++ (u8s be ++ (u8s ga ++ []))).drop 32 = u8s be ++ (u8s ga ++ []);rw [List.drop_left' (by rw [u8l,hal])]⟩)) rfl hbe.symm ⟨rfl,by decide,by decide⟩ (by omega) 53 (.inr rfl) ?_;clear hc3;intro a3 c3 hc3;conv=>whnf
  refine appb (l:=al ++ be) (m:=ga) (.refl _) (Src.slc (by exact ⟨[],by show (u8s al ++ (u8s be ++ (u8s ga ++ []))).drop 192 = u8s ga ++ [];rw [← List.append_assoc,List.drop_left' (by rw [List.length_append,u8l,u8l];omega)]⟩)) rfl hga.symm ⟨rfl,by decide,by decide⟩ (by rw [List.length_append];omega) 53 (.inr rfl) ?_;clear hc3;intro a3 c3 hc3;(conv=>whnf);exact Ret.m (a3,c3) [] [0,0] hc3 rfl kk kk ⟨rfl,rfl⟩
end
section
def cmdShH : Sh:=.pair (.int .i64) (.pair (.int .i64) (.pair (.int .i64) (.pair (.barr 8) .unit)))
structure Cmd.wf (c : Cmd) : Prop where
  k : (Lit.int .i64 c.k).wf = true
  n : (Lit.int .i64 c.n).wf = true
  d : (Lit.int .i64 c.d).wf = true
  i : c.id.length = 8
theorem lit64 {n : Int} (h : -9223372036854775808 ≤ n ∧ n ≤ 9223372036854775807) : (Lit.int .i64 n).wf = true:=by
  simpa [Lit.wf,IntKind.min,IntKind.max,IntKind.signed,IntKind.bits] using h
theorem qae {c : Cmd} (h : c.wf) (R : HP) : Go.Sx.Good R cmdShH (c.k,c.n,c.d,c.id,()) (dens [] c.sg) :=
  ⟨_,_,rfl,⟨rfl,h.k⟩,_,_,rfl,⟨rfl,h.n⟩,_,_,rfl,⟨rfl,h.d⟩,_,_,rfl,⟨h.i,rfl⟩,rfl⟩
theorem qic : Fits Tryd.prog cmdShH 32 = true:=by simp only [Fits,q1c,cmdShH,Tryd.underlying32,Tryd.underlying3,Tryd.underlying30,Tryd.underlying5];kernel_rfl
theorem qjd : Fits Tryd.prog (.barr 16) 41 = true:=by simp only [Fits,Tryd.underlying41,Tryd.underlying5];kernel_rfl
theorem qlp : Tryd.prog.keyTypeAt 5 41 = true:=by kernel_rfl
theorem qlg : Tryd.prog.eqGuardType Tryd.prog.depth 41 = false:=by kernel_rfl
theorem qkq : Tryd.prog.keyTypeAt 9 32 = true:=by kernel_rfl
theorem qke : Tryd.prog.eqGuardType Tryd.prog.depth 32 = false:=by kernel_rfl
theorem qk0 {l m : List UInt8} {xs ys : List Value} {f : Bool → Prop} (hl : l.length = 16) (hm : m.length = 16) (ex : xs = u8s l) (ey : ys = u8s m) (h : f (decide (l = m))) : EqAgg Tryd.prog 41 xs ys f:=by
  subst ex ey;refine qdv (s:=.barr 16) (R:=fun _=>True) (R':=fun _=>True) ⟨.unit,.unit,.inr ⟨16,.inl rfl⟩⟩ rfl qjd qlp (by decide) qlg (q37 hl _) (q37 hm _) fun b hb=>?_
  have : b = decide (l = m):=by
    cases b with
    | true=>rw [decide_eq_true (hb.1 rfl)]
    | false=>rw [decide_eq_false (fun e=>by cases hb.2 e)]
  rw [this];exact h
theorem qb8 {c d : Cmd} {xs ys : List Value} {f : Bool → Prop} (hc : c.wf) (hd : d.wf) (ex : xs = dens [] c.sg) (ey : ys = dens [] d.sg) (h : ∀ b : Bool,(b = true ↔ c = d) → f b) : EqAgg Tryd.prog 32 xs ys f:=by
  subst ex ey;refine qdv (s:=cmdShH) (R:=fun _=>True) (R':=fun _=>True) ⟨_,_,.inl rfl⟩ rfl qic qkq (by decide) qke (qae hc _) (qae hd _) fun b hb=>h b (hb.trans ?_);obtain ⟨k,n,z,id⟩:=c;obtain ⟨k',n',z',id'⟩:=d;refine ⟨fun e=>?_,fun e=>by cases e;rfl⟩;have e1 : k = k':=congrArg (fun z : cmdShH.T=>z.1) e;have e2 : n = n':=congrArg (fun z : cmdShH.T=>z.2.1) e;have e3 : z = z':=congrArg (fun z : cmdShH.T=>z.2.2.1) e;have e4 : id = id':=congrArg (fun z : cmdShH.T=>z.2.2.2.1) e;rw [e1,e2,e3,e4]
theorem q6v : cmd0.wf:=⟨rfl,rfl,rfl,rfl⟩
theorem qk3 {b : List UInt8} (h : b.length = 16) : (decC b).1.wf:=by
  have q0:=gd_lt b 0;have q1:=gd_lt b 1;have q2:=gd_lt b 2;have q3:=gd_lt b 3;have hl:=q9f h;unfold decC at hl ⊢;split
  · next hc =>
    rw [if_pos hc] at hl;exact ⟨lit64 (by show _ ≤ (gd b 0 : Int) ∧ (gd b 0 : Int) ≤ _;omega),lit64 (by show _ ≤ (gd b 1 : Int) ∧ (gd b 1 : Int) ≤ _;omega),lit64 (by show _ ≤ (256 * gd b 2 + gd b 3 : Int) ∧ (256 * gd b 2 + gd b 3 : Int) ≤ _;omega),hl⟩
  · exact q6v
attribute [local irreducible] macD q0h strS q0b q00 q05 q0v q0c q01 q08 openB q28 q29 q2a q0w decC
theorem qe8 (own : List UInt8) {h : HdrS} (o : h.ok) : (q0w own h).1.cmd.wf:=by
  by_cases h1 : (q00 own h.alpha).2 = 0
  · rw [uw_b h1];generalize (q00 own h.alpha).1 = s
    by_cases h2 : q0f s h.beta = h.gamma
    · rw [uw_d h2];have hol:=q79 (s:=s) o.b
      by_cases h3 : (decC ((openB s h.beta).take 16)).2 = 0
      · rw [uw_f h3]
        by_cases h4 : (q00 (q08 s h.alpha) h.alpha).2 = 0
        · rw [uw_h h4];exact qk3 (b:=(openB s h.beta).take 16) (by rw [List.length_take];omega)
        · rw [uw_g h4];exact q6v
      · rw [uw_e h3];exact q6v
    · rw [uw_c h2];exact q6v
  · rw [uw_a h1];exact q6v
end
section
theorem qaz {c : Cmd} (h : c.id.length = 8) (hm : c.may = true) : cmdOf c.bytes = c:=by
  have hle:=Cmd.may_le hm;have e3 : c.d.fdiv 256 = 0:=by rw [Int.fdiv_eq_ediv_of_nonneg _ (by decide)];omega
  have e : c.bytes = by8 c.k :: by8 c.n :: by8 0 :: by8 c.d :: (c.id ++ [0,0,0,0]):=by simp [Cmd.bytes,beb,e3]
  have k1:=q7l c.k (by omega);have k2:=q7l c.n (by omega);have k3:=q7l c.d (by omega);rw [e];obtain ⟨k,n,d,id⟩:=c;dsimp only at k1 k2 k3 h ⊢;unfold cmdOf;simp only [gd,List.getElem?_cons_zero,List.getElem?_cons_succ,Option.getD_some,List.drop_succ_cons,List.drop_zero,k1,k2,k3];rw [show List.take 8 (id ++ [0,0,0,0]) = id by rw [List.take_append_of_le_length (by omega),List.take_of_length_le (by omega)]];congr 1;show 256 * ((by8 0).toNat : Int) + d = d;have : (by8 0).toNat = 0:=rfl;rw [this];omega
theorem qbk {c : Cmd} (h : c.id.length = 8) (hm : c.may = true) : decC c.bytes = (c,0):=by
  have e:=qaz h hm;unfold decC;rw [if_pos ⟨(qc1 (Cmd.bytes_len h)).1 (by rw [e]),by rw [e];exact hm⟩,e]
attribute [local irreducible] macD q0h strS q0b q00 q05 q0v q0c q01 q08 openB q0f decC q28 q29 q2a q0w tagH betaJ alI q0j
def hdI (x : List UInt8) (hs : List HopS) (ss : List (List UInt8)) (i : Nat) : HdrS:=⟨alI ss (q01 x) i,betaJ ss hs (hs.length - 1 - i),q0f (kAt ss i) (betaJ ss hs (hs.length - 1 - i))⟩
theorem qkj {ss : List (List UInt8)} {a : List UInt8} (h : a.length = 32) : ∀ i,(alI ss a i).length = 32
  | 0=>by unfold alI;exact h
  | i + 1=>by unfold alI;exact q1f _ _
theorem qjh {hs : List HopS} (hr : q0p hs = true) {i : Nat} (hi : i < hs.length) : (cAt hs i).may = true ∧ ((cAt hs i).k = 1 ↔ i + 1 ≠ hs.length):=by
  unfold q0p at hr;have h:=(of_decide_eq_true hr).1 i hi;rw [qay hi];unfold hopOk at h;rw [Bool.and_eq_true] at h;refine ⟨h.1,?_⟩;have h2:=h.2
  by_cases a : hs[i].cmd.k = 1
  · by_cases b : i + 1 = hs.length
    · rw [decide_eq_true a,decide_eq_true b] at h2;simp at h2
    · exact ⟨fun _=>b,fun _=>a⟩
  · by_cases b : i + 1 = hs.length
    · exact ⟨fun k=>absurd k a,fun k=>absurd b k⟩
    · rw [decide_eq_false a,decide_eq_false b] at h2;simp at h2
theorem qm3 {x : List UInt8} {hs : List HopS} {ss : List (List UInt8)} (ho : okHs hs) (h1 : 1 ≤ hs.length) (h5 : hs.length ≤ 5) (hl : ss.length = hs.length) {i : Nat} (hi : i < hs.length) : (hdI x hs ss i).ok :=
  ⟨qkj (q1h x) i,q2p ho h1 h5 hl _ (by omega),q0x _ _⟩
theorem qef {x : List UInt8} {hs : List HopS} {own ss : List (List UInt8)} (ho : okHs hs) (hr : q0p hs = true) (hl : ss.length = hs.length) (hol : own.length = hs.length) (hop : opens own ss (q01 x)) {i : Nat} (hi : i < hs.length) :
    ∃ st,q0w (kAt own i) (hdI x hs ss i) = (st,0) ∧ st.cmd = cAt hs i ∧ st.secret = kAt ss i ∧ (i + 1 < hs.length → st.next = hdI x hs ss (i + 1)):=by
  obtain ⟨h1,h5⟩:=q40 hr;obtain ⟨hm,hk⟩:=qjh hr hi;have hc:=q4n ho hi;obtain ⟨o1,o2⟩:=hop i (by omega);have hdec : decC (cAt hs i).enc.1 = (cAt hs i,0):=by rw [ql1 hm];exact qbk hc hm
  have hel:=Cmd.enc_len hc
  have hob : (openB (kAt ss i) (betaJ ss hs (hs.length - 1 - i))).take 16 = (cAt hs i).enc.1 ∧
      (i + 1 < hs.length → openB (kAt ss i) (betaJ ss hs (hs.length - 1 - i)) = (cAt hs i).enc.1 ++ (q0f (kAt ss (i + 1)) (betaJ ss hs (hs.length - 1 - (i + 1))) ++ betaJ ss hs (hs.length - 1 - (i + 1)))):=by
    by_cases hlast : i + 1 < hs.length
    · have e1 : hs.length - 1 - i = (hs.length - 1 - (i + 1)) + 1:=by omega
      have:=qeu ho h1 h5 hl (j:=hs.length - 1 - (i + 1)) (i:=i) (by omega) (by omega);rw [← e1] at this;refine ⟨?_,fun _=>this⟩;rw [this,List.take_left' hel]
    · have e1 : hs.length - 1 - i = 0:=by omega
      have e2 : i = hs.length - 1:=by omega
      refine ⟨?_,fun h=>absurd h hlast⟩;rw [e1];(conv=>lhs;rw [e2]);rw [qfk ho h1 h5 hl];rw [← e2]
  have e : q0w (kAt own i) (hdI x hs ss i) = (⟨(decC ((openB (kAt ss i) (betaJ ss hs (hs.length - 1 - i))).take 16)).1,⟨(q00 (q08 (kAt ss i) (alI ss (q01 x) i)) (alI ss (q01 x) i)).1,((openB (kAt ss i) (betaJ ss hs (hs.length - 1 - i))).drop 32).take 160,((openB (kAt ss i) (betaJ ss hs (hs.length - 1 - i))).drop 16).take 16⟩,kAt ss i,tagH (kAt ss i)⟩,0):=by
    unfold hdI;rw [uw_b (by rw [o1]),o1];rw [uw_d rfl];rw [uw_f (by rw [hob.1,hdec])];rw [uw_h o2]
  refine ⟨_,e,?_,rfl,fun hlast=>?_⟩
  · dsimp only;rw [hob.1,hdec]
  · have hp:=q0x (kAt ss (i + 1)) (betaJ ss hs (hs.length - 1 - (i + 1)));have hb:=q2p ho h1 h5 hl (hs.length - 1 - (i + 1)) (by omega);dsimp only;rw [hob.2 hlast];unfold hdI
    have ea : alI ss (q01 x) (i + 1) = (q00 (q08 (kAt ss i) (alI ss (q01 x) i)) (alI ss (q01 x) i)).1:=by
      conv=>lhs;unfold alI
    rw [ea];generalize (cAt hs i).enc.1 = E at hel ⊢;generalize q0f (kAt ss (i + 1)) (betaJ ss hs (hs.length - 1 - (i + 1))) = T at hp ⊢;generalize betaJ ss hs (hs.length - 1 - (i + 1)) = B at hb ⊢
    have e1 : ((E ++ (T ++ B)).drop 32).take 160 = B:=by
      rw [← List.append_assoc,List.drop_left' (by rw [List.length_append];omega),List.take_of_length_le (by omega)]
    have e2 : ((E ++ (T ++ B)).drop 16).take 16 = T:=by
      rw [List.drop_left' hel,List.take_left' hp]
    rw [e1,e2]
theorem qbl {x : List UInt8} {hs : List HopS} {ss : List (List UInt8)} (hr : q0p hs = true) (ha : q0j x hs = (ss,0)) : q1d x hs = (hdI x hs ss 0,ss,0):=by
  rw [q76 hr (by rw [ha]),ha];unfold hdI;have ea : alI ss (q01 x) 0 = q01 x:=by unfold alI;rfl
  rw [ea,Nat.sub_zero]
def keyed (own : List (List UInt8)) (hs : List HopS) : Prop:=own.length = hs.length ∧ ∀ i,(h : i < hs.length) → hs[i].key = q01 (kAt own i)
theorem qgy {x : List UInt8} (hx : x.length = 32) {hs : List HopS} {own : List (List UInt8)} (hk : keyed own hs) (ho : okK own) (hh : okHs hs) :
    (q0p hs = false ∧ q1d x hs = (hdr0,[],14)) ∨
    ∃ ss,q0p hs = true ∧ q1d x hs = (hdI x hs ss 0,ss,0) ∧ ss.length = hs.length ∧ hs.length ≤ 5 ∧ 1 ≤ hs.length ∧ okK ss ∧
      ∀ i,i < hs.length → ∃ st,q0w (kAt own i) (hdI x hs ss i) = (st,0) ∧ st.cmd = cAt hs i ∧ st.secret = kAt ss i ∧ (i + 1 < hs.length → st.next = hdI x hs ss (i + 1)):=by
  cases hr : q0p hs with
  | false=>exact .inl ⟨rfl,q7x hr⟩
  | true =>
    obtain ⟨h1,h5⟩:=q40 hr;obtain ⟨ss,ha,hl,hop⟩:=qbf hx hk.1 hk.2 ho (by omega);have oks:=(q54 x hs).1;rw [ha] at oks;exact .inr ⟨ss,rfl,qbl hr ha,hl,h5,h1,oks,fun i hi=>qef hh hr hl hk.1 hop hi⟩
end
section
def Cmd.cs (c : Cmd) : List Value:=dens [] c.sg
theorem Cmd.cs_len {c : Cmd} (h : c.id.length = 8) : c.cs.length = 11:=by
  show ([_] ++ ([_] ++ ([_] ++ (u8s c.id ++ [])))).length = 11
  simp [u8l,h]
def okCs (l : List Cmd) : Prop:=∀ c ∈ l,Cmd.wf c
def rowC (l : List Cmd) : List Value:=(l.map Cmd.cs).flatten
theorem qbj (l m : List Cmd) : rowC (l ++ m) = rowC l ++ rowC m:=by simp [rowC]
theorem qcp {l : List Cmd} (h : okCs l) : (rowC l).length = l.length * 11:=by
  have:=q16 (css:=l.map Cmd.cs) (n:=11) (fun c hc=>by simp at hc;obtain ⟨y,hy,rfl⟩:=hc;exact Cmd.cs_len (h y hy).i)
  simpa [rowC] using this
theorem qen {l : List Cmd} (h : okCs l) (k : Nat) : okCs (l.take k):=fun x hx=>h x (List.mem_of_mem_take hx)
theorem qer {l : List Cmd} (h : okCs l) (k : Nat) (hk : k ≤ l.length) : (rowC l).drop (k * 11) = rowC (l.drop k):=by
  have e : rowC l = rowC (l.take k) ++ rowC (l.drop k):=by rw [← qbj,List.take_append_drop]
  have hl : (rowC (l.take k)).length = k * 11:=by rw [qcp (qen h k),List.length_take,Nat.min_eq_left hk]
  rw [e,← hl,List.drop_left]
theorem ldc {t : Nat} {x : TyX} {b off : Nat} {m : M} {f : SV → Prop} {A : HP} {p : Nat × Nat} {l : List Cmd} (i : Nat) (hA : A ∈ m.F) (hr : Rd A (some (radr p)) (rowC l)) (h : okCs l) (hi : i < l.length)
    (hx : x.k.agg = true) (hn : x.size = 11) (hb : b = p.1) (ho : off = p.2 + i * 11) (hf : f (.agg l[i].sg)) : With (Ty Tryd.prog t x) (LdOb Tryd.prog t ⟨b,off,none⟩ m f):=by
  have o:=(h _ (List.getElem_mem hi)).i;have k2:=q3g (q02 (Seg.ok_cmd l[i] o [])) m.B;refine lds (A:=A) (i * 11) l[i].sg hx hA hr hb ho ?_ ?_ (by omega) k2.1 hf
  · rw [k2.2,hn,qer h _ (by omega),List.drop_eq_getElem_cons hi];show l[i].cs = (l[i].cs ++ _).take 11;rw [← Cmd.cs_len o,List.take_left]
  · rw [k2.2,hn];exact Cmd.cs_len o
def q8a (z : cmdShH.T) : Cmd:=⟨z.1,z.2.1,z.2.2.1,z.2.2.2.1⟩
def CmdR (c : Cmd) (cs : List Value) : Prop:=cs = c.cs ∧ c.wf
theorem qjw {R : HP} (z : cmdShH.T) (cs : List Value) (h : Go.Sx.Good R cmdShH z cs) : CmdR (q8a z) cs:=by
  obtain ⟨k,n,d,id,u⟩:=z;obtain ⟨c1,c2,rfl,⟨rfl,w1⟩,c3,c4,rfl,⟨rfl,w2⟩,c5,c6,rfl,⟨rfl,w3⟩,c7,c8,rfl,⟨h2,rfl⟩,rfl⟩:=h;exact ⟨by simp [Cmd.cs,q8a,dens,Seg.den,SC.den],w1,w2,w3,h2⟩
theorem qdo : ∀ (l : List Cmd) (xs : List Value),xs.length = l.length * 11 → (∀ i (h : i < l.length),CmdR l[i] ((xs.drop (i * 11)).take 11)) → xs = rowC l ∧ okCs l
  | [],xs,hn,_=>by
    have : xs = []:=List.eq_nil_of_length_eq_zero (by simpa using hn);subst this;exact ⟨rfl,fun h hh=>absurd hh (by simp)⟩
  | y :: r,xs,hn,h=>by
    have h0:=h 0 (by simp);have hl : xs.length = r.length * 11 + 11:=by rw [hn,List.length_cons];omega
    obtain ⟨e,ok⟩:=qdo r (xs.drop 11) (by rw [List.length_drop,hl];omega) fun i hi=>by
      have:=h (i + 1) (by simpa using hi);rw [show (i + 1) * 11 = 11 + i * 11 by omega,← List.drop_drop] at this;exact this
    have e0 : xs.take 11 = y.cs:=by
      have:=h0.1;rw [Nat.zero_mul,List.drop_zero] at this;exact this
    refine ⟨?_,fun k hk=>?_⟩
    · rw [← List.take_append_drop 11 xs,e0,e];rfl
    · rcases List.mem_cons.1 hk with rfl | hk
      · exact h0.2
      · exact ok k hk
def hopsS (own : List (List UInt8)) (cmds : List Cmd) : List HopS:=List.zipWith (fun k c=>⟨q01 k,c⟩) own cmds
theorem q7y {own : List (List UInt8)} {cmds : List Cmd} (h : cmds.length = own.length) : (hopsS own cmds).length = own.length:=by unfold hopsS;rw [List.length_zipWith];omega
theorem q6b {own : List (List UInt8)} {cmds : List Cmd} {i : Nat} (h1 : i < own.length) (h2 : i < cmds.length) : (hopsS own cmds)[i]'(by unfold hopsS;rw [List.length_zipWith];omega) = ⟨q01 own[i],cmds[i]⟩:=by
  unfold hopsS;rw [List.getElem_zipWith]
theorem qi1 {own : List (List UInt8)} {cmds : List Cmd} (hc : okCs cmds) : okHs (hopsS own cmds):=fun h hh=>by
  obtain ⟨i,hi,rfl⟩:=List.mem_iff_getElem.1 hh;have hl : i < own.length ∧ i < cmds.length:=by unfold hopsS at hi;rw [List.length_zipWith] at hi;omega
  rw [q6b hl.1 hl.2];exact ⟨q1h _,(hc _ (List.getElem_mem hl.2)).i⟩
theorem qe9 {own : List (List UInt8)} {cmds : List Cmd} {i : Nat} (h1 : i < own.length) (h2 : i < cmds.length) : (hopsS own cmds).take (i + 1) = (hopsS own cmds).take i ++ [⟨q01 own[i],cmds[i]⟩]:=by
  rw [List.take_succ_eq_append_getElem (by unfold hopsS;rw [List.length_zipWith];omega),q6b h1 h2]
theorem qaj : ∀ (l : List (List UInt8)) (xs : List Value),xs.length = l.length * 32 → (∀ i (h : i < l.length),l[i].length = 32 ∧ (xs.drop (i * 32)).take 32 = u8s l[i]) → xs = rowK l ∧ okK l
  | [],xs,hn,_=>by
    have : xs = []:=List.eq_nil_of_length_eq_zero (by simpa using hn);subst this;exact ⟨rfl,q4f⟩
  | y :: r,xs,hn,h=>by
    have h0:=h 0 (by simp);have hl : xs.length = r.length * 32 + 32:=by rw [hn,List.length_cons];omega
    obtain ⟨e,ok⟩:=qaj r (xs.drop 32) (by rw [List.length_drop,hl];omega) fun i hi=>by
      have:=h (i + 1) (by simpa using hi);rw [show (i + 1) * 32 = 32 + i * 32 by omega,← List.drop_drop] at this;exact this
    have e0 : xs.take 32 = u8s y:=by
      have:=h0.2;rw [Nat.zero_mul,List.drop_zero] at this;exact this
    refine ⟨?_,fun k hk=>?_⟩
    · rw [← List.take_append_drop 32 xs,e0,e];rfl
    · rcases List.mem_cons.1 hk with rfl | hk
      · exact h0.1
      · exact ok k hk
theorem qlo : Fits Tryd.prog (.slice (.barr 32)) 24 = true:=by simp only [Fits,Tryd.underlying24,Tryd.underlying23,Tryd.underlying5];kernel_rfl
theorem qhy : Fits Tryd.prog (.slice cmdShH) 25 = true:=by simp only [Fits,q1c,cmdShH,Tryd.underlying25,Tryd.underlying35,Tryd.underlying29,Tryd.underlying3,Tryd.underlying5];kernel_rfl
section
variable {H : Type} {enc : TypeId × Value → H} {base : Nat} {v0 : Value} {d0 : DataW H} {p0 : List MemPlace}
theorem qi6 (W : World) (ok0 : Value.okWide Tryd.prog W .any base 25 v0) (h0 : DataW.Trod enc Tryd.prog W 0 (fun _=>true) true 25 v0 d0 p0) :
    ∃ a cap l,v0 = .slice a l.length cap ∧ Rd (old W) a (rowC l) ∧ okCs l:=by
  obtain ⟨a,cap,l,rfl,_,h⟩:=qai (s:=cmdShH) qhy ok0 h0;have hrow : Row (old W) a 11 CmdR (l.map q8a):=(Vals.row h).map q8a qjw;obtain ⟨xs,h1,h2,h3⟩:=hrow.at;obtain ⟨rfl,hok⟩:=qdo (l.map q8a) xs h2 h3;exact ⟨a,cap,l.map q8a,by rw [List.length_map],h1,hok⟩
theorem qf0 (W : World) (ok0 : Value.okWide Tryd.prog W .any base 24 v0) (h0 : DataW.Trod enc Tryd.prog W 0 (fun _=>true) true 24 v0 d0 p0) :
    ∃ (a : Option Addr) (cap : Nat) (l : List (List UInt8)),v0 = .slice a l.length cap ∧ Rd (old W) a (rowK l) ∧ okK l:=by
  obtain ⟨a,cap,l,rfl,_,h⟩:=qai (s:=.barr 32) qlo ok0 h0;obtain ⟨xs,h1,h2,h3⟩:=(Vals.row h).at;obtain ⟨rfl,hok⟩:=qaj l xs h2 (fun i hi=>h3 i hi);exact ⟨a,cap,l,rfl,h1,hok⟩
end
end
end Go.Proofs.YtckkhagclfmmdaaDoor
