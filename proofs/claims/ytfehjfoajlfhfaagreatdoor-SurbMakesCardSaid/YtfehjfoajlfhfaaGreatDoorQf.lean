import Derived.Test.YtfehjfoajlfhfaaGreatDoorQa
import Derived.Test.YtfehjfoajlfhfaaGreatDoorQe
namespace Go.Proofs.YtfehjfoajlfhfaaGreatDoor
open Go.Sx
set_option maxRecDepth 100000
set_option linter.unusedSimpArgs false
set_option linter.unusedVariables false
set_option pp.deepTerms false
set_option pp.maxSteps 300
section
def dv : List Nat → Nat
  | []=>0
  | a :: r=>a + 256 * dv r
theorem q1u : ∀ (a b : List Nat),dv (a ++ b) = dv a + 256 ^ a.length * dv b
  | [],b=>by simp [dv]
  | x :: r,b=>by
    show x + 256 * dv (r ++ b) = x + 256 * dv r + 256 ^ (r.length + 1) * dv b;rw [q1u r b,Nat.mul_add,Nat.pow_succ,Nat.mul_assoc (256 ^ r.length),Nat.mul_left_comm (256 ^ r.length) 256];omega
def nats (l : List UInt8) : List Nat:=l.map (·.toNat)
theorem q5m : ∀ l : List UInt8,dv (nats l) = le l
  | []=>rfl
  | c :: r=>by show c.toNat + 256 * dv (nats r) = _;rw [q5m r];rfl
def sprd : List Nat → Nat → List Nat
  | [],c=>[c]
  | a :: r,c=>(a + c) % 256 :: sprd r ((a + c) / 256)
theorem qdq : ∀ (l : List Nat) (c : Nat),dv (sprd l c) = dv l + c
  | [],c=>by simp [sprd,dv]
  | a :: r,c=>by
    show (a + c) % 256 + 256 * dv (sprd r ((a + c) / 256)) = a + 256 * dv r + c;rw [qdq r];omega
theorem qbs : ∀ (l : List Nat) (c : Nat),(sprd l c).length = l.length + 1
  | [],_=>rfl
  | a :: r,c=>by show (sprd r _).length + 1 = r.length + 1 + 1;rw [qbs r]
theorem qeg : ∀ (l : List Nat) (c : Nat) (i : Nat),i < l.length → ng (sprd l c) i < 256
  | [],_,_,h=>absurd h (by simp)
  | a :: r,c,0,_=>by show (a + c) % 256 < 256;omega
  | a :: r,c,i + 1,h=>by
    have:=qeg r ((a + c) / 256) i (by simpa using h);unfold ng at *
    simpa [sprd] using this
def lowS (d : List Nat) : List Nat:=(List.range 32).map fun i=>ng d i + 38 * ng d (i + 32)
theorem qnm : ∀ (n : Nat) (f g : Nat → Nat),dv ((List.range n).map fun i=>f i + 38 * g i) = dv ((List.range n).map f) + 38 * dv ((List.range n).map g)
  | 0,_,_=>rfl
  | n + 1,f,g=>by
    have ih:=qnm n f g;rw [List.range_succ,List.map_append,List.map_append,List.map_append,q1u,q1u,q1u,ih];simp only [List.map_cons,List.map_nil,List.length_map,List.length_range,dv,Nat.mul_zero,Nat.add_zero,Nat.mul_add];rw [Nat.mul_left_comm (256 ^ n) 38];omega
theorem qnl (d : List Nat) : ∀ n,n ≤ d.length → (List.range n).map (ng d) = d.take n
  | 0,_=>by simp
  | n + 1,h=>by
    rw [List.range_succ,List.map_append,qnl d n (by omega),List.take_succ_eq_append_getElem (by omega),List.map_cons,List.map_nil,ng_eq (by omega)]
theorem qay : ∀ n,dv (List.replicate n 0) = 0
  | 0=>rfl
  | n + 1=>by show 0 + 256 * dv (List.replicate n 0) = 0;rw [qay n]
theorem qr1 {d : List Nat} (h : 32 ≤ d.length) (h2 : d.length ≤ 64) : dv (lowS d) = dv (d.take 32) + 38 * dv (d.drop 32):=by
  unfold lowS;rw [qnm,qnl d 32 h];refine congrArg (fun z=>dv (d.take 32) + 38 * z) ?_
  have e : (List.range 32).map (fun i=>ng d (i + 32)) = d.drop 32 ++ List.replicate (64 - d.length) 0:=by
    apply List.ext_getElem
    · simp;omega
    intro i h3 h4;rw [List.getElem_map,List.getElem_range];unfold ng
    by_cases hi : i + 32 < d.length
    · rw [List.getElem_append_left (by rw [List.length_drop];omega),List.getElem_drop,List.getElem?_eq_getElem hi];show d[i + 32] = _;congr 1;omega
    · rw [List.getElem_append_right (by rw [List.length_drop];omega),List.getElem_replicate,List.getElem?_eq_none (by omega)];rfl
  rw [e,q1u,qay];simp
theorem q5g (d : List Nat) : (lowS d).length = 32:=by simp [lowS]
def rndS (d : List Nat) : List Nat:=sprd (lowS d) 0
def rndz (d : List Nat) : Nat → List Nat
  | 0=>d
  | k + 1=>rndS (rndz d k)
theorem qe4 (d : List Nat) : (rndS d).length = 33:=by unfold rndS;rw [qbs,q5g]
theorem qmw {d : List Nat} (h : 32 ≤ d.length) (h2 : d.length ≤ 64) : dv (rndS d) = dv (d.take 32) + 38 * dv (d.drop 32):=by
  unfold rndS;rw [qdq,qr1 h h2];omega
theorem qbq (d : List Nat) (h : 32 ≤ d.length) : dv d = dv (d.take 32) + 115792089237316195423570985008687907853269984665640564039457584007913129639936 * dv (d.drop 32):=by
  (conv=>lhs;rw [← List.take_append_drop 32 d]);rw [q1u,List.length_take,Nat.min_eq_left h]
theorem qih {d : List Nat} (h : 32 ≤ d.length) (h2 : d.length ≤ 64) : dv (rndS d) % Pm = dv d % Pm:=by
  rw [qmw h h2,qbq d h,← q4g (dv (d.take 32) + 38 * dv (d.drop 32)) (2 * dv (d.drop 32))];congr 1;unfold Pm;omega
theorem dv_lt : ∀ (l : List Nat),(∀ a ∈ l,a < 256) → dv l < 256 ^ l.length
  | [],_=>by decide
  | a :: r,h=>by
    have ih:=dv_lt r fun x hx=>h x (List.mem_cons_of_mem _ hx);have:=h a List.mem_cons_self;show a + 256 * dv r < 256 ^ (r.length + 1);rw [Nat.pow_succ];omega
theorem qjz (d : List Nat) : dv ((rndS d).take 32) < 115792089237316195423570985008687907853269984665640564039457584007913129639936 ∧ ∃ t,(rndS d).drop 32 = [t]:=by
  refine ⟨?_,?_⟩
  · have hl : ((rndS d).take 32).length = 32:=by rw [List.length_take,qe4];rfl
    have:=dv_lt ((rndS d).take 32) fun a ha=>by
      obtain ⟨i,hi,rfl⟩:=List.getElem_of_mem ha;rw [hl] at hi;have h1:=qeg (lowS d) 0 i (by rw [q5g];exact hi);rw [List.getElem_take];rw [ng_eq (by rw [qbs,q5g];omega)] at h1;exact h1
    rwa [hl] at this
  · have hl : ((rndS d).drop 32).length = 1:=by rw [List.length_drop,qe4]
    match h : (rndS d).drop 32,hl with
    | [t],_=>exact ⟨t,rfl⟩
theorem q2s {d : List Nat} : ∀ k,(rndz d (k + 1)).length = 33:=fun k=>qe4 _
theorem qmg {d : List Nat} (h : 32 ≤ d.length) (h2 : d.length ≤ 64) (hv : dv (rndz d 1) < 115792089237316195423570985008687907853269984665640564039457584007913129639936 * 1099511627776) :
    dv (rndz d 4) < 115792089237316195423570985008687907853269984665640564039457584007913129639936:=by
  have st : ∀ k,∃ x t,dv (rndz d (k + 1)) = x + 115792089237316195423570985008687907853269984665640564039457584007913129639936 * t ∧ x < 115792089237316195423570985008687907853269984665640564039457584007913129639936 ∧ dv (rndz d (k + 2)) = x + 38 * t:=by
    intro k;obtain ⟨h1,t,ht⟩:=qjz (rndz d k);have e1:=qbq (rndz d (k + 1)) (by rw [q2s];decide);have e2:=qmw (d:=rndz d (k + 1)) (by rw [q2s];decide) (by rw [q2s];decide)
    have ht2 : dv ((rndz d (k + 1)).drop 32) = t:=by
      show dv ((rndS (rndz d k)).drop 32) = t;rw [ht];rfl
    rw [ht2] at e1 e2;exact ⟨_,t,e1,h1,e2⟩
  obtain ⟨x1,t1,a1,b1,c1⟩:=st 0;obtain ⟨x2,t2,a2,b2,c2⟩:=st 1;obtain ⟨x3,t3,a3,b3,c3⟩:=st 2;rw [show (0 + 1 : Nat) = 1 from rfl] at a1;rw [show (0 + 2 : Nat) = 2 from rfl] at c1;rw [show (1 + 1 : Nat) = 2 from rfl] at a2;rw [show (1 + 2 : Nat) = 3 from rfl] at c2;rw [show (2 + 1 : Nat) = 3 from rfl] at a3;rw [show (2 + 2 : Nat) = 4 from rfl] at c3;omega
theorem qfr {d : List Nat} (h : 32 ≤ d.length) (h2 : d.length ≤ 64) : ∀ k,dv (rndz d k) % Pm = dv d % Pm
  | 0=>rfl
  | 1=>qih h h2
  | k + 2=>by
    rw [← qfr h h2 (k + 1)];exact qih (d:=rndz d (k + 1)) (by rw [q2s];decide) (by rw [q2s];decide)
end
section
abbrev ni (n : Nat) : Value:=.int .i64 (n : Int)
def nis (l : List Nat) : List Value:=l.map ni
theorem q59 (l : List Nat) : (nis l).length = l.length:=by simp [nis]
theorem qai (l m : List Nat) : nis (l ++ m) = nis l ++ nis m:=List.map_append
theorem qov {l : List Nat} {k : Nat} (h : k < l.length) : (nis l)[k]? = some (.int .i64 (ng l k : Nat)):=by
  rw [nis,List.getElem?_map,List.getElem?_eq_getElem h,ng_eq h];rfl
abbrev RowI (a : Option Addr) (c : Nat) (l : List Nat) : HP:=Own a c 3 1 (nis l)
theorem ldi {P : Program} {t : Nat} {x : TyX} {b off : Nat} {m : M} {f : SV → Prop} {A : HP} {p : Nat × Nat} {l : List Nat} (k : Nat) (hA : A ∈ m.F) (hr : Rd A (some (radr p)) (nis l)) (hk : k < l.length) (hx : x.k.agg = false)
    (hb : b = p.1) (ho : off = p.2 + k) (h : f (.c (.int .i64 (ng l k : Nat)))) : With (Ty P t x) (LdOb P t ⟨b,off,none⟩ m f) :=
  ld k (.int .i64 (ng l k : Nat)) hx hA hr hb ho (qov hk) trivial h
theorem idxi {a : Option Addr} {m : M} {A : HP} {l : List Nat} {j : Int} {n : Int} {q : Nat × Nat → Prop} (k : Nat) (hA : A ∈ m.F) (hr : Rd A a (nis l)) (hk : k < l.length) (hj : j = k) (hn : n = l.length)
    (h : ∀ p,a = some (radr p) → q p) : (0 ≤ j ∧ j < n) ∧ PtrOb a m q :=
  ⟨by omega,PtrOb.rd hA hr (by rw [q59];omega) h⟩
theorem sti {P : Program} {t : Nat} {x : TyX} {b off cap e : Nat} {p : Nat × Nat} {l : List Nat} {n : Int} {B : Names} {H : List Chunk} {F F' : List HP} {f : M → Prop} (j c : Nat)
    (hF : F.Perm (Own (some (radr p)) cap e 1 (nis l) :: F')) (hx : x.size = 1) (hb : b = p.1) (ho : off = p.2 + j) (hn : n = (c : Int)) (hj : j < l.length)
    (h : f ⟨B,H,Own (some (radr p)) cap e 1 (nis (l.set j c)) :: F'⟩) :
    With (Ty P t x) (RunOb P (do storeVar t ⟨b,off,none⟩ (SV.den B (.c (.int .i64 n)));pure undef) ⟨B,H,F⟩ fun _ m'=>f m'):=by
  refine q8z (ys:=[ni c]) hF hb ho (by rw [hn];rfl) (by rw [hx];rfl) (by simp [ni,Value.oneCell']) (by rw [q59];omega) ?_
  have e : (nis l).take j ++ ([ni c] ++ (nis l).drop (j + x.size)) = nis (l.set j c):=by
    rw [hx,List.set_eq_take_append_cons_drop,if_pos hj]
    simp [nis]
  rw [e];exact h
theorem appi {P : Program} {t e ty n cap k : Nat} {x y : TyX} {a : Option Addr} {l m : List Nat} {B : Names} {H : List Chunk} {F F' : List HP} {src : SV} {f : SV → M → Prop}
    (hF : F.Perm (Own a cap e 1 (nis l) :: F')) (hsrc : Src ⟨B,H,F⟩ src k (nis m)) (hn : n = l.length) (hk : k = m.length) (hy : y.size = 1 ∧ 0 < y.bytes ∧ y.bytes ≤ 1000) (hbig : l.length + m.length ≤ 10000000000) (ts : Nat) (hts : P.underlying ts = some .string ∨ ts = t)
    (h : ∀ a' cap',Fc a' cap' (l ++ m) → f (.c (.rs a' (l ++ m).length cap')) ⟨B,H,Own a' cap' e 1 (nis (l ++ m)) :: F'⟩) :
    With (Ty P t x ∧ x.k = .slice e ∧ Ty P e y) (RunOb P (Builtin.append_ #[t,ts] ty ([SV.c (.rs a n cap),src].map (SV.den B)).toArray) ⟨B,H,F⟩ f) :=
  app1 (enc:=ni) (l:=l) (m:=m) rfl rfl (fun _=>rfl) hy hF hsrc hn hk hbig ts hts fun a' c' hc=>by
    have e1 : l.map ni ++ m.map ni = nis (l ++ m):=(qai l m).symm;have e2 : nis l ++ nis m = nis (l ++ m):=(qai l m).symm
    first | rw [e1] | rw [e2]
    exact h a' c' hc
theorem Src.ni {B : Names} {H : List Chunk} {F : List HP} {i : Nat} {z : Int} (c : Nat) (hz : z = c) (h : atH H i fun segs _ _=>segs = [.one (.int .i64 z)]) : Src ⟨B,H,F⟩ (.c (.slc i 0 1 1)) 1 (nis [c]):=by
  refine Src.slc ?_;obtain ⟨H1,s,t,H2,put,rfl,e,hp⟩:=q2f h
  have : ∀ (L : List Chunk),atH (L ++ (i,s,t) :: H2) i (fun segs _ _=>segs = [.one (.int .i64 z)]) → atH (L ++ (i,s,t) :: H2) i fun segs _ _=>∃ r,(dens B segs).drop 0 = nis [c] ++ r:=by
    intro L
    induction L with
    | nil =>
      intro _;simp only [List.nil_append,atH];rw [show Nat.beq i i = true from Nat.beq_refl i];refine ⟨[],?_⟩;subst e hz;rfl
    | cons c' L ih =>
      obtain ⟨k',s',t'⟩:=c';intro h;simp only [List.cons_append,atH] at h ⊢
      cases e' : Nat.beq k' i with
      | true=>rw [e'] at h;dsimp only at h ⊢;subst h hz;exact ⟨[],rfl⟩
      | false=>rw [e'] at h;exact ih h
  exact this H1 h
abbrev FI (P : Program) (f : Nat) (args : List SV) (A : HP) (e : Nat) (l : List Nat) : Prop :=
  Con P f args [] [] A (fun t : Option Addr × Nat=>Fc t.1 t.2 l) (fun t=>.c (.rs t.1 l.length t.2)) (fun _=>[]) (fun t=>[Own t.1 t.2 e 1 (nis l)])
theorem Cq.fi {P : Program} {fn e : Nat} {args args' : List SV} {B : Names} {H : List Chunk} {F : List HP} {l : List Nat} {f : SV → List Chunk → List HP → Prop}
    (C : FI P fn args' (all (H.map (Chunk.p B) ++ F)) e l) (hargs : args.map (SV.den B) = args'.map (SV.den [])) (h : ∀ a c,Fc a c l → f (.c (.rs a l.length c)) H (Own a c e 1 (nis l) :: F)) : Cq P fn args ⟨B,H,F⟩ f :=
  Cq.new C hargs fun t ht=>h t.1 t.2 ht
def prD (i : Nat) : Nat:=if i = 0 then 237 else if i = 31 then 127 else 255
theorem qj8 : dv ((List.range 32).map prD) = Pm:=by unfold Pm;decide +kernel
theorem q8a (A : HP) (i : Nat) (hi : i < 32) : Pu Tryz.prog 197 [.c (.int .i64 i)] A (.c (.int .i64 (prD i : Nat))):=by
  refine Con.of' tt_ok Tryz.func197 rfl (by decide) [.c (.int .i64 i)] [] [] rfl rfl trivial kk rfl ?_;(conv=>whnf);refine Cond.d (fun h=>?_) (fun h=>?_)
  · have : i = 0:=by omega
    subst this;(conv=>whnf);exact Ret.m () [] [0] trivial rfl kk kk ⟨rfl,rfl⟩
  (conv=>whnf);refine Cond.d (fun h1=>?_) (fun h1=>?_)
  · have : i = 31:=by omega
    subst this;(conv=>whnf);exact Ret.m () [] [0] trivial rfl kk kk ⟨rfl,rfl⟩
  (conv=>whnf);have e : prD i = 255:=by unfold prD;rw [if_neg (by omega),if_neg (by omega)]
  rw [e];exact Ret.m () [] [0] trivial rfl kk kk ⟨rfl,rfl⟩
theorem qca (l : List UInt8) : (nats l).length = l.length:=by simp [nats]
theorem q5c {k : List UInt8} {i : Nat} (h : i < k.length) : nats (k.take i) ++ [gd k i] = nats (k.take (i + 1)):=by
  rw [List.take_succ_eq_append_getElem h,gd_eq h];show _ = List.map _ (_ ++ _);rw [List.map_append];rfl
theorem qaq (A : HP) (k : List UInt8) (hk : k.length = 32) : FI Tryz.prog 196 [.agg [.many 32 (u8s k)]] A 3 (nats k):=by
  refine Con.of' tt_ok Tryz.func196 rfl (by decide) [.agg [.many 32 (u8s k)]] [] [] rfl rfl trivial ⟨⟨mok hk _,trivial⟩,trivial⟩ rfl ?_;(conv=>whnf);intro b1;conv=>whnf
  refine LoopOb.m (σ:=Nat × Option Addr × Nat) (fun s=>[(1,.c (.ptr 1 0)),(3,.c (.rs s.2.1 (nats (k.take s.1)).length s.2.2)),(4,.c (.int .i64 s.1))]) (fun s=>⟨[(1,b1)],[(1,[.many 32 (u8s k)],23)],[RowI s.2.1 s.2.2 (nats (k.take s.1)),A]⟩)
    (fun s=>s.1 ≤ 32 ∧ Fc s.2.1 s.2.2 (nats (k.take s.1))) (fun s=>32 - s.1) (0,none,0) ⟨Nat.zero_le _,Fc.nil⟩ ?_ ?_
  · refine Wk.own0 3 1 ?_;exact Wk.m [1] [0,0] kk ⟨⟨kk,mok hk _,trivial⟩,trivial⟩ ⟨rfl,rfl⟩
  rintro ⟨i,a,c⟩ ⟨hi,hc⟩;dsimp only at hi hc ⊢;have hl : (nats (k.take i)).length = i:=by rw [qca,List.length_take];omega
  (conv=>whnf);refine Cond.d (fun h=>?_) (fun h=>?_)
  · have hi' : i < 32:=by omega
    (conv=>whnf);refine ⟨by omega,?_⟩;(conv=>whnf);refine q0v i (by show (i : Int).toNat * 1 = i;omega) (by omega) ?_;(conv=>whnf);refine Ar.i64 (by have:=gd_lt k i;omega) ?_;(conv=>whnf);intro b13;(conv=>whnf);refine appi (l:=nats (k.take i)) (m:=[gd k i]) (.refl _) (by exact Src.ni _ rfl rfl) rfl rfl ⟨rfl,by decide,by decide⟩ (by rw [hl];simp;omega) 259 (.inr rfl) ?_;intro a2 c2 hc2;rw [q5c (by omega)] at hc2 ⊢;(conv=>whnf);refine Ar.i64 (by omega) ?_;conv=>whnf
    exact ⟨(i + 1,a2,c2),⟨by dsimp only;omega,hc2⟩,by dsimp only;omega,Wk.m [1] [0,0] kk ⟨⟨kk,mok hk _,trivial⟩,trivial⟩ ⟨rfl,rfl⟩⟩
  obtain rfl : i = 32:=by omega
  have e : k.take 32 = k:=List.take_of_length_le (by omega);rw [e] at hc ⊢;(conv=>whnf);exact Ret.m (a,c) [] [0,0] hc rfl kk kk ⟨rfl,rfl⟩
def sprC (l : List Nat) : Nat → Nat
  | 0=>0
  | i + 1=>(ng l i + sprC l i) / 256
def sprL (l : List Nat) : Nat → List Nat
  | 0=>[]
  | i + 1=>sprL l i ++ [(ng l i + sprC l i) % 256]
theorem q53 (l : List Nat) : ∀ i,(sprL l i).length = i
  | 0=>rfl
  | i + 1=>by simp [sprL,q53 l i]
theorem qcz : ∀ (l : List Nat) (c x : Nat),sprd (l ++ [x]) c = (sprd l c).take l.length ++ [(x + ng (sprd l c) l.length) % 256,(x + ng (sprd l c) l.length) / 256]
  | [],c,x=>rfl
  | a :: r,c,x=>by
    show (a + c) % 256 :: sprd (r ++ [x]) ((a + c) / 256) = _;rw [qcz r];rfl
theorem qfm (l : List Nat) : ∀ i,i ≤ l.length → sprd (l.take i) 0 = sprL l i ++ [sprC l i]
  | 0,_=>by simp [sprd,sprL,sprC]
  | i + 1,h=>by
    rw [List.take_succ_eq_append_getElem (by omega),qcz,qfm l i (by omega)];have h1 : (l.take i).length = i:=by rw [List.length_take];omega
    have h2 : ng (sprL l i ++ [sprC l i]) i = sprC l i:=by
      unfold ng;rw [List.getElem?_append_right (by rw [q53];omega),q53,Nat.sub_self];rfl
    rw [h1,h2,List.take_left' (q53 l i),show l[i] = ng l i from (ng_eq (by omega)).symm]
    simp [sprL,sprC]
theorem qjn (l : List Nat) (M : Nat) (h : ∀ i,i < l.length → ng l i ≤ M) : ∀ i,i ≤ l.length → sprC l i ≤ M
  | 0,_=>Nat.zero_le _
  | i + 1,hi=>by
    have:=qjn l M h i (by omega);have:=h i (by omega);show (ng l i + sprC l i) / 256 ≤ M;omega
theorem qj4 (A R : HP) (hE : Ent A R) (a : Option Addr) (cap : Nat) (l : List Nat) (hr : Rd R a (nis l)) (hl : l.length = 32) (hM : ∀ i,i < l.length → ng l i ≤ 1000000000000000) :
    FI Tryz.prog 198 [.c (.rs a l.length cap)] A 3 (sprd l 0):=by
  have hr:=hr.ent hE;refine Con.of' tt_ok Tryz.func198 rfl (by decide) [.c (.rs a l.length cap)] [] [] rfl rfl trivial kk rfl ?_;conv=>whnf
  refine LoopOb.m (σ:=Nat × Option Addr × Nat) (fun s=>[(0,.c (.rs a l.length cap)),(3,.c (.rs s.2.1 (sprL l s.1).length s.2.2)),(4,.c (.int .i64 (sprC l s.1 : Nat))),(5,.c (.int .i64 s.1))]) (fun s=>⟨[],[],[RowI s.2.1 s.2.2 (sprL l s.1),A]⟩)
    (fun s=>s.1 ≤ 32 ∧ Fc s.2.1 s.2.2 (sprL l s.1)) (fun s=>32 - s.1) (0,none,0) ⟨Nat.zero_le _,Fc.nil⟩ ?_ ?_
  · refine Wk.own0 3 1 ?_;exact Wk.m [] [0,0] kk kk ⟨rfl,rfl⟩
  rintro ⟨i,a1,c1⟩ ⟨hi,hc⟩;dsimp only at hi hc ⊢;have hC:=qjn l _ hM i (by omega);(conv=>whnf);refine Cond.d (fun h=>?_) (fun h=>?_)
  · have hi' : i < 32:=by omega
    have hm:=hM i (by omega);(conv=>whnf);refine idxi (A:=A) i (by simp) hr (by omega) rfl rfl fun p hp=>?_;(conv=>whnf);refine ldi (A:=A) (l:=l) i (by simp) (by rw [← hp];exact hr) (by omega) rfl rfl (by show _ + (i : Int).toNat * 1 = _;omega) ?_;(conv=>whnf);refine Ar.i64 (by omega) ?_;(conv=>whnf);have e1 : ((ng l i : Int) + (sprC l i : Int)).tmod 256 = (((ng l i + sprC l i) % 256 : Nat) : Int):=by rw [← Int.natCast_add];rfl
    have e2 : ((ng l i : Int) + (sprC l i : Int)).tdiv 256 = (((ng l i + sprC l i) / 256 : Nat) : Int):=by rw [← Int.natCast_add];rfl
    refine ⟨by decide,?_⟩;(conv=>whnf);intro b21;(conv=>whnf);refine appi (l:=sprL l i) (m:=[(ng l i + sprC l i) % 256]) (.refl _) (by exact Src.ni _ e1 rfl) rfl rfl ⟨rfl,by decide,by decide⟩ (by rw [q53];simp;omega) 259 (.inr rfl) ?_;intro a2 c2 hc2;(conv=>whnf);refine ⟨by decide,?_⟩;refine Ar.to (((ng l i + sprC l i) / 256 : Nat) : Int) e2 (Ar.i64 (by omega) ?_);(conv=>whnf);refine Ar.i64 (by omega) ?_;(conv=>whnf);exact ⟨(i + 1,a2,c2),⟨by dsimp only;omega,hc2⟩,by dsimp only;omega,Wk.m [] [0,0] kk kk ⟨rfl,rfl⟩⟩
  obtain rfl : i = 32:=by omega
  (conv=>whnf);intro b27;conv=>whnf
  have ee : sprL l 32 ++ [sprC l 32] = sprd l 0:=by
    rw [← qfm l 32 (by omega),List.take_of_length_le (by omega)]
  refine appi (l:=sprL l 32) (m:=[sprC l 32]) (.refl _) (by exact Src.ni _ rfl rfl) rfl rfl ⟨rfl,by decide,by decide⟩ (by rw [q53];simp) 259 (.inr rfl) ?_;intro a2 c2 hc2;rw [ee] at hc2 ⊢;(conv=>whnf);exact Ret.m (a2,c2) [] [0,0] hc2 rfl kk kk ⟨rfl,rfl⟩
end
section
theorem q8p {l : List Nat} {i : Nat} (h : l.length ≤ i) : ng l i = 0:=by unfold ng;rw [List.getElem?_eq_none h];rfl
theorem q5y {n : Nat} {f : Nat → Nat} {j : Nat} (h : j < n) : ng ((List.range n).map f) j = f j:=by
  rw [ng_eq (by simpa using h)];simp
theorem q6h {n : Nat} {f g : Nat → Nat} {k x : Nat} (hk : k < n) (hx : g k = x) (hg : ∀ j,j ≠ k → j < n → g j = f j) : ((List.range n).map f).set k x = (List.range n).map g:=by
  apply List.ext_getElem
  · simp
  intro i h1 h2;rw [List.getElem_set]
  split
  · next e=>subst e;simp [hx]
  · next e=>simp;exact (hg i (fun h=>e h.symm) (by simpa using h2)).symm
def lowP (d : List Nat) (i : Nat) : List Nat:=(List.range 32).map fun j=>(if j < i then ng d j else 0) + 38 * (if j + 32 < i then ng d (j + 32) else 0)
theorem qfc (d : List Nat) (i : Nat) : (lowP d i).length = 32:=by simp [lowP]
theorem qj5 (d : List Nat) : lowP d 0 = List.replicate 32 0:=rfl
theorem qc8 {d : List Nat} {i j : Nat} (h : j < 32) : ng (lowP d i) j = (if j < i then ng d j else 0) + 38 * (if j + 32 < i then ng d (j + 32) else 0):=q5y h
theorem ql0 {d : List Nat} {i : Nat} (h : i < 32) : (lowP d i).set i (ng (lowP d i) i + ng d i) = lowP d (i + 1):=by
  rw [qc8 h];refine q6h h ?_ fun j hj hn=>?_
  · rw [if_pos (by omega),if_neg (by omega),if_neg (by omega),if_neg (by omega)];omega
  · have e1 : (j < i + 1) = (j < i):=by apply propext;omega
    have e2 : (j + 32 < i + 1) = (j + 32 < i):=by apply propext;omega
    simp only [e1,e2]
theorem qjr {d : List Nat} {i : Nat} (h : 32 ≤ i) (h2 : i < 64) : (lowP d i).set (i - 32) (ng (lowP d i) (i - 32) + 38 * ng d i) = lowP d (i + 1):=by
  rw [qc8 (by omega)];refine q6h (by omega) ?_ fun j hj hn=>?_
  · rw [if_pos (by omega),if_pos (by omega),if_pos (by omega),if_neg (by omega)];rw [show i - 32 + 32 = i by omega];omega
  · have e1 : (j < i + 1) = (j < i):=by apply propext;omega
    have e2 : (j + 32 < i + 1) = (j + 32 < i):=by apply propext;omega
    simp only [e1,e2]
theorem qme {d : List Nat} (h : 32 ≤ d.length) (h2 : d.length ≤ 64) : lowP d d.length = lowS d:=by
  unfold lowP lowS;refine List.map_congr_left fun j hj=>?_;have hj:=List.mem_range.1 hj;rw [if_pos (by omega)]
  by_cases h3 : j + 32 < d.length
  · rw [if_pos h3]
  · rw [if_neg h3,q8p (l:=d) (i:=j + 32) (by omega)]
def bd (M : Nat) (l : List Nat) : Prop:=∀ i,ng l i ≤ M
theorem qjf {M : Nat} {d : List Nat} (h : bd M d) : bd (39 * M) (lowS d):=by
  intro i
  by_cases hi : i < 32
  · have:=h i;have:=h (i + 32);rw [show ng (lowS d) i = ng d i + 38 * ng d (i + 32) from q5y hi];omega
  · rw [q8p (by rw [q5g];omega)];omega
theorem qoi {M : Nat} {d : List Nat} (h : bd M d) (k : Nat) : bd (39 * M) (lowP d k):=by
  intro i
  by_cases hi : i < 32
  · have:=h i;have:=h (i + 32);rw [qc8 hi];split <;> split <;> omega
  · rw [q8p (by rw [qfc];omega)];omega
theorem q9e {M N : Nat} {l : List Nat} (h : bd M l) (hn : M ≤ N) : bd N l:=fun i=>Nat.le_trans (h i) hn
theorem qha {M : Nat} : ∀ {l : List Nat} {c : Nat},bd M l → c ≤ M → 255 ≤ M → bd M (sprd l c)
  | [],c,_,hc,_=>fun i=>by
    cases i with
    | zero=>exact hc
    | succ i=>exact Nat.zero_le _
  | a :: r,c,h,hc,hM=>fun i=>by
    have ha:=h 0;have ha : a ≤ M:=ha
    cases i with
    | zero=>show (a + c) % 256 ≤ M;omega
    | succ i=>exact qha (l:=r) (c:=(a + c) / 256) (fun j=>h (j + 1)) (by omega) hM i
theorem bd_dv : ∀ {l : List Nat} {M : Nat},bd M l → 255 * dv l ≤ M * (256 ^ l.length - 1)
  | [],M,_=>by simp [dv]
  | a :: r,M,h=>by
    have ih:=bd_dv (l:=r) (M:=M) fun i=>h (i + 1);have ha : a ≤ M:=h 0;show 255 * (a + 256 * dv r) ≤ M * (256 ^ (r.length + 1) - 1);rw [Nat.pow_succ];have hp : 0 < 256 ^ r.length:=Nat.pos_of_ne_zero (by simp);obtain ⟨q,hq⟩ : ∃ q,256 ^ r.length = q + 1:=⟨256 ^ r.length - 1,by omega⟩;rw [hq] at ih ⊢;rw [show (q + 1) * 256 - 1 = 256 * q + 255 by omega,Nat.mul_add,Nat.mul_add M,Nat.mul_left_comm M 256 q];rw [show q + 1 - 1 = q by omega] at ih;have : 255 * (256 * dv r) = 256 * (255 * dv r):=by omega
    omega
theorem qp2 {d : List Nat} (h : 32 ≤ d.length) (h2 : d.length ≤ 64) (hb : bd 100000000 d) : dv (rndz d 4) < 115792089237316195423570985008687907853269984665640564039457584007913129639936:=by
  refine qmg h h2 ?_;show dv (rndS d) < _;unfold rndS;rw [qdq];have h3:=bd_dv (qjf hb);rw [q5g] at h3;have e : (256 ^ 32 : Nat) = 115792089237316195423570985008687907853269984665640564039457584007913129639936:=rfl;rw [e] at h3;omega
def byD (l : List Nat) : List UInt8:=l.map UInt8.ofNat
theorem qla {l : List Nat} (h : ∀ i,i < l.length → ng l i < 256) : nats (byD l) = l:=by
  apply List.ext_getElem
  · simp [nats,byD]
  intro i h1 h2;have:=h i h2;rw [ng_eq h2] at this
  simp [nats,byD];omega
theorem qg4 {d : List Nat} (k i : Nat) (h : i < 32) : ng (rndz d (k + 1)) i < 256:=qeg (lowS (rndz d k)) 0 i (by rw [q5g];exact h)
theorem qgz {d : List Nat} (hv : dv (rndz d 4) < 115792089237316195423570985008687907853269984665640564039457584007913129639936) : le (byD ((rndz d 4).take 32)) = dv (rndz d 4):=by
  have hl : ((rndz d 4).take 32).length = 32:=by rw [List.length_take,q2s];rfl
  rw [← q5m,qla fun i hi=>?_]
  · have e:=qbq (rndz d 4) (by rw [q2s];decide);omega
  · rw [hl] at hi;have:=qg4 (d:=d) 3 i hi;rw [show ng ((rndz d 4).take 32) i = ng (rndz d 4) i by unfold ng;rw [List.getElem?_take,if_pos hi]];exact this
theorem qe6 {d : List Nat} (h : 32 ≤ d.length) (h2 : d.length ≤ 64) (hb : bd 100000000 d) : le (byD ((rndz d 4).take 32)) % Pm = dv d % Pm:=by
  rw [qgz (qp2 h h2 hb),qfr h h2]
theorem qix (l : List Nat) : (byD l).length = l.length:=by simp [byD]
def lsC (k : List UInt8) : Nat → Nat
  | 0=>0
  | i + 1=>if gd k i < prD i + lsC k i then 1 else 0
def lsN (k : List UInt8) (i : Nat) : Nat:=if gd k i < prD i + lsC k i then gd k i + 256 - prD i - lsC k i else gd k i - prD i - lsC k i
theorem q92 (i : Nat) : prD i ≤ 255:=by
  unfold prD
  split
  · omega
  split <;> omega
theorem qfu (k : List UInt8) : ∀ i,lsC k i ≤ 1
  | 0=>Nat.zero_le _
  | i + 1=>by show (if _ then 1 else 0) ≤ 1;split <;> omega
theorem qnh (k : List UInt8) (i : Nat) : lsN k i < 256:=by
  have h1:=gd_lt k i;have h2:=qfu k i;have h3:=q92 i;unfold lsN;split <;> omega
def lsK (k : List UInt8) (i : Nat) : List UInt8:=(List.range i).map (fun j=>UInt8.ofNat (lsN k j)) ++ k.drop i
theorem q6r {k : List UInt8} (hk : k.length = 32) {i : Nat} (hi : i ≤ 32) : (lsK k i).length = 32:=by simp [lsK,hk];omega
theorem qop {k : List UInt8} {i : Nat} : gd (lsK k i) i = gd k i:=by
  unfold gd lsK;rw [List.getElem?_append_right (by simp)];simp
theorem qo2 {k : List UInt8} (hk : k.length = 32) {i : Nat} (hi : i < 32) : (lsK k i).set i (UInt8.ofNat (lsN k i)) = lsK k (i + 1):=by
  unfold lsK;rw [List.set_append_right _ _ (by simp),List.range_succ,List.map_append];simp only [List.length_map,List.length_range,Nat.sub_self,List.map_cons,List.map_nil];rw [List.drop_eq_getElem_cons (by omega),List.set_cons_zero];simp
theorem ls_dv (k : List UInt8) (hk : k.length = 32) : ∀ i,i ≤ 32 → dv ((List.range i).map (lsN k)) + dv ((List.range i).map prD) = dv (nats (k.take i)) + 256 ^ i * lsC k i
  | 0,_=>by simp [dv,nats,lsC]
  | i + 1,h=>by
    have ih:=ls_dv k hk i (by omega);rw [List.range_succ,List.map_append,List.map_append,q1u,q1u,← q5c (by omega),q1u];have e1 : (nats (k.take i)).length = i:=by rw [qca,List.length_take];omega
    simp only [List.length_map,List.length_range,e1,List.map_cons,List.map_nil,dv,Nat.mul_zero,Nat.add_zero] at ih ⊢;have h1:=gd_lt k i;have h2:=qfu k i;have h3:=q92 i
    have e3 : lsN k i + prD i + lsC k i = gd k i + 256 * lsC k (i + 1):=by
      show lsN k i + prD i + lsC k i = gd k i + 256 * (if gd k i < prD i + lsC k i then 1 else 0);unfold lsN;split <;> omega
    have e4 : 256 ^ i * (lsN k i + prD i + lsC k i) = 256 ^ i * (gd k i + 256 * lsC k (i + 1)):=by rw [e3]
    rw [Nat.mul_add,Nat.mul_add,Nat.mul_add,← Nat.mul_assoc (256 ^ i) 256,← Nat.pow_succ] at e4;rw [Nat.succ_eq_add_one] at e4;omega
theorem qpy {k : List UInt8} (hk : k.length = 32) (h : Pm ≤ le k) : le (lsK k 32) + Pm = le k:=by
  have e:=ls_dv k hk 32 (Nat.le_refl _);rw [qj8,List.take_of_length_le (by omega),q5m] at e
  have e2 : le (lsK k 32) = dv ((List.range 32).map (lsN k)):=by
    rw [← q5m];congr 1;unfold lsK nats;rw [List.drop_of_length_le (by omega),List.append_nil,List.map_map];refine List.map_congr_left fun j _=>?_;have:=qnh k j;show (UInt8.ofNat (lsN k j)).toNat = lsN k j
    simp;omega
  have h3:=le_lt (lsK k 32);rw [q6r hk (Nat.le_refl _),show (256 ^ 32 : Nat) = 115792089237316195423570985008687907853269984665640564039457584007913129639936 from rfl] at h3;rw [show (256 ^ 32 : Nat) = 115792089237316195423570985008687907853269984665640564039457584007913129639936 from rfl] at e;have h4:=qfu k 32;obtain h5 | h5 : lsC k 32 = 0 ∨ lsC k 32 = 1:=by omega
  · rw [h5] at e;omega
  · rw [h5] at e;omega
def prL : List Nat:=(List.range 32).map prD
theorem qn2 : dv prL = Pm:=qj8
theorem qqt {a b : List Nat} {i : Nat} (ha : a.length = 32) (hb : b.length = 32) (la : ∀ x ∈ a,x < 256) (lb : ∀ x ∈ b,x < 256) (hi : i < 32) (e : a.drop (i + 1) = b.drop (i + 1)) (hne : ng a i ≠ ng b i) : (dv b ≤ dv a) = (ng b i < ng a i):=by
  have sp : ∀ l : List Nat,l.length = 32 → dv l = dv (l.take i) + 256 ^ i * (ng l i + 256 * dv (l.drop (i + 1))):=by
    intro l hl;(conv=>lhs;rw [← List.take_append_drop i l]);rw [q1u,List.length_take,Nat.min_eq_left (by omega),List.drop_eq_getElem_cons (by omega),ng_eq (by omega)];rfl
  have lt : ∀ l : List Nat,l.length = 32 → (∀ x ∈ l,x < 256) → dv (l.take i) < 256 ^ i:=by
    intro l hl h;have:=dv_lt (l.take i) fun x hx=>h x (List.mem_of_mem_take hx)
    rwa [List.length_take,Nat.min_eq_left (by omega)] at this
  have h1:=sp a ha;have h2:=sp b hb;have h3:=lt a ha la;have h4:=lt b hb lb;rw [e] at h1;generalize 256 ^ i = q at h1 h2 h3 h4;generalize dv (b.drop (i + 1)) = r at h1 h2;generalize ng a i = x at h1 hne ⊢;generalize ng b i = y at h2 hne ⊢
  apply propext
  have hx : q * (x + 256 * r) = q * x + q * (256 * r):=Nat.mul_add _ _ _;have hy : q * (y + 256 * r) = q * y + q * (256 * r):=Nat.mul_add _ _ _
  constructor
  · intro h;refine Classical.byContradiction fun hn=>?_;have : q * x + q ≤ q * y:=by rw [← Nat.mul_succ];exact Nat.mul_le_mul_left q (by omega)
    omega
  · intro h;have : q * y + q ≤ q * x:=by rw [← Nat.mul_succ];exact Nat.mul_le_mul_left q (by omega)
    omega
theorem qp4 (k : List UInt8) : ∀ x ∈ nats k,x < 256:=by
  intro x hx;unfold nats at hx;obtain ⟨c,_,rfl⟩:=List.mem_map.1 hx;exact c.toNat_lt
theorem qq6 : ∀ x ∈ prL,x < 256:=by
  intro x hx;obtain ⟨c,_,rfl⟩:=List.mem_map.1 hx;have:=q92 c;omega
theorem qbi (k : List UInt8) (i : Nat) : ng (nats k) i = gd k i:=by
  unfold ng gd nats;rw [List.getElem?_map];cases k[i]? <;> rfl
theorem qpt {i : Nat} (h : i < 32) : ng prL i = prD i:=q5y h
end
section
def carS (d : List Nat) : List UInt8:=byD ((rndz d 4).take 32)
theorem qis {d : List Nat} (h : 32 ≤ d.length) (h2 : d.length ≤ 64) : ∀ k,32 ≤ (rndz d k).length ∧ (rndz d k).length ≤ 64
  | 0=>⟨h,h2⟩
  | k + 1=>by rw [q2s];decide
theorem qjm {d : List Nat} (h : bd 100000000 d) : ∀ k,bd (100000000 * 39 ^ k) (rndz d k)
  | 0=>by rw [Nat.pow_zero,Nat.mul_one];exact h
  | k + 1=>by
    have e : 100000000 * 39 ^ (k + 1) = 39 * (100000000 * 39 ^ k):=by rw [Nat.pow_succ];omega
    rw [e];have : 0 < 39 ^ k:=Nat.pos_of_ne_zero (by simp);exact qha (qjf (qjm h k)) (Nat.zero_le _) (by omega)
theorem q88 {d : List Nat} : (carS d).length = 32:=by unfold carS;rw [qix,List.length_take,q2s];rfl
def keyP (l : List UInt8) (i : Nat) : List UInt8:=l.take i ++ List.replicate (32 - i) 0
theorem q58 {l : List UInt8} (h : l.length = 32) {i : Nat} (hi : i ≤ 32) : (keyP l i).length = 32:=by simp [keyP];omega
theorem qfz {l : List UInt8} (h : l.length = 32) {i : Nat} (hi : i < 32) : (keyP l i).set i (UInt8.ofNat (gd l i)) = keyP l (i + 1):=by
  have e1 : (l.take i).length = i:=by rw [List.length_take];omega
  have e2 : l.take (i + 1) = l.take i ++ [l[i]]:=List.take_succ_eq_append_getElem (by omega);unfold keyP;rw [List.set_append_right _ _ (by omega),e1,Nat.sub_self,show 32 - i = (32 - (i + 1)) + 1 by omega,List.replicate_succ,List.set_cons_zero,gd_eq (by omega),e2,List.append_assoc,UInt8.ofNat_toNat];rfl
theorem qga {l : List UInt8} (h : l.length = 32) : keyP l 32 = l:=by unfold keyP;rw [List.take_of_length_le (by omega)];simp
theorem qcp (l : List UInt8) : keyP l 0 = List.replicate 32 0:=by simp [keyP]
theorem q6m (A R : HP) (hE : Ent A R) (a : Option Addr) (cap : Nat) (d : List Nat) (hr : Rd R a (nis d)) (hl : 32 ≤ d.length) (hl2 : d.length ≤ 64) (hb : bd 100000000 d) :
    Pu Tryz.prog 184 [.c (.rs a d.length cap)] A (.agg [.many 32 (u8s (carS d))]):=by
  have hr:=hr.ent hE;refine Con.of' tt_ok Tryz.func184 rfl (by decide) [.c (.rs a d.length cap)] [] [] rfl rfl trivial kk rfl ?_;(conv=>whnf);intro b2;(conv=>whnf);intro b9;(conv=>whnf);refine With.own (i:=9) (n:=0) (cap:=0) (size:=1) ⟨_,_,rfl,⟨rfl,Nat.le_refl _⟩,?_⟩;refine appi (l:=[]) (m:=d) (.refl _) (Src.rs (A:=A) (by simp) hr) rfl rfl ⟨rfl,by decide,by decide⟩ (by simp;omega) 259 (.inr rfl) ?_;intro a3 c3 hc3;rw [List.nil_append] at hc3 ⊢;(conv=>whnf);have hz : (List.replicate 32 (Value.int .u8 0)).length = 32:=List.length_replicate
  have hz2 : ∀ v ∈ (List.replicate 32 (Value.int .u8 0)),Value.oneCell' v = true:=fun v hv=>by rw [(List.mem_replicate.1 hv).2];rfl
  refine LoopOb.m (σ:=Nat × Option Addr × Nat) (fun s=>[(2,.c (.ptr 2 0)),(3,.c (.rs s.2.1 (rndz d s.1).length s.2.2)),(4,.c (.int .i64 s.1))]) (fun s=>⟨[(2,b2)],[(2,[.many 32 (List.replicate 32 (Value.int .u8 0))],23)],[RowI s.2.1 s.2.2 (rndz d s.1),A]⟩)
    (fun s=>s.1 ≤ 4 ∧ Fc s.2.1 s.2.2 (rndz d s.1)) (fun s=>4 - s.1) (0,a3,c3) ⟨Nat.zero_le _,hc3⟩ (Wk.m [2] [0,0] kk ⟨⟨kk,⟨hz,hz2⟩,trivial⟩,trivial⟩ ⟨rfl,rfl⟩) ?_
  rintro ⟨k,a4,c4⟩ ⟨hk,hc⟩;dsimp only at hk hc ⊢;(conv=>whnf);refine Cond.d (fun h=>?_) (fun h=>?_)
  · have hk' : k < 4:=by omega
    have er : rndz d (k + 1) = sprd (lowS (rndz d k)) 0:=rfl;have hL:=qis hl hl2 k;have hB : bd (100000000 * 39 ^ k) (rndz d k):=qjm hb k
    have hB : bd 10000000000000 (rndz d k):=q9e hB (by
      have : k = 0 ∨ k = 1 ∨ k = 2 ∨ k = 3:=by omega
      rcases this with rfl | rfl | rfl | rfl <;> decide)
    generalize rndz d k = g at er hL hB hc ⊢;(conv=>whnf);refine ⟨by decide,?_⟩;intro b16;conv=>whnf
    refine LoopOb.m (σ:=Nat) (fun s=>[(2,.c (.ptr 2 0)),(3,.c (.rs a4 g.length c4)),(4,.c (.int .i64 k)),(5,.c (.rs (some (radr (b16,0))) 32 32)),(6,.c (.int .i64 s))]) (fun s=>⟨[(2,b2)],[(2,[.many 32 (List.replicate 32 (Value.int .u8 0))],23)],[RowI (some (radr (b16,0))) 32 (lowP g s),RowI a4 c4 g,A]⟩)
      (fun s=>s ≤ g.length) (fun s=>g.length - s) 0 (Nat.zero_le _) ?_ ?_
    · refine Wk.own 16 32 32 1 ⟨_,_,rfl,⟨rfl,Nat.le_refl _⟩,⟨⟨by simp,fun v hv=>by rw [(List.mem_replicate.1 hv).2];rfl⟩,trivial⟩,?_⟩;exact Wk.m [2] [0,0,0] kk ⟨⟨kk,⟨hz,hz2⟩,trivial⟩,trivial⟩ ⟨rfl,by rw [qj5];rfl⟩
    intro i hi;have hrg : Rd (RowI a4 c4 g) a4 (nis g):=Own.rd;have hrl : Rd (RowI (some (radr (b16,0))) 32 (lowP g i)) (some (radr (b16,0))) (nis (lowP g i)):=Own.rd;have hBl:=qoi hB i;have hll:=qfc g i;(conv=>whnf);refine Cond.d (fun h=>?_) (fun h=>?_)
    · have hi' : i < g.length:=by omega
      have hgi:=hB i;(conv=>whnf);refine Cond.d (fun h1=>?_) (fun h1=>?_)
      · have h1' : i < 32:=by omega
        have:=hBl i;have es:=ql0 (d:=g) h1';(conv=>whnf);refine Draw.till (by kernel_rfl) tt_ok (Tr.of (List.range 13) .nil) 12 (by kernel_rfl) ?_;(conv=>whnf);refine ⟨by omega,PtrOb.at ?_⟩;(conv=>whnf);refine ldi (A:=RowI (some (radr (b16,0))) 32 (lowP g i)) i (by simp) hrl (by omega) rfl rfl (by show _ + (i : Int).toNat * 1 = _;omega) ?_;(conv=>whnf);refine idxi (A:=RowI a4 c4 g) i (by simp) hrg (by omega) rfl rfl fun p hp=>?_;conv=>whnf
        refine ldi (A:=RowI a4 c4 g) (l:=g) i (by simp) (by rw [← hp];exact hrg) (by omega) rfl rfl (by show _ + (i : Int).toNat * 1 = _;omega) ?_;(conv=>whnf);refine Ar.i64 (by omega) ?_;(conv=>whnf);refine ⟨by omega,PtrOb.at ?_⟩;(conv=>whnf);refine sti (p:=(b16,0)) (cap:=32) (e:=3) (l:=lowP g i) i (ng (lowP g i) i + ng g i) (.refl _) rfl rfl (by show _ + (i : Int).toNat * 1 = _;omega) rfl (by omega) ?_;rw [es];(conv=>whnf);refine Ar.i64 (by omega) ?_;conv=>whnf
        exact ⟨i + 1,by omega,by omega,Wk.m [2] [0,0,0] kk ⟨⟨kk,⟨hz,hz2⟩,trivial⟩,trivial⟩ ⟨rfl,rfl⟩⟩
      · have:=hBl (i - 32);have es:=qjr (d:=g) (i:=i) (by omega) (by omega);(conv=>whnf);refine Draw.till (by kernel_rfl) tt_ok (Tr.of (List.range 16) .nil) 15 (by kernel_rfl) ?_;(conv=>whnf);refine Ar.i64 (by omega) ?_;(conv=>whnf);refine Ar.i64 (by omega) ?_;(conv=>whnf);refine ⟨by omega,PtrOb.at ?_⟩;(conv=>whnf);refine ldi (A:=RowI (some (radr (b16,0))) 32 (lowP g i)) (i - 32) (by simp) hrl (by omega) rfl rfl (by show _ + ((i : Int) - 32).toNat * 1 = _;omega) ?_;conv=>whnf
        refine idxi (A:=RowI a4 c4 g) i (by simp) hrg (by omega) rfl rfl fun p hp=>?_;(conv=>whnf);refine ldi (A:=RowI a4 c4 g) (l:=g) i (by simp) (by rw [← hp];exact hrg) (by omega) rfl rfl (by show _ + (i : Int).toNat * 1 = _;omega) ?_;(conv=>whnf);refine Ar.i64 (by omega) ?_;(conv=>whnf);refine Ar.i64 (by omega) ?_;(conv=>whnf);refine ⟨by omega,PtrOb.at ?_⟩;conv=>whnf
        refine sti (p:=(b16,0)) (cap:=32) (e:=3) (l:=lowP g i) (i - 32) (ng (lowP g i) (i - 32) + 38 * ng g i) (.refl _) rfl rfl (by show _ + ((i : Int) - 32).toNat * 1 = _;omega) (by omega) (by omega) ?_;rw [es];(conv=>whnf);refine Ar.i64 (by omega) ?_;(conv=>whnf);exact ⟨i + 1,by omega,by omega,Wk.m [2] [0,0,0] kk ⟨⟨kk,⟨hz,hz2⟩,trivial⟩,trivial⟩ ⟨rfl,rfl⟩⟩
    obtain rfl : i = g.length:=by omega
    rw [qme hL.1 hL.2];(conv=>whnf);have hcl : (lowS g).length = 32:=q5g g;refine Cq.fi (qj4 _ (RowI (some (radr (b16,0))) 32 (lowS g)) (Ent.at 1 rfl) (some (radr (b16,0))) 32 (lowS g) Own.rd hcl fun i _=>q9e (qjf hB) (by decide) i) (by rw [hcl];rfl) fun a5 c5 hc5=>?_;rw [← er] at hc5 ⊢;(conv=>whnf);refine Ar.i64 (by omega) ?_;(conv=>whnf);exact ⟨(k + 1,a5,c5),⟨by dsimp only;omega,hc5⟩,by dsimp only;omega,Wk.m [2] [0,2] kk ⟨⟨kk,⟨hz,hz2⟩,trivial⟩,trivial⟩ ⟨rfl,rfl⟩⟩
  obtain rfl : k = 4:=by omega
  have hcl:=q88 (d:=d);have hrr : Rd (RowI a4 c4 (rndz d 4)) a4 (nis (rndz d 4)):=Own.rd;have hl3 : (rndz d 4).length = 33:=q2s 3;have hg3:=fun i h=>qg4 (d:=d) 3 i h
  have hgc : ∀ i,i < 32 → gd (carS d) i = ng (rndz d 4) i:=by
    intro i hi;have:=hg3 i hi;unfold carS;rw [gd_eq (by rw [qix,List.length_take];omega)];simp only [byD,List.getElem_map,List.getElem_take];rw [← ng_eq (by omega)]
    simp;omega
  (conv=>whnf);intro b7;conv=>whnf
  refine LoopOb.m (σ:=Nat) (fun s=>[(2,.c (.ptr 2 0)),(3,.c (.rs a4 (rndz d 4).length c4)),(7,.c (.ptr 7 0)),(8,.c (.int .i64 s))]) (fun s=>⟨[(7,b7),(2,b2)],[(7,[.many 32 (u8s (keyP (carS d) s))],23),(2,[.many 32 (List.replicate 32 (Value.int .u8 0))],23)],[RowI a4 c4 (rndz d 4),A]⟩)
    (fun s=>s ≤ 32) (fun s=>32 - s) 0 (Nat.zero_le _) (Wk.m [7,2] [0,0] kk ⟨⟨kk,mok (q58 hcl (Nat.zero_le _)) _,trivial⟩,⟨kk,⟨hz,hz2⟩,trivial⟩,trivial⟩ ⟨by rw [qcp];rfl,rfl⟩) ?_
  intro i hi;(conv=>whnf);refine Cond.d (fun h=>?_) (fun h=>?_)
  · have hi' : i < 32:=by omega
    have hgi:=hg3 i hi';have hci:=hgc i hi';(conv=>whnf);refine idxi (A:=RowI a4 c4 (rndz d 4)) i (by simp) hrr (by omega) rfl rfl fun p hp=>?_;(conv=>whnf);refine ldi (A:=RowI a4 c4 (rndz d 4)) (l:=rndz d 4) i (by simp) (by rw [← hp];exact hrr) (by omega) rfl rfl (by show _ + (i : Int).toNat * 1 = _;omega) ?_;rw [← hci];(conv=>whnf);refine Ar.to ((gd (carS d) i : Nat) : Int) rfl (Ar.u8 (by have:=gd_lt (carS d) i;omega) ?_);(conv=>whnf);refine ⟨by omega,?_⟩;(conv=>whnf);refine ⟨⟨rfl,by show (i : Int).toNat * 1 + 1 ≤ 32;omega⟩,?_⟩;conv=>whnf
    refine Ar.i64 (by omega) ?_;(conv=>whnf);have s1:=q4a (l:=keyP (carS d) i) (i:=i) (n:=gd (carS d) i) (by rw [q58 hcl (by omega)];exact hi') (gd_lt _ _);rw [qfz hcl hi'] at s1;have em : (i : Int).toNat * 1 = i:=by omega
    have s2 : (u8s (keyP (carS d) i)).take ((i : Int).toNat * 1) ++ ([Value.int .u8 ((gd (carS d) i : Nat) : Int)] ++ (u8s (keyP (carS d) i)).drop ((i : Int).toNat * 1 + 1)) = u8s (keyP (carS d) (i + 1)):=by rw [em];exact s1
    refine ⟨i + 1,by omega,by omega,Wk.m [7,2] [0,0] kk ⟨⟨kk,mok (q58 hcl (by omega)) _,trivial⟩,⟨kk,⟨hz,hz2⟩,trivial⟩,trivial⟩ ⟨?_,rfl⟩⟩;rw [← s2];rfl
  obtain rfl : i = 32:=by omega
  rw [qga hcl];(conv=>whnf);exact Ret.m () [] [1] trivial rfl ⟨mok hcl _,trivial⟩ kk ⟨rfl,rfl⟩
end
section
theorem qh0 (A : HP) (k : List UInt8) (hk : k.length = 32) : Pu Tryz.prog 185 [.agg [.many 32 (u8s k)]] A (.c (.bool (decide (Pm ≤ le k)))):=by
  refine Con.of' tt_ok Tryz.func185 rfl (by decide) [.agg [.many 32 (u8s k)]] [] [] rfl rfl trivial ⟨⟨mok hk _,trivial⟩,trivial⟩ rfl ?_;(conv=>whnf);intro b1;(conv=>whnf);have hnl : (nats k).length = 32:=by rw [qca,hk]
  have hpl : prL.length = 32:=by simp [prL]
  refine LoopOb.m (σ:=Nat) (fun s=>[(1,.c (.ptr 1 0)),(3,.c (.int .i64 ((s : Int) - 1)))]) (fun s=>⟨[(1,b1)],[(1,[.many 32 (u8s k)],23)],[A]⟩)
    (fun s=>s ≤ 32 ∧ (nats k).drop s = prL.drop s) (fun s=>s) 32 ⟨Nat.le_refl _,by rw [List.drop_of_length_le (by omega),List.drop_of_length_le (by omega)]⟩ (Wk.m [1] [0] kk ⟨⟨kk,mok hk _,trivial⟩,trivial⟩ ⟨rfl,rfl⟩) ?_
  rintro s ⟨hs,hd⟩;dsimp only at hs hd ⊢;(conv=>whnf);refine Cond.d (fun h=>?_) (fun h=>?_)
  · obtain ⟨i,rfl⟩ : ∃ i,s = i + 1:=⟨s - 1,by omega⟩;have ei : (((i + 1 : Nat) : Int) - 1) = i:=by omega
    rw [ei];have hi : i < 32:=by omega
    have hg:=gd_lt k i;have hp:=q92 i;(conv=>whnf);refine Draw.a (by kernel_rfl) tt_ok (Tv.of (List.range 7) .nil) 1000000 (by kernel_rfl) ?_;(conv=>whnf);refine ⟨by omega,?_⟩;(conv=>whnf);refine q0v i (by show (i : Int).toNat * 1 = i;omega) (by omega) ?_;(conv=>whnf);refine Ar.i64 (by omega) ?_;(conv=>whnf);refine Cq.pu (q8a _ i hi) rfl ?_;(conv=>whnf);refine Sub.whole ?_;(conv=>whnf);have hng : ng (nats k) i = gd k i:=qbi k i;have hpg : ng prL i = prD i:=qpt hi;refine Cond.neI (fun hne=>?_) (fun he=>?_)
    · (conv=>whnf);refine Draw.a (by kernel_rfl) tt_ok (Tv.of (List.range 8) .nil) 1000000 (by kernel_rfl) ?_;(conv=>whnf);refine ⟨by omega,?_⟩;(conv=>whnf);refine q0v i (by show (i : Int).toNat * 1 = i;omega) (by omega) ?_;(conv=>whnf);refine Ar.i64 (by omega) ?_;(conv=>whnf);refine Cq.pu (q8a _ i hi) rfl ?_;(conv=>whnf);refine Sub.whole ?_;(conv=>whnf);have e:=qqt (a:=nats k) (b:=prL) hnl hpl (qp4 k) qq6 hi hd (by rw [hng,hpg];omega);rw [q5m,qn2,hng,hpg] at e
      have e2 : decide (Pm ≤ le k) = decide ((gd k i : Int) > (prD i : Int)):=by
        rw [decide_eq_decide,e];omega
      rw [e2];exact Ret.m () [] [0] trivial rfl kk kk ⟨rfl,rfl⟩
    · (conv=>whnf);refine Ar.i64 (by omega) ?_;conv=>whnf
      have e : (nats k).drop i = prL.drop i:=by
        rw [List.drop_eq_getElem_cons (l:=nats k) (i:=i) (by omega),List.drop_eq_getElem_cons (l:=prL) (i:=i) (by omega),hd];congr 1;exact (ng_eq (l:=nats k) (by omega)).symm.trans ((hng.trans (by omega)).trans (hpg.symm.trans (ng_eq (by omega))))
      exact ⟨i,⟨by omega,e⟩,by omega,Wk.m [1] [0] kk ⟨⟨kk,mok hk _,trivial⟩,trivial⟩ ⟨rfl,rfl⟩⟩
  obtain rfl : s = 0:=by omega
  have e : nats k = prL:=hd;have e2 : le k = Pm:=by rw [← q5m,e,qn2]
  rw [e2,decide_eq_true (Nat.le_refl _)];(conv=>whnf);exact Ret.m () [] [0] trivial rfl kk kk ⟨rfl,rfl⟩
theorem qo7 (A : HP) (k : List UInt8) (hk : k.length = 32) : Pu Tryz.prog 186 [.agg [.many 32 (u8s k)]] A (.agg [.many 32 (u8s (lsK k 32))]):=by
  refine Con.of' tt_ok Tryz.func186 rfl (by decide) [.agg [.many 32 (u8s k)]] [] [] rfl rfl trivial ⟨⟨mok hk _,trivial⟩,trivial⟩ rfl ?_;(conv=>whnf);intro b1;(conv=>whnf);intro b2;(conv=>whnf);have hz : (List.replicate 32 (Value.int .u8 0)).length = 32:=List.length_replicate;have hz2 : ∀ v ∈ (List.replicate 32 (Value.int .u8 0)),Value.oneCell' v = true:=fun v hv=>by rw [(List.mem_replicate.1 hv).2];rfl
  have h0 : lsK k 0 = k:=by simp [lsK]
  refine LoopOb.m (σ:=Nat) (fun s=>[(1,.c (.ptr 1 0)),(2,.c (.ptr 2 0)),(3,.c (.int .i64 (lsC k s : Nat))),(4,.c (.int .i64 s))]) (fun s=>⟨[(2,b2),(1,b1)],[(2,[.many 32 (List.replicate 32 (Value.int .u8 0))],23),(1,[.many 32 (u8s (lsK k s))],23)],[A]⟩)
    (fun s=>s ≤ 32) (fun s=>32 - s) 0 (Nat.zero_le _) (Wk.m [2,1] [0] kk ⟨⟨kk,⟨hz,hz2⟩,trivial⟩,⟨kk,mok (q6r hk (Nat.zero_le _)) _,trivial⟩,trivial⟩ ⟨by rw [h0],rfl⟩) ?_
  intro i hi;have hll:=q6r hk hi;(conv=>whnf);refine Cond.d (fun h=>?_) (fun h=>?_)
  · have hi' : i < 32:=by omega
    have hg:=gd_lt k i;have hp:=q92 i;have hC:=qfu k i;have hN:=qnh k i;have s1:=q4a (l:=lsK k i) (i:=i) (n:=lsN k i) (by omega) hN;rw [qo2 hk hi'] at s1;have em : (i : Int).toNat * 1 = i:=by omega
    have s2 : (u8s (lsK k i)).take ((i : Int).toNat * 1) ++ ([Value.int .u8 ((lsN k i : Nat) : Int)] ++ (u8s (lsK k i)).drop ((i : Int).toNat * 1 + 1)) = u8s (lsK k (i + 1)):=by rw [em];exact s1
    (conv=>whnf);refine Draw.a (by kernel_rfl) tt_ok (Tv.of [0,1,2,3,4,7,5,6,8,9] .nil) 1000000 (by kernel_rfl) ?_;(conv=>whnf);refine ⟨by omega,?_⟩;(conv=>whnf);refine q0v i (by show (i : Int).toNat * 1 = i;omega) (by omega) ?_;rw [qop];(conv=>whnf);refine Ar.i64 (by omega) ?_;(conv=>whnf);refine Cq.pu (q8a _ i hi') rfl ?_;(conv=>whnf);refine Sub.whole ?_;(conv=>whnf);refine Ar.i64 (by omega) ?_;(conv=>whnf);refine Ar.i64 (by omega) ?_;(conv=>whnf);refine Cond.d (fun h1=>?_) (fun h1=>?_)
    · have eN : lsN k i = gd k i + 256 - prD i - lsC k i:=by unfold lsN;rw [if_pos (by omega)]
      have eC : lsC k (i + 1) = 1:=by show (if _ then 1 else 0) = 1;rw [if_pos (by omega)]
      (conv=>whnf);refine Ar.to ((lsN k i : Nat) : Int) (by omega) (Ar.i64 (by omega) ?_);(conv=>whnf);refine Ar.u8 (by omega) ?_;(conv=>whnf);refine ⟨by omega,?_⟩;(conv=>whnf);refine ⟨⟨rfl,by show (i : Int).toNat * 1 + 1 ≤ 32;omega⟩,?_⟩;(conv=>whnf);refine Ar.i64 (by omega) ?_;(conv=>whnf);refine ⟨i + 1,by omega,by omega,Wk.m [2,1] [0] ⟨kk,kk,⟨by rw [eC];rfl,trivial⟩,kk,trivial⟩ ⟨⟨kk,⟨hz,hz2⟩,trivial⟩,⟨kk,mok (q6r hk (by omega)) _,trivial⟩,trivial⟩ ⟨?_,rfl⟩⟩;rw [← s2];rfl
    · have eN : lsN k i = gd k i - prD i - lsC k i:=by unfold lsN;rw [if_neg (by omega)]
      have eC : lsC k (i + 1) = 0:=by show (if _ then 1 else 0) = 0;rw [if_neg (by omega)]
      have eZ : (gd k i : Int) - prD i - lsC k i = (lsN k i : Nat):=by omega
      rw [eZ];(conv=>whnf);refine Ar.u8 (by omega) ?_;(conv=>whnf);refine ⟨by omega,?_⟩;(conv=>whnf);refine ⟨⟨rfl,by show (i : Int).toNat * 1 + 1 ≤ 32;omega⟩,?_⟩;(conv=>whnf);refine Ar.i64 (by omega) ?_;(conv=>whnf);refine ⟨i + 1,by omega,by omega,Wk.m [2,1] [0] ⟨kk,kk,⟨by rw [eC];rfl,trivial⟩,kk,trivial⟩ ⟨⟨kk,⟨hz,hz2⟩,trivial⟩,⟨kk,mok (q6r hk (by omega)) _,trivial⟩,trivial⟩ ⟨?_,rfl⟩⟩;rw [← s2];rfl
  obtain rfl : i = 32:=by omega
  (conv=>whnf);exact Ret.m () [] [0] trivial rfl ⟨mok hll _,trivial⟩ kk ⟨rfl,rfl⟩
theorem q6i (A : HP) (k : List UInt8) (hk : k.length = 32) : Pu Tryz.prog 164 [.agg [.many 32 (u8s k)]] A (.agg [.many 32 (u8s (leB (le k % Pm) 32))]):=by
  refine Con.of' tt_ok Tryz.func164 rfl (by decide) [.agg [.many 32 (u8s k)]] [] [] rfl rfl trivial ⟨⟨mok hk _,trivial⟩,trivial⟩ rfl ?_;(conv=>whnf);intro b1;(conv=>whnf);intro b2;(conv=>whnf);have hz : (List.replicate 32 (Value.int .u8 0)).length = 32:=List.length_replicate;have hz2 : ∀ v ∈ (List.replicate 32 (Value.int .u8 0)),Value.oneCell' v = true:=fun v hv=>by rw [(List.mem_replicate.1 hv).2];rfl
  refine LoopOb.m (σ:=List UInt8) (fun s=>[(1,.c (.ptr 1 0)),(2,.c (.ptr 2 0))]) (fun s=>⟨[(2,b2),(1,b1)],[(2,[.many 32 (List.replicate 32 (Value.int .u8 0))],23),(1,[.many 32 (u8s s)],23)],[A]⟩)
    (fun s=>s.length = 32 ∧ le s % Pm = le k % Pm) (fun s=>le s) k ⟨hk,rfl⟩ (Wk.m [2,1] [0] kk ⟨⟨kk,⟨hz,hz2⟩,trivial⟩,⟨kk,mok hk _,trivial⟩,trivial⟩ ⟨rfl,rfl⟩) ?_
  rintro s ⟨hs,he⟩;(conv=>whnf);refine Cq.pu (qh0 _ s hs) rfl ?_;(conv=>whnf);refine Cond.d (fun h=>?_) (fun h=>?_)
  · have hn:=qpy hs h;have hl:=q6r hs (Nat.le_refl 32);(conv=>whnf);refine Cq.pu (qo7 _ s hs) rfl ?_;(conv=>whnf);exact ⟨lsK s 32,⟨hl,by rw [← he,← hn,Nat.add_mod_right]⟩,by have:=q2k;omega,Wk.m [2,1] [0] kk ⟨⟨kk,⟨hz,hz2⟩,trivial⟩,⟨kk,mok hl _,trivial⟩,trivial⟩ ⟨rfl,rfl⟩⟩
  have e : le s = le k % Pm:=by rw [← he,Nat.mod_eq_of_lt (by omega)]
  rw [← e,← hs,qjg,hs];(conv=>whnf);exact Ret.m () [] [0] trivial rfl ⟨mok hs _,trivial⟩ kk ⟨rfl,rfl⟩
theorem qib (A : HP) (k : List UInt8) (hk : k.length = 32) : Pu Tryz.prog 123 [.agg [.many 32 (u8s k)]] A (.c (.bool (decide (leB (le k % Pm) 32 = zk)))):=by
  refine Con.of' tt_ok Tryz.func123 rfl (by decide) [.agg [.many 32 (u8s k)]] [] [] rfl rfl trivial ⟨⟨mok hk _,trivial⟩,trivial⟩ rfl ?_;(conv=>whnf);intro b1;(conv=>whnf);refine Cq.pu (q6i _ k hk) rfl ?_;(conv=>whnf);refine q7o (lbl 32 (le k % Pm)) q1h (by simp [dens,Seg.den]) (by rfl) ?_;(conv=>whnf);exact Ret.m () [] [0] trivial rfl kk kk ⟨rfl,rfl⟩
end
section
theorem q5v : ∀ (n : Nat) (f g : Nat → Nat),dv ((List.range n).map fun i=>f i + g i) = dv ((List.range n).map f) + dv ((List.range n).map g)
  | 0,_,_=>rfl
  | n + 1,f,g=>by
    have ih:=q5v n f g;rw [List.range_succ,List.map_append,List.map_append,List.map_append,q1u,q1u,q1u,ih];simp only [List.map_cons,List.map_nil,List.length_map,List.length_range,dv,Nat.mul_zero,Nat.add_zero,Nat.mul_add];omega
theorem dv_gd {k : List UInt8} (hk : k.length = 32) : dv ((List.range 32).map (gd k)) = le k:=by
  rw [← q5m];congr 1
  apply List.ext_getElem
  · simp [nats,hk]
  intro i h1 h2;rw [List.getElem_map,List.getElem_range];rw [← ng_eq,qbi]
def addP (a b : List UInt8) (i : Nat) : List Nat:=(List.range 32).map fun j=>gd a j + if j < i then gd b j else 0
theorem qfj (a b : List UInt8) (i : Nat) : (addP a b i).length = 32:=by simp [addP]
theorem qax {a b : List UInt8} {i j : Nat} (h : j < 32) : ng (addP a b i) j = gd a j + if j < i then gd b j else 0:=q5y h
theorem qmj {a b : List UInt8} {i : Nat} (h : i < 32) : (addP a b i).set i (ng (addP a b i) i + gd b i) = addP a b (i + 1):=by
  rw [qax h];refine q6h h ?_ fun j hj hn=>?_
  · rw [if_pos (by omega),if_neg (by omega)];omega
  · have e1 : (j < i + 1) = (j < i):=by apply propext;omega
    simp only [e1]
theorem qjw {a b : List UInt8} (ha : a.length = 32) : addP a b 0 = nats a:=by
  apply List.ext_getElem
  · simp [addP,nats,ha]
  intro i h1 h2;rw [← ng_eq,← ng_eq,qbi,qax (by simpa [addP] using h1),if_neg (by omega),Nat.add_zero]
theorem qlw {a b : List UInt8} (ha : a.length = 32) (hb : b.length = 32) : dv (addP a b 32) = le a + le b:=by
  rw [← dv_gd ha,← dv_gd hb,← q5v];unfold addP;refine congrArg dv (List.map_congr_left fun j hj=>?_);rw [if_pos (List.mem_range.1 hj)]
theorem qdv (a b : List UInt8) (i : Nat) : bd 100000000 (addP a b i):=by
  intro j
  by_cases h : j < 32
  · rw [qax h];have:=gd_lt a j;have:=gd_lt b j;split <;> omega
  · rw [q8p (by rw [qfj];omega)];omega
def raddS (a b : List UInt8) : List UInt8:=leB (fa (le a % Pm) (le b % Pm)) 32
theorem qqc (A : HP) (a b : List UInt8) (ha : a.length = 32) (hb : b.length = 32) : Pu Tryz.prog 182 [.agg [.many 32 (u8s a)],.agg [.many 32 (u8s b)]] A (.agg [.many 32 (u8s (raddS a b))]):=by
  refine Con.of' tt_ok Tryz.func182 rfl (by decide) [.agg [.many 32 (u8s a)],.agg [.many 32 (u8s b)]] [] [] rfl rfl trivial ⟨⟨mok ha _,trivial⟩,⟨mok hb _,trivial⟩,trivial⟩ rfl ?_;(conv=>whnf);intro b2;(conv=>whnf);intro b3;(conv=>whnf);intro b4;(conv=>whnf);have hz : (List.replicate 32 (Value.int .u8 0)).length = 32:=List.length_replicate;have hz2 : ∀ v ∈ (List.replicate 32 (Value.int .u8 0)),Value.oneCell' v = true:=fun v hv=>by rw [(List.mem_replicate.1 hv).2];rfl
  refine Cq.fi (qaq _ a ha) rfl fun a5 c5 hc5=>?_;have hpl : ∀ i,(addP a b i).length = 32:=qfj a b;rw [← qjw (b:=b) ha] at hc5 ⊢;rw [hpl 0];conv=>whnf
  refine LoopOb.m (σ:=Nat) (fun s=>[(3,.c (.ptr 3 0)),(4,.c (.ptr 4 0)),(5,.c (.rs a5 32 c5)),(6,.c (.int .i64 s))]) (fun s=>⟨[(4,b4),(3,b3)],[(4,[.many 32 (List.replicate 32 (Value.int .u8 0))],23),(3,[.many 32 (u8s b)],23)],[RowI a5 c5 (addP a b s),A]⟩)
    (fun s=>s ≤ 32) (fun s=>32 - s) 0 (Nat.zero_le _) (Wk.m [4,3] [0,0] kk ⟨⟨kk,⟨hz,hz2⟩,trivial⟩,⟨kk,mok hb _,trivial⟩,trivial⟩ ⟨rfl,rfl⟩) ?_
  intro i hi;have hrl : Rd (RowI a5 c5 (addP a b i)) a5 (nis (addP a b i)):=Own.rd;(conv=>whnf);refine Cond.d (fun h=>?_) (fun h=>?_)
  · have hi' : i < 32:=by omega
    have hg:=gd_lt b i;have hB:=qdv a b i i;have es:=qmj (a:=a) (b:=b) hi';(conv=>whnf);refine Draw.a (by kernel_rfl) tt_ok (Tv.of (List.range 13) .nil) 12 (by kernel_rfl) ?_;(conv=>whnf);refine ⟨by omega,PtrOb.rd (A:=RowI a5 c5 (addP a b i)) (by simp) hrl (by rw [q59,hpl];omega) fun p hp=>?_⟩;subst hp;(conv=>whnf);refine ldi (A:=RowI (some (radr p)) c5 (addP a b i)) (l:=addP a b i) i (by simp) hrl (by rw [hpl];exact hi') rfl rfl (by show _ + (i : Int).toNat * 1 = _;omega) ?_;(conv=>whnf);refine ⟨by omega,?_⟩;conv=>whnf
    refine q0v i (by show (i : Int).toNat * 1 = i;omega) (by omega) ?_;(conv=>whnf);refine Ar.i64 (by omega) ?_;(conv=>whnf);refine Ar.i64 (by omega) ?_;(conv=>whnf);refine ⟨by omega,PtrOb.at ?_⟩;(conv=>whnf);refine sti (p:=p) (cap:=c5) (e:=3) (l:=addP a b i) i (ng (addP a b i) i + gd b i) (.refl _) rfl rfl (by show _ + (i : Int).toNat * 1 = _;omega) (by omega) (by rw [hpl];exact hi') ?_;rw [es];(conv=>whnf);refine Ar.i64 (by omega) ?_;conv=>whnf
    exact ⟨i + 1,by omega,by omega,Wk.m [4,3] [0,0] kk ⟨⟨kk,⟨hz,hz2⟩,trivial⟩,⟨kk,mok hb _,trivial⟩,trivial⟩ ⟨rfl,rfl⟩⟩
  obtain rfl : i = 32:=by omega
  (conv=>whnf);refine Cq.pu (q6m _ (RowI a5 c5 (addP a b 32)) (Ent.at 2 rfl) a5 c5 (addP a b 32) Own.rd (by rw [hpl];decide) (by rw [hpl];decide) (qdv a b 32)) (by rw [hpl];rfl) ?_;(conv=>whnf);refine Cq.pu (q6i _ (carS (addP a b 32)) q88) rfl ?_
  have e : leB (le (carS (addP a b 32)) % Pm) 32 = raddS a b:=by
    unfold raddS carS;rw [qe6 (by rw [hpl];decide) (by rw [hpl];decide) (qdv a b 32),qlw ha hb];exact congrArg (fun z=>leB z 32) (qn7 rfl)
  rw [e];(conv=>whnf);exact Ret.m () [] [1] trivial rfl ⟨mok (lbl _ _) _,trivial⟩ kk ⟨rfl,rfl⟩
def subP (a b : List UInt8) (i : Nat) : List Nat:=(List.range 32).map fun j=>gd a j + if j < i then 4 * prD j - gd b j else 0
theorem qff (a b : List UInt8) (i : Nat) : (subP a b i).length = 32:=by simp [subP]
theorem qbr {a b : List UInt8} {i j : Nat} (h : j < 32) : ng (subP a b i) j = gd a j + if j < i then 4 * prD j - gd b j else 0:=q5y h
theorem ql8 {a b : List UInt8} {i : Nat} (h : i < 32) : (subP a b i).set i (ng (subP a b i) i + (4 * prD i - gd b i)) = subP a b (i + 1):=by
  rw [qbr h];refine q6h h ?_ fun j hj hn=>?_
  · rw [if_pos (by omega),if_neg (by omega)];omega
  · have e1 : (j < i + 1) = (j < i):=by apply propext;omega
    simp only [e1]
theorem qie {a b : List UInt8} (ha : a.length = 32) : subP a b 0 = nats a:=by
  apply List.ext_getElem
  · simp [subP,nats,ha]
  intro i h1 h2;rw [← ng_eq,← ng_eq,qbi,qbr (by simpa [subP] using h1),if_neg (by omega),Nat.add_zero]
theorem qml (i : Nat) : 127 ≤ prD i:=by
  unfold prD
  split
  · omega
  · split <;> omega
theorem qkv {a b : List UInt8} (ha : a.length = 32) (hb : b.length = 32) : dv (subP a b 32) + le b = le a + 4 * Pm:=by
  have e : dv (subP a b 32) = dv ((List.range 32).map (gd a)) + dv ((List.range 32).map fun j=>4 * prD j - gd b j):=by
    rw [← q5v];refine congrArg dv (List.map_congr_left fun j hj=>?_);rw [if_pos (List.mem_range.1 hj)]
  have e2 : dv ((List.range 32).map fun j=>4 * prD j - gd b j) + dv ((List.range 32).map (gd b)) = dv ((List.range 32).map fun j=>prD j + (prD j + (prD j + prD j))):=by
    rw [← q5v];refine congrArg dv (List.map_congr_left fun j hj=>?_);have:=qml j;have:=gd_lt b j;omega
  rw [q5v,q5v,q5v,qj8,dv_gd hb] at e2;rw [e,dv_gd ha];omega
theorem qdp (a b : List UInt8) (i : Nat) : bd 100000000 (subP a b i):=by
  intro j
  by_cases h : j < 32
  · rw [qbr h];have:=gd_lt a j;have:=q92 j;split <;> omega
  · rw [q8p (by rw [qff];omega)];omega
def rsubS (a b : List UInt8) : List UInt8:=leB (fs (le a % Pm) (le b % Pm)) 32
theorem qq9 (A : HP) (a b : List UInt8) (ha : a.length = 32) (hb : b.length = 32) : Pu Tryz.prog 183 [.agg [.many 32 (u8s a)],.agg [.many 32 (u8s b)]] A (.agg [.many 32 (u8s (rsubS a b))]):=by
  refine Con.of' tt_ok Tryz.func183 rfl (by decide) [.agg [.many 32 (u8s a)],.agg [.many 32 (u8s b)]] [] [] rfl rfl trivial ⟨⟨mok ha _,trivial⟩,⟨mok hb _,trivial⟩,trivial⟩ rfl ?_;(conv=>whnf);intro b2;(conv=>whnf);intro b3;(conv=>whnf);intro b4;(conv=>whnf);have hz : (List.replicate 32 (Value.int .u8 0)).length = 32:=List.length_replicate;have hz2 : ∀ v ∈ (List.replicate 32 (Value.int .u8 0)),Value.oneCell' v = true:=fun v hv=>by rw [(List.mem_replicate.1 hv).2];rfl
  refine Cq.fi (qaq _ a ha) rfl fun a5 c5 hc5=>?_;have hpl : ∀ i,(subP a b i).length = 32:=qff a b;rw [← qie (b:=b) ha] at hc5 ⊢;rw [hpl 0];conv=>whnf
  refine LoopOb.m (σ:=Nat) (fun s=>[(3,.c (.ptr 3 0)),(4,.c (.ptr 4 0)),(5,.c (.rs a5 32 c5)),(6,.c (.int .i64 s))]) (fun s=>⟨[(4,b4),(3,b3)],[(4,[.many 32 (List.replicate 32 (Value.int .u8 0))],23),(3,[.many 32 (u8s b)],23)],[RowI a5 c5 (subP a b s),A]⟩)
    (fun s=>s ≤ 32) (fun s=>32 - s) 0 (Nat.zero_le _) (Wk.m [4,3] [0,0] kk ⟨⟨kk,⟨hz,hz2⟩,trivial⟩,⟨kk,mok hb _,trivial⟩,trivial⟩ ⟨rfl,rfl⟩) ?_
  intro i hi;have hrl : Rd (RowI a5 c5 (subP a b i)) a5 (nis (subP a b i)):=Own.rd;(conv=>whnf);refine Cond.d (fun h=>?_) (fun h=>?_)
  · have hi' : i < 32:=by omega
    have hg:=gd_lt b i;have hp1:=q92 i;have hp2:=qml i;have hB:=qdp a b i i;have es:=ql8 (a:=a) (b:=b) hi';(conv=>whnf);refine Draw.a (by kernel_rfl) tt_ok (Tv.of [0,1,2,3,4,5,6,10,11,12,13,7,8,9,14,15,16] .nil) 16 (by kernel_rfl) ?_;(conv=>whnf);refine ⟨by omega,PtrOb.rd (A:=RowI a5 c5 (subP a b i)) (by simp) hrl (by rw [q59,hpl];omega) fun p hp=>?_⟩;subst hp;conv=>whnf
    refine ldi (A:=RowI (some (radr p)) c5 (subP a b i)) (l:=subP a b i) i (by simp) hrl (by rw [hpl];exact hi') rfl rfl (by show _ + (i : Int).toNat * 1 = _;omega) ?_;(conv=>whnf);refine ⟨by omega,?_⟩;(conv=>whnf);refine q0v i (by show (i : Int).toNat * 1 = i;omega) (by omega) ?_;(conv=>whnf);refine Ar.i64 (by omega) ?_;(conv=>whnf);refine Cq.pu (q8a _ i hi') rfl ?_;(conv=>whnf);refine Sub.whole ?_;(conv=>whnf);refine Ar.i64 (by omega) ?_;(conv=>whnf);refine Ar.i64 (by omega) ?_;(conv=>whnf);refine Ar.i64 (by omega) ?_
    (conv=>whnf);refine ⟨by omega,PtrOb.at ?_⟩;(conv=>whnf);refine sti (p:=p) (cap:=c5) (e:=3) (l:=subP a b i) i (ng (subP a b i) i + (4 * prD i - gd b i)) (.refl _) rfl rfl (by show _ + (i : Int).toNat * 1 = _;omega) (by omega) (by rw [hpl];exact hi') ?_;rw [es];(conv=>whnf);refine Ar.i64 (by omega) ?_;(conv=>whnf);exact ⟨i + 1,by omega,by omega,Wk.m [4,3] [0,0] kk ⟨⟨kk,⟨hz,hz2⟩,trivial⟩,⟨kk,mok hb _,trivial⟩,trivial⟩ ⟨rfl,rfl⟩⟩
  obtain rfl : i = 32:=by omega
  (conv=>whnf);refine Cq.pu (q6m _ (RowI a5 c5 (subP a b 32)) (Ent.at 2 rfl) a5 c5 (subP a b 32) Own.rd (by rw [hpl];decide) (by rw [hpl];decide) (qdp a b 32)) (by rw [hpl];rfl) ?_;(conv=>whnf);refine Cq.pu (q6i _ (carS (subP a b 32)) q88) rfl ?_
  have e : leB (le (carS (subP a b 32)) % Pm) 32 = rsubS a b:=by
    unfold rsubS carS;rw [qe6 (by rw [hpl];decide) (by rw [hpl];decide) (qdp a b 32)];refine congrArg (fun z=>leB z 32) (qnn ?_);rw [qkv ha hb,Nat.mul_comm,Nat.add_mul_mod_self_left]
  rw [e];(conv=>whnf);exact Ret.m () [] [1] trivial rfl ⟨mok (lbl _ _) _,trivial⟩ kk ⟨rfl,rfl⟩
end
section
theorem qn1 : ∀ (d : List Nat) (i x : Nat),i < d.length → dv (d.set i (ng d i + x)) = dv d + 256 ^ i * x
  | [],i,x,h=>absurd h (by simp)
  | a :: r,0,x,_=>by
    show (a + x) + 256 * dv r = a + 256 * dv r + 256 ^ 0 * x;rw [Nat.pow_zero];omega
  | a :: r,i + 1,x,h=>by
    have e : ng (a :: r) (i + 1) = ng r i:=rfl;show a + 256 * dv (r.set i (ng (a :: r) (i + 1) + x)) = a + 256 * dv r + 256 ^ (i + 1) * x;rw [e,qn1 r i x (by simpa using h),Nat.mul_add,Nat.pow_succ,Nat.mul_comm (256 ^ i) 256,Nat.mul_assoc 256];omega
theorem qqk {d : List Nat} {i j x : Nat} (h : i < d.length) : ng (d.set i x) j = if j = i then x else ng d j:=by
  unfold ng;rw [List.getElem?_set]
  by_cases e : i = j
  · subst e;rw [if_pos rfl,if_pos h,if_pos rfl];rfl
  · rw [if_neg e,if_neg (fun e'=>e e'.symm)]
theorem qq7 {M N : Nat} {d : List Nat} {i x : Nat} (hi : i < d.length) (h : bd M d) (hx : M + x ≤ N) : bd N (d.set i (ng d i + x)):=by
  intro j;rw [qqk hi];have:=h i;have:=h j
  split <;> omega
theorem q7l {a : List UInt8} {i : Nat} (h : i < a.length) : le (a.take (i + 1)) = le (a.take i) + 256 ^ i * gd a i:=by
  rw [List.take_succ_eq_append_getElem h,q4u,List.length_take,Nat.min_eq_left (by omega),gd_eq h];show _ + 256 ^ i * (a[i].toNat + 256 * 0) = _;rw [Nat.mul_zero,Nat.add_zero]
structure mulI (a b : List UInt8) (i k : Nat) (d : List Nat) : Prop where
  len : d.length = 64
  val : dv d = le (a.take i) * le b + gd a i * 256 ^ i * le (b.take k)
  bnd : bd (65025 * (32 * i + k)) d
theorem qij (a b : List UInt8) : mulI a b 0 0 (List.replicate 64 0) :=
  ⟨List.length_replicate,by rw [qay];simp [le],fun i=>by
    have : ng (List.replicate 64 0) i = 0:=by unfold ng;rw [List.getElem?_replicate];split <;> rfl
    omega⟩
theorem qkc {a b : List UInt8} (ha : a.length = 32) (hb : b.length = 32) {i k : Nat} (hi : i < 32) (hk : k < 32) {d : List Nat} (h : mulI a b i k d) : mulI a b i (k + 1) (d.set (i + k) (ng d (i + k) + gd a i * gd b k)):=by
  have hl:=h.len;have h1:=gd_lt a i;have h2:=gd_lt b k;have h3 : gd a i * gd b k ≤ 255 * 255:=Nat.mul_le_mul (by omega) (by omega);refine ⟨by rw [List.length_set,hl],?_,qq7 (by omega) h.bnd (by omega)⟩;rw [qn1 _ _ _ (by omega),h.val,q7l (by omega),Nat.mul_add (gd a i * 256 ^ i),Nat.pow_add,← Nat.add_assoc];congr 1;rw [Nat.mul_assoc (gd a i),← Nat.mul_assoc (256 ^ i) (256 ^ k),Nat.mul_left_comm (gd a i)]
theorem qmd {a b : List UInt8} (ha : a.length = 32) (hb : b.length = 32) {i : Nat} (hi : i < 32) {d : List Nat} (h : mulI a b i 32 d) : mulI a b (i + 1) 0 d:=by
  refine ⟨h.len,?_,q9e h.bnd (by omega)⟩;rw [h.val,q7l (a:=a) (i:=i) (by omega),show b.take 32 = b from List.take_of_length_le (by omega),Nat.add_mul,Nat.mul_comm (gd a i)]
  simp [le]
theorem qlj {a b : List UInt8} (ha : a.length = 32) {d : List Nat} (h : mulI a b 32 0 d) : dv d = le a * le b:=by
  rw [h.val,show a.take 32 = a from List.take_of_length_le (by omega)];simp [le]
def rmulS (a b : List UInt8) : List UInt8:=leB (fm (le a % Pm) (le b % Pm)) 32
theorem qir (a b : List UInt8) : (rmulS a b).length = 32:=lbl _ _
theorem qo1 {a b : List UInt8} (ha : a.length = 32) {d : List Nat} (h : mulI a b 32 0 d) : leB (le (carS d) % Pm) 32 = rmulS a b:=by
  unfold rmulS carS;rw [qe6 (by rw [h.len];decide) (by rw [h.len];decide) (q9e h.bnd (by decide)),qlj ha h];exact congrArg (fun z=>leB z 32) (qkf rfl)
end
section
theorem qi9 (A : HP) (a b : List UInt8) (ha : a.length = 32) (hb : b.length = 32) : Pu Tryz.prog 162 [.agg [.many 32 (u8s a)],.agg [.many 32 (u8s b)]] A (.agg [.many 32 (u8s (rmulS a b))]):=by
  refine Con.of' tt_ok Tryz.func162 rfl (by decide) [.agg [.many 32 (u8s a)],.agg [.many 32 (u8s b)]] [] [] rfl rfl trivial ⟨⟨mok ha _,trivial⟩,⟨mok hb _,trivial⟩,trivial⟩ rfl ?_;(conv=>whnf);intro b2;(conv=>whnf);intro b3;(conv=>whnf);intro b4;(conv=>whnf);refine ⟨by decide,?_⟩;intro b8;(conv=>whnf);have hz : (List.replicate 32 (Value.int .u8 0)).length = 32:=List.length_replicate;have hz2 : ∀ v ∈ (List.replicate 32 (Value.int .u8 0)),Value.oneCell' v = true:=fun v hv=>by rw [(List.mem_replicate.1 hv).2];rfl
  refine LoopOb.m (σ:=List Nat × Nat) (fun s=>[(2,.c (.ptr 2 0)),(3,.c (.ptr 3 0)),(4,.c (.ptr 4 0)),(5,.c (.rs (some (radr (b8,0))) 64 64)),(6,.c (.int .i64 s.2))]) (fun s=>⟨[(4,b4),(3,b3),(2,b2)],[(4,[.many 32 (List.replicate 32 (Value.int .u8 0))],23),(3,[.many 32 (u8s b)],23),(2,[.many 32 (u8s a)],23)],[RowI (some (radr (b8,0))) 64 s.1,A]⟩)
    (fun s=>s.2 ≤ 32 ∧ mulI a b s.2 0 s.1) (fun s=>32 - s.2) (List.replicate 64 0,0) ⟨Nat.zero_le _,qij a b⟩ ?_ ?_
  · refine Wk.own 8 64 64 1 ⟨_,_,rfl,⟨rfl,Nat.le_refl _⟩,⟨⟨by simp,fun v hv=>by rw [(List.mem_replicate.1 hv).2];rfl⟩,trivial⟩,?_⟩;exact Wk.m [4,3,2] [0,0] kk ⟨⟨kk,⟨hz,hz2⟩,trivial⟩,⟨kk,mok hb _,trivial⟩,⟨kk,mok ha _,trivial⟩,trivial⟩ ⟨rfl,rfl⟩
  rintro ⟨d,i⟩ ⟨hi,hd⟩;dsimp only at hi hd ⊢;(conv=>whnf);refine Cond.d (fun h=>?_) (fun h=>?_)
  · have hi' : i < 32:=by omega
    conv=>whnf
    refine LoopOb.m (σ:=List Nat × Nat) (fun s=>[(2,.c (.ptr 2 0)),(3,.c (.ptr 3 0)),(4,.c (.ptr 4 0)),(5,.c (.rs (some (radr (b8,0))) 64 64)),(6,.c (.int .i64 i)),(7,.c (.int .i64 s.2))]) (fun s=>⟨[(4,b4),(3,b3),(2,b2)],[(4,[.many 32 (List.replicate 32 (Value.int .u8 0))],23),(3,[.many 32 (u8s b)],23),(2,[.many 32 (u8s a)],23)],[RowI (some (radr (b8,0))) 64 s.1,A]⟩)
      (fun s=>s.2 ≤ 32 ∧ mulI a b i s.2 s.1) (fun s=>32 - s.2) (d,0) ⟨Nat.zero_le _,hd⟩ (Wk.m [4,3,2] [0,0] kk ⟨⟨kk,⟨hz,hz2⟩,trivial⟩,⟨kk,mok hb _,trivial⟩,⟨kk,mok ha _,trivial⟩,trivial⟩ ⟨rfl,rfl⟩) ?_
    rintro ⟨d,k⟩ ⟨hk,hd⟩;dsimp only at hk hd ⊢;(conv=>whnf);refine Cond.d (fun h2=>?_) (fun h2=>?_)
    · have hk' : k < 32:=by omega
      have hl:=hd.len;have hrl : Rd (RowI (some (radr (b8,0))) 64 d) (some (radr (b8,0))) (nis d):=Own.rd;have hB:=hd.bnd (i + k);have g1:=gd_lt a i;have g2:=gd_lt b k;have g3 : gd a i * gd b k ≤ 255 * 255:=Nat.mul_le_mul (by omega) (by omega);have hs:=qkc ha hb hi' hk' hd;(conv=>whnf);refine Draw.a (by kernel_rfl) tt_ok (Tv.of (List.range 22) .nil) 21 (by kernel_rfl) ?_;(conv=>whnf);refine Ar.i64 (by omega) ?_;(conv=>whnf);refine Ar.i64 (by omega) ?_;(conv=>whnf);refine ⟨by omega,PtrOb.at ?_⟩;conv=>whnf
      refine ldi (A:=RowI (some (radr (b8,0))) 64 d) (l:=d) (i + k) (by simp) hrl (by omega) rfl rfl (by show _ + ((i : Int) + k).toNat * 1 = _;omega) ?_;(conv=>whnf);refine ⟨by omega,?_⟩;(conv=>whnf);refine q0v i (by show (i : Int).toNat * 1 = i;omega) (by omega) ?_;(conv=>whnf);refine Ar.i64 (by omega) ?_;(conv=>whnf);refine ⟨by omega,?_⟩;(conv=>whnf);refine q0v k (by show (k : Int).toNat * 1 = k;omega) (by omega) ?_;(conv=>whnf);refine Ar.i64 (by omega) ?_;(conv=>whnf);rw [← Int.natCast_mul];refine Ar.i64 (by omega) ?_;conv=>whnf
      refine Ar.i64 (by omega) ?_;(conv=>whnf);refine ⟨by omega,PtrOb.at ?_⟩;(conv=>whnf);refine sti (p:=(b8,0)) (cap:=64) (e:=3) (l:=d) (i + k) (ng d (i + k) + gd a i * gd b k) (.refl _) rfl rfl (by show _ + ((i : Int) + k).toNat * 1 = _;omega) (by omega) (by omega) ?_;(conv=>whnf);refine Ar.i64 (by omega) ?_;(conv=>whnf);exact ⟨(_,k + 1),⟨by dsimp only;omega,hs⟩,by dsimp only;omega,Wk.m [4,3,2] [0,0] kk ⟨⟨kk,⟨hz,hz2⟩,trivial⟩,⟨kk,mok hb _,trivial⟩,⟨kk,mok ha _,trivial⟩,trivial⟩ ⟨rfl,rfl⟩⟩
    obtain rfl : k = 32:=by omega
    have hr:=qmd ha hb hi' hd;(conv=>whnf);refine Ar.i64 (by omega) ?_;(conv=>whnf);exact ⟨(d,i + 1),⟨by dsimp only;omega,hr⟩,by dsimp only;omega,Wk.m [4,3,2] [0,0] kk ⟨⟨kk,⟨hz,hz2⟩,trivial⟩,⟨kk,mok hb _,trivial⟩,⟨kk,mok ha _,trivial⟩,trivial⟩ ⟨rfl,rfl⟩⟩
  obtain rfl : i = 32:=by omega
  have hl:=hd.len;(conv=>whnf);refine Cq.pu (q6m _ (RowI (some (radr (b8,0))) 64 d) (Ent.at 3 rfl) (some (radr (b8,0))) 64 d Own.rd (by omega) (by omega) (q9e hd.bnd (by decide))) (by rw [hl];rfl) ?_;(conv=>whnf);refine Cq.pu (q6i _ (carS d) q88) rfl ?_;rw [qo1 ha hd];(conv=>whnf);exact Ret.m () [] [1] trivial rfl ⟨mok (qir _ _) _,trivial⟩ kk ⟨rfl,rfl⟩
end
section
theorem q4m {x : Nat} (h : x < Pm) : le (leB x 32) % Pm = x:=by
  rw [qgp 32 x (by unfold Pm at h;exact Nat.lt_trans h (by decide)),Nat.mod_eq_of_lt h]
theorem qhx (v : Nat) : ∀ j,powL v j < Pm
  | 0=>by show 1 < Pm;unfold Pm;decide
  | j + 1=>by
    show (if _ then _ else _) < Pm
    split
    · exact Nat.mod_lt _ q2k
    · exact Nat.mod_lt _ q2k
def rinvS (a : List UInt8) : List UInt8:=leB (finv (le a % Pm)) 32
theorem qqj (A : HP) (a : List UInt8) (ha : a.length = 32) : Pu Tryz.prog 163 [.agg [.many 32 (u8s a)]] A (.agg [.many 32 (u8s (rinvS a))]):=by
  refine Con.of' tt_ok Tryz.func163 rfl (by decide) [.agg [.many 32 (u8s a)]] [] [] rfl rfl trivial ⟨⟨mok ha _,trivial⟩,trivial⟩ rfl ?_;(conv=>whnf);intro b1;(conv=>whnf);intro b2;(conv=>whnf);intro b3;(conv=>whnf);have hz : (List.replicate 32 (Value.int .u8 0)).length = 32:=List.length_replicate;have hz2 : ∀ v ∈ (List.replicate 32 (Value.int .u8 0)),Value.oneCell' v = true:=fun v hv=>by rw [(List.mem_replicate.1 hv).2];rfl
  have hv:=Nat.mod_lt (le a) q2k;unfold rinvS;rw [qb3 hv];generalize ev : le a % Pm = v at hv ⊢;refine ⟨by decide,?_⟩;(conv=>whnf);refine ⟨⟨rfl,by decide⟩,?_⟩;conv=>whnf
  have e0 : u8s (leB (powL v 0) 32) = Value.int .u8 1 :: List.replicate 31 (Value.int .u8 0):=by
    have : leB 1 32 = 1 :: List.replicate 31 0:=by decide +kernel
    show u8s (leB 1 32) = _;rw [this];rfl
  refine LoopOb.m (σ:=Nat) (fun j=>[(1,.c (.ptr 1 0)),(2,.c (.ptr 2 0)),(3,.c (.ptr 3 0)),(4,.c (.int .i64 ((254 : Int) - j)))]) (fun j=>⟨[(3,b3),(2,b2),(1,b1)],[(3,[.many 32 (u8s (leB (powL v j) 32))],23),(2,[.many 32 (List.replicate 32 (Value.int .u8 0))],23),(1,[.many 32 (u8s a)],23)],[A]⟩)
    (fun j=>j ≤ 255) (fun j=>255 - j) 0 (by omega) (Wk.m [3,2,1] [0] kk ⟨⟨kk,mok (lbl _ _) _,trivial⟩,⟨kk,⟨hz,hz2⟩,trivial⟩,⟨kk,mok ha _,trivial⟩,trivial⟩ ⟨by rw [e0];rfl,rfl⟩) ?_
  intro j hj;(conv=>whnf);refine Cond.d (fun h=>?_) (fun h=>?_)
  · have hj' : j < 255:=by omega
    have h1:=qhx v j;have es : powL v (j + 1) = if 254 - j = 2 ∨ 254 - j = 4 then fm (powL v j) (powL v j) else fm (fm (powL v j) (powL v j)) v:=rfl;have e2 : rmulS (leB (powL v j) 32) (leB (powL v j) 32) = leB (fm (powL v j) (powL v j)) 32:=by unfold rmulS;rw [q4m h1]
    have e3 : ∀ y,y < Pm → rmulS (leB y 32) a = leB (fm y v) 32:=fun y hy=>by unfold rmulS;rw [q4m hy,ev]
    have h2 : fm (powL v j) (powL v j) < Pm:=Nat.mod_lt _ q2k;generalize hp : powL v j = y at h1 es e2 h2 ⊢;(conv=>whnf);refine Cq.pu (qi9 _ (leB y 32) (leB y 32) (lbl _ _) (lbl _ _)) rfl ?_;rw [e2];(conv=>whnf);refine Cond.neI (fun h3=>?_) (fun h3=>?_)
    · (conv=>whnf);refine Cond.neI (fun h4=>?_) (fun h4=>?_)
      · rw [if_neg (by omega)] at es;(conv=>whnf);refine Cq.pu (qi9 _ (leB (fm y y) 32) a (lbl _ _) ha) rfl ?_;rw [e3 _ h2,← es];(conv=>whnf);refine Ar.i64 (by omega) ?_;(conv=>whnf);refine ⟨j + 1,by omega,by omega,Wk.m [3,2,1] [0] ⟨⟨rfl,kk⟩,⟨rfl,kk⟩,⟨rfl,kk⟩,⟨?_,kk⟩,trivial⟩ ⟨⟨kk,mok (lbl _ _) _,trivial⟩,⟨kk,⟨hz,hz2⟩,trivial⟩,⟨kk,mok ha _,trivial⟩,trivial⟩ ⟨rfl,rfl⟩⟩;show Value.int .i64 ((254 : Int) - j - 1) = Value.int .i64 ((254 : Int) - (j + 1 : Nat));congr 1;omega
      · rw [if_pos (by omega)] at es;rw [← es];(conv=>whnf);refine Ar.i64 (by omega) ?_;(conv=>whnf);refine ⟨j + 1,by omega,by omega,Wk.m [3,2,1] [0] ⟨⟨rfl,kk⟩,⟨rfl,kk⟩,⟨rfl,kk⟩,⟨?_,kk⟩,trivial⟩ ⟨⟨kk,mok (lbl _ _) _,trivial⟩,⟨kk,⟨hz,hz2⟩,trivial⟩,⟨kk,mok ha _,trivial⟩,trivial⟩ ⟨rfl,rfl⟩⟩;show Value.int .i64 ((254 : Int) - j - 1) = Value.int .i64 ((254 : Int) - (j + 1 : Nat));congr 1;omega
    · rw [if_pos (by omega)] at es;rw [← es];(conv=>whnf);refine Ar.i64 (by omega) ?_;(conv=>whnf);refine ⟨j + 1,by omega,by omega,Wk.m [3,2,1] [0] ⟨⟨rfl,kk⟩,⟨rfl,kk⟩,⟨rfl,kk⟩,⟨?_,kk⟩,trivial⟩ ⟨⟨kk,mok (lbl _ _) _,trivial⟩,⟨kk,⟨hz,hz2⟩,trivial⟩,⟨kk,mok ha _,trivial⟩,trivial⟩ ⟨rfl,rfl⟩⟩;show Value.int .i64 ((254 : Int) - j - 1) = Value.int .i64 ((254 : Int) - (j + 1 : Nat));congr 1;omega
  obtain rfl : j = 255:=by omega
  (conv=>whnf);exact Ret.m () [] [0] trivial rfl ⟨mok (lbl _ _) _,trivial⟩ kk ⟨rfl,rfl⟩
end
section
theorem fa_lt (x y : Nat) : fa x y < Pm:=Nat.mod_lt _ q2k
theorem fs_lt (x y : Nat) : fs x y < Pm:=Nat.mod_lt _ q2k
theorem fm_lt (x y : Nat) : fm x y < Pm:=Nat.mod_lt _ q2k
theorem qpz : 121665 < Pm:=by unfold Pm;decide
abbrev Pok (p : Pt) : Prop:=p.x < Pm ∧ p.z < Pm
theorem sm_ok (x : Nat) (p q : Pt) : Pok (sm x p q):=⟨fm_lt _ _,fm_lt _ _⟩
theorem qn9 (p : Pt) : Pok (dbl p):=⟨fm_lt _ _,fm_lt _ _⟩
theorem q2b (A : HP) {x y : Nat} (hx : x < Pm) (hy : y < Pm) : Pu Tryz.prog 182 [.agg [.many 32 (u8s (leB x 32))],.agg [.many 32 (u8s (leB y 32))]] A (.agg [.many 32 (u8s (leB (fa x y) 32))]):=by
  have:=qqc A (leB x 32) (leB y 32) (lbl _ _) (lbl _ _);unfold raddS at this
  rwa [q4m hx,q4m hy] at this
theorem q0r (A : HP) {x y : Nat} (hx : x < Pm) (hy : y < Pm) : Pu Tryz.prog 183 [.agg [.many 32 (u8s (leB x 32))],.agg [.many 32 (u8s (leB y 32))]] A (.agg [.many 32 (u8s (leB (fs x y) 32))]):=by
  have:=qq9 A (leB x 32) (leB y 32) (lbl _ _) (lbl _ _);unfold rsubS at this
  rwa [q4m hx,q4m hy] at this
theorem q0z (A : HP) {x y : Nat} (hx : x < Pm) (hy : y < Pm) : Pu Tryz.prog 162 [.agg [.many 32 (u8s (leB x 32))],.agg [.many 32 (u8s (leB y 32))]] A (.agg [.many 32 (u8s (leB (fm x y) 32))]):=by
  have:=qi9 A (leB x 32) (leB y 32) (lbl _ _) (lbl _ _);unfold rmulS at this
  rwa [q4m hx,q4m hy] at this
theorem qmu (A : HP) (p q : Pt) (x : Nat) (hp : Pok p) (hq : Pok q) (hx : x < Pm) : Pu Tryz.prog 160 [.agg [.many 32 (u8s (leB (p.x) 32)),.many 32 (u8s (leB (p.z) 32))],.agg [.many 32 (u8s (leB (q.x) 32)),.many 32 (u8s (leB (q.z) 32))],.agg [.many 32 (u8s (leB (x) 32))]] A (.agg [.many 32 (u8s (leB ((sm x p q).x) 32)),.many 32 (u8s (leB ((sm x p q).z) 32))]):=by
  have hz : (List.replicate 32 (Value.int .u8 0)).length = 32:=List.length_replicate;have hz2 : ∀ v ∈ (List.replicate 32 (Value.int .u8 0)),Value.oneCell' v = true:=fun v hv=>by rw [(List.mem_replicate.1 hv).2];rfl
  refine Con.of' tt_ok Tryz.func160 rfl (by decide) [.agg [.many 32 (u8s (leB (p.x) 32)),.many 32 (u8s (leB (p.z) 32))],.agg [.many 32 (u8s (leB (q.x) 32)),.many 32 (u8s (leB (q.z) 32))],.agg [.many 32 (u8s (leB (x) 32))]] [] [] rfl rfl trivial ⟨⟨mok (lbl _ _) _,mok (lbl _ _) _,trivial⟩,⟨mok (lbl _ _) _,mok (lbl _ _) _,trivial⟩,⟨mok (lbl _ _) _,trivial⟩,trivial⟩ rfl ?_;(conv=>whnf);intro b3;(conv=>whnf);intro b4;(conv=>whnf);intro b5;(conv=>whnf);intro b6;conv=>whnf
  refine Draw.cut (σ:=Nat × Nat) (fun s=>[(4,.c (.ptr 4 0)),(5,.c (.ptr 5 0)),(6,.c (.ptr 6 0)),(7,.c (.ptr 7 0)),(8,.c (.ptr 8 0))]) (fun s=>⟨[(8,s.2),(7,s.1),(6,b6),(5,b5),(4,b4)],[(8,[.many 32 (u8s (leB (fs p.x p.z) 32))],23),(7,[.many 32 (u8s (leB (fa p.x p.z) 32))],23),(6,[.many 32 (List.replicate 32 (Value.int .u8 0)),.many 32 (List.replicate 32 (Value.int .u8 0))],236),(5,[.many 32 (u8s (leB (x) 32))],23),(4,[.many 32 (u8s (leB (q.x) 32)),.many 32 (u8s (leB (q.z) 32))],236)],[A]⟩) (fun s=>True) ?_ ?_
  · refine Draw.a (by kernel_rfl) tt_ok (Tv.of [0,1,2,3,5,6,7,8] (.tre 4 (.tre 9 (.two 10 (.one 11 (Tv.of [12,13] .nil)) 11 (.one 10 (Tv.of [12,13] .nil))) 10 (.two 9 (.one 11 (Tv.of [12,13] .nil)) 11 (.one 9 (Tv.of [12,13] .nil))) 11 (.two 9 (.one 10 (Tv.of [12,13] .nil)) 10 (.one 9 (Tv.of [12,13] .nil)))) 10 (.two 4 (.two 9 (.one 11 (Tv.of [12,13] .nil)) 11 (.one 9 (Tv.of [12,13] .nil))) 11 (.one 4 (.one 9 (Tv.of [12,13] .nil)))) 11 (.two 4 (.two 9 (.one 10 (Tv.of [12,13] .nil)) 10 (.one 9 (Tv.of [12,13] .nil))) 10 (.one 4 (.one 9 (Tv.of [12,13] .nil)))))) 1000000 (by kernel_rfl) ?_
    (conv=>whnf);refine ⟨?_,?_,?_⟩
    · (conv=>whnf);refine Cq.pu (q2b _ hp.1 hp.2) rfl ?_;(conv=>whnf);refine Sub.r [6,5,4,3] [0] ?_;(conv=>whnf);refine ⟨?_,?_,?_⟩
      · (conv=>whnf);refine Cq.pu (q0r _ hp.1 hp.2) rfl ?_;(conv=>whnf);refine Sub.r [6,5,4,3] [0] ?_;(conv=>whnf);refine ⟨?_,?_⟩
        · (conv=>whnf);intro b7;refine Sub.r [6,5,4,3] [0] ?_;(conv=>whnf);intro b8;refine Sub.r [6,5,4,3] [0] ?_;(conv=>whnf);refine Sub.r [6,5,4,3] [0] ?_;(conv=>whnf);refine Sub.r [6,5,4,3] [0] ?_;(conv=>whnf);exact ⟨(b7,b8),trivial,Wk.m [8,7,6,5,4] [0] kk ⟨⟨kk,mok (lbl _ _) _,trivial⟩,⟨kk,mok (lbl _ _) _,trivial⟩,⟨kk,⟨hz,hz2⟩,⟨hz,hz2⟩,trivial⟩,⟨kk,mok (lbl _ _) _,trivial⟩,⟨kk,mok (lbl _ _) _,mok (lbl _ _) _,trivial⟩,trivial⟩ ⟨rfl,rfl⟩⟩
        · (conv=>whnf);intro b8;refine Sub.r [6,5,4,3] [0] ?_;(conv=>whnf);intro b7;refine Sub.r [6,5,4,3] [0] ?_;(conv=>whnf);refine Sub.r [6,5,4,3] [0] ?_;(conv=>whnf);refine Sub.r [6,5,4,3] [0] ?_;(conv=>whnf);exact ⟨(b7,b8),trivial,Wk.m [8,7,6,5,4] [0] kk ⟨⟨kk,mok (lbl _ _) _,trivial⟩,⟨kk,mok (lbl _ _) _,trivial⟩,⟨kk,⟨hz,hz2⟩,⟨hz,hz2⟩,trivial⟩,⟨kk,mok (lbl _ _) _,trivial⟩,⟨kk,mok (lbl _ _) _,mok (lbl _ _) _,trivial⟩,trivial⟩ ⟨rfl,rfl⟩⟩
      · (conv=>whnf);intro b7;refine Sub.r [6,5,4,3] [0] ?_;(conv=>whnf);refine ⟨?_,?_⟩
        · (conv=>whnf);refine Cq.pu (q0r _ hp.1 hp.2) rfl ?_;(conv=>whnf);refine Sub.r [6,5,4,3] [0] ?_;(conv=>whnf);intro b8;refine Sub.r [6,5,4,3] [0] ?_;(conv=>whnf);refine Sub.r [6,5,4,3] [0] ?_;(conv=>whnf);refine Sub.r [6,5,4,3] [0] ?_;(conv=>whnf);exact ⟨(b7,b8),trivial,Wk.m [8,7,6,5,4] [0] kk ⟨⟨kk,mok (lbl _ _) _,trivial⟩,⟨kk,mok (lbl _ _) _,trivial⟩,⟨kk,⟨hz,hz2⟩,⟨hz,hz2⟩,trivial⟩,⟨kk,mok (lbl _ _) _,trivial⟩,⟨kk,mok (lbl _ _) _,mok (lbl _ _) _,trivial⟩,trivial⟩ ⟨rfl,rfl⟩⟩
        · (conv=>whnf);intro b8;refine Sub.r [6,5,4,3] [0] ?_;(conv=>whnf);refine Cq.pu (q0r _ hp.1 hp.2) rfl ?_;(conv=>whnf);refine Sub.r [6,5,4,3] [0] ?_;(conv=>whnf);refine Sub.r [6,5,4,3] [0] ?_;(conv=>whnf);refine Sub.r [6,5,4,3] [0] ?_;(conv=>whnf);exact ⟨(b7,b8),trivial,Wk.m [8,7,6,5,4] [0] kk ⟨⟨kk,mok (lbl _ _) _,trivial⟩,⟨kk,mok (lbl _ _) _,trivial⟩,⟨kk,⟨hz,hz2⟩,⟨hz,hz2⟩,trivial⟩,⟨kk,mok (lbl _ _) _,trivial⟩,⟨kk,mok (lbl _ _) _,mok (lbl _ _) _,trivial⟩,trivial⟩ ⟨rfl,rfl⟩⟩
      · (conv=>whnf);intro b8;refine Sub.r [6,5,4,3] [0] ?_;(conv=>whnf);refine ⟨?_,?_⟩
        · (conv=>whnf);refine Cq.pu (q0r _ hp.1 hp.2) rfl ?_;(conv=>whnf);refine Sub.r [6,5,4,3] [0] ?_;(conv=>whnf);intro b7;refine Sub.r [6,5,4,3] [0] ?_;(conv=>whnf);refine Sub.r [6,5,4,3] [0] ?_;(conv=>whnf);refine Sub.r [6,5,4,3] [0] ?_;(conv=>whnf);exact ⟨(b7,b8),trivial,Wk.m [8,7,6,5,4] [0] kk ⟨⟨kk,mok (lbl _ _) _,trivial⟩,⟨kk,mok (lbl _ _) _,trivial⟩,⟨kk,⟨hz,hz2⟩,⟨hz,hz2⟩,trivial⟩,⟨kk,mok (lbl _ _) _,trivial⟩,⟨kk,mok (lbl _ _) _,mok (lbl _ _) _,trivial⟩,trivial⟩ ⟨rfl,rfl⟩⟩
        · (conv=>whnf);intro b7;refine Sub.r [6,5,4,3] [0] ?_;(conv=>whnf);refine Cq.pu (q0r _ hp.1 hp.2) rfl ?_;(conv=>whnf);refine Sub.r [6,5,4,3] [0] ?_;(conv=>whnf);refine Sub.r [6,5,4,3] [0] ?_;(conv=>whnf);refine Sub.r [6,5,4,3] [0] ?_;(conv=>whnf);exact ⟨(b7,b8),trivial,Wk.m [8,7,6,5,4] [0] kk ⟨⟨kk,mok (lbl _ _) _,trivial⟩,⟨kk,mok (lbl _ _) _,trivial⟩,⟨kk,⟨hz,hz2⟩,⟨hz,hz2⟩,trivial⟩,⟨kk,mok (lbl _ _) _,trivial⟩,⟨kk,mok (lbl _ _) _,mok (lbl _ _) _,trivial⟩,trivial⟩ ⟨rfl,rfl⟩⟩
    · (conv=>whnf);intro b7;refine Sub.r [6,5,4,3] [0] ?_;(conv=>whnf);refine ⟨?_,?_⟩
      · (conv=>whnf);refine Cq.pu (q2b _ hp.1 hp.2) rfl ?_;(conv=>whnf);refine Sub.r [6,5,4,3] [0] ?_;(conv=>whnf);refine ⟨?_,?_⟩
        · (conv=>whnf);refine Cq.pu (q0r _ hp.1 hp.2) rfl ?_;(conv=>whnf);refine Sub.r [6,5,4,3] [0] ?_;(conv=>whnf);intro b8;refine Sub.r [6,5,4,3] [0] ?_;(conv=>whnf);refine Sub.r [6,5,4,3] [0] ?_;(conv=>whnf);refine Sub.r [6,5,4,3] [0] ?_;(conv=>whnf);exact ⟨(b7,b8),trivial,Wk.m [8,7,6,5,4] [0] kk ⟨⟨kk,mok (lbl _ _) _,trivial⟩,⟨kk,mok (lbl _ _) _,trivial⟩,⟨kk,⟨hz,hz2⟩,⟨hz,hz2⟩,trivial⟩,⟨kk,mok (lbl _ _) _,trivial⟩,⟨kk,mok (lbl _ _) _,mok (lbl _ _) _,trivial⟩,trivial⟩ ⟨rfl,rfl⟩⟩
        · (conv=>whnf);intro b8;refine Sub.r [6,5,4,3] [0] ?_;(conv=>whnf);refine Cq.pu (q0r _ hp.1 hp.2) rfl ?_;(conv=>whnf);refine Sub.r [6,5,4,3] [0] ?_;(conv=>whnf);refine Sub.r [6,5,4,3] [0] ?_;(conv=>whnf);refine Sub.r [6,5,4,3] [0] ?_;(conv=>whnf);exact ⟨(b7,b8),trivial,Wk.m [8,7,6,5,4] [0] kk ⟨⟨kk,mok (lbl _ _) _,trivial⟩,⟨kk,mok (lbl _ _) _,trivial⟩,⟨kk,⟨hz,hz2⟩,⟨hz,hz2⟩,trivial⟩,⟨kk,mok (lbl _ _) _,trivial⟩,⟨kk,mok (lbl _ _) _,mok (lbl _ _) _,trivial⟩,trivial⟩ ⟨rfl,rfl⟩⟩
      · (conv=>whnf);intro b8;refine Sub.r [6,5,4,3] [0] ?_;(conv=>whnf);refine Cq.pu (q2b _ hp.1 hp.2) rfl ?_;(conv=>whnf);refine Sub.r [6,5,4,3] [0] ?_;(conv=>whnf);refine Cq.pu (q0r _ hp.1 hp.2) rfl ?_;(conv=>whnf);refine Sub.r [6,5,4,3] [0] ?_;(conv=>whnf);refine Sub.r [6,5,4,3] [0] ?_;(conv=>whnf);refine Sub.r [6,5,4,3] [0] ?_;conv=>whnf
        exact ⟨(b7,b8),trivial,Wk.m [8,7,6,5,4] [0] kk ⟨⟨kk,mok (lbl _ _) _,trivial⟩,⟨kk,mok (lbl _ _) _,trivial⟩,⟨kk,⟨hz,hz2⟩,⟨hz,hz2⟩,trivial⟩,⟨kk,mok (lbl _ _) _,trivial⟩,⟨kk,mok (lbl _ _) _,mok (lbl _ _) _,trivial⟩,trivial⟩ ⟨rfl,rfl⟩⟩
    · (conv=>whnf);intro b8;refine Sub.r [6,5,4,3] [0] ?_;(conv=>whnf);refine ⟨?_,?_⟩
      · (conv=>whnf);refine Cq.pu (q2b _ hp.1 hp.2) rfl ?_;(conv=>whnf);refine Sub.r [6,5,4,3] [0] ?_;(conv=>whnf);refine ⟨?_,?_⟩
        · (conv=>whnf);refine Cq.pu (q0r _ hp.1 hp.2) rfl ?_;(conv=>whnf);refine Sub.r [6,5,4,3] [0] ?_;(conv=>whnf);intro b7;refine Sub.r [6,5,4,3] [0] ?_;(conv=>whnf);refine Sub.r [6,5,4,3] [0] ?_;(conv=>whnf);refine Sub.r [6,5,4,3] [0] ?_;(conv=>whnf);exact ⟨(b7,b8),trivial,Wk.m [8,7,6,5,4] [0] kk ⟨⟨kk,mok (lbl _ _) _,trivial⟩,⟨kk,mok (lbl _ _) _,trivial⟩,⟨kk,⟨hz,hz2⟩,⟨hz,hz2⟩,trivial⟩,⟨kk,mok (lbl _ _) _,trivial⟩,⟨kk,mok (lbl _ _) _,mok (lbl _ _) _,trivial⟩,trivial⟩ ⟨rfl,rfl⟩⟩
        · (conv=>whnf);intro b7;refine Sub.r [6,5,4,3] [0] ?_;(conv=>whnf);refine Cq.pu (q0r _ hp.1 hp.2) rfl ?_;(conv=>whnf);refine Sub.r [6,5,4,3] [0] ?_;(conv=>whnf);refine Sub.r [6,5,4,3] [0] ?_;(conv=>whnf);refine Sub.r [6,5,4,3] [0] ?_;(conv=>whnf);exact ⟨(b7,b8),trivial,Wk.m [8,7,6,5,4] [0] kk ⟨⟨kk,mok (lbl _ _) _,trivial⟩,⟨kk,mok (lbl _ _) _,trivial⟩,⟨kk,⟨hz,hz2⟩,⟨hz,hz2⟩,trivial⟩,⟨kk,mok (lbl _ _) _,trivial⟩,⟨kk,mok (lbl _ _) _,mok (lbl _ _) _,trivial⟩,trivial⟩ ⟨rfl,rfl⟩⟩
      · (conv=>whnf);intro b7;refine Sub.r [6,5,4,3] [0] ?_;(conv=>whnf);refine Cq.pu (q2b _ hp.1 hp.2) rfl ?_;(conv=>whnf);refine Sub.r [6,5,4,3] [0] ?_;(conv=>whnf);refine Cq.pu (q0r _ hp.1 hp.2) rfl ?_;(conv=>whnf);refine Sub.r [6,5,4,3] [0] ?_;(conv=>whnf);refine Sub.r [6,5,4,3] [0] ?_;(conv=>whnf);refine Sub.r [6,5,4,3] [0] ?_;conv=>whnf
        exact ⟨(b7,b8),trivial,Wk.m [8,7,6,5,4] [0] kk ⟨⟨kk,mok (lbl _ _) _,trivial⟩,⟨kk,mok (lbl _ _) _,trivial⟩,⟨kk,⟨hz,hz2⟩,⟨hz,hz2⟩,trivial⟩,⟨kk,mok (lbl _ _) _,trivial⟩,⟨kk,mok (lbl _ _) _,mok (lbl _ _) _,trivial⟩,trivial⟩ ⟨rfl,rfl⟩⟩
  rintro ⟨b7,b8⟩ -;dsimp only;conv=>whnf
  refine Draw.cut (σ:=Nat × Nat) (fun s=>[(5,.c (.ptr 5 0)),(6,.c (.ptr 6 0)),(7,.c (.ptr 7 0)),(8,.c (.ptr 8 0)),(9,.c (.ptr 9 0)),(10,.c (.ptr 10 0))]) (fun s=>⟨[(10,s.2),(9,s.1),(8,b8),(7,b7),(6,b6),(5,b5)],[(10,[.many 32 (u8s (leB (fs q.x q.z) 32))],23),(9,[.many 32 (u8s (leB (fa q.x q.z) 32))],23),(8,[.many 32 (u8s (leB (fs p.x p.z) 32))],23),(7,[.many 32 (u8s (leB (fa p.x p.z) 32))],23),(6,[.many 32 (List.replicate 32 (Value.int .u8 0)),.many 32 (List.replicate 32 (Value.int .u8 0))],236),(5,[.many 32 (u8s (leB (x) 32))],23)],[A]⟩) (fun s=>True) ?_ ?_
  · refine Draw.a (by kernel_rfl) tt_ok (Tv.of [0,1,2,3,5,6,7,8] (.tre 4 (.tre 9 (.two 10 (.one 11 (Tv.of [12,13] .nil)) 11 (.one 10 (Tv.of [12,13] .nil))) 10 (.two 9 (.one 11 (Tv.of [12,13] .nil)) 11 (.one 9 (Tv.of [12,13] .nil))) 11 (.two 9 (.one 10 (Tv.of [12,13] .nil)) 10 (.one 9 (Tv.of [12,13] .nil)))) 10 (.two 4 (.two 9 (.one 11 (Tv.of [12,13] .nil)) 11 (.one 9 (Tv.of [12,13] .nil))) 11 (.one 4 (.one 9 (Tv.of [12,13] .nil)))) 11 (.two 4 (.two 9 (.one 10 (Tv.of [12,13] .nil)) 10 (.one 9 (Tv.of [12,13] .nil))) 10 (.one 4 (.one 9 (Tv.of [12,13] .nil)))))) 1000000 (by kernel_rfl) ?_
    (conv=>whnf);refine ⟨?_,?_,?_⟩
    · (conv=>whnf);refine Cq.pu (q2b _ hq.1 hq.2) rfl ?_;(conv=>whnf);refine Sub.r [8,7,6,5,4] [0] ?_;(conv=>whnf);refine ⟨?_,?_,?_⟩
      · (conv=>whnf);refine Cq.pu (q0r _ hq.1 hq.2) rfl ?_;(conv=>whnf);refine Sub.r [8,7,6,5,4] [0] ?_;(conv=>whnf);refine ⟨?_,?_⟩
        · (conv=>whnf);intro b9;refine Sub.r [8,7,6,5,4] [0] ?_;(conv=>whnf);intro b10;refine Sub.r [8,7,6,5,4] [0] ?_;(conv=>whnf);refine Sub.r [8,7,6,5,4] [0] ?_;(conv=>whnf);refine Sub.r [8,7,6,5,4] [0] ?_;(conv=>whnf);exact ⟨(b9,b10),trivial,Wk.m [10,9,8,7,6,5] [0] kk ⟨⟨kk,mok (lbl _ _) _,trivial⟩,⟨kk,mok (lbl _ _) _,trivial⟩,⟨kk,mok (lbl _ _) _,trivial⟩,⟨kk,mok (lbl _ _) _,trivial⟩,⟨kk,⟨hz,hz2⟩,⟨hz,hz2⟩,trivial⟩,⟨kk,mok (lbl _ _) _,trivial⟩,trivial⟩ ⟨rfl,rfl⟩⟩
        · (conv=>whnf);intro b10;refine Sub.r [8,7,6,5,4] [0] ?_;(conv=>whnf);intro b9;refine Sub.r [8,7,6,5,4] [0] ?_;(conv=>whnf);refine Sub.r [8,7,6,5,4] [0] ?_;(conv=>whnf);refine Sub.r [8,7,6,5,4] [0] ?_;(conv=>whnf);exact ⟨(b9,b10),trivial,Wk.m [10,9,8,7,6,5] [0] kk ⟨⟨kk,mok (lbl _ _) _,trivial⟩,⟨kk,mok (lbl _ _) _,trivial⟩,⟨kk,mok (lbl _ _) _,trivial⟩,⟨kk,mok (lbl _ _) _,trivial⟩,⟨kk,⟨hz,hz2⟩,⟨hz,hz2⟩,trivial⟩,⟨kk,mok (lbl _ _) _,trivial⟩,trivial⟩ ⟨rfl,rfl⟩⟩
      · (conv=>whnf);intro b9;refine Sub.r [8,7,6,5,4] [0] ?_;(conv=>whnf);refine ⟨?_,?_⟩
        · (conv=>whnf);refine Cq.pu (q0r _ hq.1 hq.2) rfl ?_;(conv=>whnf);refine Sub.r [8,7,6,5,4] [0] ?_;(conv=>whnf);intro b10;refine Sub.r [8,7,6,5,4] [0] ?_;(conv=>whnf);refine Sub.r [8,7,6,5,4] [0] ?_;(conv=>whnf);refine Sub.r [8,7,6,5,4] [0] ?_;conv=>whnf
          exact ⟨(b9,b10),trivial,Wk.m [10,9,8,7,6,5] [0] kk ⟨⟨kk,mok (lbl _ _) _,trivial⟩,⟨kk,mok (lbl _ _) _,trivial⟩,⟨kk,mok (lbl _ _) _,trivial⟩,⟨kk,mok (lbl _ _) _,trivial⟩,⟨kk,⟨hz,hz2⟩,⟨hz,hz2⟩,trivial⟩,⟨kk,mok (lbl _ _) _,trivial⟩,trivial⟩ ⟨rfl,rfl⟩⟩
        · (conv=>whnf);intro b10;refine Sub.r [8,7,6,5,4] [0] ?_;(conv=>whnf);refine Cq.pu (q0r _ hq.1 hq.2) rfl ?_;(conv=>whnf);refine Sub.r [8,7,6,5,4] [0] ?_;(conv=>whnf);refine Sub.r [8,7,6,5,4] [0] ?_;(conv=>whnf);refine Sub.r [8,7,6,5,4] [0] ?_;conv=>whnf
          exact ⟨(b9,b10),trivial,Wk.m [10,9,8,7,6,5] [0] kk ⟨⟨kk,mok (lbl _ _) _,trivial⟩,⟨kk,mok (lbl _ _) _,trivial⟩,⟨kk,mok (lbl _ _) _,trivial⟩,⟨kk,mok (lbl _ _) _,trivial⟩,⟨kk,⟨hz,hz2⟩,⟨hz,hz2⟩,trivial⟩,⟨kk,mok (lbl _ _) _,trivial⟩,trivial⟩ ⟨rfl,rfl⟩⟩
      · (conv=>whnf);intro b10;refine Sub.r [8,7,6,5,4] [0] ?_;(conv=>whnf);refine ⟨?_,?_⟩
        · (conv=>whnf);refine Cq.pu (q0r _ hq.1 hq.2) rfl ?_;(conv=>whnf);refine Sub.r [8,7,6,5,4] [0] ?_;(conv=>whnf);intro b9;refine Sub.r [8,7,6,5,4] [0] ?_;(conv=>whnf);refine Sub.r [8,7,6,5,4] [0] ?_;(conv=>whnf);refine Sub.r [8,7,6,5,4] [0] ?_;conv=>whnf
          exact ⟨(b9,b10),trivial,Wk.m [10,9,8,7,6,5] [0] kk ⟨⟨kk,mok (lbl _ _) _,trivial⟩,⟨kk,mok (lbl _ _) _,trivial⟩,⟨kk,mok (lbl _ _) _,trivial⟩,⟨kk,mok (lbl _ _) _,trivial⟩,⟨kk,⟨hz,hz2⟩,⟨hz,hz2⟩,trivial⟩,⟨kk,mok (lbl _ _) _,trivial⟩,trivial⟩ ⟨rfl,rfl⟩⟩
        · (conv=>whnf);intro b9;refine Sub.r [8,7,6,5,4] [0] ?_;(conv=>whnf);refine Cq.pu (q0r _ hq.1 hq.2) rfl ?_;(conv=>whnf);refine Sub.r [8,7,6,5,4] [0] ?_;(conv=>whnf);refine Sub.r [8,7,6,5,4] [0] ?_;(conv=>whnf);refine Sub.r [8,7,6,5,4] [0] ?_;conv=>whnf
          exact ⟨(b9,b10),trivial,Wk.m [10,9,8,7,6,5] [0] kk ⟨⟨kk,mok (lbl _ _) _,trivial⟩,⟨kk,mok (lbl _ _) _,trivial⟩,⟨kk,mok (lbl _ _) _,trivial⟩,⟨kk,mok (lbl _ _) _,trivial⟩,⟨kk,⟨hz,hz2⟩,⟨hz,hz2⟩,trivial⟩,⟨kk,mok (lbl _ _) _,trivial⟩,trivial⟩ ⟨rfl,rfl⟩⟩
    · (conv=>whnf);intro b9;refine Sub.r [8,7,6,5,4] [0] ?_;(conv=>whnf);refine ⟨?_,?_⟩
      · (conv=>whnf);refine Cq.pu (q2b _ hq.1 hq.2) rfl ?_;(conv=>whnf);refine Sub.r [8,7,6,5,4] [0] ?_;(conv=>whnf);refine ⟨?_,?_⟩
        · (conv=>whnf);refine Cq.pu (q0r _ hq.1 hq.2) rfl ?_;(conv=>whnf);refine Sub.r [8,7,6,5,4] [0] ?_;(conv=>whnf);intro b10;refine Sub.r [8,7,6,5,4] [0] ?_;(conv=>whnf);refine Sub.r [8,7,6,5,4] [0] ?_;(conv=>whnf);refine Sub.r [8,7,6,5,4] [0] ?_;conv=>whnf
          exact ⟨(b9,b10),trivial,Wk.m [10,9,8,7,6,5] [0] kk ⟨⟨kk,mok (lbl _ _) _,trivial⟩,⟨kk,mok (lbl _ _) _,trivial⟩,⟨kk,mok (lbl _ _) _,trivial⟩,⟨kk,mok (lbl _ _) _,trivial⟩,⟨kk,⟨hz,hz2⟩,⟨hz,hz2⟩,trivial⟩,⟨kk,mok (lbl _ _) _,trivial⟩,trivial⟩ ⟨rfl,rfl⟩⟩
        · (conv=>whnf);intro b10;refine Sub.r [8,7,6,5,4] [0] ?_;(conv=>whnf);refine Cq.pu (q0r _ hq.1 hq.2) rfl ?_;(conv=>whnf);refine Sub.r [8,7,6,5,4] [0] ?_;(conv=>whnf);refine Sub.r [8,7,6,5,4] [0] ?_;(conv=>whnf);refine Sub.r [8,7,6,5,4] [0] ?_;conv=>whnf
          exact ⟨(b9,b10),trivial,Wk.m [10,9,8,7,6,5] [0] kk ⟨⟨kk,mok (lbl _ _) _,trivial⟩,⟨kk,mok (lbl _ _) _,trivial⟩,⟨kk,mok (lbl _ _) _,trivial⟩,⟨kk,mok (lbl _ _) _,trivial⟩,⟨kk,⟨hz,hz2⟩,⟨hz,hz2⟩,trivial⟩,⟨kk,mok (lbl _ _) _,trivial⟩,trivial⟩ ⟨rfl,rfl⟩⟩
      · (conv=>whnf);intro b10;refine Sub.r [8,7,6,5,4] [0] ?_;(conv=>whnf);refine Cq.pu (q2b _ hq.1 hq.2) rfl ?_;(conv=>whnf);refine Sub.r [8,7,6,5,4] [0] ?_;(conv=>whnf);refine Cq.pu (q0r _ hq.1 hq.2) rfl ?_;(conv=>whnf);refine Sub.r [8,7,6,5,4] [0] ?_;(conv=>whnf);refine Sub.r [8,7,6,5,4] [0] ?_;(conv=>whnf);refine Sub.r [8,7,6,5,4] [0] ?_;conv=>whnf
        exact ⟨(b9,b10),trivial,Wk.m [10,9,8,7,6,5] [0] kk ⟨⟨kk,mok (lbl _ _) _,trivial⟩,⟨kk,mok (lbl _ _) _,trivial⟩,⟨kk,mok (lbl _ _) _,trivial⟩,⟨kk,mok (lbl _ _) _,trivial⟩,⟨kk,⟨hz,hz2⟩,⟨hz,hz2⟩,trivial⟩,⟨kk,mok (lbl _ _) _,trivial⟩,trivial⟩ ⟨rfl,rfl⟩⟩
    · (conv=>whnf);intro b10;refine Sub.r [8,7,6,5,4] [0] ?_;(conv=>whnf);refine ⟨?_,?_⟩
      · (conv=>whnf);refine Cq.pu (q2b _ hq.1 hq.2) rfl ?_;(conv=>whnf);refine Sub.r [8,7,6,5,4] [0] ?_;(conv=>whnf);refine ⟨?_,?_⟩
        · (conv=>whnf);refine Cq.pu (q0r _ hq.1 hq.2) rfl ?_;(conv=>whnf);refine Sub.r [8,7,6,5,4] [0] ?_;(conv=>whnf);intro b9;refine Sub.r [8,7,6,5,4] [0] ?_;(conv=>whnf);refine Sub.r [8,7,6,5,4] [0] ?_;(conv=>whnf);refine Sub.r [8,7,6,5,4] [0] ?_;conv=>whnf
          exact ⟨(b9,b10),trivial,Wk.m [10,9,8,7,6,5] [0] kk ⟨⟨kk,mok (lbl _ _) _,trivial⟩,⟨kk,mok (lbl _ _) _,trivial⟩,⟨kk,mok (lbl _ _) _,trivial⟩,⟨kk,mok (lbl _ _) _,trivial⟩,⟨kk,⟨hz,hz2⟩,⟨hz,hz2⟩,trivial⟩,⟨kk,mok (lbl _ _) _,trivial⟩,trivial⟩ ⟨rfl,rfl⟩⟩
        · (conv=>whnf);intro b9;refine Sub.r [8,7,6,5,4] [0] ?_;(conv=>whnf);refine Cq.pu (q0r _ hq.1 hq.2) rfl ?_;(conv=>whnf);refine Sub.r [8,7,6,5,4] [0] ?_;(conv=>whnf);refine Sub.r [8,7,6,5,4] [0] ?_;(conv=>whnf);refine Sub.r [8,7,6,5,4] [0] ?_;conv=>whnf
          exact ⟨(b9,b10),trivial,Wk.m [10,9,8,7,6,5] [0] kk ⟨⟨kk,mok (lbl _ _) _,trivial⟩,⟨kk,mok (lbl _ _) _,trivial⟩,⟨kk,mok (lbl _ _) _,trivial⟩,⟨kk,mok (lbl _ _) _,trivial⟩,⟨kk,⟨hz,hz2⟩,⟨hz,hz2⟩,trivial⟩,⟨kk,mok (lbl _ _) _,trivial⟩,trivial⟩ ⟨rfl,rfl⟩⟩
      · (conv=>whnf);intro b9;refine Sub.r [8,7,6,5,4] [0] ?_;(conv=>whnf);refine Cq.pu (q2b _ hq.1 hq.2) rfl ?_;(conv=>whnf);refine Sub.r [8,7,6,5,4] [0] ?_;(conv=>whnf);refine Cq.pu (q0r _ hq.1 hq.2) rfl ?_;(conv=>whnf);refine Sub.r [8,7,6,5,4] [0] ?_;(conv=>whnf);refine Sub.r [8,7,6,5,4] [0] ?_;(conv=>whnf);refine Sub.r [8,7,6,5,4] [0] ?_;conv=>whnf
        exact ⟨(b9,b10),trivial,Wk.m [10,9,8,7,6,5] [0] kk ⟨⟨kk,mok (lbl _ _) _,trivial⟩,⟨kk,mok (lbl _ _) _,trivial⟩,⟨kk,mok (lbl _ _) _,trivial⟩,⟨kk,mok (lbl _ _) _,trivial⟩,⟨kk,⟨hz,hz2⟩,⟨hz,hz2⟩,trivial⟩,⟨kk,mok (lbl _ _) _,trivial⟩,trivial⟩ ⟨rfl,rfl⟩⟩
  rintro ⟨b9,b10⟩ -;dsimp only;(conv=>whnf);refine Draw.cut (σ:=Nat × Nat) (fun s=>[(5,.c (.ptr 5 0)),(6,.c (.ptr 6 0)),(11,.c (.ptr 11 0)),(12,.c (.ptr 12 0))]) (fun s=>⟨[(12,s.2),(11,s.1),(6,b6),(5,b5)],[(12,[.many 32 (u8s (leB (fm (fa q.x q.z) (fs p.x p.z)) 32))],23),(11,[.many 32 (u8s (leB (fm (fs q.x q.z) (fa p.x p.z)) 32))],23),(6,[.many 32 (List.replicate 32 (Value.int .u8 0)),.many 32 (List.replicate 32 (Value.int .u8 0))],236),(5,[.many 32 (u8s (leB (x) 32))],23)],[A]⟩) (fun s=>True) ?_ ?_
  · refine Draw.a (by kernel_rfl) tt_ok (Tv.of [0,1,3,4] (.tre 2 (.tre 5 (.two 6 (.one 7 (Tv.of [8,9] .nil)) 7 (.one 6 (Tv.of [8,9] .nil))) 6 (.two 5 (.one 7 (Tv.of [8,9] .nil)) 7 (.one 5 (Tv.of [8,9] .nil))) 7 (.two 5 (.one 6 (Tv.of [8,9] .nil)) 6 (.one 5 (Tv.of [8,9] .nil)))) 6 (.two 2 (.two 5 (.one 7 (Tv.of [8,9] .nil)) 7 (.one 5 (Tv.of [8,9] .nil))) 7 (.one 2 (.one 5 (Tv.of [8,9] .nil)))) 7 (.two 2 (.two 5 (.one 6 (Tv.of [8,9] .nil)) 6 (.one 5 (Tv.of [8,9] .nil))) 6 (.one 2 (.one 5 (Tv.of [8,9] .nil)))))) 1000000 (by kernel_rfl) ?_;(conv=>whnf);refine ⟨?_,?_,?_⟩
    · (conv=>whnf);refine Cq.pu (q0z _ (fs_lt _ _) (fa_lt _ _)) rfl ?_;(conv=>whnf);refine Sub.r [10,9,8,7,6,5] [0] ?_;(conv=>whnf);refine ⟨?_,?_,?_⟩
      · (conv=>whnf);refine Cq.pu (q0z _ (fa_lt _ _) (fs_lt _ _)) rfl ?_;(conv=>whnf);refine Sub.r [10,9,8,7,6,5] [0] ?_;(conv=>whnf);refine ⟨?_,?_⟩
        · (conv=>whnf);intro b11;refine Sub.r [10,9,8,7,6,5] [0] ?_;(conv=>whnf);intro b12;refine Sub.r [10,9,8,7,6,5] [0] ?_;(conv=>whnf);refine Sub.r [10,9,8,7,6,5] [0] ?_;(conv=>whnf);refine Sub.r [10,9,8,7,6,5] [0] ?_;(conv=>whnf);exact ⟨(b11,b12),trivial,Wk.m [12,11,6,5] [0] kk ⟨⟨kk,mok (lbl _ _) _,trivial⟩,⟨kk,mok (lbl _ _) _,trivial⟩,⟨kk,⟨hz,hz2⟩,⟨hz,hz2⟩,trivial⟩,⟨kk,mok (lbl _ _) _,trivial⟩,trivial⟩ ⟨rfl,rfl⟩⟩
        · (conv=>whnf);intro b12;refine Sub.r [10,9,8,7,6,5] [0] ?_;(conv=>whnf);intro b11;refine Sub.r [10,9,8,7,6,5] [0] ?_;(conv=>whnf);refine Sub.r [10,9,8,7,6,5] [0] ?_;(conv=>whnf);refine Sub.r [10,9,8,7,6,5] [0] ?_;(conv=>whnf);exact ⟨(b11,b12),trivial,Wk.m [12,11,6,5] [0] kk ⟨⟨kk,mok (lbl _ _) _,trivial⟩,⟨kk,mok (lbl _ _) _,trivial⟩,⟨kk,⟨hz,hz2⟩,⟨hz,hz2⟩,trivial⟩,⟨kk,mok (lbl _ _) _,trivial⟩,trivial⟩ ⟨rfl,rfl⟩⟩
      · (conv=>whnf);intro b11;refine Sub.r [10,9,8,7,6,5] [0] ?_;(conv=>whnf);refine ⟨?_,?_⟩
        · (conv=>whnf);refine Cq.pu (q0z _ (fa_lt _ _) (fs_lt _ _)) rfl ?_;(conv=>whnf);refine Sub.r [10,9,8,7,6,5] [0] ?_;(conv=>whnf);intro b12;refine Sub.r [10,9,8,7,6,5] [0] ?_;(conv=>whnf);refine Sub.r [10,9,8,7,6,5] [0] ?_;(conv=>whnf);refine Sub.r [10,9,8,7,6,5] [0] ?_;(conv=>whnf);exact ⟨(b11,b12),trivial,Wk.m [12,11,6,5] [0] kk ⟨⟨kk,mok (lbl _ _) _,trivial⟩,⟨kk,mok (lbl _ _) _,trivial⟩,⟨kk,⟨hz,hz2⟩,⟨hz,hz2⟩,trivial⟩,⟨kk,mok (lbl _ _) _,trivial⟩,trivial⟩ ⟨rfl,rfl⟩⟩
        · (conv=>whnf);intro b12;refine Sub.r [10,9,8,7,6,5] [0] ?_;(conv=>whnf);refine Cq.pu (q0z _ (fa_lt _ _) (fs_lt _ _)) rfl ?_;(conv=>whnf);refine Sub.r [10,9,8,7,6,5] [0] ?_;(conv=>whnf);refine Sub.r [10,9,8,7,6,5] [0] ?_;(conv=>whnf);refine Sub.r [10,9,8,7,6,5] [0] ?_;(conv=>whnf);exact ⟨(b11,b12),trivial,Wk.m [12,11,6,5] [0] kk ⟨⟨kk,mok (lbl _ _) _,trivial⟩,⟨kk,mok (lbl _ _) _,trivial⟩,⟨kk,⟨hz,hz2⟩,⟨hz,hz2⟩,trivial⟩,⟨kk,mok (lbl _ _) _,trivial⟩,trivial⟩ ⟨rfl,rfl⟩⟩
      · (conv=>whnf);intro b12;refine Sub.r [10,9,8,7,6,5] [0] ?_;(conv=>whnf);refine ⟨?_,?_⟩
        · (conv=>whnf);refine Cq.pu (q0z _ (fa_lt _ _) (fs_lt _ _)) rfl ?_;(conv=>whnf);refine Sub.r [10,9,8,7,6,5] [0] ?_;(conv=>whnf);intro b11;refine Sub.r [10,9,8,7,6,5] [0] ?_;(conv=>whnf);refine Sub.r [10,9,8,7,6,5] [0] ?_;(conv=>whnf);refine Sub.r [10,9,8,7,6,5] [0] ?_;(conv=>whnf);exact ⟨(b11,b12),trivial,Wk.m [12,11,6,5] [0] kk ⟨⟨kk,mok (lbl _ _) _,trivial⟩,⟨kk,mok (lbl _ _) _,trivial⟩,⟨kk,⟨hz,hz2⟩,⟨hz,hz2⟩,trivial⟩,⟨kk,mok (lbl _ _) _,trivial⟩,trivial⟩ ⟨rfl,rfl⟩⟩
        · (conv=>whnf);intro b11;refine Sub.r [10,9,8,7,6,5] [0] ?_;(conv=>whnf);refine Cq.pu (q0z _ (fa_lt _ _) (fs_lt _ _)) rfl ?_;(conv=>whnf);refine Sub.r [10,9,8,7,6,5] [0] ?_;(conv=>whnf);refine Sub.r [10,9,8,7,6,5] [0] ?_;(conv=>whnf);refine Sub.r [10,9,8,7,6,5] [0] ?_;(conv=>whnf);exact ⟨(b11,b12),trivial,Wk.m [12,11,6,5] [0] kk ⟨⟨kk,mok (lbl _ _) _,trivial⟩,⟨kk,mok (lbl _ _) _,trivial⟩,⟨kk,⟨hz,hz2⟩,⟨hz,hz2⟩,trivial⟩,⟨kk,mok (lbl _ _) _,trivial⟩,trivial⟩ ⟨rfl,rfl⟩⟩
    · (conv=>whnf);intro b11;refine Sub.r [10,9,8,7,6,5] [0] ?_;(conv=>whnf);refine ⟨?_,?_⟩
      · (conv=>whnf);refine Cq.pu (q0z _ (fs_lt _ _) (fa_lt _ _)) rfl ?_;(conv=>whnf);refine Sub.r [10,9,8,7,6,5] [0] ?_;(conv=>whnf);refine ⟨?_,?_⟩
        · (conv=>whnf);refine Cq.pu (q0z _ (fa_lt _ _) (fs_lt _ _)) rfl ?_;(conv=>whnf);refine Sub.r [10,9,8,7,6,5] [0] ?_;(conv=>whnf);intro b12;refine Sub.r [10,9,8,7,6,5] [0] ?_;(conv=>whnf);refine Sub.r [10,9,8,7,6,5] [0] ?_;(conv=>whnf);refine Sub.r [10,9,8,7,6,5] [0] ?_;(conv=>whnf);exact ⟨(b11,b12),trivial,Wk.m [12,11,6,5] [0] kk ⟨⟨kk,mok (lbl _ _) _,trivial⟩,⟨kk,mok (lbl _ _) _,trivial⟩,⟨kk,⟨hz,hz2⟩,⟨hz,hz2⟩,trivial⟩,⟨kk,mok (lbl _ _) _,trivial⟩,trivial⟩ ⟨rfl,rfl⟩⟩
        · (conv=>whnf);intro b12;refine Sub.r [10,9,8,7,6,5] [0] ?_;(conv=>whnf);refine Cq.pu (q0z _ (fa_lt _ _) (fs_lt _ _)) rfl ?_;(conv=>whnf);refine Sub.r [10,9,8,7,6,5] [0] ?_;(conv=>whnf);refine Sub.r [10,9,8,7,6,5] [0] ?_;(conv=>whnf);refine Sub.r [10,9,8,7,6,5] [0] ?_;(conv=>whnf);exact ⟨(b11,b12),trivial,Wk.m [12,11,6,5] [0] kk ⟨⟨kk,mok (lbl _ _) _,trivial⟩,⟨kk,mok (lbl _ _) _,trivial⟩,⟨kk,⟨hz,hz2⟩,⟨hz,hz2⟩,trivial⟩,⟨kk,mok (lbl _ _) _,trivial⟩,trivial⟩ ⟨rfl,rfl⟩⟩
      · (conv=>whnf);intro b12;refine Sub.r [10,9,8,7,6,5] [0] ?_;(conv=>whnf);refine Cq.pu (q0z _ (fs_lt _ _) (fa_lt _ _)) rfl ?_;(conv=>whnf);refine Sub.r [10,9,8,7,6,5] [0] ?_;(conv=>whnf);refine Cq.pu (q0z _ (fa_lt _ _) (fs_lt _ _)) rfl ?_;(conv=>whnf);refine Sub.r [10,9,8,7,6,5] [0] ?_;(conv=>whnf);refine Sub.r [10,9,8,7,6,5] [0] ?_;(conv=>whnf);refine Sub.r [10,9,8,7,6,5] [0] ?_;conv=>whnf
        exact ⟨(b11,b12),trivial,Wk.m [12,11,6,5] [0] kk ⟨⟨kk,mok (lbl _ _) _,trivial⟩,⟨kk,mok (lbl _ _) _,trivial⟩,⟨kk,⟨hz,hz2⟩,⟨hz,hz2⟩,trivial⟩,⟨kk,mok (lbl _ _) _,trivial⟩,trivial⟩ ⟨rfl,rfl⟩⟩
    · (conv=>whnf);intro b12;refine Sub.r [10,9,8,7,6,5] [0] ?_;(conv=>whnf);refine ⟨?_,?_⟩
      · (conv=>whnf);refine Cq.pu (q0z _ (fs_lt _ _) (fa_lt _ _)) rfl ?_;(conv=>whnf);refine Sub.r [10,9,8,7,6,5] [0] ?_;(conv=>whnf);refine ⟨?_,?_⟩
        · (conv=>whnf);refine Cq.pu (q0z _ (fa_lt _ _) (fs_lt _ _)) rfl ?_;(conv=>whnf);refine Sub.r [10,9,8,7,6,5] [0] ?_;(conv=>whnf);intro b11;refine Sub.r [10,9,8,7,6,5] [0] ?_;(conv=>whnf);refine Sub.r [10,9,8,7,6,5] [0] ?_;(conv=>whnf);refine Sub.r [10,9,8,7,6,5] [0] ?_;(conv=>whnf);exact ⟨(b11,b12),trivial,Wk.m [12,11,6,5] [0] kk ⟨⟨kk,mok (lbl _ _) _,trivial⟩,⟨kk,mok (lbl _ _) _,trivial⟩,⟨kk,⟨hz,hz2⟩,⟨hz,hz2⟩,trivial⟩,⟨kk,mok (lbl _ _) _,trivial⟩,trivial⟩ ⟨rfl,rfl⟩⟩
        · (conv=>whnf);intro b11;refine Sub.r [10,9,8,7,6,5] [0] ?_;(conv=>whnf);refine Cq.pu (q0z _ (fa_lt _ _) (fs_lt _ _)) rfl ?_;(conv=>whnf);refine Sub.r [10,9,8,7,6,5] [0] ?_;(conv=>whnf);refine Sub.r [10,9,8,7,6,5] [0] ?_;(conv=>whnf);refine Sub.r [10,9,8,7,6,5] [0] ?_;(conv=>whnf);exact ⟨(b11,b12),trivial,Wk.m [12,11,6,5] [0] kk ⟨⟨kk,mok (lbl _ _) _,trivial⟩,⟨kk,mok (lbl _ _) _,trivial⟩,⟨kk,⟨hz,hz2⟩,⟨hz,hz2⟩,trivial⟩,⟨kk,mok (lbl _ _) _,trivial⟩,trivial⟩ ⟨rfl,rfl⟩⟩
      · (conv=>whnf);intro b11;refine Sub.r [10,9,8,7,6,5] [0] ?_;(conv=>whnf);refine Cq.pu (q0z _ (fs_lt _ _) (fa_lt _ _)) rfl ?_;(conv=>whnf);refine Sub.r [10,9,8,7,6,5] [0] ?_;(conv=>whnf);refine Cq.pu (q0z _ (fa_lt _ _) (fs_lt _ _)) rfl ?_;(conv=>whnf);refine Sub.r [10,9,8,7,6,5] [0] ?_;(conv=>whnf);refine Sub.r [10,9,8,7,6,5] [0] ?_;(conv=>whnf);refine Sub.r [10,9,8,7,6,5] [0] ?_;conv=>whnf
        exact ⟨(b11,b12),trivial,Wk.m [12,11,6,5] [0] kk ⟨⟨kk,mok (lbl _ _) _,trivial⟩,⟨kk,mok (lbl _ _) _,trivial⟩,⟨kk,⟨hz,hz2⟩,⟨hz,hz2⟩,trivial⟩,⟨kk,mok (lbl _ _) _,trivial⟩,trivial⟩ ⟨rfl,rfl⟩⟩
  rintro ⟨b11,b12⟩ -;dsimp only;conv=>whnf
  refine Draw.cut (σ:=Nat × Nat) (fun s=>[(5,.c (.ptr 5 0)),(6,.c (.ptr 6 0)),(13,.c (.ptr 13 0)),(14,.c (.ptr 14 0))]) (fun s=>⟨[(14,s.2),(13,s.1),(6,b6),(5,b5)],[(14,[.many 32 (u8s (leB (fs (fm (fs q.x q.z) (fa p.x p.z)) (fm (fa q.x q.z) (fs p.x p.z))) 32))],23),(13,[.many 32 (u8s (leB (fa (fm (fs q.x q.z) (fa p.x p.z)) (fm (fa q.x q.z) (fs p.x p.z))) 32))],23),(6,[.many 32 (List.replicate 32 (Value.int .u8 0)),.many 32 (List.replicate 32 (Value.int .u8 0))],236),(5,[.many 32 (u8s (leB (x) 32))],23)],[A]⟩) (fun s=>True) ?_ ?_
  · refine Draw.a (by kernel_rfl) tt_ok (Tv.of [0,1,3,4] (.tre 2 (.tre 5 (.two 6 (.one 7 (Tv.of [8,9] .nil)) 7 (.one 6 (Tv.of [8,9] .nil))) 6 (.two 5 (.one 7 (Tv.of [8,9] .nil)) 7 (.one 5 (Tv.of [8,9] .nil))) 7 (.two 5 (.one 6 (Tv.of [8,9] .nil)) 6 (.one 5 (Tv.of [8,9] .nil)))) 6 (.two 2 (.two 5 (.one 7 (Tv.of [8,9] .nil)) 7 (.one 5 (Tv.of [8,9] .nil))) 7 (.one 2 (.one 5 (Tv.of [8,9] .nil)))) 7 (.two 2 (.two 5 (.one 6 (Tv.of [8,9] .nil)) 6 (.one 5 (Tv.of [8,9] .nil))) 6 (.one 2 (.one 5 (Tv.of [8,9] .nil)))))) 1000000 (by kernel_rfl) ?_;(conv=>whnf);refine ⟨?_,?_,?_⟩
    · (conv=>whnf);refine Cq.pu (q2b _ (fm_lt _ _) (fm_lt _ _)) rfl ?_;(conv=>whnf);refine Sub.r [12,11,6,5] [0] ?_;(conv=>whnf);refine ⟨?_,?_,?_⟩
      · (conv=>whnf);refine Cq.pu (q0r _ (fm_lt _ _) (fm_lt _ _)) rfl ?_;(conv=>whnf);refine Sub.r [12,11,6,5] [0] ?_;(conv=>whnf);refine ⟨?_,?_⟩
        · (conv=>whnf);intro b13;refine Sub.r [12,11,6,5] [0] ?_;(conv=>whnf);intro b14;refine Sub.r [12,11,6,5] [0] ?_;(conv=>whnf);refine Sub.r [12,11,6,5] [0] ?_;(conv=>whnf);refine Sub.r [12,11,6,5] [0] ?_;(conv=>whnf);exact ⟨(b13,b14),trivial,Wk.m [14,13,6,5] [0] kk ⟨⟨kk,mok (lbl _ _) _,trivial⟩,⟨kk,mok (lbl _ _) _,trivial⟩,⟨kk,⟨hz,hz2⟩,⟨hz,hz2⟩,trivial⟩,⟨kk,mok (lbl _ _) _,trivial⟩,trivial⟩ ⟨rfl,rfl⟩⟩
        · (conv=>whnf);intro b14;refine Sub.r [12,11,6,5] [0] ?_;(conv=>whnf);intro b13;refine Sub.r [12,11,6,5] [0] ?_;(conv=>whnf);refine Sub.r [12,11,6,5] [0] ?_;(conv=>whnf);refine Sub.r [12,11,6,5] [0] ?_;(conv=>whnf);exact ⟨(b13,b14),trivial,Wk.m [14,13,6,5] [0] kk ⟨⟨kk,mok (lbl _ _) _,trivial⟩,⟨kk,mok (lbl _ _) _,trivial⟩,⟨kk,⟨hz,hz2⟩,⟨hz,hz2⟩,trivial⟩,⟨kk,mok (lbl _ _) _,trivial⟩,trivial⟩ ⟨rfl,rfl⟩⟩
      · (conv=>whnf);intro b13;refine Sub.r [12,11,6,5] [0] ?_;(conv=>whnf);refine ⟨?_,?_⟩
        · (conv=>whnf);refine Cq.pu (q0r _ (fm_lt _ _) (fm_lt _ _)) rfl ?_;(conv=>whnf);refine Sub.r [12,11,6,5] [0] ?_;(conv=>whnf);intro b14;refine Sub.r [12,11,6,5] [0] ?_;(conv=>whnf);refine Sub.r [12,11,6,5] [0] ?_;(conv=>whnf);refine Sub.r [12,11,6,5] [0] ?_;(conv=>whnf);exact ⟨(b13,b14),trivial,Wk.m [14,13,6,5] [0] kk ⟨⟨kk,mok (lbl _ _) _,trivial⟩,⟨kk,mok (lbl _ _) _,trivial⟩,⟨kk,⟨hz,hz2⟩,⟨hz,hz2⟩,trivial⟩,⟨kk,mok (lbl _ _) _,trivial⟩,trivial⟩ ⟨rfl,rfl⟩⟩
        · (conv=>whnf);intro b14;refine Sub.r [12,11,6,5] [0] ?_;(conv=>whnf);refine Cq.pu (q0r _ (fm_lt _ _) (fm_lt _ _)) rfl ?_;(conv=>whnf);refine Sub.r [12,11,6,5] [0] ?_;(conv=>whnf);refine Sub.r [12,11,6,5] [0] ?_;(conv=>whnf);refine Sub.r [12,11,6,5] [0] ?_;(conv=>whnf);exact ⟨(b13,b14),trivial,Wk.m [14,13,6,5] [0] kk ⟨⟨kk,mok (lbl _ _) _,trivial⟩,⟨kk,mok (lbl _ _) _,trivial⟩,⟨kk,⟨hz,hz2⟩,⟨hz,hz2⟩,trivial⟩,⟨kk,mok (lbl _ _) _,trivial⟩,trivial⟩ ⟨rfl,rfl⟩⟩
      · (conv=>whnf);intro b14;refine Sub.r [12,11,6,5] [0] ?_;(conv=>whnf);refine ⟨?_,?_⟩
        · (conv=>whnf);refine Cq.pu (q0r _ (fm_lt _ _) (fm_lt _ _)) rfl ?_;(conv=>whnf);refine Sub.r [12,11,6,5] [0] ?_;(conv=>whnf);intro b13;refine Sub.r [12,11,6,5] [0] ?_;(conv=>whnf);refine Sub.r [12,11,6,5] [0] ?_;(conv=>whnf);refine Sub.r [12,11,6,5] [0] ?_;(conv=>whnf);exact ⟨(b13,b14),trivial,Wk.m [14,13,6,5] [0] kk ⟨⟨kk,mok (lbl _ _) _,trivial⟩,⟨kk,mok (lbl _ _) _,trivial⟩,⟨kk,⟨hz,hz2⟩,⟨hz,hz2⟩,trivial⟩,⟨kk,mok (lbl _ _) _,trivial⟩,trivial⟩ ⟨rfl,rfl⟩⟩
        · (conv=>whnf);intro b13;refine Sub.r [12,11,6,5] [0] ?_;(conv=>whnf);refine Cq.pu (q0r _ (fm_lt _ _) (fm_lt _ _)) rfl ?_;(conv=>whnf);refine Sub.r [12,11,6,5] [0] ?_;(conv=>whnf);refine Sub.r [12,11,6,5] [0] ?_;(conv=>whnf);refine Sub.r [12,11,6,5] [0] ?_;(conv=>whnf);exact ⟨(b13,b14),trivial,Wk.m [14,13,6,5] [0] kk ⟨⟨kk,mok (lbl _ _) _,trivial⟩,⟨kk,mok (lbl _ _) _,trivial⟩,⟨kk,⟨hz,hz2⟩,⟨hz,hz2⟩,trivial⟩,⟨kk,mok (lbl _ _) _,trivial⟩,trivial⟩ ⟨rfl,rfl⟩⟩
    · (conv=>whnf);intro b13;refine Sub.r [12,11,6,5] [0] ?_;(conv=>whnf);refine ⟨?_,?_⟩
      · (conv=>whnf);refine Cq.pu (q2b _ (fm_lt _ _) (fm_lt _ _)) rfl ?_;(conv=>whnf);refine Sub.r [12,11,6,5] [0] ?_;(conv=>whnf);refine ⟨?_,?_⟩
        · (conv=>whnf);refine Cq.pu (q0r _ (fm_lt _ _) (fm_lt _ _)) rfl ?_;(conv=>whnf);refine Sub.r [12,11,6,5] [0] ?_;(conv=>whnf);intro b14;refine Sub.r [12,11,6,5] [0] ?_;(conv=>whnf);refine Sub.r [12,11,6,5] [0] ?_;(conv=>whnf);refine Sub.r [12,11,6,5] [0] ?_;(conv=>whnf);exact ⟨(b13,b14),trivial,Wk.m [14,13,6,5] [0] kk ⟨⟨kk,mok (lbl _ _) _,trivial⟩,⟨kk,mok (lbl _ _) _,trivial⟩,⟨kk,⟨hz,hz2⟩,⟨hz,hz2⟩,trivial⟩,⟨kk,mok (lbl _ _) _,trivial⟩,trivial⟩ ⟨rfl,rfl⟩⟩
        · (conv=>whnf);intro b14;refine Sub.r [12,11,6,5] [0] ?_;(conv=>whnf);refine Cq.pu (q0r _ (fm_lt _ _) (fm_lt _ _)) rfl ?_;(conv=>whnf);refine Sub.r [12,11,6,5] [0] ?_;(conv=>whnf);refine Sub.r [12,11,6,5] [0] ?_;(conv=>whnf);refine Sub.r [12,11,6,5] [0] ?_;(conv=>whnf);exact ⟨(b13,b14),trivial,Wk.m [14,13,6,5] [0] kk ⟨⟨kk,mok (lbl _ _) _,trivial⟩,⟨kk,mok (lbl _ _) _,trivial⟩,⟨kk,⟨hz,hz2⟩,⟨hz,hz2⟩,trivial⟩,⟨kk,mok (lbl _ _) _,trivial⟩,trivial⟩ ⟨rfl,rfl⟩⟩
      · (conv=>whnf);intro b14;refine Sub.r [12,11,6,5] [0] ?_;(conv=>whnf);refine Cq.pu (q2b _ (fm_lt _ _) (fm_lt _ _)) rfl ?_;(conv=>whnf);refine Sub.r [12,11,6,5] [0] ?_;(conv=>whnf);refine Cq.pu (q0r _ (fm_lt _ _) (fm_lt _ _)) rfl ?_;(conv=>whnf);refine Sub.r [12,11,6,5] [0] ?_;(conv=>whnf);refine Sub.r [12,11,6,5] [0] ?_;(conv=>whnf);refine Sub.r [12,11,6,5] [0] ?_;conv=>whnf
        exact ⟨(b13,b14),trivial,Wk.m [14,13,6,5] [0] kk ⟨⟨kk,mok (lbl _ _) _,trivial⟩,⟨kk,mok (lbl _ _) _,trivial⟩,⟨kk,⟨hz,hz2⟩,⟨hz,hz2⟩,trivial⟩,⟨kk,mok (lbl _ _) _,trivial⟩,trivial⟩ ⟨rfl,rfl⟩⟩
    · (conv=>whnf);intro b14;refine Sub.r [12,11,6,5] [0] ?_;(conv=>whnf);refine ⟨?_,?_⟩
      · (conv=>whnf);refine Cq.pu (q2b _ (fm_lt _ _) (fm_lt _ _)) rfl ?_;(conv=>whnf);refine Sub.r [12,11,6,5] [0] ?_;(conv=>whnf);refine ⟨?_,?_⟩
        · (conv=>whnf);refine Cq.pu (q0r _ (fm_lt _ _) (fm_lt _ _)) rfl ?_;(conv=>whnf);refine Sub.r [12,11,6,5] [0] ?_;(conv=>whnf);intro b13;refine Sub.r [12,11,6,5] [0] ?_;(conv=>whnf);refine Sub.r [12,11,6,5] [0] ?_;(conv=>whnf);refine Sub.r [12,11,6,5] [0] ?_;(conv=>whnf);exact ⟨(b13,b14),trivial,Wk.m [14,13,6,5] [0] kk ⟨⟨kk,mok (lbl _ _) _,trivial⟩,⟨kk,mok (lbl _ _) _,trivial⟩,⟨kk,⟨hz,hz2⟩,⟨hz,hz2⟩,trivial⟩,⟨kk,mok (lbl _ _) _,trivial⟩,trivial⟩ ⟨rfl,rfl⟩⟩
        · (conv=>whnf);intro b13;refine Sub.r [12,11,6,5] [0] ?_;(conv=>whnf);refine Cq.pu (q0r _ (fm_lt _ _) (fm_lt _ _)) rfl ?_;(conv=>whnf);refine Sub.r [12,11,6,5] [0] ?_;(conv=>whnf);refine Sub.r [12,11,6,5] [0] ?_;(conv=>whnf);refine Sub.r [12,11,6,5] [0] ?_;(conv=>whnf);exact ⟨(b13,b14),trivial,Wk.m [14,13,6,5] [0] kk ⟨⟨kk,mok (lbl _ _) _,trivial⟩,⟨kk,mok (lbl _ _) _,trivial⟩,⟨kk,⟨hz,hz2⟩,⟨hz,hz2⟩,trivial⟩,⟨kk,mok (lbl _ _) _,trivial⟩,trivial⟩ ⟨rfl,rfl⟩⟩
      · (conv=>whnf);intro b13;refine Sub.r [12,11,6,5] [0] ?_;(conv=>whnf);refine Cq.pu (q2b _ (fm_lt _ _) (fm_lt _ _)) rfl ?_;(conv=>whnf);refine Sub.r [12,11,6,5] [0] ?_;(conv=>whnf);refine Cq.pu (q0r _ (fm_lt _ _) (fm_lt _ _)) rfl ?_;(conv=>whnf);refine Sub.r [12,11,6,5] [0] ?_;(conv=>whnf);refine Sub.r [12,11,6,5] [0] ?_;(conv=>whnf);refine Sub.r [12,11,6,5] [0] ?_;conv=>whnf
        exact ⟨(b13,b14),trivial,Wk.m [14,13,6,5] [0] kk ⟨⟨kk,mok (lbl _ _) _,trivial⟩,⟨kk,mok (lbl _ _) _,trivial⟩,⟨kk,⟨hz,hz2⟩,⟨hz,hz2⟩,trivial⟩,⟨kk,mok (lbl _ _) _,trivial⟩,trivial⟩ ⟨rfl,rfl⟩⟩
  rintro ⟨b13,b14⟩ -;dsimp only;(conv=>whnf);refine Draw.a (by kernel_rfl) tt_ok (Tv.of [0,1,3,4,5,2,6,7,8,9] .nil) 9 (by kernel_rfl) ?_;(conv=>whnf);refine Cq.pu (q0z _ (fa_lt _ _) (fa_lt _ _)) rfl ?_;(conv=>whnf);refine Sub.r [14,13,6,5] [0] ?_;(conv=>whnf);refine Cq.pu (q0z _ (fs_lt _ _) (fs_lt _ _)) rfl ?_;(conv=>whnf);refine Sub.r [14,13,6,5] [0] ?_;(conv=>whnf);refine Cq.pu (q0z _ hx (fm_lt _ _)) rfl ?_;(conv=>whnf);refine Sub.r [14,13,6,5] [0] ?_;conv=>whnf
  exact Ret.m () [] [0] trivial rfl ⟨mok (lbl _ _) _,mok (lbl _ _) _,trivial⟩ kk ⟨rfl,rfl⟩
theorem qfi (A : HP) (p : Pt) (hp : Pok p) : Pu Tryz.prog 161 [.agg [.many 32 (u8s (leB (p.x) 32)),.many 32 (u8s (leB (p.z) 32))],.agg [.many 32 (u8s (leB (121665) 32))]] A (.agg [.many 32 (u8s (leB ((dbl p).x) 32)),.many 32 (u8s (leB ((dbl p).z) 32))]):=by
  have hz : (List.replicate 32 (Value.int .u8 0)).length = 32:=List.length_replicate;have hz2 : ∀ v ∈ (List.replicate 32 (Value.int .u8 0)),Value.oneCell' v = true:=fun v hv=>by rw [(List.mem_replicate.1 hv).2];rfl
  refine Con.of' tt_ok Tryz.func161 rfl (by decide) [.agg [.many 32 (u8s (leB (p.x) 32)),.many 32 (u8s (leB (p.z) 32))],.agg [.many 32 (u8s (leB (121665) 32))]] [] [] rfl rfl trivial ⟨⟨mok (lbl _ _) _,mok (lbl _ _) _,trivial⟩,⟨mok (lbl _ _) _,trivial⟩,trivial⟩ rfl ?_;(conv=>whnf);intro b2;(conv=>whnf);intro b3;(conv=>whnf);intro b4;conv=>whnf
  refine Draw.cut (σ:=Nat × Nat) (fun s=>[(3,.c (.ptr 3 0)),(4,.c (.ptr 4 0)),(5,.c (.ptr 5 0)),(6,.c (.ptr 6 0))]) (fun s=>⟨[(6,s.2),(5,s.1),(4,b4),(3,b3)],[(6,[.many 32 (u8s (leB (fs p.x p.z) 32))],23),(5,[.many 32 (u8s (leB (fa p.x p.z) 32))],23),(4,[.many 32 (List.replicate 32 (Value.int .u8 0)),.many 32 (List.replicate 32 (Value.int .u8 0))],236),(3,[.many 32 (u8s (leB (121665) 32))],23)],[A]⟩) (fun s=>True) ?_ ?_
  · refine Draw.a (by kernel_rfl) tt_ok (Tv.of [0,1,2,3,5,6,7,8] (.tre 4 (.tre 9 (.two 10 (.one 11 (Tv.of [12,13] .nil)) 11 (.one 10 (Tv.of [12,13] .nil))) 10 (.two 9 (.one 11 (Tv.of [12,13] .nil)) 11 (.one 9 (Tv.of [12,13] .nil))) 11 (.two 9 (.one 10 (Tv.of [12,13] .nil)) 10 (.one 9 (Tv.of [12,13] .nil)))) 10 (.two 4 (.two 9 (.one 11 (Tv.of [12,13] .nil)) 11 (.one 9 (Tv.of [12,13] .nil))) 11 (.one 4 (.one 9 (Tv.of [12,13] .nil)))) 11 (.two 4 (.two 9 (.one 10 (Tv.of [12,13] .nil)) 10 (.one 9 (Tv.of [12,13] .nil))) 10 (.one 4 (.one 9 (Tv.of [12,13] .nil)))))) 1000000 (by kernel_rfl) ?_
    (conv=>whnf);refine ⟨?_,?_,?_⟩
    · (conv=>whnf);refine Cq.pu (q2b _ hp.1 hp.2) rfl ?_;(conv=>whnf);refine Sub.r [4,3,2] [0] ?_;(conv=>whnf);refine ⟨?_,?_,?_⟩
      · (conv=>whnf);refine Cq.pu (q0r _ hp.1 hp.2) rfl ?_;(conv=>whnf);refine Sub.r [4,3,2] [0] ?_;(conv=>whnf);refine ⟨?_,?_⟩
        · (conv=>whnf);intro b5;refine Sub.r [4,3,2] [0] ?_;(conv=>whnf);intro b6;refine Sub.r [4,3,2] [0] ?_;(conv=>whnf);refine Sub.r [4,3,2] [0] ?_;(conv=>whnf);refine Sub.r [4,3,2] [0] ?_;(conv=>whnf);exact ⟨(b5,b6),trivial,Wk.m [6,5,4,3] [0] kk ⟨⟨kk,mok (lbl _ _) _,trivial⟩,⟨kk,mok (lbl _ _) _,trivial⟩,⟨kk,⟨hz,hz2⟩,⟨hz,hz2⟩,trivial⟩,⟨kk,mok (lbl _ _) _,trivial⟩,trivial⟩ ⟨rfl,rfl⟩⟩
        · (conv=>whnf);intro b6;refine Sub.r [4,3,2] [0] ?_;(conv=>whnf);intro b5;refine Sub.r [4,3,2] [0] ?_;(conv=>whnf);refine Sub.r [4,3,2] [0] ?_;(conv=>whnf);refine Sub.r [4,3,2] [0] ?_;(conv=>whnf);exact ⟨(b5,b6),trivial,Wk.m [6,5,4,3] [0] kk ⟨⟨kk,mok (lbl _ _) _,trivial⟩,⟨kk,mok (lbl _ _) _,trivial⟩,⟨kk,⟨hz,hz2⟩,⟨hz,hz2⟩,trivial⟩,⟨kk,mok (lbl _ _) _,trivial⟩,trivial⟩ ⟨rfl,rfl⟩⟩
      · (conv=>whnf);intro b5;refine Sub.r [4,3,2] [0] ?_;(conv=>whnf);refine ⟨?_,?_⟩
        · (conv=>whnf);refine Cq.pu (q0r _ hp.1 hp.2) rfl ?_;(conv=>whnf);refine Sub.r [4,3,2] [0] ?_;(conv=>whnf);intro b6;refine Sub.r [4,3,2] [0] ?_;(conv=>whnf);refine Sub.r [4,3,2] [0] ?_;(conv=>whnf);refine Sub.r [4,3,2] [0] ?_;(conv=>whnf);exact ⟨(b5,b6),trivial,Wk.m [6,5,4,3] [0] kk ⟨⟨kk,mok (lbl _ _) _,trivial⟩,⟨kk,mok (lbl _ _) _,trivial⟩,⟨kk,⟨hz,hz2⟩,⟨hz,hz2⟩,trivial⟩,⟨kk,mok (lbl _ _) _,trivial⟩,trivial⟩ ⟨rfl,rfl⟩⟩
        · (conv=>whnf);intro b6;refine Sub.r [4,3,2] [0] ?_;(conv=>whnf);refine Cq.pu (q0r _ hp.1 hp.2) rfl ?_;(conv=>whnf);refine Sub.r [4,3,2] [0] ?_;(conv=>whnf);refine Sub.r [4,3,2] [0] ?_;(conv=>whnf);refine Sub.r [4,3,2] [0] ?_;(conv=>whnf);exact ⟨(b5,b6),trivial,Wk.m [6,5,4,3] [0] kk ⟨⟨kk,mok (lbl _ _) _,trivial⟩,⟨kk,mok (lbl _ _) _,trivial⟩,⟨kk,⟨hz,hz2⟩,⟨hz,hz2⟩,trivial⟩,⟨kk,mok (lbl _ _) _,trivial⟩,trivial⟩ ⟨rfl,rfl⟩⟩
      · (conv=>whnf);intro b6;refine Sub.r [4,3,2] [0] ?_;(conv=>whnf);refine ⟨?_,?_⟩
        · (conv=>whnf);refine Cq.pu (q0r _ hp.1 hp.2) rfl ?_;(conv=>whnf);refine Sub.r [4,3,2] [0] ?_;(conv=>whnf);intro b5;refine Sub.r [4,3,2] [0] ?_;(conv=>whnf);refine Sub.r [4,3,2] [0] ?_;(conv=>whnf);refine Sub.r [4,3,2] [0] ?_;(conv=>whnf);exact ⟨(b5,b6),trivial,Wk.m [6,5,4,3] [0] kk ⟨⟨kk,mok (lbl _ _) _,trivial⟩,⟨kk,mok (lbl _ _) _,trivial⟩,⟨kk,⟨hz,hz2⟩,⟨hz,hz2⟩,trivial⟩,⟨kk,mok (lbl _ _) _,trivial⟩,trivial⟩ ⟨rfl,rfl⟩⟩
        · (conv=>whnf);intro b5;refine Sub.r [4,3,2] [0] ?_;(conv=>whnf);refine Cq.pu (q0r _ hp.1 hp.2) rfl ?_;(conv=>whnf);refine Sub.r [4,3,2] [0] ?_;(conv=>whnf);refine Sub.r [4,3,2] [0] ?_;(conv=>whnf);refine Sub.r [4,3,2] [0] ?_;(conv=>whnf);exact ⟨(b5,b6),trivial,Wk.m [6,5,4,3] [0] kk ⟨⟨kk,mok (lbl _ _) _,trivial⟩,⟨kk,mok (lbl _ _) _,trivial⟩,⟨kk,⟨hz,hz2⟩,⟨hz,hz2⟩,trivial⟩,⟨kk,mok (lbl _ _) _,trivial⟩,trivial⟩ ⟨rfl,rfl⟩⟩
    · (conv=>whnf);intro b5;refine Sub.r [4,3,2] [0] ?_;(conv=>whnf);refine ⟨?_,?_⟩
      · (conv=>whnf);refine Cq.pu (q2b _ hp.1 hp.2) rfl ?_;(conv=>whnf);refine Sub.r [4,3,2] [0] ?_;(conv=>whnf);refine ⟨?_,?_⟩
        · (conv=>whnf);refine Cq.pu (q0r _ hp.1 hp.2) rfl ?_;(conv=>whnf);refine Sub.r [4,3,2] [0] ?_;(conv=>whnf);intro b6;refine Sub.r [4,3,2] [0] ?_;(conv=>whnf);refine Sub.r [4,3,2] [0] ?_;(conv=>whnf);refine Sub.r [4,3,2] [0] ?_;(conv=>whnf);exact ⟨(b5,b6),trivial,Wk.m [6,5,4,3] [0] kk ⟨⟨kk,mok (lbl _ _) _,trivial⟩,⟨kk,mok (lbl _ _) _,trivial⟩,⟨kk,⟨hz,hz2⟩,⟨hz,hz2⟩,trivial⟩,⟨kk,mok (lbl _ _) _,trivial⟩,trivial⟩ ⟨rfl,rfl⟩⟩
        · (conv=>whnf);intro b6;refine Sub.r [4,3,2] [0] ?_;(conv=>whnf);refine Cq.pu (q0r _ hp.1 hp.2) rfl ?_;(conv=>whnf);refine Sub.r [4,3,2] [0] ?_;(conv=>whnf);refine Sub.r [4,3,2] [0] ?_;(conv=>whnf);refine Sub.r [4,3,2] [0] ?_;(conv=>whnf);exact ⟨(b5,b6),trivial,Wk.m [6,5,4,3] [0] kk ⟨⟨kk,mok (lbl _ _) _,trivial⟩,⟨kk,mok (lbl _ _) _,trivial⟩,⟨kk,⟨hz,hz2⟩,⟨hz,hz2⟩,trivial⟩,⟨kk,mok (lbl _ _) _,trivial⟩,trivial⟩ ⟨rfl,rfl⟩⟩
      · (conv=>whnf);intro b6;refine Sub.r [4,3,2] [0] ?_;(conv=>whnf);refine Cq.pu (q2b _ hp.1 hp.2) rfl ?_;(conv=>whnf);refine Sub.r [4,3,2] [0] ?_;(conv=>whnf);refine Cq.pu (q0r _ hp.1 hp.2) rfl ?_;(conv=>whnf);refine Sub.r [4,3,2] [0] ?_;(conv=>whnf);refine Sub.r [4,3,2] [0] ?_;(conv=>whnf);refine Sub.r [4,3,2] [0] ?_;conv=>whnf
        exact ⟨(b5,b6),trivial,Wk.m [6,5,4,3] [0] kk ⟨⟨kk,mok (lbl _ _) _,trivial⟩,⟨kk,mok (lbl _ _) _,trivial⟩,⟨kk,⟨hz,hz2⟩,⟨hz,hz2⟩,trivial⟩,⟨kk,mok (lbl _ _) _,trivial⟩,trivial⟩ ⟨rfl,rfl⟩⟩
    · (conv=>whnf);intro b6;refine Sub.r [4,3,2] [0] ?_;(conv=>whnf);refine ⟨?_,?_⟩
      · (conv=>whnf);refine Cq.pu (q2b _ hp.1 hp.2) rfl ?_;(conv=>whnf);refine Sub.r [4,3,2] [0] ?_;(conv=>whnf);refine ⟨?_,?_⟩
        · (conv=>whnf);refine Cq.pu (q0r _ hp.1 hp.2) rfl ?_;(conv=>whnf);refine Sub.r [4,3,2] [0] ?_;(conv=>whnf);intro b5;refine Sub.r [4,3,2] [0] ?_;(conv=>whnf);refine Sub.r [4,3,2] [0] ?_;(conv=>whnf);refine Sub.r [4,3,2] [0] ?_;(conv=>whnf);exact ⟨(b5,b6),trivial,Wk.m [6,5,4,3] [0] kk ⟨⟨kk,mok (lbl _ _) _,trivial⟩,⟨kk,mok (lbl _ _) _,trivial⟩,⟨kk,⟨hz,hz2⟩,⟨hz,hz2⟩,trivial⟩,⟨kk,mok (lbl _ _) _,trivial⟩,trivial⟩ ⟨rfl,rfl⟩⟩
        · (conv=>whnf);intro b5;refine Sub.r [4,3,2] [0] ?_;(conv=>whnf);refine Cq.pu (q0r _ hp.1 hp.2) rfl ?_;(conv=>whnf);refine Sub.r [4,3,2] [0] ?_;(conv=>whnf);refine Sub.r [4,3,2] [0] ?_;(conv=>whnf);refine Sub.r [4,3,2] [0] ?_;(conv=>whnf);exact ⟨(b5,b6),trivial,Wk.m [6,5,4,3] [0] kk ⟨⟨kk,mok (lbl _ _) _,trivial⟩,⟨kk,mok (lbl _ _) _,trivial⟩,⟨kk,⟨hz,hz2⟩,⟨hz,hz2⟩,trivial⟩,⟨kk,mok (lbl _ _) _,trivial⟩,trivial⟩ ⟨rfl,rfl⟩⟩
      · (conv=>whnf);intro b5;refine Sub.r [4,3,2] [0] ?_;(conv=>whnf);refine Cq.pu (q2b _ hp.1 hp.2) rfl ?_;(conv=>whnf);refine Sub.r [4,3,2] [0] ?_;(conv=>whnf);refine Cq.pu (q0r _ hp.1 hp.2) rfl ?_;(conv=>whnf);refine Sub.r [4,3,2] [0] ?_;(conv=>whnf);refine Sub.r [4,3,2] [0] ?_;(conv=>whnf);refine Sub.r [4,3,2] [0] ?_;conv=>whnf
        exact ⟨(b5,b6),trivial,Wk.m [6,5,4,3] [0] kk ⟨⟨kk,mok (lbl _ _) _,trivial⟩,⟨kk,mok (lbl _ _) _,trivial⟩,⟨kk,⟨hz,hz2⟩,⟨hz,hz2⟩,trivial⟩,⟨kk,mok (lbl _ _) _,trivial⟩,trivial⟩ ⟨rfl,rfl⟩⟩
  rintro ⟨b5,b6⟩ -;dsimp only;(conv=>whnf);refine Draw.cut (σ:=Nat × Nat) (fun s=>[(3,.c (.ptr 3 0)),(4,.c (.ptr 4 0)),(7,.c (.ptr 7 0)),(8,.c (.ptr 8 0))]) (fun s=>⟨[(8,s.2),(7,s.1),(4,b4),(3,b3)],[(8,[.many 32 (u8s (leB (fm (fs p.x p.z) (fs p.x p.z)) 32))],23),(7,[.many 32 (u8s (leB (fm (fa p.x p.z) (fa p.x p.z)) 32))],23),(4,[.many 32 (List.replicate 32 (Value.int .u8 0)),.many 32 (List.replicate 32 (Value.int .u8 0))],236),(3,[.many 32 (u8s (leB (121665) 32))],23)],[A]⟩) (fun s=>True) ?_ ?_
  · refine Draw.a (by kernel_rfl) tt_ok (Tv.of [0,1,3,4] (.tre 2 (.tre 5 (.two 6 (.one 7 (Tv.of [8,9] .nil)) 7 (.one 6 (Tv.of [8,9] .nil))) 6 (.two 5 (.one 7 (Tv.of [8,9] .nil)) 7 (.one 5 (Tv.of [8,9] .nil))) 7 (.two 5 (.one 6 (Tv.of [8,9] .nil)) 6 (.one 5 (Tv.of [8,9] .nil)))) 6 (.two 2 (.two 5 (.one 7 (Tv.of [8,9] .nil)) 7 (.one 5 (Tv.of [8,9] .nil))) 7 (.one 2 (.one 5 (Tv.of [8,9] .nil)))) 7 (.two 2 (.two 5 (.one 6 (Tv.of [8,9] .nil)) 6 (.one 5 (Tv.of [8,9] .nil))) 6 (.one 2 (.one 5 (Tv.of [8,9] .nil)))))) 1000000 (by kernel_rfl) ?_;(conv=>whnf);refine ⟨?_,?_,?_⟩
    · (conv=>whnf);refine Cq.pu (q0z _ (fa_lt _ _) (fa_lt _ _)) rfl ?_;(conv=>whnf);refine Sub.r [6,5,4,3] [0] ?_;(conv=>whnf);refine ⟨?_,?_,?_⟩
      · (conv=>whnf);refine Cq.pu (q0z _ (fs_lt _ _) (fs_lt _ _)) rfl ?_;(conv=>whnf);refine Sub.r [6,5,4,3] [0] ?_;(conv=>whnf);refine ⟨?_,?_⟩
        · (conv=>whnf);intro b7;refine Sub.r [6,5,4,3] [0] ?_;(conv=>whnf);intro b8;refine Sub.r [6,5,4,3] [0] ?_;(conv=>whnf);refine Sub.r [6,5,4,3] [0] ?_;(conv=>whnf);refine Sub.r [6,5,4,3] [0] ?_;(conv=>whnf);exact ⟨(b7,b8),trivial,Wk.m [8,7,4,3] [0] kk ⟨⟨kk,mok (lbl _ _) _,trivial⟩,⟨kk,mok (lbl _ _) _,trivial⟩,⟨kk,⟨hz,hz2⟩,⟨hz,hz2⟩,trivial⟩,⟨kk,mok (lbl _ _) _,trivial⟩,trivial⟩ ⟨rfl,rfl⟩⟩
        · (conv=>whnf);intro b8;refine Sub.r [6,5,4,3] [0] ?_;(conv=>whnf);intro b7;refine Sub.r [6,5,4,3] [0] ?_;(conv=>whnf);refine Sub.r [6,5,4,3] [0] ?_;(conv=>whnf);refine Sub.r [6,5,4,3] [0] ?_;(conv=>whnf);exact ⟨(b7,b8),trivial,Wk.m [8,7,4,3] [0] kk ⟨⟨kk,mok (lbl _ _) _,trivial⟩,⟨kk,mok (lbl _ _) _,trivial⟩,⟨kk,⟨hz,hz2⟩,⟨hz,hz2⟩,trivial⟩,⟨kk,mok (lbl _ _) _,trivial⟩,trivial⟩ ⟨rfl,rfl⟩⟩
      · (conv=>whnf);intro b7;refine Sub.r [6,5,4,3] [0] ?_;(conv=>whnf);refine ⟨?_,?_⟩
        · (conv=>whnf);refine Cq.pu (q0z _ (fs_lt _ _) (fs_lt _ _)) rfl ?_;(conv=>whnf);refine Sub.r [6,5,4,3] [0] ?_;(conv=>whnf);intro b8;refine Sub.r [6,5,4,3] [0] ?_;(conv=>whnf);refine Sub.r [6,5,4,3] [0] ?_;(conv=>whnf);refine Sub.r [6,5,4,3] [0] ?_;(conv=>whnf);exact ⟨(b7,b8),trivial,Wk.m [8,7,4,3] [0] kk ⟨⟨kk,mok (lbl _ _) _,trivial⟩,⟨kk,mok (lbl _ _) _,trivial⟩,⟨kk,⟨hz,hz2⟩,⟨hz,hz2⟩,trivial⟩,⟨kk,mok (lbl _ _) _,trivial⟩,trivial⟩ ⟨rfl,rfl⟩⟩
        · (conv=>whnf);intro b8;refine Sub.r [6,5,4,3] [0] ?_;(conv=>whnf);refine Cq.pu (q0z _ (fs_lt _ _) (fs_lt _ _)) rfl ?_;(conv=>whnf);refine Sub.r [6,5,4,3] [0] ?_;(conv=>whnf);refine Sub.r [6,5,4,3] [0] ?_;(conv=>whnf);refine Sub.r [6,5,4,3] [0] ?_;(conv=>whnf);exact ⟨(b7,b8),trivial,Wk.m [8,7,4,3] [0] kk ⟨⟨kk,mok (lbl _ _) _,trivial⟩,⟨kk,mok (lbl _ _) _,trivial⟩,⟨kk,⟨hz,hz2⟩,⟨hz,hz2⟩,trivial⟩,⟨kk,mok (lbl _ _) _,trivial⟩,trivial⟩ ⟨rfl,rfl⟩⟩
      · (conv=>whnf);intro b8;refine Sub.r [6,5,4,3] [0] ?_;(conv=>whnf);refine ⟨?_,?_⟩
        · (conv=>whnf);refine Cq.pu (q0z _ (fs_lt _ _) (fs_lt _ _)) rfl ?_;(conv=>whnf);refine Sub.r [6,5,4,3] [0] ?_;(conv=>whnf);intro b7;refine Sub.r [6,5,4,3] [0] ?_;(conv=>whnf);refine Sub.r [6,5,4,3] [0] ?_;(conv=>whnf);refine Sub.r [6,5,4,3] [0] ?_;(conv=>whnf);exact ⟨(b7,b8),trivial,Wk.m [8,7,4,3] [0] kk ⟨⟨kk,mok (lbl _ _) _,trivial⟩,⟨kk,mok (lbl _ _) _,trivial⟩,⟨kk,⟨hz,hz2⟩,⟨hz,hz2⟩,trivial⟩,⟨kk,mok (lbl _ _) _,trivial⟩,trivial⟩ ⟨rfl,rfl⟩⟩
        · (conv=>whnf);intro b7;refine Sub.r [6,5,4,3] [0] ?_;(conv=>whnf);refine Cq.pu (q0z _ (fs_lt _ _) (fs_lt _ _)) rfl ?_;(conv=>whnf);refine Sub.r [6,5,4,3] [0] ?_;(conv=>whnf);refine Sub.r [6,5,4,3] [0] ?_;(conv=>whnf);refine Sub.r [6,5,4,3] [0] ?_;(conv=>whnf);exact ⟨(b7,b8),trivial,Wk.m [8,7,4,3] [0] kk ⟨⟨kk,mok (lbl _ _) _,trivial⟩,⟨kk,mok (lbl _ _) _,trivial⟩,⟨kk,⟨hz,hz2⟩,⟨hz,hz2⟩,trivial⟩,⟨kk,mok (lbl _ _) _,trivial⟩,trivial⟩ ⟨rfl,rfl⟩⟩
    · (conv=>whnf);intro b7;refine Sub.r [6,5,4,3] [0] ?_;(conv=>whnf);refine ⟨?_,?_⟩
      · (conv=>whnf);refine Cq.pu (q0z _ (fa_lt _ _) (fa_lt _ _)) rfl ?_;(conv=>whnf);refine Sub.r [6,5,4,3] [0] ?_;(conv=>whnf);refine ⟨?_,?_⟩
        · (conv=>whnf);refine Cq.pu (q0z _ (fs_lt _ _) (fs_lt _ _)) rfl ?_;(conv=>whnf);refine Sub.r [6,5,4,3] [0] ?_;(conv=>whnf);intro b8;refine Sub.r [6,5,4,3] [0] ?_;(conv=>whnf);refine Sub.r [6,5,4,3] [0] ?_;(conv=>whnf);refine Sub.r [6,5,4,3] [0] ?_;(conv=>whnf);exact ⟨(b7,b8),trivial,Wk.m [8,7,4,3] [0] kk ⟨⟨kk,mok (lbl _ _) _,trivial⟩,⟨kk,mok (lbl _ _) _,trivial⟩,⟨kk,⟨hz,hz2⟩,⟨hz,hz2⟩,trivial⟩,⟨kk,mok (lbl _ _) _,trivial⟩,trivial⟩ ⟨rfl,rfl⟩⟩
        · (conv=>whnf);intro b8;refine Sub.r [6,5,4,3] [0] ?_;(conv=>whnf);refine Cq.pu (q0z _ (fs_lt _ _) (fs_lt _ _)) rfl ?_;(conv=>whnf);refine Sub.r [6,5,4,3] [0] ?_;(conv=>whnf);refine Sub.r [6,5,4,3] [0] ?_;(conv=>whnf);refine Sub.r [6,5,4,3] [0] ?_;(conv=>whnf);exact ⟨(b7,b8),trivial,Wk.m [8,7,4,3] [0] kk ⟨⟨kk,mok (lbl _ _) _,trivial⟩,⟨kk,mok (lbl _ _) _,trivial⟩,⟨kk,⟨hz,hz2⟩,⟨hz,hz2⟩,trivial⟩,⟨kk,mok (lbl _ _) _,trivial⟩,trivial⟩ ⟨rfl,rfl⟩⟩
      · (conv=>whnf);intro b8;refine Sub.r [6,5,4,3] [0] ?_;(conv=>whnf);refine Cq.pu (q0z _ (fa_lt _ _) (fa_lt _ _)) rfl ?_;(conv=>whnf);refine Sub.r [6,5,4,3] [0] ?_;(conv=>whnf);refine Cq.pu (q0z _ (fs_lt _ _) (fs_lt _ _)) rfl ?_;(conv=>whnf);refine Sub.r [6,5,4,3] [0] ?_;(conv=>whnf);refine Sub.r [6,5,4,3] [0] ?_;(conv=>whnf);refine Sub.r [6,5,4,3] [0] ?_;conv=>whnf
        exact ⟨(b7,b8),trivial,Wk.m [8,7,4,3] [0] kk ⟨⟨kk,mok (lbl _ _) _,trivial⟩,⟨kk,mok (lbl _ _) _,trivial⟩,⟨kk,⟨hz,hz2⟩,⟨hz,hz2⟩,trivial⟩,⟨kk,mok (lbl _ _) _,trivial⟩,trivial⟩ ⟨rfl,rfl⟩⟩
    · (conv=>whnf);intro b8;refine Sub.r [6,5,4,3] [0] ?_;(conv=>whnf);refine ⟨?_,?_⟩
      · (conv=>whnf);refine Cq.pu (q0z _ (fa_lt _ _) (fa_lt _ _)) rfl ?_;(conv=>whnf);refine Sub.r [6,5,4,3] [0] ?_;(conv=>whnf);refine ⟨?_,?_⟩
        · (conv=>whnf);refine Cq.pu (q0z _ (fs_lt _ _) (fs_lt _ _)) rfl ?_;(conv=>whnf);refine Sub.r [6,5,4,3] [0] ?_;(conv=>whnf);intro b7;refine Sub.r [6,5,4,3] [0] ?_;(conv=>whnf);refine Sub.r [6,5,4,3] [0] ?_;(conv=>whnf);refine Sub.r [6,5,4,3] [0] ?_;(conv=>whnf);exact ⟨(b7,b8),trivial,Wk.m [8,7,4,3] [0] kk ⟨⟨kk,mok (lbl _ _) _,trivial⟩,⟨kk,mok (lbl _ _) _,trivial⟩,⟨kk,⟨hz,hz2⟩,⟨hz,hz2⟩,trivial⟩,⟨kk,mok (lbl _ _) _,trivial⟩,trivial⟩ ⟨rfl,rfl⟩⟩
        · (conv=>whnf);intro b7;refine Sub.r [6,5,4,3] [0] ?_;(conv=>whnf);refine Cq.pu (q0z _ (fs_lt _ _) (fs_lt _ _)) rfl ?_;(conv=>whnf);refine Sub.r [6,5,4,3] [0] ?_;(conv=>whnf);refine Sub.r [6,5,4,3] [0] ?_;(conv=>whnf);refine Sub.r [6,5,4,3] [0] ?_;(conv=>whnf);exact ⟨(b7,b8),trivial,Wk.m [8,7,4,3] [0] kk ⟨⟨kk,mok (lbl _ _) _,trivial⟩,⟨kk,mok (lbl _ _) _,trivial⟩,⟨kk,⟨hz,hz2⟩,⟨hz,hz2⟩,trivial⟩,⟨kk,mok (lbl _ _) _,trivial⟩,trivial⟩ ⟨rfl,rfl⟩⟩
      · (conv=>whnf);intro b7;refine Sub.r [6,5,4,3] [0] ?_;(conv=>whnf);refine Cq.pu (q0z _ (fa_lt _ _) (fa_lt _ _)) rfl ?_;(conv=>whnf);refine Sub.r [6,5,4,3] [0] ?_;(conv=>whnf);refine Cq.pu (q0z _ (fs_lt _ _) (fs_lt _ _)) rfl ?_;(conv=>whnf);refine Sub.r [6,5,4,3] [0] ?_;(conv=>whnf);refine Sub.r [6,5,4,3] [0] ?_;(conv=>whnf);refine Sub.r [6,5,4,3] [0] ?_;conv=>whnf
        exact ⟨(b7,b8),trivial,Wk.m [8,7,4,3] [0] kk ⟨⟨kk,mok (lbl _ _) _,trivial⟩,⟨kk,mok (lbl _ _) _,trivial⟩,⟨kk,⟨hz,hz2⟩,⟨hz,hz2⟩,trivial⟩,⟨kk,mok (lbl _ _) _,trivial⟩,trivial⟩ ⟨rfl,rfl⟩⟩
  rintro ⟨b7,b8⟩ -;dsimp only;(conv=>whnf);refine Cq.pu (q0r _ (fm_lt _ _) (fm_lt _ _)) rfl ?_;(conv=>whnf);intro b9;(conv=>whnf);refine Draw.a (by kernel_rfl) tt_ok (Tv.of [0,1,3,4,5,6,2,7,8,9,10,11] .nil) 11 (by kernel_rfl) ?_;(conv=>whnf);refine Cq.pu (q0z _ (fm_lt _ _) (fm_lt _ _)) rfl ?_;(conv=>whnf);refine Sub.r [9,8,7,4,3] [0] ?_;(conv=>whnf);refine Cq.pu (q0z _ qpz (fs_lt _ _)) rfl ?_;(conv=>whnf);refine Sub.r [9,8,7,4,3] [0] ?_;conv=>whnf
  refine Cq.pu (q2b _ (fm_lt _ _) (fm_lt _ _)) rfl ?_;(conv=>whnf);refine Sub.r [9,8,7,4,3] [0] ?_;(conv=>whnf);refine Cq.pu (q0z _ (fs_lt _ _) (fa_lt _ _)) rfl ?_;(conv=>whnf);refine Sub.r [9,8,7,4,3] [0] ?_;(conv=>whnf);exact Ret.m () [] [0] trivial rfl ⟨mok (lbl _ _) _,mok (lbl _ _) _,trivial⟩ kk ⟨rfl,rfl⟩
end
section
theorem qc4 (A : HP) (k : List UInt8) (hk : k.length = 32) : Pu Tryz.prog 121 [.agg [.many 32 (u8s k)]] A (.agg [.many 32 (u8s (q18 k))]):=by
  have h0:=gd_lt k 0;have h31:=gd_lt k 31;have hl1 : (k.set 0 (UInt8.ofNat (gd k 0 / 8 * 8))).length = 32:=by rw [List.length_set,hk]
  have hl2 : (q18 k).length = 32:=by unfold q18;rw [List.length_set,hl1]
  refine Con.of' tt_ok Tryz.func121 rfl (by decide) [.agg [.many 32 (u8s k)]] [] [] rfl rfl trivial ⟨⟨mok hk _,trivial⟩,trivial⟩ rfl ?_;(conv=>whnf);intro b1;(conv=>whnf);intro b2;(conv=>whnf);refine ⟨by decide,?_⟩;(conv=>whnf);refine q0v 0 rfl (by rw [hk];decide) ?_;(conv=>whnf);refine ⟨by decide,?_⟩;refine Ar.to ((gd k 0 / 8 : Nat) : Int) rfl (Ar.u8 (by omega) ?_);(conv=>whnf);refine Ar.to ((gd k 0 / 8 * 8 : Nat) : Int) rfl (Ar.u8 (by omega) ?_);(conv=>whnf);refine ⟨by decide,?_⟩;(conv=>whnf);refine ⟨⟨rfl,by decide⟩,?_⟩
  have e1:=q4a (l:=k) (i:=0) (n:=gd k 0 / 8 * 8) (by omega) (by omega)
  have g1 : ((u8s k).take 0 ++ ([Value.int .u8 ((gd k 0 / 8 * 8 : Nat) : Int)] ++ (u8s k).drop (0 + 1)))[31]? = some (.int .u8 (gd k 31 : Nat)):=by
    rw [e1,q6w (by omega),List.getElem_set_ne (by decide)];rw [show gd k 31 = k[31].toNat from gd_eq (by omega)]
  have e2:=q4a (l:=k.set 0 (UInt8.ofNat (gd k 0 / 8 * 8))) (i:=31) (n:=gd k 31 % 64 + 64) (by omega) (by omega);rw [← e1] at e2;(conv=>whnf);refine ⟨by decide,?_⟩;(conv=>whnf);refine ⟨⟨.int .u8 (gd k 31 : Nat),by exact g1,trivial,?_⟩⟩;(conv=>whnf);refine ⟨by decide,?_⟩;rw [show ((gd k 31 : Nat) : Int).tmod 64 = ((gd k 31 % 64 : Nat) : Int) from rfl];(conv=>whnf);refine Ar.to ((gd k 31 % 64 + 64 : Nat) : Int) rfl (Ar.u8 (by omega) ?_);(conv=>whnf);refine ⟨by decide,?_⟩;(conv=>whnf);refine ⟨⟨rfl,by decide⟩,?_⟩;conv=>whnf
  refine Ret.m () [] [0] trivial ?_ ⟨mok hl2 _,trivial⟩ trivial ⟨rfl,rfl⟩;refine congrArg (fun z=>Value.agg (List.toArray (z ++ []))) ?_;show _ = u8s (q18 k);unfold q18;rw [← e2];rfl
theorem q8h (A : HP) (u : List UInt8) (hu : u.length = 32) : Pu Tryz.prog 122 [.agg [.many 32 (u8s u)]] A (.agg [.many 32 (u8s (q06 u))]):=by
  have h31:=gd_lt u 31;have hl1 : (u.set 31 (UInt8.ofNat (gd u 31 % 128))).length = 32:=by rw [List.length_set,hu]
  refine Con.of' tt_ok Tryz.func122 rfl (by decide) [.agg [.many 32 (u8s u)]] [] [] rfl rfl trivial ⟨⟨mok hu _,trivial⟩,trivial⟩ rfl ?_;(conv=>whnf);intro b1;(conv=>whnf);intro b2;(conv=>whnf);refine ⟨by decide,?_⟩;(conv=>whnf);refine q0v 31 rfl (by rw [hu];decide) ?_;(conv=>whnf);refine ⟨by decide,?_⟩;rw [show ((gd u 31 : Nat) : Int).tmod 128 = ((gd u 31 % 128 : Nat) : Int) from rfl];(conv=>whnf);refine ⟨by decide,?_⟩;(conv=>whnf);refine ⟨⟨rfl,by decide⟩,?_⟩
  have e1:=q4a (l:=u) (i:=31) (n:=gd u 31 % 128) (by omega) (by omega);(conv=>whnf);refine Cq.pu (q6i _ (u.set 31 (UInt8.ofNat (gd u 31 % 128))) hl1) (by show [Value.agg (((u8s u).take 31 ++ ([Value.int .u8 ((gd u 31 % 128 : Nat) : Int)] ++ (u8s u).drop (31 + 1))) ++ []).toArray] = _;rw [e1];rfl) ?_;(conv=>whnf);exact Ret.m () [] [0] trivial rfl ⟨mok (lbl 32 _) _,trivial⟩ trivial ⟨rfl,rfl⟩
end
section
theorem qhy {x1 : Nat} (hx : x1 < Pm) (k : List UInt8) : ∀ j,Pok (ladS x1 k j).1 ∧ Pok (ladS x1 k j).2
  | 0=>⟨⟨by show 1 < Pm;unfold Pm;decide,q2k⟩,⟨hx,by show 1 < Pm;unfold Pm;decide⟩⟩
  | j + 1=>by
    show Pok (if bitS k (254 - j) = 1 then (sm x1 (ladS x1 k j).2 (ladS x1 k j).1,dbl (ladS x1 k j).2) else (dbl (ladS x1 k j).1,sm x1 (ladS x1 k j).1 (ladS x1 k j).2)).1 ∧ Pok (if bitS k (254 - j) = 1 then (sm x1 (ladS x1 k j).2 (ladS x1 k j).1,dbl (ladS x1 k j).2) else (dbl (ladS x1 k j).1,sm x1 (ladS x1 k j).1 (ladS x1 k j).2)).2
    split
    · exact ⟨sm_ok _ _ _,qn9 _⟩
    · exact ⟨qn9 _,sm_ok _ _ _⟩
abbrev pr (p : Pt) : List Seg:=[.many 32 (u8s (leB p.x 32)),.many 32 (u8s (leB p.z 32))]
abbrev ky (l : List UInt8) : List Seg:=[.many 32 (u8s l)]
theorem pr_ok (p : Pt) (B : Names) : okL B (pr p):=⟨mok (lbl _ _) _,mok (lbl _ _) _,trivial⟩
theorem one_k : u8s (leB 1 32) = Value.int .u8 1 :: List.replicate 31 (Value.int .u8 0):=by
  have : leB 1 32 = 1 :: List.replicate 31 0:=by decide +kernel
  rw [this];rfl
theorem a24_k : u8s (leB 121665 32) = Value.int .u8 65 :: Value.int .u8 219 :: Value.int .u8 1 :: List.replicate 29 (Value.int .u8 0):=by
  have : leB 121665 32 = 65 :: 219 :: 1 :: List.replicate 29 0:=by decide +kernel
  rw [this];rfl
theorem qn8 : u8s (leB 0 32) = List.replicate 32 (Value.int .u8 0):=by
  have : leB 0 32 = List.replicate 32 0:=by decide +kernel
  rw [this];rfl
theorem qpf (x r : Nat) (hx : x < 256) (hr : r < 8) : ((x : Int).fdiv (2 ^ min ((r : Nat) : Int).toNat IntKind.u8.bits)).tmod 2 = ((x / 2 ^ r % 2 : Nat) : Int):=by
  have : ∀ x : Fin 256,∀ r : Fin 8,(((x : Nat) : Int).fdiv (2 ^ min (((r : Nat) : Nat) : Int).toNat IntKind.u8.bits)).tmod 2 = (((x : Nat) / 2 ^ (r : Nat) % 2 : Nat) : Int):=by decide +kernel
  exact this ⟨x,hx⟩ ⟨r,hr⟩
theorem q5z (A : HP) (k : List UInt8) (hk : k.length = 32) (x1 : Nat) (hx : x1 < Pm) : Pu Tryz.prog 120 [.agg [.many 32 (u8s k)],.agg [.many 32 (u8s (leB x1 32))]] A (.agg [.many 32 (u8s (q0e k (leB x1 32)))]):=by
  have hz : (List.replicate 32 (Value.int .u8 0)).length = 32:=List.length_replicate;have hz2 : ∀ v ∈ (List.replicate 32 (Value.int .u8 0)),Value.oneCell' v = true:=fun v hv=>by rw [(List.mem_replicate.1 hv).2];rfl
  unfold q0e;rw [q4m hx];dsimp only;refine Con.of' tt_ok Tryz.func120 rfl (by decide) [.agg [.many 32 (u8s k)],.agg [.many 32 (u8s (leB x1 32))]] [] [] rfl rfl trivial ⟨⟨mok hk _,trivial⟩,⟨mok (lbl _ _) _,trivial⟩,trivial⟩ rfl ?_;(conv=>whnf);intro b2;(conv=>whnf);intro b3;(conv=>whnf);intro b4;(conv=>whnf);intro b5;(conv=>whnf);intro b6;(conv=>whnf);refine ⟨by decide,?_⟩;(conv=>whnf);refine ⟨⟨rfl,by decide⟩,?_⟩;(conv=>whnf);refine ⟨by decide,?_⟩;(conv=>whnf);refine ⟨⟨rfl,by decide⟩,?_⟩;conv=>whnf
  refine ⟨by decide,?_⟩;(conv=>whnf);refine ⟨⟨rfl,by decide⟩,?_⟩;(conv=>whnf);refine ⟨by decide,?_⟩;(conv=>whnf);refine ⟨⟨rfl,by decide⟩,?_⟩
  refine Draw.cut (σ:=Nat × Nat) (fun s=>[(2,.c (.ptr 2 0)),(3,.c (.ptr 3 0)),(4,.c (.ptr 4 0)),(6,.c (.ptr 6 0)),(7,.c (.ptr 7 0)),(8,.c (.ptr 8 0))])
    (fun s=>⟨[(8,s.2),(7,s.1),(6,b6),(4,b4),(3,b3),(2,b2)],[(8,pr (ladS x1 k 0).2,236),(7,pr (ladS x1 k 0).1,236),(6,[.many 32 (u8s (leB 121665 32))],23),(4,[.many 32 (List.replicate 32 (Value.int .u8 0))],23),(3,[.many 32 (u8s (leB x1 32))],23),(2,[.many 32 (u8s k)],23)],[A]⟩) (fun _=>True) ?_ ?_
  · refine Draw.a (by kernel_rfl) tt_ok (Tv.of [0,1,2,3,4] (.two 5 (Tv.of [6,7,8] .nil) 6 (Tv.of [5,7,8] .nil))) 1000000 (by kernel_rfl) ?_;(conv=>whnf);refine ⟨?_,?_⟩
    · (conv=>whnf);intro b7;refine Sub.r [6,5,4,3,2] [0] ?_;(conv=>whnf);intro b8;refine Sub.r [6,5,4,3,2] [0] ?_;(conv=>whnf);refine Sub.r [6,5,4,3,2] [0] ?_;(conv=>whnf);refine Sub.r [6,5,4,3,2] [0] ?_;conv=>whnf
      exact ⟨(b7,b8),trivial,Wk.m [8,7,6,4,3,2] [0] kk ⟨⟨kk,pr_ok _ _⟩,⟨kk,pr_ok _ _⟩,⟨kk,mok (lbl _ _) _,trivial⟩,⟨kk,⟨hz,hz2⟩,trivial⟩,⟨kk,mok (lbl _ _) _,trivial⟩,⟨kk,mok hk _,trivial⟩,trivial⟩ ⟨by rw [show pr (ladS x1 k 0).1 = [.many 32 (u8s (leB 1 32)),.many 32 (u8s (leB 0 32))] from rfl,show pr (ladS x1 k 0).2 = [.many 32 (u8s (leB x1 32)),.many 32 (u8s (leB 1 32))] from rfl,one_k,a24_k,qn8];rfl,rfl⟩⟩
    · (conv=>whnf);intro b8;refine Sub.r [6,5,4,3,2] [0] ?_;(conv=>whnf);intro b7;refine Sub.r [6,5,4,3,2] [0] ?_;(conv=>whnf);refine Sub.r [6,5,4,3,2] [0] ?_;(conv=>whnf);refine Sub.r [6,5,4,3,2] [0] ?_;conv=>whnf
      exact ⟨(b7,b8),trivial,Wk.m [8,7,6,4,3,2] [0] kk ⟨⟨kk,pr_ok _ _⟩,⟨kk,pr_ok _ _⟩,⟨kk,mok (lbl _ _) _,trivial⟩,⟨kk,⟨hz,hz2⟩,trivial⟩,⟨kk,mok (lbl _ _) _,trivial⟩,⟨kk,mok hk _,trivial⟩,trivial⟩ ⟨by rw [show pr (ladS x1 k 0).1 = [.many 32 (u8s (leB 1 32)),.many 32 (u8s (leB 0 32))] from rfl,show pr (ladS x1 k 0).2 = [.many 32 (u8s (leB x1 32)),.many 32 (u8s (leB 1 32))] from rfl,one_k,a24_k,qn8];rfl,rfl⟩⟩
  rintro ⟨b7,b8⟩ -;dsimp only;conv=>whnf
  refine LoopOb.m (σ:=Nat) (fun j=>[(2,.c (.ptr 2 0)),(3,.c (.ptr 3 0)),(4,.c (.ptr 4 0)),(6,.c (.ptr 6 0)),(7,.c (.ptr 7 0)),(8,.c (.ptr 8 0)),(9,.c (.int .i64 ((254 : Int) - j)))])
    (fun j=>⟨[(8,b8),(7,b7),(6,b6),(4,b4),(3,b3),(2,b2)],[(8,pr (ladS x1 k j).2,236),(7,pr (ladS x1 k j).1,236),(6,[.many 32 (u8s (leB 121665 32))],23),(4,[.many 32 (List.replicate 32 (Value.int .u8 0))],23),(3,[.many 32 (u8s (leB x1 32))],23),(2,[.many 32 (u8s k)],23)],[A]⟩)
    (fun j=>j ≤ 255) (fun j=>255 - j) 0 (by omega) (Wk.m [8,7,6,4,3,2] [0] kk ⟨⟨kk,pr_ok _ _⟩,⟨kk,pr_ok _ _⟩,⟨kk,mok (lbl _ _) _,trivial⟩,⟨kk,⟨hz,hz2⟩,trivial⟩,⟨kk,mok (lbl _ _) _,trivial⟩,⟨kk,mok hk _,trivial⟩,trivial⟩ ⟨rfl,rfl⟩) ?_
  intro j hj;(conv=>whnf);refine Cond.d (fun h=>?_) (fun h=>?_)
  · have hj' : j < 255:=by omega
    obtain ⟨i,hi⟩ : ∃ i : Nat,254 - j = i:=⟨_,rfl⟩;have hi2 : (254 : Int) - j = i:=by omega
    have hok:=qhy hx k j;have es : ladS x1 k (j + 1) = if bitS k i = 1 then (sm x1 (ladS x1 k j).2 (ladS x1 k j).1,dbl (ladS x1 k j).2) else (dbl (ladS x1 k j).1,sm x1 (ladS x1 k j).1 (ladS x1 k j).2):=by rw [← hi];rfl
    generalize hP : (ladS x1 k j).1 = p at hok es ⊢;generalize hQ : (ladS x1 k j).2 = q at hok es ⊢;rw [hi2];(conv=>whnf);refine ⟨by decide,?_⟩;(conv=>whnf);refine Ar.to ((i / 8 : Nat) : Int) rfl (Ar.i64 (by omega) ?_);(conv=>whnf);refine ⟨by omega,?_⟩;(conv=>whnf);refine q0v (i / 8) (by show ((i / 8 : Nat) : Int).toNat * 1 = _;omega) (by rw [hk];omega) ?_;(conv=>whnf);refine ⟨by decide,?_⟩;rw [show (i : Int).tmod 8 = ((i % 8 : Nat) : Int) from rfl];(conv=>whnf);refine Ar.u64 (by omega) ?_;(conv=>whnf);refine ⟨by omega,?_⟩;conv=>whnf
    refine ⟨by decide,?_⟩;rw [qpf _ _ (gd_lt k (i / 8)) (by omega),show gd k (i / 8) / 2 ^ (i % 8) % 2 = bitS k i from rfl];(conv=>whnf);refine Cond.eqI (fun hb=>?_) (fun hb=>?_)
    · rw [if_pos (by omega)] at es;(conv=>whnf);refine Cq.pu (qmu _ q p x1 hok.2 hok.1 hx) rfl ?_;(conv=>whnf);intro b11;(conv=>whnf);refine Cq.pu (qfi _ q hok.2) rfl ?_;(conv=>whnf);refine Ar.i64 (by omega) ?_;conv=>whnf
      refine ⟨j + 1,by omega,by omega,Wk.m [8,7,6,4,3,2] [0] ⟨⟨rfl,kk⟩,⟨rfl,kk⟩,⟨rfl,kk⟩,⟨rfl,kk⟩,⟨rfl,kk⟩,⟨rfl,kk⟩,⟨?_,kk⟩,trivial⟩ ⟨⟨kk,pr_ok _ _⟩,⟨kk,pr_ok _ _⟩,⟨kk,mok (lbl _ _) _,trivial⟩,⟨kk,⟨hz,hz2⟩,trivial⟩,⟨kk,mok (lbl _ _) _,trivial⟩,⟨kk,mok hk _,trivial⟩,trivial⟩ ⟨by rw [es];rfl,rfl⟩⟩;show Value.int .i64 ((i : Int) - 1) = Value.int .i64 ((254 : Int) - (j + 1 : Nat));congr 1;omega
    · rw [if_neg (by omega)] at es;(conv=>whnf);refine Cq.pu (qmu _ p q x1 hok.1 hok.2 hx) rfl ?_;(conv=>whnf);intro b11;(conv=>whnf);refine Cq.pu (qfi _ p hok.1) rfl ?_;(conv=>whnf);refine Ar.i64 (by omega) ?_;conv=>whnf
      refine ⟨j + 1,by omega,by omega,Wk.m [8,7,6,4,3,2] [0] ⟨⟨rfl,kk⟩,⟨rfl,kk⟩,⟨rfl,kk⟩,⟨rfl,kk⟩,⟨rfl,kk⟩,⟨rfl,kk⟩,⟨?_,kk⟩,trivial⟩ ⟨⟨kk,pr_ok _ _⟩,⟨kk,pr_ok _ _⟩,⟨kk,mok (lbl _ _) _,trivial⟩,⟨kk,⟨hz,hz2⟩,trivial⟩,⟨kk,mok (lbl _ _) _,trivial⟩,⟨kk,mok hk _,trivial⟩,trivial⟩ ⟨by rw [es];rfl,rfl⟩⟩;show Value.int .i64 ((i : Int) - 1) = Value.int .i64 ((254 : Int) - (j + 1 : Nat));congr 1;omega
  obtain rfl : j = 255:=by omega
  have hok:=qhy hx k 255;generalize ladS x1 k 255 = L at hok ⊢;(conv=>whnf);refine Draw.a (by kernel_rfl) tt_ok (Tv.of (List.range 7) .nil) 6 (by kernel_rfl) ?_;(conv=>whnf);refine Cq.pu (qqj _ (leB L.1.z 32) (lbl _ _)) rfl ?_;unfold rinvS;rw [q4m hok.1.2,qb3 hok.1.2];(conv=>whnf);refine Sub.whole ?_;(conv=>whnf);refine Cq.pu (q0z _ hok.1.1 (qhx _ _)) rfl ?_;(conv=>whnf);refine Sub.whole ?_;(conv=>whnf);exact Ret.m () [] [0] trivial rfl ⟨mok (lbl _ _) _,trivial⟩ kk ⟨rfl,rfl⟩
end
section
theorem qq5 : u8s (leB 9 32) = Value.int .u8 9 :: List.replicate 31 (Value.int .u8 0):=by
  have : leB 9 32 = 9 :: List.replicate 31 0:=by decide +kernel
  rw [this];rfl
theorem qdz (k u : List UInt8) : leB (le (q0e k u) % Pm) 32 = q0e k u:=by
  unfold q0e;dsimp only;rw [q4m (fm_lt _ _)]
theorem qcu (A : HP) (k : List UInt8) (hk : k.length = 32) : Pu Tryz.prog 96 [.agg [.many 32 (u8s k)]] A (.agg [.many 32 (u8s (q05 k))]):=by
  have e9 : nineS = leB 9 32:=by decide +kernel
  refine Con.of' tt_ok Tryz.func96 rfl (by decide) [.agg [.many 32 (u8s k)]] [] [] rfl rfl trivial ⟨⟨mok hk _,trivial⟩,trivial⟩ rfl ?_;(conv=>whnf);intro b1;(conv=>whnf);intro b2;(conv=>whnf);intro b3;(conv=>whnf);refine ⟨by decide,?_⟩;(conv=>whnf);refine ⟨⟨rfl,by decide⟩,?_⟩;(conv=>whnf);refine Draw.a (by kernel_rfl) tt_ok (Tv.of [0,2,1,3,4] .nil) 4 (by kernel_rfl) ?_;(conv=>whnf);refine Cq.pu (qc4 _ k hk) rfl ?_;(conv=>whnf);refine Sub.r [3,2,1] [0] ?_;conv=>whnf
  refine Cq.pu (q5z _ (q18 k) (q1s hk) 9 (by unfold Pm;decide)) (by rw [qq5];rfl) ?_;(conv=>whnf);refine Sub.r [3,2,1] [0] ?_;(conv=>whnf);have e : q05 k = q0e (q18 k) (leB 9 32):=by unfold q05;rw [e9]
  rw [e];exact Ret.m () [] [0] trivial rfl ⟨mok (q10 _ _) _,trivial⟩ trivial ⟨rfl,rfl⟩
theorem qdb (A : HP) (k u : List UInt8) (hk : k.length = 32) (hu : u.length = 32) : Pu Tryz.prog 82 [.agg [.many 32 (u8s k)],.agg [.many 32 (u8s u)]] A (.tup [.agg [.many 32 (u8s (q00 k u).1)],.c (.int .i64 (q00 k u).2)]):=by
  refine Con.of' tt_ok Tryz.func82 rfl (by decide) [.agg [.many 32 (u8s k)],.agg [.many 32 (u8s u)]] [] [] rfl rfl trivial ⟨⟨mok hk _,trivial⟩,⟨mok hu _,trivial⟩,trivial⟩ rfl ?_;(conv=>whnf);intro b2;(conv=>whnf);intro b3;(conv=>whnf);intro b4;(conv=>whnf);have hz : (List.replicate 32 (Value.int .u8 0)).length = 32:=List.length_replicate
  refine Draw.cut (σ:=Nat) (fun b=>[(2,.c (.ptr 2 0)),(4,.c (.ptr 4 0)),(6,.c (.ptr 6 0))])
    (fun b=>⟨[(6,b),(4,b4),(3,b3),(2,b2)],[(6,[.many 32 (u8s (q0e (q18 k) (q06 u)))],23),(4,[.many 32 (List.replicate 32 (Value.int .u8 0))],23)],[A]⟩) (fun _=>True) ?_ ?_
  · refine Draw.a (by kernel_rfl) tt_ok (Tv.of [0,2] (.two 1 ((.two 3 ((.two 4 (Tv.of [5,6] .nil) 5 (Tv.of [4,6] .nil))) 5 (Tv.of [3,4,6] .nil))) 5 (Tv.of [1,3,4,6] .nil))) 1000000 (by kernel_rfl) ?_;(conv=>whnf);refine ⟨?_,?_⟩
    · (conv=>whnf);refine Cq.pu (qc4 _ k hk) rfl ?_;refine Sub.r [4,3,2] [0] ?_;(conv=>whnf);refine ⟨?_,?_⟩
      · (conv=>whnf);refine Cq.pu (q8h _ u hu) rfl ?_;refine Sub.r [4,3,2] [0] ?_;(conv=>whnf);refine ⟨?_,?_⟩
        · (conv=>whnf);refine Cq.pu (q5z _ (q18 k) (q1s hk) _ (Nat.mod_lt _ q2k)) rfl ?_;refine Sub.r [4,3,2] [0] ?_;(conv=>whnf);intro b6;refine Sub.r [4,3,2] [0] ?_;(conv=>whnf);refine Sub.r [4,3,2] [0] ?_;(conv=>whnf);exact ⟨b6,trivial,Wk.m [6,4] [0] kk ⟨⟨kk,mok (q10 _ _) _,trivial⟩,⟨kk,⟨hz,fun v hv=>by rw [(List.mem_replicate.1 hv).2];rfl⟩,trivial⟩,trivial⟩ ⟨rfl,rfl⟩⟩
        · (conv=>whnf);intro b6;refine Sub.r [4,3,2] [0] ?_;(conv=>whnf);refine Cq.pu (q5z _ (q18 k) (q1s hk) _ (Nat.mod_lt _ q2k)) rfl ?_;refine Sub.r [4,3,2] [0] ?_;(conv=>whnf);refine Sub.r [4,3,2] [0] ?_;(conv=>whnf);exact ⟨b6,trivial,Wk.m [6,4] [0] kk ⟨⟨kk,mok (q10 _ _) _,trivial⟩,⟨kk,⟨hz,fun v hv=>by rw [(List.mem_replicate.1 hv).2];rfl⟩,trivial⟩,trivial⟩ ⟨rfl,rfl⟩⟩
      · (conv=>whnf);intro b6;refine Sub.r [4,3,2] [0] ?_;(conv=>whnf);refine Cq.pu (q8h _ u hu) rfl ?_;refine Sub.r [4,3,2] [0] ?_;(conv=>whnf);refine Cq.pu (q5z _ (q18 k) (q1s hk) _ (Nat.mod_lt _ q2k)) rfl ?_;refine Sub.r [4,3,2] [0] ?_;(conv=>whnf);refine Sub.r [4,3,2] [0] ?_;(conv=>whnf);exact ⟨b6,trivial,Wk.m [6,4] [0] kk ⟨⟨kk,mok (q10 _ _) _,trivial⟩,⟨kk,⟨hz,fun v hv=>by rw [(List.mem_replicate.1 hv).2];rfl⟩,trivial⟩,trivial⟩ ⟨rfl,rfl⟩⟩
    · (conv=>whnf);intro b6;refine Sub.r [4,3,2] [0] ?_;(conv=>whnf);refine Cq.pu (qc4 _ k hk) rfl ?_;refine Sub.r [4,3,2] [0] ?_;(conv=>whnf);refine Cq.pu (q8h _ u hu) rfl ?_;refine Sub.r [4,3,2] [0] ?_;(conv=>whnf);refine Cq.pu (q5z _ (q18 k) (q1s hk) _ (Nat.mod_lt _ q2k)) rfl ?_;refine Sub.r [4,3,2] [0] ?_;(conv=>whnf);refine Sub.r [4,3,2] [0] ?_;conv=>whnf
      exact ⟨b6,trivial,Wk.m [6,4] [0] kk ⟨⟨kk,mok (q10 _ _) _,trivial⟩,⟨kk,⟨hz,fun v hv=>by rw [(List.mem_replicate.1 hv).2];rfl⟩,trivial⟩,trivial⟩ ⟨rfl,rfl⟩⟩
  intro b6 _;dsimp only;(conv=>whnf);refine Cq.pu (qib _ (q0e (q18 k) (q06 u)) (q10 _ _)) rfl ?_;rw [qdz];(conv=>whnf);refine Cond.d (fun h=>?_) (fun h=>?_)
  · (conv=>whnf);have e : q00 k u = (zk,7):=by unfold q00;rw [if_pos h]
    rw [e];exact Ret.m () [] [0] trivial rfl ⟨⟨mok q1h _,trivial⟩,trivial,trivial⟩ trivial ⟨rfl,rfl⟩
  · (conv=>whnf);have e : q00 k u = (q0e (q18 k) (q06 u),0):=by unfold q00;rw [if_neg h]
    rw [e];exact Ret.m () [] [0] trivial rfl ⟨⟨mok (q10 _ _) _,trivial⟩,trivial,trivial⟩ trivial ⟨rfl,rfl⟩
end
section
def okK (l : List (List UInt8)) : Prop:=∀ k ∈ l,k.length = 32
def rowK (l : List (List UInt8)) : List Value:=(l.map u8s).flatten
theorem q2r (l m : List (List UInt8)) : rowK (l ++ m) = rowK l ++ rowK m:=by simp [rowK]
theorem q0k {l : List (List UInt8)} (h : okK l) : (rowK l).length = l.length * 32:=by
  have:=q1x (css:=l.map u8s) (n:=32) (fun c hc=>by simp at hc;obtain ⟨y,hy,rfl⟩:=hc;rw [u8l];exact h y hy)
  simpa [rowK] using this
theorem qfn {l : List (List UInt8)} (h : okK l) (k : Nat) : okK (l.take k):=fun x hx=>h x (List.mem_of_mem_take hx)
theorem q46 {l m : List (List UInt8)} (h : okK l) (h' : okK m) : okK (l ++ m):=fun x hx=>(List.mem_append.1 hx).elim (h x) (h' x)
theorem q4t {k : List UInt8} (h : k.length = 32) : okK [k]:=fun x hx=>by rw [List.mem_singleton.1 hx];exact h
theorem qhm {l : List (List UInt8)} (h : okK l) (k : Nat) (hk : k ≤ l.length) : (rowK l).drop (k * 32) = rowK (l.drop k):=by
  have e : rowK l = rowK (l.take k) ++ rowK (l.drop k):=by rw [← q2r,List.take_append_drop]
  have hl : (rowK (l.take k)).length = k * 32:=by rw [q0k (qfn h k),List.length_take,Nat.min_eq_left hk]
  rw [e,← hl,List.drop_left]
theorem ldk {t : Nat} {x : TyX} {b off : Nat} {m : M} {f : SV → Prop} {A : HP} {p : Nat × Nat} {l : List (List UInt8)} (i : Nat) (hA : A ∈ m.F) (hr : Rd A (some (radr p)) (rowK l)) (h : okK l) (hi : i < l.length)
    (hx : x.k.agg = true) (hn : x.size = 32) (hb : b = p.1) (ho : off = p.2 + i * 32) (hf : f (.agg [.many 32 (u8s l[i])])) : With (Ty Tryz.prog t x) (LdOb Tryz.prog t ⟨b,off,none⟩ m f):=by
  have hl : l[i].length = 32:=h _ (List.getElem_mem hi);have ed : ∀ B : Names,dens B [.many 32 (u8s l[i])] = u8s l[i]:=fun B=>List.append_nil _;refine lds (A:=A) (i * 32) [.many 32 (u8s l[i])] hx hA hr hb ho ?_ ?_ (by omega) (q04 ⟨mok hl _,trivial⟩) hf
  · rw [ed,hn,qhm h _ (by omega),List.drop_eq_getElem_cons hi];show _ = (u8s l[i] ++ rowK (l.drop (i + 1))).take 32;rw [← hl,← u8l,List.take_left]
  · rw [ed,u8l,hl,hn]
theorem q7f (k u : List UInt8) : q00 k u = (zk,7) ∨ q00 k u = (q0e (q18 k) (q06 u),0):=by
  by_cases h : q0e (q18 k) (q06 u) = zk
  · exact .inl (by unfold q00;rw [if_pos h])
  · exact .inr (by unfold q00;rw [if_neg h])
theorem q1y (k u : List UInt8) : (q00 k u).1.length = 32:=by
  rcases q7f k u with h | h
  · rw [h];exact q1h
  · rw [h];exact q10 _ _
theorem q8y (k u : List UInt8) : 0 ≤ (q00 k u).2 ∧ (q00 k u).2 ≤ 7:=by
  rcases q7f k u with h | h
  · rw [h];exact ⟨by show (0 : Int) ≤ 7;decide,by show (7 : Int) ≤ 7;decide⟩
  · rw [h];exact ⟨by show (0 : Int) ≤ 0;decide,by show (0 : Int) ≤ 7;decide⟩
attribute [local irreducible] q00 q0e q06
theorem q9q : ∀ (l : List (List UInt8)) (r : List UInt8),r.length = 32 → (q2i l r).1.length = 32
  | [],_,h=>h
  | k :: l,r,h=>by
    by_cases h0 : (q00 k r).2 = 0
    · rw [show q2i (k :: l) r = q2i l (q00 k r).1 from if_pos h0];exact q9q l _ (q1y _ _)
    · rw [show q2i (k :: l) r = (zk,(q00 k r).2) from if_neg h0];exact q1h
theorem q6x {k r : List UInt8} {l : List (List UInt8)} (h : (q00 k r).2 ≠ 0) : q2i (k :: l) r = (zk,(q00 k r).2):=if_neg h
theorem q6u {k r : List UInt8} {l : List (List UInt8)} (h : (q00 k r).2 = 0) : q2i (k :: l) r = q2i l (q00 k r).1:=if_pos h
theorem q9t {u : List UInt8} {l : List (List UInt8)} (h : 8 < l.length) : q02 u l = (zk,3):=by unfold q02;rw [if_pos h]
theorem q54 {u : List UInt8} {l : List (List UInt8)} (h : ¬ 8 < l.length) (h1 : q06 u = zk) : q02 u l = (zk,7):=by unfold q02;rw [if_neg h,if_pos h1]
theorem q8c {u : List UInt8} {l : List (List UInt8)} (h : ¬ 8 < l.length) (h1 : q06 u ≠ zk) : q02 u l = q2i l (q06 u):=by unfold q02;rw [if_neg h,if_neg h1]
theorem q41 (u : List UInt8) (l : List (List UInt8)) : (q02 u l).1.length = 32:=by
  by_cases h : 8 < l.length
  · rw [q9t h];exact q1h
  by_cases h1 : q06 u = zk
  · rw [q54 h h1];exact q1h
  · rw [q8c h h1];exact q9q l _ (q1v u)
attribute [local irreducible] q02
theorem qpj (A R : HP) (hE : Ent A R) (a : Option Addr) (cap : Nat) (u : List UInt8) (l : List (List UInt8)) (hu : u.length = 32) (hl : okK l) (hr : Rd R a (rowK l)) (hn : l.length ≤ 1000000000) :
    Pu Tryz.prog 100 [.agg [.many 32 (u8s u)],.c (.rs a l.length cap)] A (.tup [.agg [.many 32 (u8s (q02 u l).1)],.c (.int .i64 (q02 u l).2)]):=by
  have hr:=hr.ent hE;have hz : (List.replicate 32 (Value.int .u8 0)).length = 32:=List.length_replicate;have hz2 : ∀ v ∈ (List.replicate 32 (Value.int .u8 0)),Value.oneCell' v = true:=fun v hv=>by rw [(List.mem_replicate.1 hv).2];rfl
  refine Con.of' tt_ok Tryz.func100 rfl (by decide) [.agg [.many 32 (u8s u)],.c (.rs a l.length cap)] [] [] rfl rfl trivial ⟨⟨mok hu _,trivial⟩,trivial,trivial⟩ rfl ?_;(conv=>whnf);intro b2;(conv=>whnf);intro b4;(conv=>whnf);refine Cond.d (fun h=>?_) (fun h=>?_)
  · have e:=q9t (u:=u) (l:=l) (by omega);rw [e];(conv=>whnf);exact Ret.m () [] [0] trivial rfl ⟨⟨mok q1h _,trivial⟩,trivial,trivial⟩ trivial ⟨rfl,rfl⟩
  (conv=>whnf);refine Cq.pu (qb5 _ u hu) rfl ?_;(conv=>whnf);intro b6;(conv=>whnf);refine q7o (q1v u) q1h (by simp [dens,Seg.den]) (by rfl) ?_;(conv=>whnf);refine Cond.d (fun h1=>?_) (fun h1=>?_)
  · have e:=q54 (u:=u) (l:=l) (by omega) h1;rw [e];(conv=>whnf);exact Ret.m () [] [0] trivial rfl ⟨⟨mok q1h _,trivial⟩,trivial,trivial⟩ trivial ⟨rfl,rfl⟩
  have e:=q8c (u:=u) (l:=l) (by omega) h1;have hcl:=q41 u l;rw [e] at hcl ⊢;generalize hZ : q2i l (q06 u) = Z at hcl ⊢;conv=>whnf
  refine LoopOb.m (σ:=Nat × List UInt8) (fun s=>[(4,.c (.ptr 4 0)),(6,.c (.ptr 6 0)),(21,.c (.rs a l.length cap)),(22,.c (.int .i64 l.length)),(23,.c (.int .i64 s.1))])
    (fun s=>⟨[(6,b6),(4,b4)],[(6,[.many 32 (u8s s.2)],23),(4,[.many 32 (List.replicate 32 (Value.int .u8 0))],23)],[A]⟩)
    (fun s=>s.1 ≤ l.length ∧ s.2.length = 32 ∧ q2i (l.drop s.1) s.2 = Z) (fun s=>l.length - s.1) (0,q06 u) ⟨Nat.zero_le _,q1v u,hZ⟩ (Wk.m [6,4] [0] kk ⟨⟨kk,mok (q1v u) _,trivial⟩,⟨kk,⟨hz,hz2⟩,trivial⟩,trivial⟩ ⟨rfl,rfl⟩) ?_
  rintro ⟨i,r⟩ ⟨hi,hrl,hg⟩;dsimp only at hi hrl hg ⊢;(conv=>whnf);refine Cond.d (fun h2=>?_) (fun h2=>?_)
  · have hi' : i < l.length:=by omega
    have hk : l[i].length = 32:=hl _ (List.getElem_mem hi');have ed : l.drop i = l[i] :: l.drop (i + 1):=List.drop_eq_getElem_cons hi';rw [ed] at hg;have hA:=fun (h0 : (q00 l[i] r).2 ≠ 0)=>(q6x (k:=l[i]) (l:=l.drop (i + 1)) (r:=r) h0).symm.trans hg;have hB:=fun (h0 : (q00 l[i] r).2 = 0)=>(q6u (k:=l[i]) (l:=l.drop (i + 1)) (r:=r) h0).symm.trans hg;clear hg;(conv=>whnf);refine ⟨by omega,PtrOb.rd (A:=A) (by simp) hr (by rw [q0k hl];omega) fun p hp=>?_⟩;subst hp;conv=>whnf
    refine ldk (A:=A) (l:=l) i (by simp) hr hl hi' rfl rfl rfl (by show _ + (i : Int).toNat * 32 = _;omega) ?_;(conv=>whnf);intro b8;(conv=>whnf);refine Cq.pu (q84 _ l[i] r hk hrl) rfl ?_;have hs7:=q8y l[i] r;have hsl:=q1y l[i] r;generalize q00 l[i] r = y at hA hB hs7 hsl ⊢;obtain ⟨y1,y2⟩:=y;dsimp only at hA hB hs7 hsl ⊢;(conv=>whnf);intro b9;(conv=>whnf);refine Cond.neI (fun h3=>?_) (fun h3=>?_)
    · rw [← hA h3];(conv=>whnf);exact Ret.m () [] [0] trivial rfl ⟨⟨mok q1h _,trivial⟩,trivial,trivial⟩ trivial ⟨rfl,rfl⟩
    · have hg:=hB h3;(conv=>whnf);refine Ar.i64 (by omega) ?_;(conv=>whnf);exact ⟨(i + 1,y1),⟨by dsimp only;omega,hsl,hg⟩,by dsimp only;omega,Wk.m [6,4] [0] kk ⟨⟨kk,mok hsl _,trivial⟩,⟨kk,⟨hz,hz2⟩,trivial⟩,trivial⟩ ⟨rfl,rfl⟩⟩
  obtain rfl : i = l.length:=by omega
  have e2 : Z = (r,0):=by rw [← hg,List.drop_length];rfl
  rw [e2];(conv=>whnf);exact Ret.m () [] [0] trivial rfl ⟨⟨mok hrl _,trivial⟩,trivial,trivial⟩ trivial ⟨rfl,rfl⟩
end
section
theorem qet (u : List UInt8) : leB (le (q06 u) % Pm) 32 = q06 u:=by
  unfold q06;rw [q4m (Nat.mod_lt _ q2k)]
attribute [local irreducible] q00 q0e q06 q02
theorem ql3 (A R : HP) (hE : Ent A R) (a : Option Addr) (cap : Nat) (u : List UInt8) (l : List (List UInt8)) (hu : u.length = 32) (hl : okK l) (hr : Rd R a (rowK l)) (hn : l.length ≤ 1000000000) :
    Pu Tryz.prog 131 [.agg [.many 32 (u8s u)],.c (.rs a l.length cap)] A (.tup [.agg [.many 32 (u8s (q02 u l).1)],.c (.int .i64 (q02 u l).2)]):=by
  have hr:=hr.ent hE;have hz : (List.replicate 32 (Value.int .u8 0)).length = 32:=List.length_replicate;have hz2 : ∀ v ∈ (List.replicate 32 (Value.int .u8 0)),Value.oneCell' v = true:=fun v hv=>by rw [(List.mem_replicate.1 hv).2];rfl
  refine Con.of' tt_ok Tryz.func131 rfl (by decide) [.agg [.many 32 (u8s u)],.c (.rs a l.length cap)] [] [] rfl rfl trivial ⟨⟨mok hu _,trivial⟩,trivial,trivial⟩ rfl ?_;(conv=>whnf);intro b2;(conv=>whnf);intro b4;(conv=>whnf);refine Cond.d (fun h=>?_) (fun h=>?_)
  · have e:=q9t (u:=u) (l:=l) (by omega);rw [e];(conv=>whnf);exact Ret.m () [] [0] trivial rfl ⟨⟨mok q1h _,trivial⟩,trivial,trivial⟩ trivial ⟨rfl,rfl⟩
  (conv=>whnf);refine Cq.pu (q8h _ u hu) rfl ?_;(conv=>whnf);intro b6;(conv=>whnf);refine Cq.pu (qib _ (q06 u) (q1v u)) rfl ?_;rw [qet];(conv=>whnf);refine Cond.d (fun h1=>?_) (fun h1=>?_)
  · have e:=q54 (u:=u) (l:=l) (by omega) h1;rw [e];(conv=>whnf);exact Ret.m () [] [0] trivial rfl ⟨⟨mok q1h _,trivial⟩,trivial,trivial⟩ trivial ⟨rfl,rfl⟩
  have e:=q8c (u:=u) (l:=l) (by omega) h1;have hcl:=q41 u l;rw [e] at hcl ⊢;generalize hZ : q2i l (q06 u) = Z at hcl ⊢;conv=>whnf
  refine LoopOb.m (σ:=Nat × List UInt8) (fun s=>[(1,.c (.rs a l.length cap)),(4,.c (.ptr 4 0)),(6,.c (.ptr 6 0)),(7,.c (.int .i64 s.1))])
    (fun s=>⟨[(6,b6),(4,b4)],[(6,[.many 32 (u8s s.2)],23),(4,[.many 32 (List.replicate 32 (Value.int .u8 0))],23)],[A]⟩)
    (fun s=>s.1 ≤ l.length ∧ s.2.length = 32 ∧ q2i (l.drop s.1) s.2 = Z) (fun s=>l.length - s.1) (0,q06 u) ⟨Nat.zero_le _,q1v u,hZ⟩ (Wk.m [6,4] [0] kk ⟨⟨kk,mok (q1v u) _,trivial⟩,⟨kk,⟨hz,hz2⟩,trivial⟩,trivial⟩ ⟨rfl,rfl⟩) ?_
  rintro ⟨i,r⟩ ⟨hi,hrl,hg⟩;dsimp only at hi hrl hg ⊢;(conv=>whnf);refine Cond.d (fun h2=>?_) (fun h2=>?_)
  · have hi' : i < l.length:=by omega
    have hk : l[i].length = 32:=hl _ (List.getElem_mem hi');have ed : l.drop i = l[i] :: l.drop (i + 1):=List.drop_eq_getElem_cons hi';rw [ed] at hg;have hA:=fun (h0 : (q00 l[i] r).2 ≠ 0)=>(q6x (k:=l[i]) (l:=l.drop (i + 1)) (r:=r) h0).symm.trans hg;have hB:=fun (h0 : (q00 l[i] r).2 = 0)=>(q6u (k:=l[i]) (l:=l.drop (i + 1)) (r:=r) h0).symm.trans hg;clear hg;(conv=>whnf);have hs7:=q8y l[i] r;have hsl:=q1y l[i] r;have hC:=fun B=>qdb B l[i] r hk hrl;generalize q00 l[i] r = y at hA hB hs7 hsl hC ⊢
    obtain ⟨y1,y2⟩:=y;dsimp only at hA hB hs7 hsl hC ⊢
    refine Draw.cut (σ:=Nat) (fun b=>[(1,.c (.rs a l.length cap)),(4,.c (.ptr 4 0)),(6,.c (.ptr 6 0)),(7,.c (.int .i64 i)),(8,.c (.ptr 8 0)),(9,.c (.int .i64 y2))])
      (fun b=>⟨[(8,b),(6,b6),(4,b4)],[(8,[.many 32 (u8s y1)],23),(6,[.many 32 (u8s r)],23),(4,[.many 32 (List.replicate 32 (Value.int .u8 0))],23)],[A]⟩) (fun _=>True) ?_ ?_
    · refine Draw.a (by kernel_rfl) tt_ok (Tv.of [0,1,2,3,4] (.two 5 (Tv.of [6,7,8,9,10,11] .nil) 9 (Tv.of [5,6,7,8,10,11] .nil))) 1000000 (by kernel_rfl) ?_;(conv=>whnf);refine ⟨by omega,PtrOb.rd (A:=A) (by simp) hr (by rw [q0k hl];omega) fun p hp=>?_⟩;subst hp;(conv=>whnf);refine ldk (A:=A) (l:=l) i (by simp) hr hl hi' rfl rfl rfl (by show _ + (i : Int).toNat * 32 = _;omega) ?_;(conv=>whnf);refine ⟨?_,?_⟩
      · (conv=>whnf);refine Cq.pu (hC _) rfl ?_;refine Sub.r [6,4] [0] ?_;(conv=>whnf);intro b8;refine Sub.r [6,4] [0] ?_;(conv=>whnf);refine Sub.r [6,4] [0] ?_;(conv=>whnf);exact ⟨b8,trivial,Wk.m [8,6,4] [0] kk ⟨⟨kk,mok hsl _,trivial⟩,⟨kk,mok hrl _,trivial⟩,⟨kk,⟨hz,hz2⟩,trivial⟩,trivial⟩ ⟨rfl,rfl⟩⟩
      · (conv=>whnf);intro b8;refine Sub.r [6,4] [0] ?_;(conv=>whnf);refine Cq.pu (hC _) rfl ?_;refine Sub.r [6,4] [0] ?_;(conv=>whnf);refine Sub.r [6,4] [0] ?_;(conv=>whnf);exact ⟨b8,trivial,Wk.m [8,6,4] [0] kk ⟨⟨kk,mok hsl _,trivial⟩,⟨kk,mok hrl _,trivial⟩,⟨kk,⟨hz,hz2⟩,trivial⟩,trivial⟩ ⟨rfl,rfl⟩⟩
    intro b8 _;(conv=>whnf);refine Cond.neI (fun h3=>?_) (fun h3=>?_)
    · rw [← hA h3];(conv=>whnf);exact Ret.m () [] [0] trivial rfl ⟨⟨mok q1h _,trivial⟩,trivial,trivial⟩ trivial ⟨rfl,rfl⟩
    · have hg:=hB h3;(conv=>whnf);refine Ar.i64 (by omega) ?_;(conv=>whnf);exact ⟨(i + 1,y1),⟨by dsimp only;omega,hsl,hg⟩,by dsimp only;omega,Wk.m [6,4] [0] kk ⟨⟨kk,mok hsl _,trivial⟩,⟨kk,⟨hz,hz2⟩,trivial⟩,trivial⟩ ⟨rfl,rfl⟩⟩
  obtain rfl : i = l.length:=by omega
  have e2 : Z = (r,0):=by rw [← hg,List.drop_length];rfl
  rw [e2];(conv=>whnf);exact Ret.m () [] [0] trivial rfl ⟨⟨mok hrl _,trivial⟩,trivial,trivial⟩ trivial ⟨rfl,rfl⟩
end
end Go.Proofs.YtfehjfoajlfhfaaGreatDoor
