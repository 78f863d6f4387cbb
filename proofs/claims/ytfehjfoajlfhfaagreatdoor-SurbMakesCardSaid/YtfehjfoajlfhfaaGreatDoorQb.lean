import Derived.Test.YtfehjfoajlfhfaaGreatDoorWc
namespace Go.Proofs.YtfehjfoajlfhfaaGreatDoor
open Go.Sx
set_option maxRecDepth 100000
set_option pp.deepTerms false
set_option pp.maxSteps 300
set_option linter.unusedSimpArgs false
set_option linter.unusedVariables false
section
theorem qeh (A R : HP) (hE : Ent A R) (a : Option Addr) (cap : Nat) (l : List UInt8) (hl : Bts R a cap l) (hs : l.length ≤ 1000000) :
    Con Tryz.prog 154 [.c (.rs a l.length cap)] [] [] A (fun x : Option Addr × Nat=>l.length ≤ x.2 ∧ (x.1 = none → l = [])) (fun x=>.c (.rs x.1 l.length x.2)) (fun _=>[]) (fun x=>[Own x.1 x.2 5 1 (u8s l)]):=by
  refine Con.of' tt_ok Tryz.func154 rfl (by decide) [.c (.rs a l.length cap)] [] [] rfl rfl trivial kk rfl ?_;(conv=>whnf);refine Cond.mk (fun h=>?_) (fun h=>?_)
  · (conv=>whnf);have h0 : l = []:=hl.2.2 (by simpa using h);subst h0;refine Ret.own0 5 1 ?_;exact Ret.m (none,0) [] [0,0] ⟨Nat.le_refl _,fun _=>rfl⟩ rfl kk trivial ⟨rfl,rfl⟩
  · (conv=>whnf);intro b;(conv=>whnf);refine With.own (i:=5) (n:=0) (cap:=0) (size:=1) ⟨_,_,rfl,⟨rfl,Nat.le_refl _⟩,?_⟩;refine q1a (a:=some ⟨b,0,none⟩) (n:=0) (cap:=0) (xs:=[]) (k:=l.length) (ys:=u8s l) (src:=.c (.rs a l.length cap)) (.refl _) rfl (by simp [u8s]) (Src.rs (A:=A) (by simp) (hl.1.ent hE)) (q0s l) (by simp;omega) (by omega) (by decide) 24 (.inr rfl) ?_;intro a' cap' hc hn;(conv=>whnf);simp only [Nat.zero_add,List.nil_append] at hc hn ⊢
    exact Ret.m (a',cap') [] [0,0] ⟨hc,fun e=>List.eq_nil_of_length_eq_zero (hn e)⟩ rfl kk trivial ⟨rfl,rfl⟩
structure WS where
  e : Int
  l : List UInt8
  room : Int
def WS.fail (s : WS) (k : Int) : WS × Int:=if s.e = 0 then ({ s with e:=k },k) else (s,s.e)
def WS.lay (s : WS) (b : List UInt8) : WS × Int:=if s.e = 0 then if (b.length : Int) > s.room - s.l.length then ({ s with e:=8 },8) else ({ s with l:=s.l ++ b },0) else (s,s.e)
def fitsN (n : Int) (size : Int) : Bool:=decide (1 ≤ size) && decide (size ≤ 8) && decide (n < 256 ^ size.toNat)
def beb (n : Int) : Nat → List UInt8
  | 0=>[]
  | k + 1=>by8 (n.fdiv (2 ^ (8 * k))) :: beb n k
theorem q5n (n : Int) (k : Nat) : (beb n k).length = k:=by induction k with
  | zero=>rfl
  | succ k ih=>simp [beb,ih]
def WS.num (s : WS) (n size : Int) : WS × Int:=if fitsN n size then s.lay (beb n size.toNat) else s.fail 2
def WS.fill (s : WS) (to : Int) : WS × Int:=if to < s.l.length then s.fail 2 else if to > s.room then s.fail 8 else s.lay (List.replicate (to - s.l.length).toNat 0)
def WS.all (s : WS) : List UInt8 × Int:=if s.e = 0 then (s.l,0) else ([],s.e)
abbrev wc (g : Nat) (m : SC) (s : WS) (a : Option Addr) (cap : Nat) : Cel:=(g,[.one m,.one (.int .i64 s.e),.one (.rs a s.l.length cap),.one (.int .i64 s.room)],242)
abbrev wo (s : WS) (a : Option Addr) (cap : Nat) : HP:=Own a cap 5 1 (u8s s.l)
abbrev wk (s : WS) (x : Option Addr × Nat) : Prop:=(s.l.length ≤ x.2 ∧ (x.1 = none → s.l = [])) ∧ (s.l.length : Int) ≤ s.room ∧ s.room ≤ 65536
abbrev wq (g : Nat) (m : SC) (s : WS) (x : Option Addr × Nat) : List Cel:=[wc g m s x.1 x.2]
abbrev wr (s : WS) (x : Option Addr × Nat) : List HP:=[wo s x.1 x.2]
abbrev Wr (g : Nat) (s : WS) : HP:=Box (wk s) (wq g .tt s) (wr s)
theorem qdy (A : HP) (room : Int) (h : 0 ≤ room ∧ room ≤ 65536) : Con Tryz.prog 135 [.c (.int .i64 room)] [] [] A (fun _ : Nat=>True) (fun g=>.c (.rp g 0)) (fun _=>[]) (fun g=>[Wr g ⟨0,[],room⟩]):=by
  refine Con.of' tt_ok Tryz.func135 rfl (by decide) [.c (.int .i64 room)] [] [] rfl rfl trivial kk rfl ?_;(conv=>whnf);refine Cond.d (fun h1=>absurd h1 (by omega)) (fun _=>?_);(conv=>whnf);refine Cond.d (fun h1=>absurd h1 (by omega)) (fun _=>?_);(conv=>whnf);intro b;(conv=>whnf);refine Ret.own0 5 1 ?_;(conv=>whnf);refine Ret.box (k:=wk ⟨0,[],room⟩) (Q:=wq b .tt ⟨0,[],room⟩) (R:=wr ⟨0,[],room⟩) [12] [0] (none,0) ⟨⟨Nat.le_refl _,fun _=>rfl⟩,h.1,h.2⟩ ⟨⟨rfl,rfl⟩,?_⟩;exact Ret.m b [] [0,0] trivial rfl trivial kk ⟨rfl,rfl⟩
theorem qqn (A : HP) (n size : Int) (hn : 0 ≤ n ∧ n < 18446744073709551616) : Pu Tryz.prog 169 [.c (.int .u64 n),.c (.int .i64 size)] A (.c (.bool (fitsN n size))):=by
  refine Con.of' tt_ok Tryz.func169 rfl (by decide) [.c (.int .u64 n),.c (.int .i64 size)] [] [] rfl rfl trivial kk rfl ?_;(conv=>whnf);refine Cond.d (fun h1=>?_) (fun h1=>?_)
  · (conv=>whnf);refine Cond.d (fun h2=>?_) (fun h2=>?_)
    · (conv=>whnf);refine Cond.eqI (fun h3=>?_) (fun h3=>?_)
      · (conv=>whnf);refine Ret.m () [] [0] trivial ?_ kk kk ⟨rfl,rfl⟩;subst h3
        simp [tupOf,SA.sv,ofValue,SV.den,SC.den,fitsN]
        omega
      · (conv=>whnf);refine Ar.i64 (by omega) ?_;(conv=>whnf);obtain ⟨k,rfl⟩ : ∃ k : Nat,size = k:=⟨size.toNat,by omega⟩;have hk : k ≤ 7:=by omega
        refine ⟨by omega,?_⟩;have e1 : (256 : Int) ^ k ≤ 256 ^ 7:=by exact_mod_cast (Nat.pow_le_pow_right (by decide) hk : 256 ^ k ≤ 256 ^ 7)
        have e2 : (2 : Int) ^ (min (8 * (k : Int)).toNat IntKind.u64.bits) = 256 ^ k:=by
          have : min (8 * (k : Int)).toNat IntKind.u64.bits = 8 * k:=by simp [IntKind.bits];omega
          rw [this,Int.pow_mul];rfl
        rw [e2]
        refine Ar.u64 (by have : (0 : Int) < 256 ^ k:=Int.pow_pos (by decide)
                          omega) ?_
        (conv=>whnf);refine Ret.m () [] [0] trivial ?_ kk kk ⟨rfl,rfl⟩
        simp [tupOf,SA.sv,ofValue,SV.den,SC.den,fitsN]
        omega
    · (conv=>whnf);refine Ret.m () [] [0] trivial ?_ kk kk ⟨rfl,rfl⟩
      simp [tupOf,SA.sv,ofValue,SV.den,SC.den,fitsN]
      omega
  · (conv=>whnf);refine Ret.m () [] [0] trivial ?_ kk kk ⟨rfl,rfl⟩
    simp [tupOf,SA.sv,ofValue,SV.den,SC.den,fitsN]
    omega
abbrev B1 (g : Nat) : Names:=[(1000,g)]
theorem qba (A : HP) (g : Nat) (s : WS) (a : Option Addr) (cap : Nat) : Con Tryz.prog 168 [.c (.rp g 0)] [wc g .tt s a cap] [] A (fun _ : Unit=>True) (fun _=>.c .tt) (fun _=>[wc g .tt s a cap]) (fun _=>[]):=by
  refine Con.of' tt_ok Tryz.func168 rfl (by decide) [.c (.ptr 1000 0)] (B1 g) [(1000,(wc 0 .tt s a cap).2)] rfl rfl kk kk rfl ?_;(conv=>whnf);exact Ret.m () [1000] [0] trivial rfl kk kk ⟨rfl,rfl⟩
theorem q7s (A : HP) (g : Nat) (s : WS) (a : Option Addr) (cap : Nat) (k : Int) : Con Tryz.prog 156 [.c (.rp g 0),.c (.int .i64 k)] [wc g .tt s a cap] [] A (fun _ : Unit=>True) (fun _=>.c (.int .i64 (s.fail k).2)) (fun _=>[wc g .tt (s.fail k).1 a cap]) (fun _=>[]):=by
  refine Con.of' tt_ok Tryz.func156 rfl (by decide) [.c (.ptr 1000 0),.c (.int .i64 k)] (B1 g) [(1000,(wc 0 .tt s a cap).2)] rfl rfl kk kk rfl ?_;(conv=>whnf);refine Cond.eqI (fun h=>?_) (fun h=>?_)
  · rw [show s.fail k = ({ s with e:=k },k) from if_pos h];(conv=>whnf);exact Ret.m () [1000] [0] trivial rfl kk kk ⟨rfl,rfl⟩
  · rw [show s.fail k = (s,s.e) from if_neg h];(conv=>whnf);exact Ret.m () [1000] [0] trivial rfl kk kk ⟨rfl,rfl⟩
theorem qil (A R : HP) (hE : Ent A R) (g : Nat) (s : WS) (x : Option Addr × Nat) (hk : wk s x) (ab : Option Addr) (cb : Nat) (b : List UInt8) (hb : Rd R ab (u8s b)) (hbl : b.length ≤ 1000000) :
    Con Tryz.prog 170 [.c (.rp g 0),.c (.rs ab b.length cb)] (wq g .tt s x) (wr s x) A (fun t : (Option Addr × Nat) × Unit=>wk (s.lay b).1 t.1 ∧ True) (fun _=>.c (.int .i64 (s.lay b).2)) (fun t=>wq g .tt (s.lay b).1 t.1) (fun t=>wr (s.lay b).1 t.1 ++ []):=by
  obtain ⟨a,cap⟩:=x;obtain ⟨⟨k1,k2⟩,k3,k4⟩:=hk;dsimp only at k1 k2;refine Con.of' tt_ok Tryz.func170 rfl (by decide) [.c (.ptr 1000 0),.c (.rs ab b.length cb)] (B1 g) [(1000,(wc 0 .tt s a cap).2)] rfl rfl kk kk rfl ?_;(conv=>whnf);refine Draw.quiet (by kernel_rfl) tt_ok (List.range 21) (by kernel_rfl) ?_;(conv=>whnf);refine Cond.eqI (fun h=>?_) (fun h=>?_)
  · (conv=>whnf);refine Ar.i64 (by omega) ?_;(conv=>whnf);refine Cond.d (fun h2=>?_) (fun h2=>?_)
    · have e : s.fail 8 = s.lay b:=by unfold WS.fail WS.lay;rw [if_pos h,if_pos h,if_pos h2]
      (conv=>whnf);refine Cq.by' [1000] [] (q7s _ g s a cap 8) rfl ⟨rfl,rfl,rfl,fun x1 hx1=>⟨rfl,?_⟩⟩
      rw [e];conv=>whnf
      have el : (s.lay b).1 = { s with e:=8 }:=by unfold WS.lay;rw [if_pos h,if_pos h2]
      refine Ret.m ((a,cap),()) [1000] [0,0] ⟨?_,trivial⟩ rfl kk kk ⟨rfl,?_⟩
      · rw [el];exact ⟨⟨k1,k2⟩,k3,k4⟩
      · rw [el];rfl
    · have e : s.lay b = ({ s with l:=s.l ++ b },0):=by unfold WS.lay;rw [if_pos h,if_neg h2]
      rw [e];(conv=>whnf);refine Cond.eqI (fun _=>?_) (fun h'=>absurd h h');(conv=>whnf);refine q1w (a:=a) (n:=s.l.length) (cap:=cap) (l:=s.l) (k:=b.length) (m:=b) (src:=.c (.rs ab b.length cb)) (.refl _) rfl rfl (Src.rs (A:=A) (by simp) (hb.ent hE)) ⟨rfl,rfl⟩ (by omega) 24 (.inr rfl) ?_;intro a' c' hc hn;(conv=>whnf);have el : (s.l ++ b).length = s.l.length + b.length:=List.length_append
      refine Ret.m ((a',c'),()) [1000] [0,0] ⟨⟨⟨by dsimp only;omega,fun hz=>List.eq_nil_of_length_eq_zero (by dsimp only;rw [el];exact hn hz)⟩,by dsimp only;omega,k4⟩,trivial⟩ ?_ kk kk ⟨?_,rfl⟩
      · show Value.int .i64 s.e = Value.int .i64 0;rw [h]
      · simp [Chunk.p,Cel.p,bl,dens,Seg.den,SC.den]
  · have e : s.lay b = (s,s.e):=by unfold WS.lay;rw [if_neg h]
    rw [e];(conv=>whnf);refine Cond.eqI (fun h'=>absurd h' h) (fun _=>?_);(conv=>whnf);exact Ret.m ((a,cap),()) [1000] [0,0] ⟨⟨⟨k1,k2⟩,k3,k4⟩,trivial⟩ rfl kk kk ⟨rfl,rfl⟩
end
section
structure NS where
  k : Nat
  l : List UInt8
  a : Option Addr
  cap : Nat
theorem qcq (s : WS) (k : Int) : (s.fail k).1.l = s.l ∧ (s.fail k).1.room = s.room:=by unfold WS.fail;split <;> exact ⟨rfl,rfl⟩
theorem qdo {s : WS} {x : Option Addr × Nat} (h : wk s x) (k : Int) : wk (s.fail k).1 x:=by
  unfold wk at *;rw [(qcq s k).1,(qcq s k).2];exact h
theorem qlr {n size : Int} (h : fitsN n size = true) : 1 ≤ size ∧ size ≤ 8:=by simp [fitsN] at h;omega
theorem qi6 (A : HP) (g : Nat) (s : WS) (n size : Int) (hn : 0 ≤ n ∧ n < 18446744073709551616) :
    Con Tryz.prog 136 [.c (.rp g 0),.c (.int .u64 n),.c (.int .i64 size)] [] [Wr g s] A (fun _ : Unit=>True) (fun _=>.c (.int .i64 (s.num n size).2)) (fun _=>[]) (fun _=>[Wr g (s.num n size).1]):=by
  refine Con.box (Runs.of Tryz.func136 rfl (by decide)) ?_;rintro ⟨a,cap⟩ hk;refine Con.of' tt_ok Tryz.func136 rfl (by decide) [.c (.ptr 1000 0),.c (.int .u64 n),.c (.int .i64 size)] (B1 g) [(1000,(wc 0 .tt s a cap).2)] rfl rfl kk kk rfl ?_;(conv=>whnf);refine Cq.by' [1000] [] (qba _ g s a cap) rfl ⟨rfl,rfl,rfl,fun _ _=>⟨rfl,?_⟩⟩
  (conv=>whnf);refine Cq.pu (qqn _ n size hn) rfl ?_;(conv=>whnf);refine Cond.not (Cond.mk (fun hf=>?_) (fun hf=>?_))
  case refine_2 =>
    have e : s.num n size = s.fail 2:=by unfold WS.num;rw [hf];rfl
    rw [e];(conv=>whnf);refine Cq.by' [1000] [] (q7s _ g s a cap 2) rfl ⟨rfl,rfl,rfl,fun x1 hx1=>⟨rfl,?_⟩⟩
    (conv=>whnf);refine Ret.m ((a,cap),()) [1000] [0,0] ⟨qdo hk 2,trivial⟩ rfl kk kk ⟨rfl,?_⟩;show [Own a cap 5 1 (u8s s.l),A] = [Own a cap 5 1 (u8s (s.fail 2).1.l),A];rw [(qcq s 2).1]
  have e : s.num n size = s.lay (beb n size.toNat):=by unfold WS.num;rw [hf];rfl
  rw [e];have hs:=qlr hf;obtain ⟨z,rfl⟩ : ∃ k : Nat,size = k:=⟨size.toNat,by omega⟩;rw [Int.toNat_natCast];(conv=>whnf);refine Ar.i64 (by omega) ?_;conv=>whnf
  refine LoopOb.m (σ:=NS) (fun s=>[(0,.c (.ptr 1000 0)),(1,.c (.int .u64 n)),(7,.c (.rs s.a s.l.length s.cap)),(8,.c (.int .i64 ((s.k : Int) - 1)))])
    (fun q=>⟨B1 g,[(1000,(wc 0 .tt s a cap).2)],[Own q.a q.cap 5 1 (u8s q.l),wo s a cap,A]⟩)
    (fun s=>s.k ≤ 8 ∧ s.l.length ≤ 8 ∧ s.l ++ beb n s.k = beb n z ∧ (s.l.length ≤ s.cap ∧ (s.a = none → s.l = []))) (fun s=>s.k) ⟨z,[],none,0⟩ ⟨by dsimp only;omega,by simp,rfl,by simp⟩ ?_ ?_
  · refine Wk.own0 5 1 ?_;exact Wk.m [1000] [0,0,0] ⟨⟨rfl,trivial⟩,⟨rfl,trivial⟩,⟨rfl,trivial⟩,⟨rfl,trivial⟩,trivial⟩ kk ⟨rfl,rfl⟩
  rintro ⟨k,l',a',cap'⟩ ⟨hk8,hle,hb,hc⟩;dsimp only at hk8 hle hb hc ⊢;(conv=>whnf);refine Cond.d (fun h=>?_) (fun h=>?_)
  · obtain ⟨k,rfl⟩ : ∃ j,k = j + 1:=⟨k - 1,by omega⟩;(conv=>whnf);refine Ar.i64 (by omega) ?_;(conv=>whnf);refine ⟨by omega,?_⟩;refine Ar.wr ?_;(conv=>whnf);intro b18;(conv=>whnf);have e8 : min (8 * (((k + 1 : Nat) : Int) - 1)).toNat IntKind.u64.bits = 8 * k:=by simp [IntKind.bits];omega
    refine q1w (a:=a') (n:=l'.length) (cap:=cap') (l:=l') (k:=1) (m:=[by8 (n.fdiv (2 ^ (8 * k)))]) (src:=.c (.slc 32 0 1 1)) (.refl _) rfl rfl
      (by rw [← e8];simp only [qc7,qiy];exact Src.slc (Exists.intro [] rfl)) ⟨rfl,rfl⟩ (by omega) 24 (.inr rfl) ?_
    intro a2 c2 hc2 hn2;(conv=>whnf);refine Ar.i64 (by omega) ?_;(conv=>whnf);refine ⟨⟨k,l' ++ [by8 (n.fdiv (2 ^ (8 * k)))],a2,c2⟩,⟨by dsimp only;omega,?_,?_,by simp;omega,fun h=>absurd (hn2 h) (by omega)⟩,by dsimp only;omega,Wk.m [1000] [0,0,0] ⟨⟨rfl,trivial⟩,⟨rfl,trivial⟩,⟨?_,trivial⟩,⟨?_,trivial⟩,trivial⟩ kk ⟨rfl,rfl⟩⟩
    · have e:=congrArg List.length hb;simp only [List.length_append,q5n] at e
      simp;omega
    · rw [← hb];simp [beb]
    · show Value.slice a2 (l'.length + 1) c2 = Value.slice a2 (l' ++ [by8 (n.fdiv (2 ^ (8 * k)))]).length c2;rw [List.length_append];rfl
    · show Value.int .i64 (((k + 1 : Nat) : Int) - 1 - 1) = Value.int .i64 ((k : Int) - 1);congr 1;omega
  · have h0 : k = 0:=by omega
    subst h0;simp only [beb,List.append_nil] at hb;subst hb;(conv=>whnf);refine Cq.by' [1000] [1] (qil _ _ (Ent.a (by simp;left;rfl)) g s (a,cap) hk a' cap' (beb n z) Own.rd (by omega)) rfl ⟨rfl,rfl,rfl,fun x1 hx1=>⟨rfl,?_⟩⟩
    (conv=>whnf);exact Ret.m x1 [1000] [0,1] hx1 rfl kk kk ⟨rfl,rfl⟩
theorem qkn (A R : HP) (hE : Ent A R) (g : Nat) (s : WS) (ab : Option Addr) (cb : Nat) (b : List UInt8) (hb : Rd R ab (u8s b)) (hbl : b.length ≤ 1000000) :
    Con Tryz.prog 137 [.c (.rp g 0),.c (.rs ab b.length cb)] [] [Wr g s] A (fun _ : Unit=>True) (fun _=>.c (.int .i64 (s.lay b).2)) (fun _=>[]) (fun _=>[Wr g (s.lay b).1]):=by
  refine Con.box (Runs.of Tryz.func137 rfl (by decide)) ?_;rintro ⟨a,cap⟩ hk;refine Con.of' tt_ok Tryz.func137 rfl (by decide) [.c (.ptr 1000 0),.c (.rs ab b.length cb)] (B1 g) [(1000,(wc 0 .tt s a cap).2)] rfl rfl kk kk rfl ?_;(conv=>whnf);refine Cq.by' [1000] [] (qba _ g s a cap) rfl ⟨rfl,rfl,rfl,fun _ _=>⟨rfl,?_⟩⟩
  (conv=>whnf);refine Cq.by' [1000] [0] (qil _ R ((Ent.a (by simp)).trans hE) g s (a,cap) hk ab cb b hb hbl) rfl ⟨rfl,rfl,rfl,fun x1 hx1=>⟨rfl,?_⟩⟩
  (conv=>whnf);exact Ret.m x1 [1000] [0,0] hx1 rfl kk kk ⟨rfl,rfl⟩
theorem qnv (A : HP) (g : Nat) (s : WS) (to : Int) :
    Con Tryz.prog 138 [.c (.rp g 0),.c (.int .i64 to)] [] [Wr g s] A (fun _ : Unit=>True) (fun _=>.c (.int .i64 (s.fill to).2)) (fun _=>[]) (fun _=>[Wr g (s.fill to).1]):=by
  refine Con.box (Runs.of Tryz.func138 rfl (by decide)) ?_;rintro ⟨a,cap⟩ hk;refine Con.of' tt_ok Tryz.func138 rfl (by decide) [.c (.ptr 1000 0),.c (.int .i64 to)] (B1 g) [(1000,(wc 0 .tt s a cap).2)] rfl rfl kk kk rfl ?_;(conv=>whnf);refine Cq.by' [1000] [] (qba _ g s a cap) rfl ⟨rfl,rfl,rfl,fun _ _=>⟨rfl,?_⟩⟩
  (conv=>whnf);refine Cond.d (fun h=>?_) (fun h=>?_)
  · rw [show s.fill to = s.fail 2 from if_pos h];(conv=>whnf);refine Cq.by' [1000] [] (q7s _ g s a cap 2) rfl ⟨rfl,rfl,rfl,fun x1 hx1=>⟨rfl,?_⟩⟩
    (conv=>whnf);refine Ret.m ((a,cap),()) [1000] [0,0] ⟨qdo hk 2,trivial⟩ rfl kk kk ⟨rfl,?_⟩;show [Own a cap 5 1 (u8s s.l),A] = [Own a cap 5 1 (u8s (s.fail 2).1.l),A];rw [(qcq s 2).1]
  (conv=>whnf);refine Cond.d (fun h2=>?_) (fun h2=>?_)
  · rw [show s.fill to = s.fail 8 by unfold WS.fill;rw [if_neg h,if_pos h2]];(conv=>whnf);refine Cq.by' [1000] [] (q7s _ g s a cap 8) rfl ⟨rfl,rfl,rfl,fun x1 hx1=>⟨rfl,?_⟩⟩
    (conv=>whnf);refine Ret.m ((a,cap),()) [1000] [0,0] ⟨qdo hk 8,trivial⟩ rfl kk kk ⟨rfl,?_⟩;show [Own a cap 5 1 (u8s s.l),A] = [Own a cap 5 1 (u8s (s.fail 8).1.l),A];rw [(qcq s 8).1]
  have e : s.fill to = s.lay (List.replicate (to - s.l.length).toNat 0):=by unfold WS.fill;rw [if_neg h,if_neg h2]
  obtain ⟨z,hz⟩ : ∃ k : Nat,to - s.l.length = k:=⟨(to - s.l.length).toNat,by omega⟩;rw [hz,Int.toNat_natCast] at e;rw [e];have hk4:=hk.2.2;(conv=>whnf);refine Ar.i64 (by omega) ?_;rw [hz];(conv=>whnf);refine ⟨⟨by omega,by omega,by omega,by simp;omega⟩,?_⟩;intro b40;(conv=>whnf);have ez : u8s (List.replicate z 0) = List.replicate z (.int .u8 0):=by simp [u8s,u8]
  have hB : Rd (blk b40 (.cells (List.replicate z (Value.int .u8 0) ++ []).toArray 5)) (some (radr (b40,0))) (u8s (List.replicate z 0)):=by
    rw [ez];exact q1p
  refine Cq.by' [1000] [0] (qil _ _ (Ent.a List.mem_cons_self) g s (a,cap) hk (some (radr (b40,0))) z (List.replicate z 0) hB (by simp;omega)) (by rw [List.length_replicate];rfl) ⟨rfl,rfl,rfl,fun x1 hx1=>⟨rfl,?_⟩⟩
  (conv=>whnf);exact Ret.m x1 [1000] [0,0] hx1 rfl kk kk ⟨rfl,rfl⟩
theorem qrd (A : HP) (g : Nat) (s : WS) :
    Con Tryz.prog 139 [.c (.rp g 0)] [] [Wr g s] A (fun x : Option Addr × Nat=>s.all.1.length ≤ x.2 ∧ (x.1 = none → s.all.1 = [])) (fun x=>.tup [.c (.rs x.1 s.all.1.length x.2),.c (.int .i64 s.all.2)]) (fun _=>[]) (fun x=>[Wr g s,Own x.1 x.2 5 1 (u8s s.all.1)]):=by
  refine Con.box (Runs.of Tryz.func139 rfl (by decide)) ?_;rintro ⟨a,cap⟩ hk;have hk4:=hk.2;refine Con.of' tt_ok Tryz.func139 rfl (by decide) [.c (.ptr 1000 0)] (B1 g) [(1000,(wc 0 .tt s a cap).2)] rfl rfl kk kk rfl ?_;(conv=>whnf);refine Cq.by' [1000] [] (qba _ g s a cap) rfl ⟨rfl,rfl,rfl,fun _ _=>⟨rfl,?_⟩⟩
  (conv=>whnf);refine Cond.neI (fun h=>?_) (fun h=>?_)
  · rw [show s.all = ([],s.e) from if_neg h];(conv=>whnf);refine Draw.quiet (by kernel_rfl) tt_ok [5,0,1,2,3,4,6] (by kernel_rfl) ?_;(conv=>whnf);refine Ret.own0 5 1 ?_;exact Ret.m ((a,cap),none,0) [1000] [1,0,0] ⟨hk,Nat.le_refl _,fun _=>rfl⟩ rfl kk kk ⟨rfl,rfl⟩
  · rw [show s.all = (s.l,0) from if_pos h];(conv=>whnf);refine Cq.by' [] [] (qeh _ (wo s a cap) (Ent.a (by simp [M.props])) a cap s.l ⟨Own.rd,hk.1⟩ (by omega)) rfl ⟨rfl,rfl,rfl,fun x1 hx1=>⟨rfl,?_⟩⟩
    (conv=>whnf);exact Ret.m ((a,cap),x1) [1000] [1,0,0] ⟨hk,hx1⟩ rfl kk kk ⟨rfl,rfl⟩
end
section
structure Cmd where
  k : Int
  n : Int
  d : Int
  id : List UInt8
  deriving DecidableEq
abbrev Cmd.sg (c : Cmd) : List Seg:=[.one (.int .i64 c.k),.one (.int .i64 c.n),.one (.int .i64 c.d),.many 8 (u8s c.id)]
def id0 : List UInt8:=List.replicate 8 0
def cmd0 : Cmd:=⟨0,0,0,id0⟩
def Cmd.user (c : Cmd) : Bool:=decide (c.n ≥ 0) && decide (c.n < 8)
def Cmd.bare (c : Cmd) : Bool:=decide (c.d = 0) && decide (c.id = id0)
def Cmd.may (c : Cmd) : Bool :=
  if c.k = 1 then decide (c.n ≥ 0) && decide (c.n < 16) && decide (c.d ≥ 0) && decide (c.d ≤ 64) && decide (c.id = id0)
  else if c.k = 2 then c.user && c.bare
  else if c.k = 3 then c.user && decide (c.d = 0)
  else if c.k = 4 then decide (c.n = 0) && c.bare
  else false
theorem qj7 : Fits Tryz.prog (.barr 8) 27 = true:=by simp only [Fits,Tryz.underlying27,Tryz.underlying5];kernel_rfl
theorem key8 : Tryz.prog.keyTypeAt 5 27 = true:=by kernel_rfl
theorem grd8 : Tryz.prog.eqGuardType Tryz.prog.depth 27 = false:=by kernel_rfl
theorem q31 {n : Nat} {l : List UInt8} (h : l.length = n) (R : HP) : Go.Sx.Good R (.barr n) l (u8s l):=⟨h,rfl⟩
theorem q4k (n : Nat) : u8s (List.replicate n 0) = List.replicate n (.int .u8 0):=by simp [u8s,u8]
theorem eq_id {l m : List UInt8} {xs ys : List Value} {f : Bool → Prop} (hl : l.length = 8) (hm : m.length = 8) (ex : xs = u8s l) (ey : ys = u8s m) (h : f (decide (l = m))) : EqAgg Tryz.prog 27 xs ys f:=by
  subst ex ey;refine qfo (s:=.barr 8) (R:=fun _=>True) (R':=fun _=>True) ⟨.unit,.unit,.inr ⟨8,.inl rfl⟩⟩ rfl qj7 key8 (by decide) grd8 (q31 hl _) (q31 hm _) fun b hb=>?_
  have : b = decide (l = m):=by
    cases b with
    | true=>rw [decide_eq_true (hb.1 rfl)]
    | false=>rw [decide_eq_false (fun e=>by cases hb.2 e)]
  rw [this];exact h
theorem qnj (A : HP) (c : Cmd) (hk8 : c.id.length = 8) : Pu Tryz.prog 133 [.agg c.sg] A (.c (.bool c.user)):=by
  have hk:=mok hk8;refine Con.of' tt_ok Tryz.func133 rfl (by decide) [.agg c.sg] [] [] rfl rfl trivial (by repeat' (first | exact trivial | rfl | exact hk _ | apply And.intro)) rfl ?_;(conv=>whnf);intro b1;(conv=>whnf);refine Cond.d (fun h=>?_) (fun h=>?_)
  · (conv=>whnf);exact Ret.m () [] [0] trivial (by simp [tupOf,SA.sv,ofValue,SV.den,SC.den,Cmd.user,h]) kk kk ⟨rfl,rfl⟩
  · (conv=>whnf);exact Ret.m () [] [0] trivial (by simp [tupOf,SA.sv,ofValue,SV.den,SC.den,Cmd.user,h]) kk kk ⟨rfl,rfl⟩
theorem qms (A : HP) (c : Cmd) (hk8 : c.id.length = 8) : Pu Tryz.prog 134 [.agg c.sg] A (.c (.bool c.bare)):=by
  have hk:=mok hk8;refine Con.of' tt_ok Tryz.func134 rfl (by decide) [.agg c.sg] [] [] rfl rfl trivial (by repeat' (first | exact trivial | rfl | exact hk _ | apply And.intro)) rfl ?_;(conv=>whnf);intro b1;(conv=>whnf);refine Cond.eqI (fun h=>?_) (fun h=>?_)
  · (conv=>whnf);refine eq_id (l:=c.id) (m:=id0) hk8 rfl (List.append_nil _) rfl ?_;(conv=>whnf);exact Ret.m () [] [0] trivial (by simp [tupOf,SA.sv,ofValue,SV.den,SC.den,Cmd.bare,h]) kk kk ⟨rfl,rfl⟩
  · (conv=>whnf);exact Ret.m () [] [0] trivial (by simp [tupOf,SA.sv,ofValue,SV.den,SC.den,Cmd.bare,h]) kk kk ⟨rfl,rfl⟩
theorem may_c (A : HP) (c : Cmd) (hk8 : c.id.length = 8) : Pu Tryz.prog 99 [.agg c.sg] A (.c (.bool c.may)):=by
  have hk:=mok hk8;refine Con.of' tt_ok Tryz.func99 rfl (by decide) [.agg c.sg] [] [] rfl rfl trivial (by repeat' (first | exact trivial | rfl | exact hk _ | apply And.intro)) rfl ?_;(conv=>whnf);intro b1;(conv=>whnf);refine Cond.eqI (fun h=>?_) (fun h=>?_)
  · (conv=>whnf);refine Cond.d (fun h1=>?_) (fun h1=>?_)
    · (conv=>whnf);refine Cond.d (fun h2=>?_) (fun h2=>?_)
      · (conv=>whnf);refine Cond.d (fun h3=>?_) (fun h3=>?_)
        · (conv=>whnf);refine Cond.d (fun h4=>?_) (fun h4=>?_)
          · (conv=>whnf);refine eq_id (l:=c.id) (m:=id0) hk8 rfl (List.append_nil _) rfl ?_;(conv=>whnf);exact Ret.m () [] [0] trivial (by simp [tupOf,SA.sv,ofValue,SV.den,SC.den,Cmd.may,h,h1,h2,h3,h4]) kk kk ⟨rfl,rfl⟩
          · (conv=>whnf);exact Ret.m () [] [0] trivial (by simp [tupOf,SA.sv,ofValue,SV.den,SC.den,Cmd.may,h,h1,h2,h3,h4]) kk kk ⟨rfl,rfl⟩
        · (conv=>whnf);exact Ret.m () [] [0] trivial (by simp [tupOf,SA.sv,ofValue,SV.den,SC.den,Cmd.may,h,h1,h2,h3]) kk kk ⟨rfl,rfl⟩
      · (conv=>whnf);exact Ret.m () [] [0] trivial (by simp [tupOf,SA.sv,ofValue,SV.den,SC.den,Cmd.may,h,h1,h2]) kk kk ⟨rfl,rfl⟩
    · (conv=>whnf);exact Ret.m () [] [0] trivial (by simp [tupOf,SA.sv,ofValue,SV.den,SC.den,Cmd.may,h,h1]) kk kk ⟨rfl,rfl⟩
  (conv=>whnf);refine Cond.eqI (fun h2=>?_) (fun h2=>?_)
  · have e : c.may = (c.user && c.bare):=by unfold Cmd.may;rw [if_neg h,if_pos h2]
    rw [e];(conv=>whnf);refine Cq.pu (qnj _ c hk8) rfl ?_;(conv=>whnf);refine Cond.mk (fun hu=>?_) (fun hu=>?_)
    · (conv=>whnf);refine Cq.pu (qms _ c hk8) rfl ?_;(conv=>whnf);exact Ret.m () [] [0] trivial (by rw [hu];rfl) kk kk ⟨rfl,rfl⟩
    · (conv=>whnf);exact Ret.m () [] [0] trivial (by rw [hu];rfl) kk kk ⟨rfl,rfl⟩
  (conv=>whnf);refine Cond.eqI (fun h3=>?_) (fun h3=>?_)
  · have e : c.may = (c.user && decide (c.d = 0)):=by unfold Cmd.may;rw [if_neg h,if_neg h2,if_pos h3]
    rw [e];(conv=>whnf);refine Cq.pu (qnj _ c hk8) rfl ?_;(conv=>whnf);refine Cond.mk (fun hu=>?_) (fun hu=>?_)
    · (conv=>whnf);exact Ret.m () [] [0] trivial (by simp [tupOf,SA.sv,ofValue,SV.den,SC.den,hu];exact Bool.beq_eq_decide_eq _ _) kk kk ⟨rfl,rfl⟩
    · (conv=>whnf);exact Ret.m () [] [0] trivial (by rw [hu];rfl) kk kk ⟨rfl,rfl⟩
  (conv=>whnf);refine Cond.eqI (fun h4=>?_) (fun h4=>?_)
  · have e : c.may = (decide (c.n = 0) && c.bare):=by unfold Cmd.may;rw [if_neg h,if_neg h2,if_neg h3,if_pos h4]
    rw [e];(conv=>whnf);refine Cond.eqI (fun h5=>?_) (fun h5=>?_)
    · (conv=>whnf);refine Cq.pu (qms _ c hk8) rfl ?_;(conv=>whnf);exact Ret.m () [] [0] trivial (by simp [tupOf,SA.sv,ofValue,SV.den,SC.den,h5]) kk kk ⟨rfl,rfl⟩
    · (conv=>whnf);exact Ret.m () [] [0] trivial (by simp [tupOf,SA.sv,ofValue,SV.den,SC.den,h5]) kk kk ⟨rfl,rfl⟩
  · have e : c.may = false:=by unfold Cmd.may;rw [if_neg h,if_neg h2,if_neg h3,if_neg h4]
    rw [e];(conv=>whnf);exact Ret.m () [] [0] trivial rfl kk kk ⟨rfl,rfl⟩
def Cmd.bytes (c : Cmd) : List UInt8:=beb c.k 1 ++ beb c.n 1 ++ beb c.d 2 ++ c.id ++ [0,0,0,0]
theorem qj0 {s : WS} {b : List UInt8} (h : s.e = 0) (hb : (b.length : Int) ≤ s.room - s.l.length) : s.lay b = ({ s with l:=s.l ++ b },0):=by
  unfold WS.lay;rw [if_pos h,if_neg (by omega)]
theorem qhv {s : WS} {n : Int} {k : Nat} (h : s.e = 0) (hf : fitsN n k = true) (hb : (k : Int) ≤ s.room - s.l.length) : s.num n k = ({ s with l:=s.l ++ beb n k },0):=by
  unfold WS.num;rw [hf,Int.toNat_natCast];exact qj0 h (by rw [q5n];exact hb)
theorem Cmd.may_le {c : Cmd} (h : c.may = true) : (1 ≤ c.k ∧ c.k ≤ 4) ∧ (0 ≤ c.n ∧ c.n < 16) ∧ 0 ≤ c.d ∧ c.d ≤ 64:=by
  unfold Cmd.may Cmd.user Cmd.bare at h
  repeat' split at h
  all_goals simp at h
  all_goals omega
def Cmd.enc (c : Cmd) : List UInt8 × Int:=if c.may then (c.bytes,0) else (List.replicate 16 0,2)
theorem Cmd.bytes_len {c : Cmd} (h : c.id.length = 8) : c.bytes.length = 16:=by simp [Cmd.bytes,q5n,h]
theorem Cmd.enc_len {c : Cmd} (h : c.id.length = 8) : c.enc.1.length = 16:=by
  unfold Cmd.enc;split
  · exact Cmd.bytes_len h
  · simp
end
section
theorem fits1 {n : Int} (h : 0 ≤ n ∧ n < 256) : fitsN n (1 : Nat) = true:=by simp [fitsN];omega
theorem fits2 {n : Int} (h : 0 ≤ n ∧ n < 65536) : fitsN n (2 : Nat) = true:=by simp [fitsN];omega
theorem qmf (A : HP) (c : Cmd) (hk8 : c.id.length = 8) : Pu Tryz.prog 101 [.agg c.sg] A (.tup [.agg [.many 16 (u8s c.enc.1)],.c (.int .i64 c.enc.2)]):=by
  have hk:=mok hk8;have hk16:=mok (Cmd.enc_len hk8);refine Con.of' tt_ok Tryz.func101 rfl (by decide) [.agg c.sg] [] [] rfl rfl trivial (by repeat' (first | exact trivial | rfl | exact hk _ | apply And.intro)) rfl ?_;(conv=>whnf);intro b1;(conv=>whnf);intro b2;(conv=>whnf);refine Cq.pu (may_c _ c hk8) rfl ?_;(conv=>whnf);refine Cond.not (Cond.mk (fun hm=>?_) (fun hm=>?_))
  case refine_2 =>
    have e : c.enc = (List.replicate 16 0,2):=by unfold Cmd.enc;rw [hm];rfl
    rw [e] at hk16 ⊢;(conv=>whnf);exact Ret.m () [] [0] trivial (by rw [q4k];rfl) ⟨⟨hk16 _,trivial⟩,trivial,trivial⟩ kk ⟨rfl,rfl⟩
  have e : c.enc = (c.bytes,0):=by unfold Cmd.enc;rw [hm];rfl
  have hb:=Cmd.bytes_len hk8;have hle:=Cmd.may_le hm;rw [e] at hk16 ⊢;(conv=>whnf);refine Cq.by' [] [] (qdy _ 16 (by decide)) rfl ⟨rfl,rfl,rfl,fun g _=>⟨rfl,?_⟩⟩
  (conv=>whnf);refine Ar.u64 (by omega) ?_;(conv=>whnf);refine Cq.by' [] [0] (qi6 _ g ⟨0,[],16⟩ c.k 1 (by omega)) rfl ⟨rfl,rfl,rfl,fun _ _=>⟨rfl,?_⟩⟩
  have e1 : (⟨0,[],16⟩ : WS).num c.k 1 = (⟨0,beb c.k 1,16⟩,0):=qhv (s:=⟨0,[],16⟩) (k:=1) rfl (fits1 (by omega)) (by decide);rw [e1];(conv=>whnf);refine Ar.u64 (by omega) ?_;(conv=>whnf);refine Cq.by' [] [0] (qi6 _ g ⟨0,beb c.k 1,16⟩ c.n 1 (by omega)) rfl ⟨rfl,rfl,rfl,fun _ _=>⟨rfl,?_⟩⟩
  have e2 : (⟨0,beb c.k 1,16⟩ : WS).num c.n 1 = (⟨0,beb c.k 1 ++ beb c.n 1,16⟩,0):=qhv (s:=⟨0,beb c.k 1,16⟩) (k:=1) rfl (fits1 (by omega)) (by simp [q5n]);rw [e2];(conv=>whnf);refine Ar.u64 (by omega) ?_;(conv=>whnf);refine Cq.by' [] [0] (qi6 _ g ⟨0,beb c.k 1 ++ beb c.n 1,16⟩ c.d 2 (by omega)) rfl ⟨rfl,rfl,rfl,fun _ _=>⟨rfl,?_⟩⟩
  have e3 : (⟨0,beb c.k 1 ++ beb c.n 1,16⟩ : WS).num c.d 2 = (⟨0,beb c.k 1 ++ beb c.n 1 ++ beb c.d 2,16⟩,0):=qhv (s:=⟨0,beb c.k 1 ++ beb c.n 1,16⟩) (k:=2) rfl (fits2 (by omega)) (by simp [q5n]);rw [e3];(conv=>whnf);have hR : Rd (blk b1 (.cells ([Value.int .i64 c.k,.int .i64 c.n,.int .i64 c.d] ++ (u8s c.id ++ [])).toArray 29)) (some (radr (b1,3))) (u8s c.id):=rd_at rfl
  refine Cq.by' [] [0] (qkn _ _ (Ent.a (List.mem_cons_of_mem _ List.mem_cons_self)) g ⟨0,beb c.k 1 ++ beb c.n 1 ++ beb c.d 2,16⟩ (some (radr (b1,3))) 8 c.id hR (by omega)) (by rw [hk8];rfl) ⟨rfl,rfl,rfl,fun _ _=>⟨rfl,?_⟩⟩
  have e4 : (⟨0,beb c.k 1 ++ beb c.n 1 ++ beb c.d 2,16⟩ : WS).lay c.id = (⟨0,beb c.k 1 ++ beb c.n 1 ++ beb c.d 2 ++ c.id,16⟩,0):=qj0 (s:=⟨0,beb c.k 1 ++ beb c.n 1 ++ beb c.d 2,16⟩) rfl (by simp [q5n,hk8]);rw [e4];(conv=>whnf);refine Cq.by' [] [0] (qnv _ g ⟨0,beb c.k 1 ++ beb c.n 1 ++ beb c.d 2 ++ c.id,16⟩ 16) rfl ⟨rfl,rfl,rfl,fun _ _=>⟨rfl,?_⟩⟩
  have e5 : (⟨0,beb c.k 1 ++ beb c.n 1 ++ beb c.d 2 ++ c.id,16⟩ : WS).fill 16 = (⟨0,c.bytes,16⟩,0):=by
    have hl : (beb c.k 1 ++ beb c.n 1 ++ beb c.d 2 ++ c.id).length = 12:=by simp [q5n,hk8]
    unfold WS.fill;rw [if_neg (by dsimp only;omega),if_neg (by show ¬ (16 : Int) > 16;decide),qj0 rfl (by dsimp only;rw [hl];decide)];dsimp only;rw [hl];rfl
  rw [e5];(conv=>whnf);refine Cq.by' [] [0] (qrd _ g ⟨0,c.bytes,16⟩) rfl ⟨rfl,rfl,rfl,fun x1 hx1=>⟨rfl,?_⟩⟩
  rw [show (⟨0,c.bytes,16⟩ : WS).all = (c.bytes,0) from rfl] at hx1 ⊢;(conv=>whnf);refine Cond.neI (fun h=>absurd rfl h) (fun _=>?_);(conv=>whnf);refine ⟨by dsimp only;omega,?_⟩;refine PtrOb.rd (A:=Own x1.1 x1.2 5 1 (u8s c.bytes)) (by simp) Own.rd (by rw [u8l];omega) fun p hp=>?_;obtain ⟨xa,xc⟩:=x1;dsimp only at hp hx1 ⊢;subst hp;(conv=>whnf);refine lds (A:=Own (some (radr p)) xc 5 1 (u8s c.bytes)) 0 [.many 16 (u8s c.bytes)] rfl (by simp) Own.rd rfl rfl ?_ ?_ (by decide) ?_ ?_
  · show u8s c.bytes ++ [] = _;rw [List.append_nil,List.drop_zero,List.take_of_length_le (by rw [u8l,hb];exact Nat.le_refl _)]
  · show (u8s c.bytes ++ []).length = 16;rw [List.append_nil,u8l,hb]
  · intro s hs;simp only [List.mem_cons,List.not_mem_nil,or_false] at hs;subst hs;exact hk16 _
  (conv=>whnf);exact Ret.m () [] [2] trivial rfl ⟨⟨hk16 _,trivial⟩,trivial,trivial⟩ kk ⟨rfl,rfl⟩
theorem qgq : Fits Tryz.prog (.barr 8) 26 = true:=by simp only [Fits,Tryz.underlying26,Tryz.underlying5];kernel_rfl
theorem key8' : Tryz.prog.keyTypeAt 5 26 = true:=by kernel_rfl
theorem grd8' : Tryz.prog.eqGuardType Tryz.prog.depth 26 = false:=by kernel_rfl
theorem ql1 {b : Bool} {p : Prop} [Decidable p] (h : b = true ↔ p) : b = decide p:=by
  cases b with
  | true=>rw [decide_eq_true (h.1 rfl)]
  | false=>rw [decide_eq_false (fun e=>by cases h.2 e)]
theorem qqs {l m : List UInt8} {xs ys : List Value} {f : Bool → Prop} (hl : l.length = 8) (hm : m.length = 8) (ex : xs = u8s l) (ey : ys = u8s m) (h : f (decide (l = m))) : EqAgg Tryz.prog 26 xs ys f:=by
  subst ex ey;refine qfo (s:=.barr 8) (R:=fun _=>True) (R':=fun _=>True) ⟨.unit,.unit,.inr ⟨8,.inl rfl⟩⟩ rfl qgq key8' (by decide) grd8' (q31 hl _) (q31 hm _) fun b hb=>?_;rw [ql1 hb];exact h
theorem qmv (A : HP) (c : Cmd) (hk8 : c.id.length = 8) : Pu Tryz.prog 106 [.agg c.sg] A (.c (.bool c.may)):=by
  have hk:=mok hk8;refine Con.of' tt_ok Tryz.func106 rfl (by decide) [.agg c.sg] [] [] rfl rfl trivial (by repeat' (first | exact trivial | rfl | exact hk _ | apply And.intro)) rfl ?_;(conv=>whnf);intro b1;(conv=>whnf);refine qqs (l:=c.id) (m:=id0) hk8 rfl (List.append_nil _) rfl ?_;conv=>whnf
  repeat' first
    | (refine Cond.eqI (fun h=>?_) (fun h=>?_) <;> (conv=>whnf))
    | (refine Cond.d (fun h=>?_) (fun h=>?_) <;> (conv=>whnf))
    | (refine Cond.mk (fun h=>?_) (fun h=>?_) <;> (conv=>whnf))
  all_goals refine Ret.m () [] [0] trivial ?_ kk kk ⟨rfl,rfl⟩
  all_goals simp_all [tupOf,SA.sv,ofValue,SV.den,SC.den,Cmd.may,Cmd.user,Cmd.bare]
  all_goals first
    | omega
    | (have h8 : c.n < 8:=by omega
       rw [decide_eq_true h8,Bool.true_and];exact Bool.beq_eq_decide_eq _ _)
theorem qhl {n : Int} (h : 0 ≤ n ∧ n < 256) : u8 (by8 n) = .int .u8 n:=by
  show Value.int .u8 ((by8 n).toNat : Int) = _;rw [qh9 n (by omega)]
theorem qgg {n : Int} (h : 0 ≤ n ∧ n < 256) : u8s (beb n 1) = [.int .u8 n]:=by
  have e : beb n 1 = [by8 n]:=by simp [beb]
  rw [e];exact congrArg (fun x=>[x]) (qhl h)
theorem qks {n : Int} (h : 0 ≤ n ∧ n < 65536) : u8s (beb n 2) = [.int .u8 (n.tdiv 256),.int .u8 (n.tmod 256)]:=by
  have e1 : n.tdiv 256 = n / 256:=Int.tdiv_eq_ediv_of_nonneg h.1;have e2 : n.tmod 256 = n % 256:=Int.tmod_eq_emod_of_nonneg h.1;have e3 : n.fdiv 256 = n / 256:=Int.fdiv_eq_ediv_of_nonneg _ (by decide);have e : beb n 2 = [by8 (n / 256),by8 n]:=by simp [beb,e3]
  have e4 : by8 n = by8 (n % 256):=by unfold by8;congr 2;omega
  rw [e,e4,e1,e2];show [u8 _,u8 _] = _;rw [qhl (by omega),qhl (by omega)]
def byL (c : Cmd) (i : Nat) : List Value:=[.int .u8 c.k,.int .u8 c.n,.int .u8 (c.d.tdiv 256),.int .u8 (c.d.tmod 256)] ++ (u8s (c.id.take i) ++ List.replicate (12 - i) (.int .u8 0))
theorem qoz {c : Cmd} (h : c.id.length = 8) {i : Nat} (hi : i ≤ 8) : (byL c i).length = 16:=by simp [byL,u8l,h];omega
theorem qos {c : Cmd} (h : c.id.length = 8) {i : Nat} (hi : i < 8) (v : Value) (hv : v = u8 (c.id[i]'(by omega))) : (byL c i).take (4 + i) ++ ([v] ++ (byL c i).drop (4 + i + 1)) = byL c (i + 1):=by
  have e1 : (u8s (c.id.take i)).length = i:=by rw [u8l,List.length_take];omega
  have e2 : c.id.take (i + 1) = c.id.take i ++ [c.id[i]'(by omega)]:=List.take_succ_eq_append_getElem (by omega);obtain ⟨k,hk⟩ : ∃ k,12 - i = k + 1:=⟨11 - i,by omega⟩;have hk' : 12 - (i + 1) = k:=by omega
  have e3 : u8s [c.id[i]'(by omega)] = [v]:=by rw [hv];rfl
  unfold byL;rw [hk,hk',e2,q0n,e3,List.replicate_succ];clear e3 e2 hv;generalize u8s (c.id.take i) = L at e1 ⊢;clear hk hk' hi;subst e1
  simp [List.take_append,List.drop_append,show 4 + L.length = L.length + 4 by omega,show L.length + 4 + 1 = L.length + 1 + 4 by omega]
theorem qp6 {c : Cmd} (h : c.id.length = 8) (hm : c.may = true) : byL c 8 = u8s c.bytes:=by
  have hle:=Cmd.may_le hm;unfold byL Cmd.bytes;rw [q0n,q0n,q0n,q0n,qgg (by omega),qgg (by omega),qks (by omega),List.take_of_length_le (by omega)]
  simp [u8s,u8]
theorem qkb (A : HP) (c : Cmd) (hk8 : c.id.length = 8) (hm : c.may = true) : Pu Tryz.prog 127 [.agg c.sg] A (.agg [.many 16 (u8s c.bytes)]):=by
  have hk:=mok hk8;have hb:=Cmd.bytes_len hk8;have hk16:=mok hb;have hle:=Cmd.may_le hm;have hdv : 0 ≤ c.d.tdiv 256 ∧ c.d.tdiv 256 < 256:=by rw [Int.tdiv_eq_ediv_of_nonneg hle.2.2.1];omega
  have hdm : 0 ≤ c.d.tmod 256 ∧ c.d.tmod 256 < 256:=by rw [Int.tmod_eq_emod_of_nonneg hle.2.2.1];omega
  refine Con.of' tt_ok Tryz.func127 rfl (by decide) [.agg c.sg] [] [] rfl rfl trivial (by repeat' (first | exact trivial | rfl | exact hk _ | apply And.intro)) rfl ?_;(conv=>whnf);intro b1;(conv=>whnf);intro b2;(conv=>whnf);intro b3;(conv=>whnf);refine Ar.u8 (by omega) ?_;(conv=>whnf);refine ⟨by decide,?_⟩;(conv=>whnf);refine ⟨⟨rfl,by decide⟩,?_⟩;(conv=>whnf);refine Ar.u8 (by omega) ?_;(conv=>whnf);refine ⟨by decide,?_⟩;(conv=>whnf);refine ⟨⟨rfl,by decide⟩,?_⟩;(conv=>whnf);refine ⟨by decide,?_⟩;refine Ar.i64 (by omega) ?_
  (conv=>whnf);refine Ar.u8 (by omega) ?_;(conv=>whnf);refine ⟨by decide,?_⟩;(conv=>whnf);refine ⟨⟨rfl,by decide⟩,?_⟩;(conv=>whnf);refine ⟨by decide,?_⟩;(conv=>whnf);refine Ar.u8 (by omega) ?_;(conv=>whnf);refine ⟨by decide,?_⟩;(conv=>whnf);refine ⟨⟨rfl,by decide⟩,?_⟩;conv=>whnf
  have byok : ∀ i,i ≤ 8 → okH [(3,b3),(2,b2),(1,b1)] [(3,[.many 16 (byL c i)],30),(2,[.many 16 (List.replicate 16 (.int .u8 0))],30),(1,c.sg,38)]:=by
    intro i hi;refine ⟨⟨trivial,⟨qoz hk8 hi,fun v hv=>?_⟩,trivial⟩,⟨trivial,⟨rfl,fun v hv=>by simp at hv;subst hv;rfl⟩,trivial⟩,⟨trivial,(by repeat' (first | exact trivial | rfl | exact hk _ | apply And.intro))⟩,trivial⟩
    rcases List.mem_append.1 hv with hv | hv
    · simp at hv;rcases hv with rfl | rfl | rfl | rfl <;> rfl
    · rcases List.mem_append.1 hv with hv | hv
      · exact q0s _ v hv
      · simp at hv;rw [hv.2];rfl
  refine LoopOb.m (σ:=Nat) (fun i=>[(1,.c (.ptr 1 0)),(2,.c (.ptr 2 0)),(3,.c (.ptr 3 0)),(4,.c (.int .i64 i))])
    (fun i=>⟨[(3,b3),(2,b2),(1,b1)],[(3,[.many 16 (byL c i)],30),(2,[.many 16 (List.replicate 16 (.int .u8 0))],30),(1,c.sg,38)],[A]⟩) (fun i=>i ≤ 8) (fun i=>8 - i) 0 (Nat.zero_le _)
    (Wk.m [3,2,1] [0] ⟨⟨rfl,kk⟩,⟨rfl,kk⟩,⟨rfl,kk⟩,⟨rfl,trivial⟩,trivial⟩ (byok 0 (by decide)) ⟨rfl,rfl⟩) ?_
  intro i hi;(conv=>whnf);refine Cond.d (fun h=>?_) (fun h=>?_)
  · have hi' : i < c.id.length:=by omega
    (conv=>whnf);refine Ar.i64 (by omega) ?_;(conv=>whnf);refine ⟨by omega,?_⟩;(conv=>whnf);refine ⟨⟨.int .u8 (c.id[i].toNat : Int),?_,trivial,?_⟩⟩
    · show (u8s c.id)[(i : Int).toNat * 1]? = _;rw [Nat.mul_one];exact q6w hi'
    (conv=>whnf);refine ⟨by omega,?_⟩;(conv=>whnf);refine ⟨⟨rfl,by show (4 + (i : Int)).toNat * 1 + 1 ≤ 16;omega⟩,?_⟩;(conv=>whnf);refine Ar.i64 (by omega) ?_;(conv=>whnf);refine ⟨i + 1,by omega,by omega,Wk.m [3,2,1] [0] ⟨⟨rfl,kk⟩,⟨rfl,kk⟩,⟨rfl,kk⟩,⟨rfl,trivial⟩,trivial⟩ (byok (i + 1) (by omega)) ⟨?_,rfl⟩⟩;have e1 : (4 + (i : Int)).toNat * 1 = 4 + i:=by omega
    have e2:=qos (c:=c) hk8 (i:=i) (by omega) (.int .u8 (c.id[i].toNat : Int)) rfl;show [blk b3 (.cells (List.take ((4 + (i : Int)).toNat * 1) (byL c i) ++ ([Value.int .u8 (c.id[i].toNat : Int)] ++ List.drop ((4 + (i : Int)).toNat * 1 + 1) (byL c i)) ++ []).toArray 30),_,_] = [blk b3 (.cells (byL c (i + 1) ++ []).toArray 30),_,_];rw [e1,e2]
  · have hi' : i = 8:=by omega
    subst hi';rw [qp6 hk8 hm];(conv=>whnf);exact Ret.m () [] [0] trivial rfl ⟨hk16 _,trivial⟩ kk ⟨rfl,rfl⟩
end
section
def idxI (q : UInt8 → Bool) (l : List UInt8) : Int:=match l.findIdx? q with | some i=>i | none=>-1
theorem qe8 (A R : HP) (hE : Ent A R) (F : Nat) (q : UInt8 → Bool) (hF : ∀ A c,Pu Tryz.prog F [.c (.int .u8 (c.toNat : Int))] A (.c (.bool (q c)))) (a : Option Addr) (cap : Nat) (l : List UInt8) (hl : Bts R a cap l) (hs : l.length ≤ 1000000) :
    Pu Tryz.prog 181 [.c (.rs a l.length cap),.c (.raw (.func (.func F) #[] #[]))] A (.c (.int .i64 (idxI q l))):=by
  refine Con.of' tt_ok Tryz.func181 rfl (by decide) [.c (.rs a l.length cap),.c (.raw (.func (.func F) #[] #[]))] [] [] rfl rfl trivial kk rfl ?_;conv=>whnf
  refine LoopOb.m (σ:=Nat) (fun i=>[(0,.c (.rs a l.length cap)),(1,.c (.raw (.func (.func F) #[] #[]))),(7,.c (.int .i64 l.length)),(8,.c (.int .i64 i))])
    (fun _=>⟨[],[],[A]⟩) (fun i=>i ≤ l.length ∧ ∀ c ∈ l.take i,q c = false) (fun i=>l.length - i) 0 ⟨Nat.zero_le _,by simp⟩ (Wk.m [] [0] ⟨⟨rfl,trivial⟩,⟨rfl,rfl⟩,⟨rfl,trivial⟩,⟨rfl,trivial⟩,trivial⟩ kk ⟨rfl,rfl⟩) ?_
  rintro i ⟨hi,hall⟩;(conv=>whnf);refine Cond.d (fun h=>?_) (fun h=>?_)
  · have hi' : i < l.length:=by omega
    have hr:=hl.1.ent hE;(conv=>whnf);refine idx (A:=A) i (by simp) hr hi' rfl fun p hp=>?_;subst hp;(conv=>whnf);refine ldb (A:=A) i (by simp) hr hi' rfl rfl (by simp) ?_;(conv=>whnf);rw [gd_eq hi'];refine Cq.pu (hF _ l[i]) rfl ?_;(conv=>whnf);refine Cond.mk (fun hq=>?_) (fun hq=>?_)
    · conv=>whnf
      have e : idxI q l = i:=by
        unfold idxI
        have : l.findIdx? q = some i:=by
          rw [List.findIdx?_eq_some_iff_getElem];refine ⟨hi',hq,fun j hj=>?_⟩;have:=hall l[j] (List.mem_take_iff_getElem.2 ⟨j,by omega,rfl⟩)
          simp [this]
        rw [this]
      rw [e];exact Ret.m () [] [0] trivial rfl kk trivial ⟨rfl,rfl⟩
    · (conv=>whnf);refine Ar.i64 (by omega) ?_;(conv=>whnf);refine ⟨i + 1,⟨hi',fun c hc=>?_⟩,by omega,Wk.m [] [0] ⟨⟨rfl,trivial⟩,⟨rfl,rfl⟩,⟨rfl,trivial⟩,⟨rfl,trivial⟩,trivial⟩ kk ⟨rfl,rfl⟩⟩;rw [List.take_succ_eq_append_getElem hi'] at hc
      rcases List.mem_append.1 hc with hc | hc
      · exact hall c hc
      · simp at hc;subst hc;exact hq
  · have hi' : i = l.length:=by omega
    subst hi';rw [List.take_length] at hall;conv=>whnf
    have e : idxI q l = -1:=by
      unfold idxI;have : l.findIdx? q = none:=by rw [List.findIdx?_eq_none_iff];exact hall
      rw [this]
    rw [e];exact Ret.m () [] [0] trivial rfl kk trivial ⟨rfl,rfl⟩
theorem qly (q : UInt8 → Bool) (l : List UInt8) : decide (idxI q l ≥ 0) = l.any q:=by
  unfold idxI
  cases h : l.findIdx? q with
  | none=>rw [List.findIdx?_eq_none_iff] at h;rw [List.any_eq_false.2 (by simpa using h)];rfl
  | some i =>
    obtain ⟨hi,hq,_⟩:=List.findIdx?_eq_some_iff_getElem.1 h;rw [List.any_eq_true.2 ⟨_,List.getElem_mem hi,hq⟩];simp
theorem q9v (A R : HP) (hE : Ent A R) (F : Nat) (q : UInt8 → Bool) (hF : ∀ A c,Pu Tryz.prog F [.c (.int .u8 (c.toNat : Int))] A (.c (.bool (q c)))) (a : Option Addr) (cap : Nat) (l : List UInt8) (hl : Bts R a cap l) (hs : l.length ≤ 1000000) :
    Pu Tryz.prog 158 [.c (.rs a l.length cap),.c (.raw (.func (.func F) #[] #[]))] A (.c (.bool (l.any q))):=by
  refine Con.of' tt_ok Tryz.func158 rfl (by decide) [.c (.rs a l.length cap),.c (.raw (.func (.func F) #[] #[]))] [] [] rfl rfl trivial kk rfl ?_;(conv=>whnf);refine Cq.pu (qe8 _ R ((Ent.a (by simp)).trans hE) F q hF a cap l hl hs) rfl ?_;(conv=>whnf);exact Ret.m () [] [0] trivial (by rw [← qly];rfl) kk trivial ⟨rfl,rfl⟩
structure RS where
  e : Int
  l : List UInt8
def RS.fail (s : RS) (k : Int) : RS × Int:=if s.e = 0 then ({ s with e:=k },k) else (s,s.e)
def RS.take (s : RS) (n : Nat) : RS × List UInt8 × Int:=if s.e = 0 then if n > s.l.length then ({ s with e:=4 },[],4) else ({ s with l:=s.l.drop n },s.l.take n,0) else (s,[],s.e)
def RS.num (s : RS) (size : Int) : RS × Int × Int:=if size < 1 ∨ size > 8 then ((s.fail 2).1,0,(s.fail 2).2) else ((s.take size.toNat).1,big (s.take size.toNat).2.1,(s.take size.toNat).2.2)
def RS.bytes (s : RS) (n : Int) : RS × List UInt8 × Int:=if n < 0 then ((s.fail 2).1,[],(s.fail 2).2) else s.take n.toNat
def RS.left (s : RS) : Int:=if s.e = 0 then s.l.length else 0
def RS.done (s : RS) : Bool:=decide (s.e = 0) && !s.l.any (· != 0)
abbrev RX:=Option Addr × Nat × HP
abbrev rc (g : Nat) (m : SC) (s : RS) (a : Option Addr) (cap : Nat) : Cel:=(g,[.one m,.one (.int .i64 s.e),.one (.rs a s.l.length cap)],231)
abbrev rk (s : RS) (x : RX) : Prop:=Bts x.2.2 x.1 x.2.1 s.l ∧ s.l.length ≤ 65536
abbrev rq (g : Nat) (m : SC) (s : RS) (x : RX) : List Cel:=[rc g m s x.1 x.2.1]
abbrev rr (x : RX) : List HP:=[x.2.2]
abbrev Rr (g : Nat) (s : RS) : HP:=Box (rk s) (rq g .tt s) rr
theorem qeb (A R : HP) (hE : Ent A R) (a : Option Addr) (cap : Nat) (l : List UInt8) (hl : Bts R a cap l) (h : l.length ≤ 65536) :
    Con Tryz.prog 115 [.c (.rs a l.length cap)] [] [] A (fun _ : Nat=>True) (fun g=>.c (.rp g 0)) (fun _=>[]) (fun g=>[Rr g ⟨0,l⟩]):=by
  refine Con.of' tt_ok Tryz.func115 rfl (by decide) [.c (.rs a l.length cap)] [] [] rfl rfl trivial kk rfl ?_;(conv=>whnf);refine Cond.d (fun h1=>absurd h1 (by omega)) (fun _=>?_);(conv=>whnf);refine Cq.by' [] [] (qeh _ R ((Ent.a (by simp)).trans hE) a cap l hl (by omega)) rfl ⟨rfl,rfl,rfl,fun x1 hx1=>⟨rfl,?_⟩⟩
  (conv=>whnf);intro b;(conv=>whnf);refine Ret.box (k:=rk ⟨0,l⟩) (Q:=rq b .tt ⟨0,l⟩) (R:=rr) [10] [0] (x1.1,x1.2,Own x1.1 x1.2 5 1 (u8s l)) ⟨⟨Own.rd,hx1⟩,h⟩ ⟨⟨rfl,rfl⟩,?_⟩;exact Ret.m b [] [0,0] trivial rfl trivial kk ⟨rfl,rfl⟩
theorem qe1 (A : HP) (g : Nat) (s : RS) (a : Option Addr) (cap : Nat) : Con Tryz.prog 155 [.c (.rp g 0)] [rc g .tt s a cap] [] A (fun _ : Unit=>True) (fun _=>.c .tt) (fun _=>[rc g .tt s a cap]) (fun _=>[]):=by
  refine Con.of' tt_ok Tryz.func155 rfl (by decide) [.c (.ptr 1000 0)] (B1 g) [(1000,(rc 0 .tt s a cap).2)] rfl rfl kk kk rfl ?_;(conv=>whnf);exact Ret.m () [1000] [0] trivial rfl kk kk ⟨rfl,rfl⟩
theorem q8j (A : HP) (g : Nat) (s : RS) (a : Option Addr) (cap : Nat) (k : Int) : Con Tryz.prog 156 [.c (.rp g 0),.c (.int .i64 k)] [rc g .tt s a cap] [] A (fun _ : Unit=>True) (fun _=>.c (.int .i64 (s.fail k).2)) (fun _=>[rc g .tt (s.fail k).1 a cap]) (fun _=>[]):=by
  refine Con.of' tt_ok Tryz.func156 rfl (by decide) [.c (.ptr 1000 0),.c (.int .i64 k)] (B1 g) [(1000,(rc 0 .tt s a cap).2)] rfl rfl kk kk rfl ?_;(conv=>whnf);refine Cond.eqI (fun h=>?_) (fun h=>?_)
  · rw [show s.fail k = ({ s with e:=k },k) from if_pos h];(conv=>whnf);exact Ret.m () [1000] [0] trivial rfl kk kk ⟨rfl,rfl⟩
  · rw [show s.fail k = (s,s.e) from if_neg h];(conv=>whnf);exact Ret.m () [1000] [0] trivial rfl kk kk ⟨rfl,rfl⟩
theorem qph (s : RS) (k : Int) : (s.fail k).1.l = s.l:=by unfold RS.fail;split <;> rfl
theorem qcb {s : RS} {x : RX} (h : rk s x) (k : Int) : rk (s.fail k).1 x:=by
  unfold rk at *;rw [qph];exact h
theorem qh8 (A : HP) (g : Nat) (s : RS) (x : RX) (hk : rk s x) (n : Nat) :
    Con Tryz.prog 157 [.c (.rp g 0),.c (.int .i64 n)] (rq g .tt s x) (rr x) A
      (fun t : RX × Option Addr × Nat=>rk (s.take n).1 t.1 ∧ (s.take n).2.1.length ≤ t.2.2 ∧ (t.2.1 = none → (s.take n).2.1 = []))
      (fun t=>.tup [.c (.rs t.2.1 (s.take n).2.1.length t.2.2),.c (.int .i64 (s.take n).2.2)]) (fun t=>rq g .tt (s.take n).1 t.1) (fun t=>rr t.1 ++ [Own t.2.1 t.2.2 5 1 (u8s (s.take n).2.1)]):=by
  obtain ⟨a,cap,Z⟩:=x;obtain ⟨hb,hl⟩:=hk;dsimp only at hb;refine Con.of' tt_ok Tryz.func157 rfl (by decide) [.c (.ptr 1000 0),.c (.int .i64 n)] (B1 g) [(1000,(rc 0 .tt s a cap).2)] rfl rfl kk kk rfl ?_;(conv=>whnf);refine Cond.eqI (fun h=>?_) (fun h=>?_)
  · (conv=>whnf);refine Cond.d (fun h2=>?_) (fun h2=>?_)
    · have e : s.take n = ((s.fail 4).1,[],(s.fail 4).2):=by unfold RS.take RS.fail;rw [if_pos h,if_pos (by omega),if_pos h]
      (conv=>whnf);refine Cq.by' [1000] [] (q8j _ g s a cap 4) rfl ⟨rfl,rfl,rfl,fun x1 hx1=>⟨rfl,?_⟩⟩
      rw [e];(conv=>whnf);refine Ret.own0 5 1 ?_;exact Ret.m ((a,cap,Z),none,0) [1000] [1,0,0] ⟨qcb ⟨hb,hl⟩ 4,Nat.le_refl _,fun _=>rfl⟩ rfl kk kk ⟨rfl,rfl⟩
    · have e : s.take n = ({ s with l:=s.l.drop n },s.l.take n,0):=by unfold RS.take;rw [if_pos h,if_neg (by omega)]
      rw [e];(conv=>whnf);refine Cond.neI (fun h'=>absurd h h') (fun _=>?_);have hcap:=hb.2.1;have el : (s.l.take n).length = n:=by simp;omega
      (conv=>whnf);refine ⟨by omega,?_⟩;refine Cq.by' [] [] (qeh _ Z (Ent.a (by simp [M.props])) (cutA a cap 0 1) cap (s.l.take n) (hb.sub 0 n (by omega)) (by omega)) (by rw [el];rfl) ⟨rfl,rfl,rfl,fun x1 hx1=>⟨rfl,?_⟩⟩
      (conv=>whnf);refine ⟨by omega,?_⟩;(conv=>whnf);refine Ret.m ((cutA a cap n 1,cap - n,Z),x1) [1000] [1,0,0] ⟨⟨hb.drop n (by omega),by simp;omega⟩,hx1⟩ rfl kk kk ⟨?_,rfl⟩
      simp [Chunk.p,Cel.p,bl,dens,Seg.den,SC.den]
  · have e : s.take n = (s,[],s.e):=by unfold RS.take;rw [if_neg h]
    rw [e];(conv=>whnf);refine Cond.neI (fun _=>?_) (fun h'=>absurd h' h);(conv=>whnf);refine Draw.quiet (by kernel_rfl) tt_ok [5,0,1,2,3,4,6] (by kernel_rfl) ?_;(conv=>whnf);refine Ret.own0 5 1 ?_;exact Ret.m ((a,cap,Z),none,0) [1000] [1,0,0] ⟨⟨hb,hl⟩,Nat.le_refl _,fun _=>rfl⟩ rfl kk kk ⟨rfl,rfl⟩
theorem qm4 (A : HP) (g : Nat) (s : RS) (n : Int) :
    Con Tryz.prog 118 [.c (.rp g 0),.c (.int .i64 n)] [] [Rr g s] A (fun t : Option Addr × Nat=>(s.bytes n).2.1.length ≤ t.2 ∧ (t.1 = none → (s.bytes n).2.1 = []))
      (fun t=>.tup [.c (.rs t.1 (s.bytes n).2.1.length t.2),.c (.int .i64 (s.bytes n).2.2)]) (fun _=>[]) (fun t=>[Rr g (s.bytes n).1,Own t.1 t.2 5 1 (u8s (s.bytes n).2.1)]):=by
  refine Con.box (Runs.of Tryz.func118 rfl (by decide)) ?_;rintro ⟨a,cap,Z⟩ hk;refine Con.of' tt_ok Tryz.func118 rfl (by decide) [.c (.ptr 1000 0),.c (.int .i64 n)] (B1 g) [(1000,(rc 0 .tt s a cap).2)] rfl rfl kk kk rfl ?_;(conv=>whnf);refine Cq.by' [1000] [] (qe1 _ g s a cap) rfl ⟨rfl,rfl,rfl,fun _ _=>⟨rfl,?_⟩⟩
  (conv=>whnf);refine Cond.d (fun h=>?_) (fun h=>?_)
  · rw [show s.bytes n = ((s.fail 2).1,[],(s.fail 2).2) from if_pos h];(conv=>whnf);refine Cq.by' [1000] [] (q8j _ g s a cap 2) rfl ⟨rfl,rfl,rfl,fun x1 hx1=>⟨rfl,?_⟩⟩
    (conv=>whnf);refine Ret.own0 5 1 ?_;exact Ret.m ((a,cap,Z),none,0) [1000] [1,0,0] ⟨qcb hk 2,Nat.le_refl _,fun _=>rfl⟩ rfl kk kk ⟨rfl,rfl⟩
  · rw [show s.bytes n = s.take n.toNat from if_neg h];obtain ⟨k,rfl⟩ : ∃ k : Nat,n = k:=⟨n.toNat,by omega⟩;rw [Int.toNat_natCast];(conv=>whnf);refine Cq.by' [1000] [0] (qh8 _ g s (a,cap,Z) hk k) rfl ⟨rfl,rfl,rfl,fun x1 hx1=>⟨rfl,?_⟩⟩
    (conv=>whnf);exact Ret.m x1 [1000] [0,0,0] hx1 rfl kk kk ⟨rfl,rfl⟩
theorem qpx (A : HP) (g : Nat) (s : RS) (size : Int) :
    Con Tryz.prog 117 [.c (.rp g 0),.c (.int .i64 size)] [] [Rr g s] A (fun _ : Unit=>True)
      (fun _=>.tup [.c (.int .u64 (s.num size).2.1),.c (.int .i64 (s.num size).2.2)]) (fun _=>[]) (fun _=>[Rr g (s.num size).1]):=by
  refine Con.box (Runs.of Tryz.func117 rfl (by decide)) ?_;rintro ⟨a,cap,Z⟩ hk;refine Con.of' tt_ok Tryz.func117 rfl (by decide) [.c (.ptr 1000 0),.c (.int .i64 size)] (B1 g) [(1000,(rc 0 .tt s a cap).2)] rfl rfl kk kk rfl ?_;(conv=>whnf);refine Cq.by' [1000] [] (qe1 _ g s a cap) rfl ⟨rfl,rfl,rfl,fun _ _=>⟨rfl,?_⟩⟩
  have bad : ∀ (h : size < 1 ∨ size > 8),s.num size = ((s.fail 2).1,0,(s.fail 2).2):=fun h=>if_pos h;(conv=>whnf);refine Cond.d (fun h=>?_) (fun h=>?_)
  · rw [bad (.inl h)];(conv=>whnf);refine Cq.by' [1000] [] (q8j _ g s a cap 2) rfl ⟨rfl,rfl,rfl,fun x1 hx1=>⟨rfl,?_⟩⟩
    (conv=>whnf);exact Ret.m ((a,cap,Z),()) [1000] [0,0] ⟨qcb hk 2,trivial⟩ rfl kk kk ⟨rfl,rfl⟩
  (conv=>whnf);refine Cond.d (fun h2=>?_) (fun h2=>?_)
  · rw [bad (.inr h2)];(conv=>whnf);refine Cq.by' [1000] [] (q8j _ g s a cap 2) rfl ⟨rfl,rfl,rfl,fun x1 hx1=>⟨rfl,?_⟩⟩
    (conv=>whnf);exact Ret.m ((a,cap,Z),()) [1000] [0,0] ⟨qcb hk 2,trivial⟩ rfl kk kk ⟨rfl,rfl⟩
  rw [show s.num size = ((s.take size.toNat).1,big (s.take size.toNat).2.1,(s.take size.toNat).2.2) from if_neg (by omega)];obtain ⟨k,rfl⟩ : ∃ k : Nat,size = k:=⟨size.toNat,by omega⟩;rw [Int.toNat_natCast];(conv=>whnf);have hlen : (s.take k).2.1.length ≤ 8:=by unfold RS.take;split <;> (try split) <;> simp <;> omega
  refine Cq.by' [1000] [0] (qh8 _ g s (a,cap,Z) hk k) rfl ⟨rfl,rfl,rfl,fun x1 hx1=>⟨rfl,?_⟩⟩
  obtain ⟨xr,a2,c2⟩:=x1;obtain ⟨hx1,hx2⟩:=hx1;dsimp only at hx1 hx2 ⊢;generalize s.take k = t at hx1 hx2 hlen ⊢;obtain ⟨t1,l,te⟩:=t;dsimp only at hx1 hx2 hlen ⊢;conv=>whnf
  refine LoopOb.m (σ:=Nat) (fun i=>[(7,.c (.int .i64 te)),(8,.c (.int .u64 (big (l.take i)))),(30,.c (.rs a2 l.length c2)),(31,.c (.int .i64 l.length)),(32,.c (.int .i64 i))])
    (fun _=>⟨B1 g,[(1000,(rc 0 .tt t1 xr.1 xr.2.1).2)],[xr.2.2,Own a2 c2 5 1 (u8s l),A]⟩) (fun i=>i ≤ l.length) (fun i=>l.length - i) 0 (Nat.zero_le _)
    (Wk.m [1000] [0,0,0] ⟨⟨rfl,trivial⟩,⟨rfl,trivial⟩,⟨rfl,trivial⟩,⟨rfl,trivial⟩,⟨rfl,trivial⟩,trivial⟩ kk ⟨rfl,rfl⟩) ?_
  intro i hi;(conv=>whnf);refine Cond.d (fun h=>?_) (fun h=>?_)
  · have hi' : i < l.length:=by omega
    (conv=>whnf);refine idx (A:=Own a2 c2 5 1 (u8s l)) i (by simp) Own.rd hi' rfl fun p hp=>?_;subst hp;(conv=>whnf);refine ldb (A:=Own (some (radr p)) c2 5 1 (u8s l)) i (by simp) Own.rd hi' rfl rfl (by simp) ?_;(conv=>whnf);rw [gd_eq hi'];have hb:=qqf (l.take i) 7 (by simp;omega);have hc256:=u8_lt l[i];refine ⟨by omega,Ar.to (big (l.take i) * 256) rfl ?_⟩;refine Ar.u64 (by omega) ?_;(conv=>whnf);refine Ar.u64 (by omega) ?_;(conv=>whnf);refine Ar.i64 (by omega) ?_;conv=>whnf
    refine ⟨i + 1,hi',by omega,Wk.m [1000] [0,0,0] ⟨⟨rfl,trivial⟩,⟨?_,trivial⟩,⟨rfl,trivial⟩,⟨rfl,trivial⟩,⟨rfl,trivial⟩,trivial⟩ kk ⟨rfl,rfl⟩⟩;show Value.int .u64 (ibits .or .u64 (big (l.take i) * 256) (l[i].toNat : Int)) = Value.int .u64 _;rw [qm6 l i hi',qci hb.1 (by omega) hc256.1 hc256.2]
  · have hi' : i = l.length:=by omega
    subst hi';rw [List.take_length];(conv=>whnf);exact Ret.m (xr,()) [1000] [0,1] ⟨hx1,trivial⟩ rfl kk kk ⟨rfl,rfl⟩
theorem qpe (A : HP) (c : UInt8) : Pu Tryz.prog 159 [.c (.int .u8 (c.toNat : Int))] A (.c (.bool (c != 0))):=by
  refine Con.of' tt_ok Tryz.func159 rfl (by decide) [.c (.int .u8 (c.toNat : Int))] [] [] rfl rfl kk kk rfl ?_;(conv=>whnf);refine Ret.m () [] [0] trivial ?_ kk trivial ⟨rfl,rfl⟩
  have : ((c.toNat : Int) != 0) = (c != 0):=by
    by_cases h : c = 0
    · subst h;rfl
    · have : c.toNat ≠ 0:=fun e=>h (UInt8.toNat_inj.1 e);rw [bne_iff_ne.2 h,bne_iff_ne.2 (by omega)]
  simp [tupOf,SA.sv,ofValue,SV.den,SC.den,this]
theorem qpm (A : HP) (g : Nat) (s : RS) :
    Con Tryz.prog 119 [.c (.rp g 0)] [] [Rr g s] A (fun _ : Unit=>True) (fun _=>.c (.bool s.done)) (fun _=>[]) (fun _=>[Rr g s]):=by
  refine Con.box (Runs.of Tryz.func119 rfl (by decide)) ?_;rintro ⟨a,cap,Z⟩ hk;refine Con.of' tt_ok Tryz.func119 rfl (by decide) [.c (.ptr 1000 0)] (B1 g) [(1000,(rc 0 .tt s a cap).2)] rfl rfl kk kk rfl ?_;(conv=>whnf);refine Cq.by' [1000] [] (qe1 _ g s a cap) rfl ⟨rfl,rfl,rfl,fun _ _=>⟨rfl,?_⟩⟩
  (conv=>whnf);refine Cond.eqI (fun h=>?_) (fun h=>?_)
  · (conv=>whnf);refine Cq.pu (q9v _ Z (Ent.a (by simp [M.props])) 159 (· != 0) qpe a cap s.l hk.1 (by have:=hk.2;omega)) rfl ?_;(conv=>whnf);exact Ret.m ((a,cap,Z),()) [1000] [0,0] ⟨hk,trivial⟩ (by simp [tupOf,SA.sv,ofValue,SV.den,SC.den,RS.done,h]) kk kk ⟨rfl,rfl⟩
  · (conv=>whnf);exact Ret.m ((a,cap,Z),()) [1000] [0,0] ⟨hk,trivial⟩ (by simp [tupOf,SA.sv,ofValue,SV.den,SC.den,RS.done,h]) kk kk ⟨rfl,rfl⟩
end
section
end
section
theorem qgv (A : HP) (c : Cmd) (hk8 : c.id.length = 8) : Pu Tryz.prog 132 [.agg c.sg] A (.tup [.agg [.many 16 (u8s c.enc.1)],.c (.int .i64 c.enc.2)]):=by
  have hk:=mok hk8;have hk16:=mok (Cmd.enc_len hk8);refine Con.of' tt_ok Tryz.func132 rfl (by decide) [.agg c.sg] [] [] rfl rfl trivial (by repeat' (first | exact trivial | rfl | exact hk _ | apply And.intro)) rfl ?_;(conv=>whnf);intro b1;(conv=>whnf);intro b2;(conv=>whnf);refine Cq.pu (qmv _ c hk8) rfl ?_;(conv=>whnf);refine Cond.not (Cond.mk (fun hm=>?_) (fun hm=>?_))
  case refine_2 =>
    have e : c.enc = (List.replicate 16 0,2):=by unfold Cmd.enc;rw [hm];rfl
    rw [e] at hk16 ⊢;(conv=>whnf);exact Ret.m () [] [0] trivial (by rw [q4k];rfl) ⟨⟨hk16 _,trivial⟩,trivial,trivial⟩ kk ⟨rfl,rfl⟩
  have e : c.enc = (c.bytes,0):=by unfold Cmd.enc;rw [hm];rfl
  rw [e] at hk16 ⊢;(conv=>whnf);refine Cq.pu (qkb _ c hk8 hm) rfl ?_;(conv=>whnf);exact Ret.m () [] [0] trivial rfl ⟨⟨hk16 _,trivial⟩,trivial,trivial⟩ kk ⟨rfl,rfl⟩
theorem qjj (A : HP) (c : Cmd) (hk8 : c.id.length = 8) : Pu Tryz.prog 56 [.agg c.sg] A (.agg c.sg):=by
  have hk:=mok hk8;refine Con.of' tt_ok Tryz.func56 rfl (by decide) [.agg c.sg] [] [] rfl rfl trivial (by repeat' (first | exact trivial | rfl | exact hk _ | apply And.intro)) rfl ?_;(conv=>whnf);intro b1;(conv=>whnf);intro b2;(conv=>whnf);exact Ret.m () [] [0] trivial rfl (by repeat' (first | exact trivial | rfl | exact hk _ | apply And.intro)) kk ⟨rfl,rfl⟩
theorem rnum1 (x : UInt8) (r : List UInt8) : (⟨0,x :: r⟩ : RS).num 1 = (⟨0,r⟩,(x.toNat : Int),0):=by
  unfold RS.num RS.take;rw [if_neg (by decide),if_pos rfl,if_neg (by simp)]
  simp [big]
theorem rnum2 (x y : UInt8) (r : List UInt8) : (⟨0,x :: y :: r⟩ : RS).num 2 = (⟨0,r⟩,(x.toNat : Int) * 256 + (y.toNat : Int),0):=by
  unfold RS.num RS.take;rw [if_neg (by decide),if_pos rfl,if_neg (by simp)]
  simp [big]
theorem qhj (l : List UInt8) (n : Nat) (h : n ≤ l.length) : (⟨0,l⟩ : RS).bytes n = (⟨0,l.drop n⟩,l.take n,0):=by
  unfold RS.bytes RS.take;rw [if_neg (by omega),if_pos rfl,if_neg (by simp;omega)]
  simp
theorem q9o (A : HP) (b g : Nat) (s : RS) (size : Int) (hn : 0 ≤ (s.num size).2.1 ∧ (s.num size).2.1 < 9223372036854775808) :
    Con Tryz.prog 116 [.c (.int .i64 size),.c (.rp b 0)] [(b,[.one (.rp g 0)],194)] [Rr g s] A (fun _ : Unit=>True) (fun _=>.c (.int .i64 (s.num size).2.1)) (fun _=>[(b,[.one (.rp g 0)],194)]) (fun _=>[Rr g (s.num size).1]):=by
  refine Con.of' tt_ok Tryz.func116 rfl (by decide) [.c (.int .i64 size),.c (.ptr 1000 0)] (B1 b) [(1000,[.one (.rp g 0)],194)] rfl rfl kk kk rfl ?_;(conv=>whnf);refine Cq.by' [] [0] (qpx _ g s size) rfl ⟨rfl,rfl,rfl,fun _ _=>⟨rfl,?_⟩⟩
  (conv=>whnf);refine Ar.i64 (by omega) ?_;(conv=>whnf);exact Ret.m () [1000] [0,0] trivial rfl kk kk ⟨rfl,rfl⟩
def cmdOf (b : List UInt8) : Cmd:=⟨gd b 0,gd b 1,256 * gd b 2 + gd b 3,(b.drop 4).take 8⟩
def decC (b : List UInt8) : Cmd × Int:=if (b.drop 12).any (· != 0) = false ∧ (cmdOf b).may = true then (cmdOf b,0) else (cmd0,5)
theorem qi5 {b : List UInt8} (h : b.length = 16) : (cmdOf b).id.length = 8:=by simp [cmdOf,h]
theorem qgb {b : List UInt8} (h : b.length = 16) : (decC b).1.id.length = 8:=by
  unfold decC;split
  · exact qi5 h
  · rfl
theorem qqu {b : List UInt8} (h : b.length = 16) : ∃ x0 x1 x2 x3 r,b = x0 :: x1 :: x2 :: x3 :: r ∧ r.length = 12:=by
  match b,h with
  | x0 :: x1 :: x2 :: x3 :: r,h=>exact ⟨x0,x1,x2,x3,r,rfl,by simpa using h⟩
theorem qiz (A : HP) (b : List UInt8) (hb : b.length = 16) : Pu Tryz.prog 78 [.agg [.many 16 (u8s b)]] A (.tup [.agg (decC b).1.sg,.c (.int .i64 (decC b).2)]):=by
  have hk:=mok hb;have hkd:=mok (qgb hb);refine Con.of' tt_ok Tryz.func78 rfl (by decide) [.agg [.many 16 (u8s b)]] [] [] rfl rfl trivial (by repeat' (first | exact trivial | rfl | exact hk _ | apply And.intro)) rfl ?_;(conv=>whnf);intro b1;(conv=>whnf);intro b2;(conv=>whnf);have hR : Rd (blk b1 (.cells (u8s b ++ []).toArray 30)) (some (radr (b1,0))) (u8s b):=q1p
  refine Cq.by' [] [] (qeb _ _ (Ent.a (List.mem_cons_of_mem _ List.mem_cons_self)) (some (radr (b1,0))) 16 b ⟨hR,by rw [hb];exact Nat.le_refl _,fun h=>by cases h⟩ (by omega)) (by rw [hb];rfl) ⟨rfl,rfl,rfl,fun g _=>⟨rfl,?_⟩⟩
  (conv=>whnf);intro b4;(conv=>whnf);intro b6;(conv=>whnf);obtain ⟨x0,x1,x2,x3,r,rfl,hr⟩:=qqu hb;have n1:=rnum1 x0 (x1 :: x2 :: x3 :: r);have n2:=rnum1 x1 (x2 :: x3 :: r);have n3:=rnum2 x2 x3 r;have q0:=x0.toNat_lt;have q1:=x1.toNat_lt;have q2:=x2.toNat_lt;have q3:=x3.toNat_lt;refine Cq.by' [4] [0] (q9o _ b4 g ⟨0,x0 :: x1 :: x2 :: x3 :: r⟩ 1 (by rw [n1];dsimp only;omega)) rfl ⟨rfl,rfl,rfl,fun _ _=>⟨rfl,?_⟩⟩
  rw [n1];(conv=>whnf);refine Cq.by' [4] [0] (q9o _ b4 g ⟨0,x1 :: x2 :: x3 :: r⟩ 1 (by rw [n2];dsimp only;omega)) rfl ⟨rfl,rfl,rfl,fun _ _=>⟨rfl,?_⟩⟩
  rw [n2];(conv=>whnf);refine Cq.by' [4] [0] (q9o _ b4 g ⟨0,x2 :: x3 :: r⟩ 2 (by rw [n3];dsimp only;omega)) rfl ⟨rfl,rfl,rfl,fun _ _=>⟨rfl,?_⟩⟩
  rw [n3];(conv=>whnf);have n4:=qhj r 8 (by omega);refine Cq.by' [] [0] (qm4 _ g ⟨0,r⟩ 8) rfl ⟨rfl,rfl,rfl,fun x5 hx5=>⟨rfl,?_⟩⟩
  rw [show ((8 : Int)) = ((8 : Nat) : Int) from rfl,n4] at hx5 ⊢;have el : (r.take 8).length = 8:=by simp;omega
  (conv=>whnf);refine qlb (k:=8) (ys:=u8s (r.take 8)) (src:=.c (.rs x5.1 (r.take 8).length x5.2)) (by rw [el];exact Src.rs (A:=Own x5.1 x5.2 5 1 (u8s (r.take 8))) (by simp) Own.rd) (by rw [u8l,el];rfl) (q0s _) (by decide) ?_;(conv=>whnf);refine Cq.by' [] [0] (qpm _ g ⟨0,r.drop 8⟩) rfl ⟨rfl,rfl,rfl,fun _ _=>⟨rfl,?_⟩⟩
  have ec : cmdOf (x0 :: x1 :: x2 :: x3 :: r) = ⟨x0.toNat,x1.toNat,(x2.toNat : Int) * 256 + (x3.toNat : Int),r.take 8⟩:=by
    unfold cmdOf
    simp [gd,Int.mul_comm]
  have ed : (x0 :: x1 :: x2 :: x3 :: r).drop 12 = r.drop 8:=rfl;have edn : (⟨0,r.drop 8⟩ : RS).done = !(r.drop 8).any (· != 0):=by unfold RS.done;rw [decide_eq_true rfl,Bool.true_and]
  rw [edn];have ebad : ∀ (h : ¬ ((r.drop 8).any (· != 0) = false ∧ (cmdOf (x0 :: x1 :: x2 :: x3 :: r)).may = true)),decC (x0 :: x1 :: x2 :: x3 :: r) = (cmd0,5):=fun h=>by unfold decC;rw [ed];exact if_neg h
  have bad : ∀ (h : ¬ ((r.drop 8).any (· != 0) = false ∧ (cmdOf (x0 :: x1 :: x2 :: x3 :: r)).may = true)),True:=fun _=>trivial;(conv=>whnf);refine Cond.not (Cond.not (Cond.mk (fun hz=>?_) (fun hz=>?_)))
  · rw [ebad (fun h=>by rw [hz] at h;cases h.1)] at hkd ⊢;(conv=>whnf);exact Ret.m () [] [2] trivial rfl ⟨⟨trivial,trivial,trivial,hkd _,trivial⟩,trivial,trivial⟩ kk ⟨rfl,rfl⟩
  (conv=>whnf);refine Cq.pu (may_c _ ⟨x0.toNat,x1.toNat,(x2.toNat : Int) * 256 + (x3.toNat : Int),r.take 8⟩ el) rfl ?_;(conv=>whnf);refine Cond.not (Cond.mk (fun hm=>?_) (fun hm=>?_))
  · have e : decC (x0 :: x1 :: x2 :: x3 :: r) = (⟨x0.toNat,x1.toNat,(x2.toNat : Int) * 256 + (x3.toNat : Int),r.take 8⟩,0):=by
      unfold decC;rw [ed,ec,if_pos ⟨hz,hm⟩]
    rw [e] at hkd ⊢;(conv=>whnf);exact Ret.m () [] [2] trivial rfl ⟨⟨trivial,trivial,trivial,hkd _,trivial⟩,trivial,trivial⟩ kk ⟨rfl,rfl⟩
  · rw [ebad (fun h=>by rw [ec,hm] at h;cases h.2)] at hkd ⊢;(conv=>whnf);exact Ret.m () [] [2] trivial rfl ⟨⟨trivial,trivial,trivial,hkd _,trivial⟩,trivial,trivial⟩ kk ⟨rfl,rfl⟩
end
section
end
end Go.Proofs.YtfehjfoajlfhfaaGreatDoor
