import Derived.Test.YtfehjfoajlfhfaaGreatDoorQc
namespace Go.Proofs.YtfehjfoajlfhfaaGreatDoor
open Go.Sx
set_option maxRecDepth 100000
set_option pp.deepTerms false
set_option pp.maxSteps 300
set_option linter.unusedSimpArgs false
set_option linter.unusedVariables false
section
theorem q5f (A : HP) (x : UInt32) (n : Nat) (hn : 1 ≤ n ∧ n ≤ 31) : Pu Tryz.prog 201 [.c (.int .u32 (x.toNat : Int)),.c (.int .i64 (n : Int))] A (.c (.int .u32 ((rotl x (32 - n)).toNat : Int))):=by
  refine Con.of' tt_ok Tryz.func201 rfl (by decide) [.c (.int .u32 (x.toNat : Int)),.c (.int .i64 (n : Int))] [] [] rfl rfl trivial kk rfl ?_;(conv=>whnf);refine Ar.u64 (by omega) ?_;(conv=>whnf);refine ⟨by omega,?_⟩;have e1 : min (n : Int).toNat IntKind.u32.bits = n:=by simp only [IntKind.bits];omega
  rw [e1];refine Ar.i64 (by omega) ?_;(conv=>whnf);refine Ar.u64 (by omega) ?_;(conv=>whnf);refine ⟨by omega,?_⟩;have e2 : min ((32 : Int) - n).toNat IntKind.u32.bits = 32 - n:=by simp only [IntKind.bits];omega
  rw [e2];refine Ar.wshl (.base x) (32 - n) (by omega) ?_;(conv=>whnf);refine Ret.m () [] [0] trivial ?_ kk kk ⟨rfl,rfl⟩;have:=(Wd.or (Wd.shr (.base x) n (by omega)) (.base (x <<< UInt32.ofNat (32 - n)))).h;show Value.int .u32 _ = Value.int .u32 _;rw [this];congr 3;unfold rotl;rw [UInt32.or_comm,show 32 - (32 - n) = n by omega]
theorem qeu (A : HP) : FW Tryz.prog 200 [] A 193 kW:=by
  refine Con.of' tt_ok Tryz.func200 rfl (by decide) [] [] [] rfl rfl trivial kk rfl ?_;(conv=>whnf);intro b;(conv=>whnf);refine Ret.own 1 64 64 1 ⟨_,_,rfl,⟨rfl,Nat.le_refl _⟩,kk,?_⟩;exact Ret.m (some ⟨b,0,none⟩,64) [] [0,0] ⟨Nat.le_refl _,fun h=>by cases h⟩ rfl kk kk ⟨rfl,rfl⟩
theorem qj3 (A : HP) : FW Tryz.prog 188 [] A 193 h0W:=by
  refine Con.of' tt_ok Tryz.func188 rfl (by decide) [] [] [] rfl rfl trivial kk rfl ?_;(conv=>whnf);intro b;(conv=>whnf);refine Ret.own 1 8 8 1 ⟨_,_,rfl,⟨rfl,Nat.le_refl _⟩,kk,?_⟩;exact Ret.m (some ⟨b,0,none⟩,8) [] [0,0] ⟨Nat.le_refl _,fun h=>by cases h⟩ rfl kk kk ⟨rfl,rfl⟩
def padM (b : List UInt8) (k : Nat) : List UInt8:=b ++ 128 :: List.replicate k 0
theorem qkl (b : List UInt8) (k : Nat) : (padM b k).length = b.length + 1 + k:=by simp [padM];omega
theorem qke (b : List UInt8) (k : Nat) : padM b (k + 1) = padM b k ++ [0]:=by simp [padM,List.replicate_succ']
theorem qli (A R : HP) (hE : Ent A R) (a : Option Addr) (cap : Nat) (b : List UInt8) (hb : Bts R a cap b) (hn : b.length ≤ 1073741824) :
    FB Tryz.prog 187 [.c (.rs a b.length cap)] A 5 (b ++ padB b.length):=by
  refine Con.of' tt_ok Tryz.func187 rfl (by decide) [.c (.rs a b.length cap)] [] [] rfl rfl trivial kk rfl ?_;(conv=>whnf);intro b6;(conv=>whnf);refine With.own (i:=6) (n:=0) (cap:=0) (size:=1) ⟨_,_,rfl,⟨rfl,Nat.le_refl _⟩,?_⟩;refine appb (l:=[]) (m:=b) (.refl _) (Src.rs (A:=A) (by simp) (hb.1.ent hE)) rfl rfl ⟨rfl,by decide,by decide⟩ (by simp;omega) 24 (.inr rfl) ?_;intro a1 c1 hc1;rw [List.nil_append] at hc1 ⊢;(conv=>whnf);intro b10;conv=>whnf
  refine appb (l:=b) (m:=[128]) (.refl _) (by exact Src.u8 128 rfl rfl) rfl rfl ⟨rfl,by decide,by decide⟩ (by simp;omega) 24 (.inr rfl) ?_;intro a2 c2 hc2;conv=>whnf
  refine LoopOb.m (σ:=Nat × Option Addr × Nat) (fun s=>[(0,.c (.rs a b.length cap)),(3,.c (.rs s.2.1 (padM b s.1).length s.2.2))]) (fun s=>⟨[],[],[Own s.2.1 s.2.2 5 1 (u8s (padM b s.1)),A]⟩)
    (fun s=>s.1 ≤ zer b.length ∧ Fc s.2.1 s.2.2 (padM b s.1)) (fun s=>zer b.length - s.1) (0,a2,c2) ⟨Nat.zero_le _,hc2⟩ (Wk.m [] [0,0] kk kk ⟨rfl,rfl⟩) ?_
  rintro ⟨k,a3,c3⟩ ⟨hk,hc3⟩;dsimp only at hk hc3 ⊢;have hlen:=qkl b k;(conv=>whnf);refine ⟨by decide,?_⟩;have htm : ((padM b k).length : Int).tmod 64 = (((padM b k).length % 64 : Nat) : Int):=rfl;rw [htm];refine Cond.neI (fun h=>?_) (fun h=>?_)
  · (conv=>whnf);intro b17;(conv=>whnf);refine appb (l:=padM b k) (m:=[0]) (.refl _) (by exact Src.u8 0 rfl rfl) rfl rfl ⟨rfl,by decide,by decide⟩ (by simp only [zer] at hk;rw [hlen];simp;omega) 24 (.inr rfl) ?_;intro a4 c4 hc4;rw [← qke] at hc4 ⊢;(conv=>whnf);refine ⟨(k + 1,a4,c4),⟨?_,hc4⟩,?_,Wk.m [] [0,0] kk kk ⟨rfl,rfl⟩⟩
    · dsimp only;simp only [zer] at hk ⊢;rw [hlen] at h;omega
    · dsimp only;simp only [zer] at hk ⊢;rw [hlen] at h;omega
  have hk' : k = zer b.length:=by
    rw [hlen] at h;simp only [zer] at hk ⊢;omega
  (conv=>whnf);refine Ar.u64 (by omega) ?_;(conv=>whnf);refine Ar.u64 (by omega) ?_;(conv=>whnf);have e0 : b ++ padB b.length = padM b k ++ be8 ((b.length : Int) * 8) 8:=by rw [hk'];simp [padB,padM]
  rw [e0]
  refine LoopOb.m (σ:=Nat × List UInt8 × Option Addr × Nat) (fun s=>[(0,.c (.rs a b.length cap)),(3,.c (.rs s.2.2.1 (padM b k ++ s.2.1).length s.2.2.2)),(4,.c (.int .u64 ((b.length : Int) * 8))),(5,.c (.int .i64 ((s.1 : Int) - 1)))]) (fun s=>⟨[],[],[Own s.2.2.1 s.2.2.2 5 1 (u8s (padM b k ++ s.2.1)),A]⟩)
    (fun s=>s.1 ≤ 8 ∧ s.2.1 ++ be8 ((b.length : Int) * 8) s.1 = be8 ((b.length : Int) * 8) 8 ∧ Fc s.2.2.1 s.2.2.2 (padM b k ++ s.2.1)) (fun s=>s.1) (8,[],a3,c3) ⟨Nat.le_refl _,rfl,by simpa using hc3⟩ ?_ ?_
  · refine Wk.m [] [0,0] ⟨⟨rfl,trivial⟩,⟨?_,trivial⟩,⟨rfl,trivial⟩,⟨rfl,trivial⟩,trivial⟩ kk ⟨rfl,?_⟩
    · show Value.slice _ _ _ = Value.slice _ _ _;rw [List.append_nil]
    · rw [List.append_nil]
  rintro ⟨j,l,a5,c5⟩ ⟨hj,hl,hc5⟩;dsimp only at hj hl hc5 ⊢
  have hll : l.length + j = 8:=by
    have:=congrArg List.length hl
    rwa [List.length_append,q5s,q5s] at this
  (conv=>whnf);refine Cond.d (fun h=>?_) (fun h=>?_)
  · obtain ⟨j,rfl⟩ : ∃ i,j = i + 1:=⟨j - 1,by omega⟩;(conv=>whnf);refine Ar.i64 (by omega) ?_;(conv=>whnf);refine Ar.u64 (by omega) ?_;(conv=>whnf);refine ⟨by omega,?_⟩;refine Ar.wr ?_;(conv=>whnf);intro b34;(conv=>whnf);have e8 : min (8 * (((j + 1 : Nat) : Int) - 1)).toNat IntKind.u64.bits = 8 * j:=by simp [IntKind.bits];omega
    refine appb (l:=padM b k ++ l) (m:=[by8 (((b.length : Int) * 8).fdiv (2 ^ (8 * j)))]) (.refl _) (by exact Src.u8 _ (by rw [qg3,← e8]) rfl) rfl rfl ⟨rfl,by decide,by decide⟩ (by simp only [zer] at hk;rw [List.length_append,hlen];simp;omega) 24 (.inr rfl) ?_;intro a6 c6 hc6;rw [List.append_assoc] at hc6 ⊢;(conv=>whnf);refine Ar.i64 (by omega) ?_;conv=>whnf
    refine ⟨(j,l ++ [by8 (((b.length : Int) * 8).fdiv (2 ^ (8 * j)))],a6,c6),⟨by dsimp only;omega,by rw [← hl];simp [be8],hc6⟩,by dsimp only;omega,Wk.m [] [0,0] ⟨⟨rfl,trivial⟩,⟨rfl,trivial⟩,⟨rfl,trivial⟩,⟨?_,trivial⟩,trivial⟩ kk ⟨rfl,rfl⟩⟩;show Value.int .i64 _ = Value.int .i64 _;congr 1;dsimp only;omega
  have hj0 : j = 0:=by omega
  subst hj0;simp only [be8,List.append_nil] at hl;subst hl;(conv=>whnf);exact Ret.m (a5,c5) [] [0,0] hc5 rfl kk kk ⟨rfl,rfl⟩
theorem qpn (b : List UInt8) (k i : Nat) : gd (b.drop k) i = gd b (k + i):=by simp [gd,List.getElem?_drop]
theorem qh3 (b : List UInt8) (k : Nat) : wordB (b.drop k) = (UInt8.ofNat (gd b k)).toUInt32 <<< 24 ||| (UInt8.ofNat (gd b (k + 1))).toUInt32 <<< 16 ||| (UInt8.ofNat (gd b (k + 2))).toUInt32 <<< 8 ||| (UInt8.ofNat (gd b (k + 3))).toUInt32:=by
  simp only [wordB,qpn,Nat.add_zero]
abbrev RowW (a : Option Addr) (c : Nat) (l : List UInt32) : HP:=Own a c 193 1 (w32s l)
theorem qr9 (A R : HP) (hE : Ent A R) (a : Option Addr) (cap : Nat) (b : List UInt8) (hb : Bts R a cap b) (hl : b.length = 64) :
    FW Tryz.prog 199 [.c (.rs a b.length cap)] A 193 (sch b 64):=by
  refine Con.of' tt_ok Tryz.func199 rfl (by decide) [.c (.rs a b.length cap)] [] [] rfl rfl trivial kk rfl ?_;conv=>whnf
  refine LoopOb.m (σ:=Nat × Option Addr × Nat) (fun s=>[(0,.c (.rs a b.length cap)),(3,.c (.rs s.2.1 (sch b s.1).length s.2.2)),(4,.c (.int .i64 s.1))]) (fun s=>⟨[],[],[RowW s.2.1 s.2.2 (sch b s.1),A]⟩)
    (fun s=>s.1 ≤ 16 ∧ Fc s.2.1 s.2.2 (sch b s.1)) (fun s=>16 - s.1) (0,none,0) ⟨Nat.zero_le _,Fc.nil⟩ ?_ ?_
  · refine Wk.own0 193 1 ?_;exact Wk.m [] [0,0] kk kk ⟨rfl,rfl⟩
  rintro ⟨t,at1,ct⟩ ⟨ht,hct⟩;dsimp only at ht hct ⊢;(conv=>whnf);refine Cond.d (fun h=>?_) (fun h=>?_)
  · have hr:=hb.1.ent hE;(conv=>whnf);refine Draw.till (by kernel_rfl) tt_ok (Tr.of (List.range 37) .nil) 35 (by kernel_rfl) ?_;(conv=>whnf);refine Ar.i64 (by omega) ?_;(conv=>whnf);refine idx (A:=A) (4 * t) (by simp) hr (by omega) (by omega) fun p hp=>?_;rw [hp] at hr ⊢;(conv=>whnf);refine ldb (A:=A) (4 * t) (by simp) hr (by omega) rfl rfl (by show _ + (4 * (t : Int)).toNat * 1 = _;omega) ?_;(conv=>whnf);refine Ar.w8 (gd8 b (4 * t)) ?_;(conv=>whnf);refine ⟨by decide,?_⟩;refine Ar.wshl (.base _) 24 (by decide) ?_;conv=>whnf
    refine Ar.i64 (by omega) ?_;(conv=>whnf);refine Ar.i64 (by omega) ?_;(conv=>whnf);refine ⟨by omega,PtrOb.at ?_⟩;(conv=>whnf);refine ldb (A:=A) (4 * t + 1) (by simp) hr (by omega) rfl rfl (by show _ + (4 * (t : Int) + 1).toNat * 1 = _;omega) ?_;(conv=>whnf);refine Ar.w8 (gd8 b (4 * t + 1)) ?_;(conv=>whnf);refine ⟨by decide,?_⟩;refine Ar.wshl (.base _) 16 (by decide) ?_;(conv=>whnf);refine Ar.i64 (by omega) ?_;(conv=>whnf);refine Ar.i64 (by omega) ?_;(conv=>whnf);refine ⟨by omega,PtrOb.at ?_⟩;conv=>whnf
    refine ldb (A:=A) (4 * t + 2) (by simp) hr (by omega) rfl rfl (by show _ + (4 * (t : Int) + 2).toNat * 1 = _;omega) ?_;(conv=>whnf);refine Ar.w8 (gd8 b (4 * t + 2)) ?_;(conv=>whnf);refine ⟨by decide,?_⟩;refine Ar.wshl (.base _) 8 (by decide) ?_;(conv=>whnf);refine Ar.i64 (by omega) ?_;(conv=>whnf);refine Ar.i64 (by omega) ?_;(conv=>whnf);refine ⟨by omega,PtrOb.at ?_⟩;(conv=>whnf);refine ldb (A:=A) (4 * t + 3) (by simp) hr (by omega) rfl rfl (by show _ + (4 * (t : Int) + 3).toNat * 1 = _;omega) ?_;(conv=>whnf);refine Ar.w8 (gd8 b (4 * t + 3)) ?_
    (conv=>whnf);intro b48;(conv=>whnf);refine Sub.r [] [0,0] ?_;conv=>whnf
    have ew : q35 b (sch b t) = (UInt8.ofNat (gd b (4 * t))).toUInt32 <<< 24 ||| (UInt8.ofNat (gd b (4 * t + 1))).toUInt32 <<< 16 ||| (UInt8.ofNat (gd b (4 * t + 2))).toUInt32 <<< 8 ||| (UInt8.ofNat (gd b (4 * t + 3))).toUInt32:=by
      unfold q35;rw [q2m,if_pos (by omega),qh3]
    refine appw (l:=sch b t) (m:=[q35 b (sch b t)]) (.refl _) (by exact Src.w32 _ (by rw [ew];exact (Wd.or (Wd.or (Wd.or (.base _) (.base _)) (.base _)) (.base _)).h) rfl) rfl rfl ⟨rfl,by decide,by decide⟩ (by rw [q2m];simp;omega) 261 (.inr rfl) ?_;intro a4 c4 hc4;(conv=>whnf);refine Ar.i64 (by omega) ?_;(conv=>whnf);exact ⟨(t + 1,a4,c4),⟨by dsimp only;omega,hc4⟩,by dsimp only;omega,Wk.m [] [0,0] ⟨⟨rfl,trivial⟩,⟨rfl,trivial⟩,⟨rfl,trivial⟩,trivial⟩ kk ⟨rfl,rfl⟩⟩
  have ht' : t = 16:=by omega
  subst ht';conv=>whnf
  refine LoopOb.m (σ:=Nat × Option Addr × Nat) (fun s=>[(0,.c (.rs a b.length cap)),(3,.c (.rs s.2.1 (sch b s.1).length s.2.2)),(5,.c (.int .i64 s.1))]) (fun s=>⟨[],[],[RowW s.2.1 s.2.2 (sch b s.1),A]⟩)
    (fun s=>(16 ≤ s.1 ∧ s.1 ≤ 64) ∧ Fc s.2.1 s.2.2 (sch b s.1)) (fun s=>64 - s.1) (16,at1,ct) ⟨⟨Nat.le_refl _,by dsimp only;omega⟩,hct⟩ (Wk.m [] [0,0] kk kk ⟨rfl,rfl⟩) ?_
  rintro ⟨t,at2,ct2⟩ ⟨ht2,hct2⟩;dsimp only at ht2 hct2 ⊢;(conv=>whnf);refine Cond.d (fun h=>?_) (fun h=>?_)
  · have hr : Rd (RowW at2 ct2 (sch b t)) at2 (w32s (sch b t)):=Own.rd;have hsl:=q2m b t;generalize ew : sch b t = w at hr hsl hct2 ⊢;have en : q35 b w = sg1 (wg w (t - 2)) + wg w (t - 7) + sg0 (wg w (t - 15)) + wg w (t - 16):=by unfold q35;rw [hsl,if_neg (by omega)]
    (conv=>whnf);refine Draw.till (by kernel_rfl) tt_ok (Tr.of (List.range 12) .nil) 1000000 (by kernel_rfl) ?_;(conv=>whnf);refine Ar.i64 (by omega) ?_;(conv=>whnf);refine idxw (A:=RowW at2 ct2 w) (t - 15) (by simp) hr (by omega) (by omega) fun p hp=>?_;subst hp;(conv=>whnf);refine ldw (A:=RowW (some (radr p)) ct2 w) (t - 15) (by simp) hr (by omega) rfl rfl (by show _ + ((t : Int) - 15).toNat * 1 = _;omega) ?_;(conv=>whnf);refine Ar.i64 (by omega) ?_;(conv=>whnf);refine ⟨by omega,PtrOb.at ?_⟩;conv=>whnf
    refine ldw (A:=RowW (some (radr p)) ct2 w) (t - 2) (by simp) hr (by omega) rfl rfl (by show _ + ((t : Int) - 2).toNat * 1 = _;omega) ?_;(conv=>whnf);refine Cq.pu (q5f _ (wg w (t - 15)) 7 (by decide)) rfl ?_;(conv=>whnf);refine Cq.pu (q5f _ (wg w (t - 15)) 18 (by decide)) rfl ?_;(conv=>whnf);refine ⟨by decide,?_⟩;(conv=>whnf);refine Cq.pu (q5f _ (wg w (t - 2)) 17 (by decide)) rfl ?_;(conv=>whnf);refine Cq.pu (q5f _ (wg w (t - 2)) 19 (by decide)) rfl ?_;(conv=>whnf);refine ⟨by decide,?_⟩;conv=>whnf
    refine Draw.till (by kernel_rfl) tt_ok (Tr.of (List.range 19) .nil) 17 (by kernel_rfl) ?_;(conv=>whnf);refine Ar.i64 (by omega) ?_;(conv=>whnf);refine ⟨by omega,PtrOb.at ?_⟩;(conv=>whnf);refine ldw (A:=RowW (some (radr p)) ct2 w) (t - 7) (by simp) hr (by omega) rfl rfl (by show _ + ((t : Int) - 7).toNat * 1 = _;omega) ?_;(conv=>whnf);refine Ar.wadd (x:=sg1 (wg w (t - 2))) (.xor (.xor (.base _) (.base _)) (.shr (.base _) 10 (by decide))) (.base _) ?_;conv=>whnf
    refine Ar.wadd (y:=sg0 (wg w (t - 15))) (.base _) (.xor (.xor (.base _) (.base _)) (.shr (.base _) 3 (by decide))) ?_;(conv=>whnf);refine Ar.i64 (by omega) ?_;(conv=>whnf);refine ⟨by omega,PtrOb.at ?_⟩;(conv=>whnf);refine ldw (A:=RowW (some (radr p)) ct2 w) (t - 16) (by simp) hr (by omega) rfl rfl (by show _ + ((t : Int) - 16).toNat * 1 = _;omega) ?_;(conv=>whnf);refine Ar.wadd (.base _) (.base _) ?_;(conv=>whnf);intro b96;(conv=>whnf);refine Sub.r [] [0,0] ?_;conv=>whnf
    refine appw (l:=w) (m:=[q35 b w]) (.refl _) (by exact Src.w32 _ (by rw [en]) rfl) rfl rfl ⟨rfl,by decide,by decide⟩ (by rw [hsl];simp;omega) 261 (.inr rfl) ?_;intro a4 c4 hc4;(conv=>whnf);refine Ar.i64 (by omega) ?_;(conv=>whnf);subst ew;exact ⟨(t + 1,a4,c4),⟨by dsimp only;omega,hc4⟩,by dsimp only;omega,Wk.m [] [0,0] kk kk ⟨rfl,rfl⟩⟩
  have ht' : t = 64:=by omega
  subst ht';(conv=>whnf);exact Ret.m (at2,ct2) [] [0,0] hct2 rfl kk kk ⟨rfl,rfl⟩
end
section
theorem qkd {x y : UInt32} (h : ∀ i,i < 32 → x.toBitVec.getLsbD i = y.toBitVec.getLsbD i) : x = y :=
  UInt32.toBitVec_inj.1 (BitVec.eq_of_getLsbD_eq h)
theorem ch_eq (e f g : UInt32) : (e &&& f) ^^^ (~~~e &&& g) = g ^^^ e &&& (f ^^^ g):=by
  refine qkd fun i hi=>?_;simp only [UInt32.toBitVec_xor,UInt32.toBitVec_and,UInt32.toBitVec_not,BitVec.getLsbD_xor,BitVec.getLsbD_and,BitVec.getLsbD_not,hi,decide_true,Bool.true_and];cases e.toBitVec.getLsbD i <;> cases f.toBitVec.getLsbD i <;> cases g.toBitVec.getLsbD i <;> rfl
theorem qq1 (a b c : UInt32) : (a &&& b) ^^^ (a &&& c) ^^^ (b &&& c) = a &&& b ||| c &&& (a ||| b):=by
  refine qkd fun i hi=>?_;simp only [UInt32.toBitVec_xor,UInt32.toBitVec_and,UInt32.toBitVec_or,BitVec.getLsbD_xor,BitVec.getLsbD_and,BitVec.getLsbD_or];cases a.toBitVec.getLsbD i <;> cases b.toBitVec.getLsbD i <;> cases c.toBitVec.getLsbD i <;> rfl
theorem qkj (b : List UInt8) {h : List UInt32} (hh : h.length = 8) : ∀ t,(rnds b h t).length = 8
  | 0=>hh
  | t + 1=>rfl
theorem q8o {P : Program} {t : Nat} {x : TyX} {b off cap e : Nat} {p : Nat × Nat} {l : List UInt32} {n : Int} {B : Names} {H : List Chunk} {F F' : List HP} {f : M → Prop} (j : Nat) (c : UInt32)
    (hF : F.Perm (Own (some (radr p)) cap e 1 (w32s l) :: F')) (hx : x.size = 1) (hb : b = p.1) (ho : off = p.2 + j) (hn : n = (c.toNat : Int)) (hj : j < l.length)
    (h : f ⟨B,H,Own (some (radr p)) cap e 1 (w32s (l.set j c)) :: F'⟩) :
    With (Ty P t x) (RunOb P (do storeVar t ⟨b,off,none⟩ (SV.den B (.c (.int .u32 n)));pure undef) ⟨B,H,F⟩ fun _ m'=>f m'):=by
  refine q8z (ys:=[w32 c]) hF hb ho (by rw [hn];rfl) (by rw [hx];rfl) (by simp [w32,Value.oneCell']) (by rw [q1b];omega) ?_
  have e : (w32s l).take j ++ ([w32 c] ++ (w32s l).drop (j + x.size)) = w32s (l.set j c):=by
    rw [hx,List.set_eq_take_append_cons_drop,if_pos hj]
    simp [w32s]
  rw [e];exact h
def addR (h v : List UInt32) (i : Nat) : List UInt32:=(adds h v).take i ++ v.drop i
theorem qku {h v : List UInt32} {i : Nat} (hv : v.length = 8) (hi : i ≤ 8) : (addR h v i).length = 8:=by simp [addR,adds];omega
theorem qlk {h v : List UInt32} {i : Nat} (hv : v.length = 8) (hi : i < 8) : wg (addR h v i) i = wg v i:=by
  have : ((adds h v).take i).length = i:=by simp [adds];omega
  simp only [wg,addR,List.getD_eq_getElem?_getD];rw [List.getElem?_append_right (by omega),this,Nat.sub_self,List.getElem?_drop,Nat.add_zero]
theorem qkh {h v : List UInt32} {i : Nat} (hv : v.length = 8) (hi : i < 8) : (addR h v i).set i (wg v i + wg h i) = addR h v (i + 1):=by
  have e : ((adds h v).take i).length = i:=by simp [adds];omega
  have hl : (adds h v).length = 8:=by simp [adds]
  have eg : (adds h v)[i]'(by omega) = wg v i + wg h i:=by simp [adds,UInt32.add_comm]
  unfold addR;rw [List.set_append_right _ _ (by omega),e,Nat.sub_self,List.drop_eq_getElem_cons (by omega),List.set_cons_zero,List.take_succ_eq_append_getElem (by omega),eg]
  simp
theorem qko (A R R' : HP) (hE : Ent A R) (hE' : Ent A R') (ah : Option Addr) (ch : Nat) (h : List UInt32) (hh : Rd R' ah (w32s h)) (hhl : h.length = 8) (a : Option Addr) (cap : Nat) (b : List UInt8) (hb : Bts R a cap b) (hl : b.length = 64) :
    FW Tryz.prog 189 [.c (.rs ah h.length ch),.c (.rs a b.length cap)] A 193 (blk1 b h):=by
  refine Con.of' tt_ok Tryz.func189 rfl (by decide) [.c (.rs ah h.length ch),.c (.rs a b.length cap)] [] [] rfl rfl trivial kk rfl ?_;(conv=>whnf);refine Cq.fw (qr9 _ R ((Ent.a mm).trans hE) a cap b hb hl) rfl fun aw cw hcw=>?_;(conv=>whnf);refine Cq.fw (qeu _) rfl fun ak ck hck=>?_;(conv=>whnf);intro b17;(conv=>whnf);refine With.own (i:=17) (n:=0) (cap:=0) (size:=1) ⟨_,_,rfl,⟨rfl,Nat.le_refl _⟩,?_⟩
  refine appw (l:=[]) (m:=h) (.refl _) (Src.rs (A:=A) (by simp) (hh.ent hE')) rfl rfl ⟨rfl,by decide,by decide⟩ (by simp;omega) 261 (.inr rfl) ?_;intro a1 c1 hc1;rw [List.nil_append] at hc1 ⊢;conv=>whnf
  refine LoopOb.m (σ:=Nat × Option Addr × Nat) (fun s=>[(0,.c (.rs ah h.length ch)),(5,.c (.rs aw (sch b 64).length cw)),(6,.c (.rs ak kW.length ck)),(7,.c (.rs s.2.1 (rnds b h s.1).length s.2.2)),(8,.c (.int .i64 s.1))])
    (fun s=>⟨[],[],[RowW s.2.1 s.2.2 (rnds b h s.1),RowW ak ck kW,RowW aw cw (sch b 64),A]⟩) (fun s=>s.1 ≤ 64 ∧ Fc s.2.1 s.2.2 (rnds b h s.1)) (fun s=>64 - s.1) (0,a1,c1) ⟨Nat.zero_le _,hc1⟩ (Wk.m [] [0,0,0,0] kk kk ⟨rfl,rfl⟩) ?_
  rintro ⟨t,as0,cs⟩ ⟨ht,hcs⟩;dsimp only at ht hcs ⊢;have hvl:=qkj b hhl t;(conv=>whnf);refine Cond.d (fun h1=>?_) (fun h1=>?_)
  · have hr : Rd (RowW as0 cs (rnds b h t)) as0 (w32s (rnds b h t)):=Own.rd;have hrk : Rd (RowW ak ck kW) ak (w32s kW):=Own.rd;have hrw : Rd (RowW aw cw (sch b 64)) aw (w32s (sch b 64)):=Own.rd;have hkl:=qan;have hsl:=q2m b 64;have er : rnds b h (t + 1) = rnd (rnds b h t) (wg kW t) (wg (sch b 64) t):=rfl;generalize ev : rnds b h t = v at hr hvl hcs er ⊢;(conv=>whnf);refine Draw.till (by kernel_rfl) tt_ok (Tr.of (List.range 8) .nil) 1000000 (by kernel_rfl) ?_;(conv=>whnf);refine idxw (A:=RowW as0 cs v) 0 (by simp) hr (by omega) rfl fun p hp=>?_
    subst hp;(conv=>whnf);refine ldw (A:=RowW (some (radr p)) cs v) 0 (by simp) hr (by omega) rfl rfl rfl ?_;(conv=>whnf);refine ⟨by omega,PtrOb.at ?_⟩;(conv=>whnf);refine ldw (A:=RowW (some (radr p)) cs v) 4 (by simp) hr (by omega) rfl rfl rfl ?_;(conv=>whnf);refine Draw.till (by kernel_rfl) tt_ok (Tr.of [0,1,2,3,5,8,12,13,14,15,16,17,18,19,20,21,22,23,25,26,27,28,30,31,32,33,4,6,7,9,10,11,24,29,34,35] .nil) 1000000 (by kernel_rfl) ?_;(conv=>whnf);refine ⟨by omega,PtrOb.at ?_⟩;conv=>whnf
    refine ldw (A:=RowW (some (radr p)) cs v) 7 (by simp) hr (by omega) rfl rfl rfl ?_;(conv=>whnf);refine ⟨by omega,PtrOb.at ?_⟩;(conv=>whnf);refine ldw (A:=RowW (some (radr p)) cs v) 5 (by simp) hr (by omega) rfl rfl rfl ?_;(conv=>whnf);refine ⟨by omega,PtrOb.at ?_⟩;(conv=>whnf);refine ldw (A:=RowW (some (radr p)) cs v) 6 (by simp) hr (by omega) rfl rfl rfl ?_;(conv=>whnf);refine idxw (A:=RowW ak ck kW) t (by simp) hrk (by omega) rfl fun pk hpk=>?_;conv=>whnf
    refine ldw (A:=RowW ak ck kW) (l:=kW) t (by simp) (by rw [← hpk];exact hrk) (by omega) rfl rfl (by show _ + (t : Int).toNat * 1 = _;omega) ?_;(conv=>whnf);refine idxw (A:=RowW aw cw (sch b 64)) t (by simp) hrw (by omega) rfl fun pw hpw=>?_;(conv=>whnf);refine ldw (A:=RowW aw cw (sch b 64)) (l:=sch b 64) t (by simp) (by rw [← hpw];exact hrw) (by omega) rfl rfl (by show _ + (t : Int).toNat * 1 = _;omega) ?_;(conv=>whnf);refine Cq.pu (q5f _ (wg v 4) 6 (by decide)) rfl ?_;(conv=>whnf);refine Sub.whole ?_;conv=>whnf
    refine Cq.pu (q5f _ (wg v 4) 11 (by decide)) rfl ?_;(conv=>whnf);refine Sub.whole ?_;(conv=>whnf);refine Cq.pu (q5f _ (wg v 4) 25 (by decide)) rfl ?_;(conv=>whnf);refine Sub.whole ?_;(conv=>whnf);refine Ar.wadd (.base (wg v 7)) (.xor (.xor (.base _) (.base _)) (.base _)) ?_;(conv=>whnf);refine Ar.wadd (y:=wg v 6 ^^^ wg v 4 &&& (wg v 5 ^^^ wg v 6)) (.base _) (by rw [← ch_eq];exact .xor (.and (.base _) (.base _)) (.and (.not (.base _)) (.base _))) ?_;(conv=>whnf);refine Ar.wadd (.base _) (.base _) ?_;conv=>whnf
    refine Ar.wadd (.base _) (.base _) ?_;(conv=>whnf);refine Draw.till (by kernel_rfl) tt_ok (Tr.of [0,2,5,8,9,10,11,12,13,14,15,16,17,18,19,20,21,22,23,24,25,26,1,3,4,6,7,27,28] .nil) 1000000 (by kernel_rfl) ?_;(conv=>whnf);refine ⟨by omega,PtrOb.at ?_⟩;(conv=>whnf);refine ldw (A:=RowW (some (radr p)) cs v) 1 (by simp) hr (by omega) rfl rfl rfl ?_;(conv=>whnf);refine ⟨by omega,PtrOb.at ?_⟩;(conv=>whnf);refine ldw (A:=RowW (some (radr p)) cs v) 2 (by simp) hr (by omega) rfl rfl rfl ?_;(conv=>whnf);refine ⟨by omega,PtrOb.at ?_⟩
    (conv=>whnf);refine ldw (A:=RowW (some (radr p)) cs v) 1 (by simp) hr (by omega) rfl rfl rfl ?_;(conv=>whnf);refine ⟨by omega,PtrOb.at ?_⟩;(conv=>whnf);refine ldw (A:=RowW (some (radr p)) cs v) 2 (by simp) hr (by omega) rfl rfl rfl ?_;(conv=>whnf);refine Cq.pu (q5f _ (wg v 0) 2 (by decide)) rfl ?_;(conv=>whnf);refine Sub.whole ?_;(conv=>whnf);refine Cq.pu (q5f _ (wg v 0) 13 (by decide)) rfl ?_;(conv=>whnf);refine Sub.whole ?_;(conv=>whnf);refine Cq.pu (q5f _ (wg v 0) 22 (by decide)) rfl ?_;(conv=>whnf);refine Sub.whole ?_
    (conv=>whnf);refine Ar.wadd (y:=wg v 0 &&& wg v 1 ||| wg v 2 &&& (wg v 0 ||| wg v 1)) (.xor (.xor (.base _) (.base _)) (.base _)) (by rw [← qq1];exact .xor (.xor (.and (.base _) (.base _)) (.and (.base _) (.base _))) (.and (.base _) (.base _))) ?_;(conv=>whnf);refine Draw.till (by kernel_rfl) tt_ok (Tr.of (List.range 28) .nil) 26 (by kernel_rfl) ?_;(conv=>whnf);refine Ar.wadd (.base _) (.base _) ?_;(conv=>whnf);refine ⟨by omega,PtrOb.at ?_⟩;(conv=>whnf);refine ldw (A:=RowW (some (radr p)) cs v) 0 (by simp) hr (by omega) rfl rfl rfl ?_;conv=>whnf
    refine ⟨by omega,PtrOb.at ?_⟩;(conv=>whnf);refine ldw (A:=RowW (some (radr p)) cs v) 1 (by simp) hr (by omega) rfl rfl rfl ?_;(conv=>whnf);refine ⟨by omega,PtrOb.at ?_⟩;(conv=>whnf);refine ldw (A:=RowW (some (radr p)) cs v) 2 (by simp) hr (by omega) rfl rfl rfl ?_;(conv=>whnf);refine ⟨by omega,PtrOb.at ?_⟩;(conv=>whnf);refine ldw (A:=RowW (some (radr p)) cs v) 3 (by simp) hr (by omega) rfl rfl rfl ?_;(conv=>whnf);refine Ar.wadd (.base _) (.base _) ?_;(conv=>whnf);refine ⟨by omega,PtrOb.at ?_⟩;conv=>whnf
    refine ldw (A:=RowW (some (radr p)) cs v) 4 (by simp) hr (by omega) rfl rfl rfl ?_;(conv=>whnf);refine ⟨by omega,PtrOb.at ?_⟩;(conv=>whnf);refine ldw (A:=RowW (some (radr p)) cs v) 5 (by simp) hr (by omega) rfl rfl rfl ?_;(conv=>whnf);refine ⟨by omega,PtrOb.at ?_⟩;(conv=>whnf);refine ldw (A:=RowW (some (radr p)) cs v) 6 (by simp) hr (by omega) rfl rfl rfl ?_;(conv=>whnf);intro b119;(conv=>whnf);refine Ar.i64 (by omega) ?_;conv=>whnf
    refine ⟨(t + 1,some ⟨b119,0,none⟩,8),⟨by dsimp only;omega,by dsimp only;rw [er];exact Nat.le_refl _,fun h=>by cases h⟩,by dsimp only;omega,?_⟩;dsimp only;rw [er];refine Wk.own 119 8 8 1 ⟨_,_,rfl,⟨rfl,Nat.le_refl _⟩,kk,?_⟩;exact Wk.m [] [0,1,1,1] kk kk ⟨rfl,rfl⟩
  have ht' : t = 64:=by omega
  subst ht';have eb : blk1 b h = adds h (rnds b h 64):=rfl;rw [eb];generalize rnds b h 64 = v at hvl hcs ⊢
  have ea : adds h v = addR h v 8:=by
    show _ = (adds h v).take 8 ++ v.drop 8;rw [List.take_of_length_le (by simp [adds]),List.drop_of_length_le (by omega),List.append_nil]
  rw [ea];conv=>whnf
  refine LoopOb.m (σ:=Nat) (fun i=>[(0,.c (.rs ah h.length ch)),(7,.c (.rs as0 v.length cs)),(13,.c (.int .i64 i))])
    (fun i=>⟨[],[],[RowW as0 cs (addR h v i),A]⟩) (fun i=>i ≤ 8) (fun i=>8 - i) 0 (Nat.zero_le _) (Wk.m [] [0,2] kk kk ⟨rfl,rfl⟩) ?_
  intro i hi;dsimp only;have hal:=qku (h:=h) hvl hi;(conv=>whnf);refine Cond.d (fun h1=>?_) (fun h1=>?_)
  · have hr : Rd (RowW as0 cs (addR h v i)) as0 (w32s (addR h v i)):=Own.rd;have hrh:=hh.ent hE';have eg:=qlk (h:=h) hvl (show i < 8 by omega);have es:=qkh (h:=h) hvl (show i < 8 by omega);generalize addR h v i = u at hr hal eg es ⊢;(conv=>whnf);refine Draw.till (by kernel_rfl) tt_ok (Tr.of (List.range 13) .nil) 12 (by kernel_rfl) ?_;(conv=>whnf);refine ⟨by omega,PtrOb.rd (A:=RowW as0 cs u) (by simp) hr (by rw [q1b];omega) fun p hp=>?_⟩;subst hp;conv=>whnf
    refine ldw (A:=RowW (some (radr p)) cs u) i (by simp) hr (by omega) rfl rfl (by show _ + (i : Int).toNat * 1 = _;omega) ?_;rw [eg];(conv=>whnf);refine idxw (A:=A) i (by simp) hrh (by omega) rfl fun ph hph=>?_;rw [hph] at hrh;(conv=>whnf);refine ldw (A:=A) i (by simp) hrh (by omega) rfl rfl (by show _ + (i : Int).toNat * 1 = _;omega) ?_;(conv=>whnf);refine Ar.wadd (.base _) (.base _) ?_;(conv=>whnf);refine ⟨by omega,PtrOb.at ?_⟩;(conv=>whnf);refine q8o i (wg v i + wg h i) (.refl _) rfl rfl (by show _ + (i : Int).toNat * 1 = _;omega) rfl (by omega) ?_
    rw [es];(conv=>whnf);refine Ar.i64 (by omega) ?_;(conv=>whnf);exact ⟨i + 1,by omega,by omega,Wk.m [] [0,0] kk kk ⟨rfl,rfl⟩⟩
  have hi' : i = 8:=by omega
  subst hi';(conv=>whnf);refine Ret.m (as0,cs) [] [0,0] ⟨by dsimp only;rw [hal,← hvl];exact hcs.1,fun h=>by have:=hcs.2 h;rw [this] at hvl;cases hvl⟩ ?_ kk kk ⟨rfl,rfl⟩;show Value.slice as0 v.length cs = Value.slice as0 (addR h v 8).length cs;rw [hal,hvl]
end
section
theorem q7x {a a' : Option Addr} {n n' c c' : Nat} (h1 : a = a') (h2 : n = n') (h3 : c = c') : Value.slice a n c = Value.slice a' n' c':=by subst h1 h2 h3;rfl
theorem qle (w : List UInt32) (i : Nat) (h : i < 4 * w.length) : (sumB w)[i]? = some (wg w (i / 4) >>> UInt32.ofNat (24 - 8 * (i % 4))).toUInt8:=by
  obtain ⟨h0,h1,h2,h3⟩:=qej w (i / 4) (by omega);have hr : i % 4 < 4:=Nat.mod_lt _ (by decide);have hi : i = 4 * (i / 4) + i % 4:=by omega
  generalize i / 4 = k at *;generalize i % 4 = r at *;subst hi
  match r,hr with
  | 0,_=>exact h0
  | 1,_=>exact h1
  | 2,_=>exact h2
  | 3,_=>rw [h3];simp
theorem q9g (A R : HP) (hE : Ent A R) (a : Option Addr) (cap : Nat) (b : List UInt8) (hb : Bts R a cap b) (hn : b.length ≤ 1073741824) :
    Pu Tryz.prog 165 [.c (.rs a b.length cap)] A (.agg [.many 32 (u8s (shaD b))]):=by
  have hz32:=q66;refine Con.of' tt_ok Tryz.func165 rfl (by decide) [.c (.rs a b.length cap)] [] [] rfl rfl trivial kk rfl ?_;(conv=>whnf);intro b2;(conv=>whnf);refine Cq.fb (qli _ R ((Ent.a mm).trans hE) a cap b hb hn) rfl fun ap cp hcp=>?_;(conv=>whnf);refine Cq.fw (qj3 _) rfl fun a0 c0 hc0=>?_;have hpl:=qgo b.length;rw [← List.length_append] at hpl;have hpn : (b ++ padB b.length).length ≤ 1073741824 + 128:=by rw [List.length_append];simp [padB,q5s,zer];omega
  have hD : shaD b = sumB (comp h0W ((b ++ padB b.length).length / 64) (b ++ padB b.length)):=rfl;have hDl:=q1m b;rw [hD] at hDl ⊢;generalize b ++ padB b.length = m at hcp hpl hpn hDl ⊢;conv=>whnf
  refine LoopOb.m (σ:=Nat × Option Addr × Nat) (fun s=>[(2,.c (.ptr 2 0)),(3,.c (.rs ap m.length cp)),(4,.c (.rs s.2.1 (comp h0W s.1 m).length s.2.2)),(5,.c (.int .i64 ((64 * s.1 : Nat) : Int)))])
    (fun s=>⟨[(2,b2)],[(2,[.many 32 z32],23)],[RowW s.2.1 s.2.2 (comp h0W s.1 m),Own ap cp 5 1 (u8s m),A]⟩) (fun s=>64 * s.1 ≤ m.length ∧ Fc s.2.1 s.2.2 (comp h0W s.1 m)) (fun s=>m.length - 64 * s.1) (0,a0,c0) ⟨Nat.zero_le _,hc0⟩
    (Wk.m [2] [0,0,0] kk ⟨⟨trivial,hz32 _,trivial⟩,trivial⟩ ⟨rfl,rfl⟩) ?_
  rintro ⟨j,ah,ch⟩ ⟨hj,hch⟩;dsimp only at hj hch ⊢;have hcl:=q4b (s:=h0W) rfl j m;(conv=>whnf);refine Cond.d (fun h=>?_) (fun h=>?_)
  · have hbm : Bts (Own ap cp 5 1 (u8s m)) ap cp m:=⟨Own.rd,hcp.1,hcp.2⟩;have hcm:=hcp.1;(conv=>whnf);refine Ar.i64 (by omega) ?_;(conv=>whnf);refine ⟨by omega,?_⟩;refine ⟨by omega,?_⟩;(conv=>whnf);have hsl : ((m.drop (64 * j)).take 64).length = 64:=by rw [List.length_take,List.length_drop];omega
    refine Cq.fw (qko _ (Own ap cp 5 1 (u8s m)) (RowW ah ch (comp h0W j m)) (Ent.a mm) (Ent.a mm) ah ch (comp h0W j m) Own.rd hcl (cutA ap cp (64 * j) 1) (cp - 64 * j) ((m.drop (64 * j)).take 64) (hbm.sub (64 * j) 64 (by omega)) hsl) ?_ fun a1 c1 hc1=>?_
    · exact List.cons_eq_cons.2 ⟨rfl,List.cons_eq_cons.2 ⟨q7x (by rfl) (by rw [hsl];omega) rfl,rfl⟩⟩
    (conv=>whnf);refine Ar.to ((64 * (j + 1) : Nat) : Int) (by omega) (Ar.i64 (by omega) ?_);(conv=>whnf);rw [← q8v] at hc1 ⊢;exact ⟨(j + 1,a1,c1),⟨by dsimp only;omega,hc1⟩,by dsimp only;omega,Wk.m [2] [0,1,1] kk ⟨⟨trivial,hz32 _,trivial⟩,trivial⟩ ⟨rfl,rfl⟩⟩
  have hj' : m.length / 64 = j:=by omega
  rw [hj'] at hDl ⊢;generalize comp h0W j m = st at hcl hch hDl ⊢;(conv=>whnf);intro b6;(conv=>whnf);have hf:=fun i (hi : i ≤ 32)=>q2g (l:=sumB st) (n:=32) (i:=i) (by omega) hi
  refine LoopOb.m (σ:=Nat) (fun i=>[(2,.c (.ptr 2 0)),(4,.c (.rs ah st.length ch)),(6,.c (.ptr 6 0)),(7,.c (.int .i64 i))])
    (fun i=>⟨[(6,b6),(2,b2)],[(6,[.many 32 (fillL (sumB st) 32 i)],23),(2,[.many 32 z32],23)],[RowW ah ch st,A]⟩) (fun i=>i ≤ 32) (fun i=>32 - i) 0 (Nat.zero_le _) ?_ ?_
  · rw [qa1];exact Wk.m [6,2] [0,1] kk ⟨⟨trivial,hz32 _,trivial⟩,⟨trivial,hz32 _,trivial⟩,trivial⟩ ⟨rfl,rfl⟩
  intro i hi;(conv=>whnf);refine Cond.d (fun h1=>?_) (fun h1=>?_)
  · have hi' : i < 32:=by omega
    have hr : Rd (RowW ah ch st) ah (w32s st):=Own.rd;(conv=>whnf);refine ⟨by decide,?_⟩;refine Ar.to ((i / 4 : Nat) : Int) rfl (Ar.i64 (by omega) ?_);(conv=>whnf);refine idxw (A:=RowW ah ch st) (i / 4) (by simp) hr (by omega) rfl fun p hp=>?_;(conv=>whnf);refine ldw (A:=RowW ah ch st) (l:=st) (i / 4) (by simp) (by rw [← hp];exact hr) (by omega) rfl rfl (by show _ + ((i / 4 : Nat) : Int).toNat * 1 = _;omega) ?_;(conv=>whnf);refine ⟨by decide,?_⟩;refine Ar.to ((8 * (i % 4) : Nat) : Int) rfl (Ar.i64 (by omega) ?_);conv=>whnf
    refine Ar.to ((24 - 8 * (i % 4) : Nat) : Int) (by omega) (Ar.i64 (by omega) ?_);(conv=>whnf);refine Ar.u64 (by omega) ?_;(conv=>whnf);refine ⟨by omega,?_⟩;have e2 : min ((24 - 8 * (i % 4) : Nat) : Int).toNat IntKind.u32.bits = 24 - 8 * (i % 4):=by simp only [IntKind.bits];omega
    rw [e2];refine Ar.wbyte (Wd.shr (.base (wg st (i / 4))) (24 - 8 * (i % 4)) (by omega)) ?_;(conv=>whnf);refine ⟨by omega,?_⟩;(conv=>whnf);refine ⟨⟨rfl,by show (i : Int).toNat * 1 + 1 ≤ 32;omega⟩,?_⟩;(conv=>whnf);refine Ar.i64 (by omega) ?_;(conv=>whnf);refine ⟨i + 1,by omega,by omega,Wk.m [6,2] [0,0] kk ⟨⟨trivial,hf (i + 1) (by omega) _,trivial⟩,⟨trivial,hz32 _,trivial⟩,trivial⟩ ⟨?_,rfl⟩⟩;have hget:=qle st i (by omega);rw [List.getElem?_eq_getElem (by omega)] at hget
    have es:=q3g (l:=sumB st) (n:=32) (i:=i) (by omega) hi' (u8 ((wg st (i / 4) >>> UInt32.ofNat (24 - 8 * (i % 4))).toUInt8)) (by rw [Option.some.inj hget]);have ei : (i : Int).toNat * 1 = i:=by omega
    show [blk b6 (.cells ((fillL (sumB st) 32 i).take ((i : Int).toNat * 1) ++ ([u8 ((wg st (i / 4) >>> UInt32.ofNat (24 - 8 * (i % 4))).toUInt8)] ++ (fillL (sumB st) 32 i).drop ((i : Int).toNat * 1 + 1)) ++ []).toArray _),_] = _;rw [ei,es];rfl
  have hi' : i = 32:=by omega
  subst hi';rw [q9m hDl];(conv=>whnf);exact Ret.m () [] [1] trivial rfl ⟨mok hDl _,trivial⟩ kk ⟨rfl,rfl⟩
end
section
theorem q9w (A R R' : HP) (hE : Ent A R) (hE' : Ent A R') (a : Option Addr) (ca : Nat) (x : List UInt8) (hx : Rd R a (u8s x)) (hxl : x.length ≤ 2000000000) (b : Option Addr) (cb : Nat) (y : List UInt8) (hy : Rd R' b (u8s y)) (hyl : y.length ≤ 2000000000) :
    FB Tryz.prog 52 [.c (.rs a x.length ca),.c (.rs b y.length cb)] A 5 (x ++ y):=by
  refine Con.of' tt_ok Tryz.func52 rfl (by decide) [.c (.rs a x.length ca),.c (.rs b y.length cb)] [] [] rfl rfl trivial kk rfl ?_;(conv=>whnf);intro b6;(conv=>whnf);refine With.own (i:=6) (n:=0) (cap:=0) (size:=1) ⟨_,_,rfl,⟨rfl,Nat.le_refl _⟩,?_⟩;refine appb (l:=[]) (m:=x) (.refl _) (Src.rs (A:=A) (by simp) (hx.ent hE)) rfl rfl ⟨rfl,by decide,by decide⟩ (by simp;omega) 24 (.inr rfl) ?_;intro a1 c1 hc1;rw [List.nil_append] at hc1 ⊢;conv=>whnf
  refine appb (l:=x) (m:=y) (.refl _) (Src.rs (A:=A) (by simp) (hy.ent hE')) rfl rfl ⟨rfl,by decide,by decide⟩ (by omega) 24 (.inr rfl) ?_;intro a2 c2 hc2;(conv=>whnf);exact Ret.m (a2,c2) [] [0,0] hc2 rfl kk kk ⟨rfl,rfl⟩
theorem qab {l : List UInt8} {i : Nat} (h : i < l.length) : l.take (i + 1) = l.take i ++ [l[i]]:=List.take_succ_eq_append_getElem h
theorem qf5 {l : List UInt8} {i : Nat} (h : i < l.length) : (gd l i : Int) = (l[i].toNat : Int):=by rw [gd_eq h]
theorem q32 (A : HP) (k : List UInt8) (hk : k.length = 32) : FB Tryz.prog 72 [.agg [.many 32 (u8s k)]] A 5 k:=by
  have hk32:=mok hk;refine Con.of' tt_ok Tryz.func72 rfl (by decide) [.agg [.many 32 (u8s k)]] [] [] rfl rfl trivial ⟨⟨hk32 _,trivial⟩,trivial⟩ rfl ?_;(conv=>whnf);intro b1;conv=>whnf
  refine LoopOb.m (σ:=Nat × Option Addr × Nat) (fun s=>[(1,.c (.ptr 1 0)),(3,.c (.rs s.2.1 (k.take s.1).length s.2.2)),(4,.c (.int .i64 s.1))]) (fun s=>⟨[(1,b1)],[(1,[.many 32 (u8s k)],23)],[Own s.2.1 s.2.2 5 1 (u8s (k.take s.1)),A]⟩)
    (fun s=>s.1 ≤ 32 ∧ Fc s.2.1 s.2.2 (k.take s.1)) (fun s=>32 - s.1) (0,none,0) ⟨Nat.zero_le _,Fc.nil⟩ ?_ ?_
  · refine Wk.own0 5 1 ?_;exact Wk.m [1] [0,0] kk ⟨⟨trivial,hk32 _,trivial⟩,trivial⟩ ⟨rfl,rfl⟩
  rintro ⟨i,a1,c1⟩ ⟨hi,hc1⟩;dsimp only at hi hc1 ⊢;(conv=>whnf);refine Cond.d (fun h=>?_) (fun h=>?_)
  · have hi' : i < k.length:=by omega
    (conv=>whnf);refine ⟨by omega,?_⟩;refine q0v i (by show (i : Int).toNat * 1 = i;omega) hi' ?_;(conv=>whnf);intro b13;(conv=>whnf);refine appb (l:=k.take i) (m:=[k[i]]) (.refl _) (by exact Src.u8 _ (qf5 hi') rfl) rfl rfl ⟨rfl,by decide,by decide⟩ (by simp;omega) 24 (.inr rfl) ?_;intro a2 c2 hc2;rw [← qab hi'] at hc2 ⊢;(conv=>whnf);refine Ar.i64 (by omega) ?_;(conv=>whnf);exact ⟨(i + 1,a2,c2),⟨by dsimp only;omega,hc2⟩,by dsimp only;omega,Wk.m [1] [0,0] kk ⟨⟨trivial,hk32 _,trivial⟩,trivial⟩ ⟨rfl,rfl⟩⟩
  have hi' : i = 32:=by omega
  subst hi';rw [List.take_of_length_le (by omega)] at hc1 ⊢;(conv=>whnf);exact Ret.m (a1,c1) [] [0,0] hc1 rfl kk kk ⟨rfl,rfl⟩
theorem qm7 (A : HP) (k : List UInt8) (hk : k.length = 32) : Pu Tryz.prog 124 [.agg [.many 32 (u8s k)]] A (.agg [.many 16 (u8s (k.take 16))]):=by
  have hk32:=mok hk;have hz16 : ∀ B,Seg.ok B (.many 16 (List.replicate 16 (.int .u8 0))):=fun B=>⟨rfl,fun v hv=>by simp at hv;subst hv;rfl⟩;have hf:=fun i (hi : i ≤ 16)=>q2g (l:=k) (n:=16) (i:=i) (by omega) hi;refine Con.of' tt_ok Tryz.func124 rfl (by decide) [.agg [.many 32 (u8s k)]] [] [] rfl rfl trivial ⟨⟨hk32 _,trivial⟩,trivial⟩ rfl ?_;(conv=>whnf);intro b1;(conv=>whnf);intro b2;(conv=>whnf);intro b3;conv=>whnf
  refine LoopOb.m (σ:=Nat) (fun i=>[(1,.c (.ptr 1 0)),(2,.c (.ptr 2 0)),(3,.c (.ptr 3 0)),(4,.c (.int .i64 i))]) (fun i=>⟨[(3,b3),(2,b2),(1,b1)],[(3,[.many 16 (fillL k 16 i)],31),(2,[.many 16 (List.replicate 16 (.int .u8 0))],31),(1,[.many 32 (u8s k)],23)],[A]⟩)
    (fun i=>i ≤ 16) (fun i=>16 - i) 0 (Nat.zero_le _) ?_ ?_
  · rw [qa1];exact Wk.m [3,2,1] [0] kk ⟨⟨trivial,hz16 _,trivial⟩,⟨trivial,hz16 _,trivial⟩,⟨trivial,hk32 _,trivial⟩,trivial⟩ ⟨rfl,rfl⟩
  intro i hi;(conv=>whnf);refine Cond.d (fun h=>?_) (fun h=>?_)
  · have hi' : i < k.length:=by omega
    (conv=>whnf);refine ⟨by omega,?_⟩;refine q0v i (by show (i : Int).toNat * 1 = i;omega) hi' ?_;(conv=>whnf);refine ⟨by omega,?_⟩;(conv=>whnf);refine ⟨⟨rfl,by show (i : Int).toNat * 1 + 1 ≤ 16;omega⟩,?_⟩;(conv=>whnf);refine Ar.i64 (by omega) ?_;(conv=>whnf);refine ⟨i + 1,by omega,by omega,Wk.m [3,2,1] [0] kk ⟨⟨trivial,hf (i + 1) (by omega) _,trivial⟩,⟨trivial,hz16 _,trivial⟩,⟨trivial,hk32 _,trivial⟩,trivial⟩ ⟨?_,rfl⟩⟩;have es:=q3g (l:=k) (n:=16) (i:=i) hi' (by omega) (Value.int .u8 (gd k i)) (by rw [qf5 hi'];rfl)
    have ei : (i : Int).toNat * 1 = i:=by omega
    show [blk b3 (.cells ((fillL k 16 i).take ((i : Int).toNat * 1) ++ ([Value.int .u8 (gd k i)] ++ (fillL k 16 i).drop ((i : Int).toNat * 1 + 1)) ++ []).toArray _),_,_] = _;rw [ei,es];rfl
  have hi' : i = 16:=by omega
  subst hi';have et : fillL k 16 16 = u8s (k.take 16):=by simp [fillL]
  rw [et];have hk16:=mok (show (k.take 16).length = 16 by rw [List.length_take];omega);(conv=>whnf);exact Ret.m () [] [0] trivial rfl ⟨hk16 _,trivial⟩ kk ⟨rfl,rfl⟩
theorem q1c (key : List UInt8) (c : UInt8) {i : Nat} (hi : i < 64) : (padK key c).take (i + 1) = (padK key c).take i ++ [key.getD i 0 ^^^ c]:=by
  rw [qab (by rw [q17];exact hi)]
  simp [padK]
structure MacS where
  i : Nat
  a5 : Option Addr
  c5 : Nat
  a6 : Option Addr
  c6 : Nat
theorem qjv (A R R' : HP) (hE : Ent A R) (hE' : Ent A R') (a0 : Option Addr) (c0 : Nat) (key : List UInt8) (hkey : Bts R' a0 c0 key) (hkl : key.length ≤ 1073741824) (a : Option Addr) (cap : Nat) (b : List UInt8) (hb : Bts R a cap b) (hbl : b.length ≤ 1073741760) :
    Pu Tryz.prog 125 [.c (.rs a0 key.length c0),.c (.rs a b.length cap)] A (.agg [.many 32 (u8s (macD key b))]):=by
  have hz32:=q66;refine Con.of' tt_ok Tryz.func125 rfl (by decide) [.c (.rs a0 key.length c0),.c (.rs a b.length cap)] [] [] rfl rfl trivial kk rfl ?_;(conv=>whnf);intro b4;(conv=>whnf);refine Cond.d (fun h64=>?_) (fun h64=>?_)
  · (conv=>whnf);refine Cq.pu (q9g _ R' ((Ent.a mm).trans hE') a0 c0 key hkey hkl) rfl ?_;(conv=>whnf);refine Cq.fb (q32 _ (shaD key) (q1m _)) rfl fun a1 c1 hc1=>?_;have ek : macK key = shaD key:=if_pos (by omega);have em : macD key b = shaD (padK (shaD key) 92 ++ shaD (padK (shaD key) 54 ++ b)):=by unfold macD;rw [ek]
    rw [em];have hkl2:=q1m key;clear hkey hkl h64 ek em;generalize shaD key = key at *;conv=>whnf
    refine LoopOb.m (σ:=MacS) (fun s=>[(0,.c (.rs a1 key.length c1)),(1,.c (.rs a b.length cap)),(4,.c (.ptr 4 0)),(5,.c (.rs s.a5 ((padK key 54).take s.i).length s.c5)),(6,.c (.rs s.a6 ((padK key 92).take s.i).length s.c6)),(7,.c (.int .i64 s.i))]) (fun s=>⟨[(4,b4)],[(4,[.many 32 z32],23)],[Own s.a5 s.c5 5 1 (u8s ((padK key 54).take s.i)),Own s.a6 s.c6 5 1 (u8s ((padK key 92).take s.i)),Own a1 c1 5 1 (u8s key),A]⟩)
      (fun s=>s.i ≤ 64 ∧ Fc s.a5 s.c5 ((padK key 54).take s.i) ∧ Fc s.a6 s.c6 ((padK key 92).take s.i)) (fun s=>64 - s.i) ⟨0,none,0,none,0⟩ ⟨Nat.zero_le _,Fc.nil,Fc.nil⟩ ?_ ?_
    · refine Wk.own0 5 1 (Wk.own0 5 1 ?_);exact Wk.m [4] [0,0,0,0] kk ⟨⟨trivial,hz32 _,trivial⟩,trivial⟩ ⟨rfl,rfl⟩
    rintro ⟨i,a5,c5,a6,c6⟩ ⟨hi,hc5,hc6⟩;dsimp only at hi hc5 hc6 ⊢;(conv=>whnf);refine Cond.d (fun h=>?_) (fun h=>?_)
    · have hi' : i < 64:=by omega
      (conv=>whnf);refine Cond.d (fun h2=>?_) (fun h2=>?_)
      · (conv=>whnf);refine idx (A:=Own a1 c1 5 1 (u8s key)) i (by simp) Own.rd (by omega) rfl fun p hp=>?_;(conv=>whnf);refine ldb (A:=Own a1 c1 5 1 (u8s key)) (l:=key) i (by simp) (by rw [← hp];exact Own.rd) (by omega) rfl rfl (by show _ + (i : Int).toNat * 1 = _;omega) ?_;(conv=>whnf);intro b30;(conv=>whnf);refine appb (l:=(padK key 54).take i) (m:=[key.getD i 0 ^^^ 54]) (.refl _) (by exact Src.u8 _ (by rw [← xorb];rfl) rfl) rfl rfl ⟨rfl,by decide,by decide⟩ (by simp;omega) 24 (.inr rfl) ?_;intro a5' c5' hc5';rw [← q1c key 54 hi'];conv=>whnf
        intro b35;(conv=>whnf);refine appb (l:=(padK key 92).take i) (m:=[key.getD i 0 ^^^ 92]) (.swap _ _ _) (by exact Src.u8 _ (by rw [← xorb];rfl) rfl) rfl rfl ⟨rfl,by decide,by decide⟩ (by simp;omega) 24 (.inr rfl) ?_;intro a6' c6' hc6';rw [← q1c key 92 hi'];(conv=>whnf);refine Ar.i64 (by omega) ?_;(conv=>whnf);rw [← q1c key 54 hi'] at hc5';rw [← q1c key 92 hi'] at hc6';exact ⟨⟨i + 1,a5',c5',a6',c6'⟩,⟨by dsimp only;omega,hc5',hc6'⟩,by dsimp only;omega,Wk.m [4] [1,0,0,0] kk ⟨⟨trivial,hz32 _,trivial⟩,trivial⟩ ⟨rfl,rfl⟩⟩
      · have hg0 : (0 : Int) = ((key.getD i 0).toNat : Int):=by rw [List.getD_eq_getElem?_getD,List.getElem?_eq_none (by omega)];rfl
        (conv=>whnf);intro b30;(conv=>whnf);refine appb (l:=(padK key 54).take i) (m:=[key.getD i 0 ^^^ 54]) (.refl _) (by exact Src.u8 _ (by rw [← xorb,← hg0];rfl) rfl) rfl rfl ⟨rfl,by decide,by decide⟩ (by simp;omega) 24 (.inr rfl) ?_;intro a5' c5' hc5';rw [← q1c key 54 hi'];(conv=>whnf);intro b35;(conv=>whnf);refine appb (l:=(padK key 92).take i) (m:=[key.getD i 0 ^^^ 92]) (.swap _ _ _) (by exact Src.u8 _ (by rw [← xorb,← hg0];rfl) rfl) rfl rfl ⟨rfl,by decide,by decide⟩ (by simp;omega) 24 (.inr rfl) ?_;intro a6' c6' hc6';rw [← q1c key 92 hi']
        (conv=>whnf);refine Ar.i64 (by omega) ?_;(conv=>whnf);rw [← q1c key 54 hi'] at hc5';rw [← q1c key 92 hi'] at hc6';exact ⟨⟨i + 1,a5',c5',a6',c6'⟩,⟨by dsimp only;omega,hc5',hc6'⟩,by dsimp only;omega,Wk.m [4] [1,0,0,0] kk ⟨⟨trivial,hz32 _,trivial⟩,trivial⟩ ⟨rfl,rfl⟩⟩
    have hi' : i = 64:=by omega
    subst hi';have hp5:=q17 key 54;have hp6:=q17 key 92;have e5 : (padK key 54).take 64 = padK key 54:=List.take_of_length_le (by omega);have e6 : (padK key 92).take 64 = padK key 92:=List.take_of_length_le (by omega);rw [e5] at hc5 ⊢;rw [e6] at hc6 ⊢;(conv=>whnf);refine Cq.fb (q9w _ (Own a5 c5 5 1 (u8s (padK key 54))) R (Ent.a mm) ((Ent.a (p:=A) mm).trans hE) a5 c5 (padK key 54) Own.rd (by omega) a cap b hb.1 (by omega)) rfl fun a40 c40 hc40=>?_;conv=>whnf
    refine Cq.pu (q9g _ (Own a40 c40 5 1 (u8s (padK key 54 ++ b))) (Ent.a mm) a40 c40 (padK key 54 ++ b) ⟨Own.rd,hc40.1,hc40.2⟩ (by rw [List.length_append];omega)) rfl ?_;(conv=>whnf);refine Cq.fb (q32 _ (shaD (padK key 54 ++ b)) (q1m _)) rfl fun a42 c42 hc42=>?_;have hdl:=q1m (padK key 54 ++ b);generalize shaD (padK key 54 ++ b) = d at hdl hc42 ⊢;conv=>whnf
    refine Cq.fb (q9w _ (Own a6 c6 5 1 (u8s (padK key 92))) (Own a42 c42 5 1 (u8s d)) (Ent.a mm) (Ent.a mm) a6 c6 (padK key 92) Own.rd (by omega) a42 c42 d Own.rd (by omega)) rfl fun a43 c43 hc43=>?_;(conv=>whnf);refine Cq.pu (q9g _ (Own a43 c43 5 1 (u8s (padK key 92 ++ d))) (Ent.a mm) a43 c43 (padK key 92 ++ d) ⟨Own.rd,hc43.1,hc43.2⟩ (by rw [List.length_append];omega)) rfl ?_;(conv=>whnf);exact Ret.m () [] [6] trivial rfl ⟨mok (q1m _) _,trivial⟩ kk ⟨rfl,rfl⟩
  · have ek : macK key = key:=if_neg (by omega);have em : macD key b = shaD (padK key 92 ++ shaD (padK key 54 ++ b)):=by unfold macD;rw [ek]
    rw [em];conv=>whnf
    refine LoopOb.m (σ:=MacS) (fun s=>[(0,.c (.rs a0 key.length c0)),(1,.c (.rs a b.length cap)),(4,.c (.ptr 4 0)),(5,.c (.rs s.a5 ((padK key 54).take s.i).length s.c5)),(6,.c (.rs s.a6 ((padK key 92).take s.i).length s.c6)),(7,.c (.int .i64 s.i))]) (fun s=>⟨[(4,b4)],[(4,[.many 32 z32],23)],[Own s.a5 s.c5 5 1 (u8s ((padK key 54).take s.i)),Own s.a6 s.c6 5 1 (u8s ((padK key 92).take s.i)),A]⟩)
      (fun s=>s.i ≤ 64 ∧ Fc s.a5 s.c5 ((padK key 54).take s.i) ∧ Fc s.a6 s.c6 ((padK key 92).take s.i)) (fun s=>64 - s.i) ⟨0,none,0,none,0⟩ ⟨Nat.zero_le _,Fc.nil,Fc.nil⟩ ?_ ?_
    · refine Wk.own0 5 1 (Wk.own0 5 1 ?_);exact Wk.m [4] [0,0,0] kk ⟨⟨trivial,hz32 _,trivial⟩,trivial⟩ ⟨rfl,rfl⟩
    rintro ⟨i,a5,c5,a6,c6⟩ ⟨hi,hc5,hc6⟩;dsimp only at hi hc5 hc6 ⊢;(conv=>whnf);refine Cond.d (fun h=>?_) (fun h=>?_)
    · have hi' : i < 64:=by omega
      (conv=>whnf);refine Cond.d (fun h2=>?_) (fun h2=>?_)
      · (conv=>whnf);refine idx (A:=A) i (by simp) (hkey.1.ent hE') (by omega) rfl fun p hp=>?_;(conv=>whnf);refine ldb (A:=A) (l:=key) i (by simp) (by rw [← hp];exact (hkey.1.ent hE')) (by omega) rfl rfl (by show _ + (i : Int).toNat * 1 = _;omega) ?_;(conv=>whnf);intro b30;(conv=>whnf);refine appb (l:=(padK key 54).take i) (m:=[key.getD i 0 ^^^ 54]) (.refl _) (by exact Src.u8 _ (by rw [← xorb];rfl) rfl) rfl rfl ⟨rfl,by decide,by decide⟩ (by simp;omega) 24 (.inr rfl) ?_;intro a5' c5' hc5';rw [← q1c key 54 hi'];(conv=>whnf);intro b35
        (conv=>whnf);refine appb (l:=(padK key 92).take i) (m:=[key.getD i 0 ^^^ 92]) (.swap _ _ _) (by exact Src.u8 _ (by rw [← xorb];rfl) rfl) rfl rfl ⟨rfl,by decide,by decide⟩ (by simp;omega) 24 (.inr rfl) ?_;intro a6' c6' hc6';rw [← q1c key 92 hi'];(conv=>whnf);refine Ar.i64 (by omega) ?_;(conv=>whnf);rw [← q1c key 54 hi'] at hc5';rw [← q1c key 92 hi'] at hc6';exact ⟨⟨i + 1,a5',c5',a6',c6'⟩,⟨by dsimp only;omega,hc5',hc6'⟩,by dsimp only;omega,Wk.m [4] [1,0,0] kk ⟨⟨trivial,hz32 _,trivial⟩,trivial⟩ ⟨rfl,rfl⟩⟩
      · have hg0 : (0 : Int) = ((key.getD i 0).toNat : Int):=by rw [List.getD_eq_getElem?_getD,List.getElem?_eq_none (by omega)];rfl
        (conv=>whnf);intro b30;(conv=>whnf);refine appb (l:=(padK key 54).take i) (m:=[key.getD i 0 ^^^ 54]) (.refl _) (by exact Src.u8 _ (by rw [← xorb,← hg0];rfl) rfl) rfl rfl ⟨rfl,by decide,by decide⟩ (by simp;omega) 24 (.inr rfl) ?_;intro a5' c5' hc5';rw [← q1c key 54 hi'];(conv=>whnf);intro b35;(conv=>whnf);refine appb (l:=(padK key 92).take i) (m:=[key.getD i 0 ^^^ 92]) (.swap _ _ _) (by exact Src.u8 _ (by rw [← xorb,← hg0];rfl) rfl) rfl rfl ⟨rfl,by decide,by decide⟩ (by simp;omega) 24 (.inr rfl) ?_;intro a6' c6' hc6';rw [← q1c key 92 hi']
        (conv=>whnf);refine Ar.i64 (by omega) ?_;(conv=>whnf);rw [← q1c key 54 hi'] at hc5';rw [← q1c key 92 hi'] at hc6';exact ⟨⟨i + 1,a5',c5',a6',c6'⟩,⟨by dsimp only;omega,hc5',hc6'⟩,by dsimp only;omega,Wk.m [4] [1,0,0] kk ⟨⟨trivial,hz32 _,trivial⟩,trivial⟩ ⟨rfl,rfl⟩⟩
    have hi' : i = 64:=by omega
    subst hi';have hp5:=q17 key 54;have hp6:=q17 key 92;have e5 : (padK key 54).take 64 = padK key 54:=List.take_of_length_le (by omega);have e6 : (padK key 92).take 64 = padK key 92:=List.take_of_length_le (by omega);rw [e5] at hc5 ⊢;rw [e6] at hc6 ⊢;(conv=>whnf);refine Cq.fb (q9w _ (Own a5 c5 5 1 (u8s (padK key 54))) R (Ent.a mm) ((Ent.a (p:=A) mm).trans hE) a5 c5 (padK key 54) Own.rd (by omega) a cap b hb.1 (by omega)) rfl fun a40 c40 hc40=>?_;conv=>whnf
    refine Cq.pu (q9g _ (Own a40 c40 5 1 (u8s (padK key 54 ++ b))) (Ent.a mm) a40 c40 (padK key 54 ++ b) ⟨Own.rd,hc40.1,hc40.2⟩ (by rw [List.length_append];omega)) rfl ?_;(conv=>whnf);refine Cq.fb (q32 _ (shaD (padK key 54 ++ b)) (q1m _)) rfl fun a42 c42 hc42=>?_;have hdl:=q1m (padK key 54 ++ b);generalize shaD (padK key 54 ++ b) = d at hdl hc42 ⊢;conv=>whnf
    refine Cq.fb (q9w _ (Own a6 c6 5 1 (u8s (padK key 92))) (Own a42 c42 5 1 (u8s d)) (Ent.a mm) (Ent.a mm) a6 c6 (padK key 92) Own.rd (by omega) a42 c42 d Own.rd (by omega)) rfl fun a43 c43 hc43=>?_;(conv=>whnf);refine Cq.pu (q9g _ (Own a43 c43 5 1 (u8s (padK key 92 ++ d))) (Ent.a mm) a43 c43 (padK key 92 ++ d) ⟨Own.rd,hc43.1,hc43.2⟩ (by rw [List.length_append];omega)) rfl ?_;(conv=>whnf);exact Ret.m () [] [5] trivial rfl ⟨mok (q1m _) _,trivial⟩ kk ⟨rfl,rfl⟩
end
end Go.Proofs.YtfehjfoajlfhfaaGreatDoor
