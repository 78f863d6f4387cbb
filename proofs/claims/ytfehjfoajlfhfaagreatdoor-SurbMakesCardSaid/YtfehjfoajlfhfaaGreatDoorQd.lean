import Derived.Test.YtfehjfoajlfhfaaGreatDoorQa
import Derived.Test.YtfehjfoajlfhfaaGreatDoorWc
import Derived.Laws.Externs
import Derived.Lib.Mul64
import Derived.Test.YtfehjfoajlfhfaaGreatDoorQb
namespace Go.Proofs.YtfehjfoajlfhfaaGreatDoor
open Go.Sx
set_option maxRecDepth 100000
set_option pp.deepTerms false
set_option pp.maxSteps 300
set_option linter.unusedSimpArgs false
set_option linter.unusedVariables false
section
def qgi : Array Value → Sem Value:=(Extern.MathBitsCarry.rows[0]'(by decide)).2
def qgd : Array Value → Sem Value:=(Extern.MathBitsCarry.rows[1]'(by decide)).2
theorem qo5 (P : Program) (x y c : Nat) (hc : c ≤ 1) (w : World) :
    (qgi #[.int .u64 x,.int .u64 y,.int .u64 c]).run P w = .ok (.tuple #[.int .u64 (((x + y + c) % 18446744073709551616 : Nat) : Int),.int .u64 (((x + y + c) / 18446744073709551616 : Nat) : Int)]) w:=by
  have : c = 0 ∨ c = 1:=by omega
  rcases this with rfl | rfl <;> rfl
theorem qob (P : Program) (x y b : Nat) (hb : b ≤ 1) (w : World) :
    (qgd #[.int .u64 x,.int .u64 y,.int .u64 b]).run P w = .ok (.tuple #[.int .u64 (((x + 18446744073709551616 - y - b) % 18446744073709551616 : Nat) : Int),.int .u64 ((if x < y + b then 1 else 0 : Nat) : Int)]) w:=by
  have : b = 0 ∨ b = 1:=by omega
  rcases this with rfl | rfl <;> rfl
theorem q3c {args : List SV} {B : Names} {H : List Chunk} {F : List HP} {f : SV → List Chunk → List HP → Prop} (x y c : Nat) (hargs : args.map (SV.den B) = [.int .u64 x,.int .u64 y,.int .u64 c]) (hc : c ≤ 1)
    (h : f (.tup [.c (.int .u64 (((x + y + c) % 18446744073709551616 : Nat) : Int)),.c (.int .u64 (((x + y + c) / 18446744073709551616 : Nat) : Int))]) H F) : Cq Tryz.prog 174 args ⟨B,H,F⟩ f:=by
  refine Cq.ext (.tup [.c (.int .u64 (((x + y + c) % 18446744073709551616 : Nat) : Int)),.c (.int .u64 (((x + y + c) / 18446744073709551616 : Nat) : Int))]) (fun w=>?_) (by intro a ha;simp at ha;rcases ha with rfl | rfl <;> trivial) h;rw [hargs];show (callFunc _ #[.int .u64 x,.int .u64 y,.int .u64 c]).run _ w = _;rw [run_callFunc_extern (e:=qgi) Tryz.func174 (by kernel_rfl) (by kernel_rfl) (by kernel_rfl) (by kernel_rfl),qo5 _ x y c hc];rfl
theorem qby {args : List SV} {B : Names} {H : List Chunk} {F : List HP} {f : SV → List Chunk → List HP → Prop} (x y b : Nat) (hargs : args.map (SV.den B) = [.int .u64 x,.int .u64 y,.int .u64 b]) (hb : b ≤ 1)
    (h : f (.tup [.c (.int .u64 (((x + 18446744073709551616 - y - b) % 18446744073709551616 : Nat) : Int)),.c (.int .u64 ((if x < y + b then 1 else 0 : Nat) : Int))]) H F) : Cq Tryz.prog 175 args ⟨B,H,F⟩ f:=by
  refine Cq.ext (.tup [.c (.int .u64 (((x + 18446744073709551616 - y - b) % 18446744073709551616 : Nat) : Int)),.c (.int .u64 ((if x < y + b then 1 else 0 : Nat) : Int))]) (fun w=>?_) (by intro a ha;simp at ha;rcases ha with rfl | rfl <;> trivial) h;rw [hargs];show (callFunc _ #[.int .u64 x,.int .u64 y,.int .u64 b]).run _ w = _;rw [run_callFunc_extern (e:=qgd) Tryz.func175 (by kernel_rfl) (by kernel_rfl) (by kernel_rfl) (by kernel_rfl),qob _ x y b hb];rfl
theorem qf0 (x : Nat) (hx : x < 18446744073709551616) : ibits .and .u64 (x : Int) 4294967295 = ((x % 4294967296 : Nat) : Int):=by
  simp only [ibits]
  have e1 : (BitVec.ofInt IntKind.u64.bits (x : Int)).toNat = x:=by
    rw [BitVec.ofInt_natCast,BitVec.toNat_ofNat];exact Nat.mod_eq_of_lt hx
  have e2 : (BitVec.ofInt IntKind.u64.bits 4294967295).toNat = 4294967295:=by decide
  rw [BitVec.toNat_and,e1,e2,show (4294967295 : Nat) = 2 ^ 32 - 1 from rfl,Nat.and_two_pow_sub_one_eq_mod];exact qd4 _ (by omega)
theorem shr32 (x : Nat) : ((x : Int).fdiv (2 ^ min (Int.toNat 32) IntKind.u64.bits)) = ((x / 4294967296 : Nat) : Int):=by
  show (x : Int).fdiv 4294967296 = _;rw [Int.fdiv_eq_ediv_of_nonneg _ (by decide)];rfl
theorem Ar.nat {z : Int} {f : Int → Prop} (n : Nat) (e : z = (n : Int)) (h : n < 18446744073709551616) (k : f (n : Int)) : Ar .u64 z f:=Ar.to (n : Int) e (Ar.u64 (by omega) k)
theorem qc1 (A : HP) (x y : Nat) (hx : x < 18446744073709551616) (hy : y < 18446744073709551616) : Pu Tryz.prog 176 [.c (.int .u64 x),.c (.int .u64 y)] A (.tup [.c (.int .u64 ((x * y / 18446744073709551616 : Nat) : Int)),.c (.int .u64 ((x * y % 18446744073709551616 : Nat) : Int))]):=by
  refine Con.of' tt_ok Tryz.func176 rfl (by decide) [.c (.int .u64 x),.c (.int .u64 y)] [] [] rfl rfl trivial kk rfl ?_;(conv=>whnf);rw [qf0 x hx];refine ⟨by decide,?_⟩;(conv=>whnf);rw [shr32,qf0 y hy];refine ⟨by decide,?_⟩;(conv=>whnf);rw [shr32];obtain ⟨h1,h2,h3,h4⟩:=Go.Lib.mul64_hi x y hx hy;have hx1 : x / 4294967296 ≤ 4294967295:=by omega
  have hy1 : y / 4294967296 ≤ 4294967295:=by omega
  have hab:=Go.Lib.half_mul_le (a:=x / 4294967296) (b:=y % 4294967296) (by omega) (by omega);have hba:=Go.Lib.half_mul_le (a:=x % 4294967296) (b:=y / 4294967296) (by omega) (by omega);have hbb:=Go.Lib.half_mul_le (a:=x / 4294967296) (b:=y / 4294967296) (by omega) (by omega);generalize x % 4294967296 = x0 at h1 h2 h3 h4 hab hba ⊢;generalize y % 4294967296 = y0 at h1 h2 h3 h4 hab hba ⊢;generalize x / 4294967296 = x1 at h1 h2 h3 h4 hab hbb hx1 ⊢;generalize y / 4294967296 = y1 at h1 h2 h3 h4 hba hbb hy1 ⊢;refine Ar.nat (x0 * y0) (by simp) h1 ?_;conv=>whnf
  refine Ar.nat (x1 * y0) (by simp) (by omega) ?_;(conv=>whnf);refine ⟨by decide,?_⟩;(conv=>whnf);rw [shr32];refine Ar.nat (x1 * y0 + x0 * y0 / 4294967296) (by simp) h2 ?_;(conv=>whnf);rw [qf0 _ h2];refine ⟨by decide,?_⟩;(conv=>whnf);rw [shr32];refine Ar.nat (x0 * y1) (by simp) (by omega) ?_;(conv=>whnf);refine Ar.nat ((x1 * y0 + x0 * y0 / 4294967296) % 4294967296 + x0 * y1) (by simp) h3 ?_;(conv=>whnf);refine Ar.nat (x1 * y1) (by simp) (by omega) ?_;conv=>whnf
  refine Ar.nat (x1 * y1 + (x1 * y0 + x0 * y0 / 4294967296) / 4294967296) (by simp) (by omega) ?_;(conv=>whnf);refine ⟨by decide,?_⟩;(conv=>whnf);rw [shr32];refine Ar.nat (x * y / 18446744073709551616) (by rw [← h4];simp) (by have : x * y ≤ 18446744073709551615 * 18446744073709551615:=Nat.mul_le_mul (by omega) (by omega);omega) ?_;(conv=>whnf);refine Ar.wr ?_
  have ew : IntKind.u64.wrap ((x : Int) * (y : Int)) = ((x * y % 18446744073709551616 : Nat) : Int):=by
    simp [IntKind.wrap,IntKind.bits,IntKind.signed]
  rw [ew];(conv=>whnf);exact Ret.m () [] [0] trivial rfl kk kk ⟨rfl,rfl⟩
end
section
abbrev nu (l : List Nat) : List Seg:=[.many 4 (n64s l)]
abbrev nc (g : Nat) (l : List Nat) : Cel:=(g,nu l,180)
theorem nu_ok {l : List Nat} (h : l.length = 4) : ∀ B,Sx.okL B (nu l):=fun B=>⟨nmk h B,trivial⟩
theorem qfl {l : List Nat} (hok : ok64 l) {n : Nat} (hn : n < 18446744073709551616) : ∀ i,(chn (sumD (plusG l n)) (sumK (plusG l n)) l 0 i).2 ≤ 1
  | 0=>Nat.zero_le _
  | i + 1=>by
    have h:=qfl hok hn i;have h0:=hok.get 0;have h1:=hok.get i;show (plusG l n i + (chn (sumD (plusG l n)) (sumK (plusG l n)) l 0 i).2) / 18446744073709551616 ≤ 1
    cases i with
    | zero =>
      show (ng l 0 + n + 0) / 18446744073709551616 ≤ 1;omega
    | succ i =>
      show (ng l (i + 1) + _) / 18446744073709551616 ≤ 1;omega
theorem qrc (A : HP) (g : Nat) (l : List Nat) (hl : l.length = 4) (hok : ok64 l) (n : Nat) (hn : n < 18446744073709551616) :
    Con Tryz.prog 177 [.c (.rp g 0),.c (.int .u64 n)] [nc g l] [] A (fun _ : Unit=>True) (fun _=>.c (.int .u64 ((plusS l n).2 : Nat))) (fun _=>[nc g (plusS l n).1]) (fun _=>[]):=by
  refine Con.of' tt_ok Tryz.func177 rfl (by decide) [.c (.ptr 1000 0),.c (.int .u64 n)] (B1 g) [(1000,nu l,180)] rfl rfl ⟨⟨kk,nmk hl _,trivial⟩,trivial⟩ kk rfl ?_;(conv=>whnf);refine Draw.a (by kernel_rfl) tt_ok (Tv.of [0,1,2,3,4,5,10,6,7,8,9,11,12,13] .nil) 12 (by kernel_rfl) ?_;(conv=>whnf);refine ⟨by decide,?_⟩;(conv=>whnf);refine q0i 0 rfl (by rw [hl];decide) ?_;(conv=>whnf);refine q3c (ng l 0) n 0 (by exact rfl) (by decide) ?_;(conv=>whnf);refine Sub.whole ?_;(conv=>whnf);refine ⟨by decide,?_⟩;conv=>whnf
  refine ⟨⟨rfl,by decide⟩,?_⟩;(conv=>whnf);have hS : ∀ i,(chn (sumD (plusG l n)) (sumK (plusG l n)) l 0 i).1.length = 4:=fun i=>(q2e i).trans hl
  refine LoopOb.m (σ:=Nat) (fun i=>[(0,.c (.ptr 1000 0)),(5,.c (.int .u64 ((chn (sumD (plusG l n)) (sumK (plusG l n)) l 0 i).2 : Nat))),(6,.c (.int .i64 i))])
    (fun i=>⟨B1 g,[(1000,nu (chn (sumD (plusG l n)) (sumK (plusG l n)) l 0 i).1,180)],[A]⟩) (fun i=>1 ≤ i ∧ i ≤ 4) (fun i=>4 - i) 1 (by decide) (Wk.m [1000] [0] kk ⟨⟨kk,nmk (hS 1) _,trivial⟩,trivial⟩ ⟨?_,rfl⟩) ?_
  · have e:=q15 (l:=l) (k:=0) (n:=sumD (plusG l n) 0 0) (by rw [hl];decide);show [blk _ (.cells ((n64s l).take 0 ++ ([Value.int .u64 (sumD (plusG l n) 0 0 : Nat)] ++ (n64s l).drop (0 + 1)) ++ []).toArray _)] = _;rw [e];rfl
  rintro i ⟨hi1,hi⟩;have hci:=qfl hok hn i;(conv=>whnf);refine Cond.d (fun h=>?_) (fun h=>?_)
  · have hi' : i < 4:=by omega
    (conv=>whnf);refine Draw.a (by kernel_rfl) tt_ok (Tv.of [0,1,2,3,4,5,6,7,12,8,9,10,11,13,14,15] .nil) 14 (by kernel_rfl) ?_;(conv=>whnf);refine ⟨by omega,?_⟩;(conv=>whnf);refine q0i i (by show (i : Int).toNat * 1 = i;omega) (by rw [hS];exact hi') ?_;(conv=>whnf);refine q3c (ng (chn (sumD (plusG l n)) (sumK (plusG l n)) l 0 i).1 i) 0 (chn (sumD (plusG l n)) (sumK (plusG l n)) l 0 i).2 (by exact rfl) hci ?_;(conv=>whnf);refine Sub.whole ?_;(conv=>whnf);refine ⟨by omega,?_⟩;conv=>whnf
    refine ⟨⟨rfl,by show (i : Int).toNat * 1 + 1 ≤ 4;omega⟩,?_⟩;(conv=>whnf);refine Ar.i64 (by omega) ?_;conv=>whnf
    have ev : ng (chn (sumD (plusG l n)) (sumK (plusG l n)) l 0 i).1 i + 0 + (chn (sumD (plusG l n)) (sumK (plusG l n)) l 0 i).2 = plusG l n i + (chn (sumD (plusG l n)) (sumK (plusG l n)) l 0 i).2:=by
      rw [q4h (Nat.le_refl _)];unfold plusG;rw [if_neg (by omega)];omega
    have hs:=q15 (l:=(chn (sumD (plusG l n)) (sumK (plusG l n)) l 0 i).1) (k:=i) (n:=sumD (plusG l n) i (chn (sumD (plusG l n)) (sumK (plusG l n)) l 0 i).2) (by rw [hS];exact hi');refine ⟨i + 1,⟨by omega,by omega⟩,by omega,Wk.m [1000] [0] ⟨⟨rfl,kk⟩,⟨?_,kk⟩,⟨rfl,kk⟩,trivial⟩ ⟨⟨kk,nmk (hS (i + 1)) _,trivial⟩,trivial⟩ ⟨?_,rfl⟩⟩
    · show Value.int .u64 (((ng _ i + 0 + _) / _ : Nat) : Int) = Value.int .u64 (((plusG l n i + _) / _ : Nat) : Int);rw [ev]
    · show [blk _ (.cells ((n64s (chn (sumD (plusG l n)) (sumK (plusG l n)) l 0 i).1).take ((i : Int).toNat * 1) ++ ([Value.int .u64 (((ng (chn (sumD (plusG l n)) (sumK (plusG l n)) l 0 i).1 i + 0 + (chn (sumD (plusG l n)) (sumK (plusG l n)) l 0 i).2) % 18446744073709551616 : Nat) : Int)] ++ (n64s (chn (sumD (plusG l n)) (sumK (plusG l n)) l 0 i).1).drop ((i : Int).toNat * 1 + 1)) ++ []).toArray _)] = [blk _ (.cells (n64s ((chn (sumD (plusG l n)) (sumK (plusG l n)) l 0 i).1.set i (sumD (plusG l n) i (chn (sumD (plusG l n)) (sumK (plusG l n)) l 0 i).2)) ++ []).toArray _)]
      rw [show (i : Int).toNat * 1 = i by omega,ev,← hs];rfl
  have hi' : i = 4:=by omega
  subst hi';(conv=>whnf);exact Ret.m () [1000] [0] trivial rfl kk ⟨⟨nmk (hS 4) _,trivial⟩,trivial⟩ ⟨rfl,rfl⟩
theorem qbj (A : HP) (g : Nat) (l : List Nat) (hl : l.length = 4) (hok : ok64 l) (o : Nat) (ho : o ≤ 144115188075855872) :
    Con Tryz.prog 149 [.c (.rp g 0),.c (.int .u64 o)] [nc g l] [] A (fun t : List Nat=>t.length = 4 ∧ ok64 t ∧ num t % Pm = (num l + 38 * o) % Pm) (fun _=>.tup []) (fun t=>[nc g t]) (fun _=>[]):=by
  refine Con.of' tt_ok Tryz.func149 rfl (by decide) [.c (.ptr 1000 0),.c (.int .u64 o)] (B1 g) [(1000,nu l,180)] rfl rfl ⟨⟨kk,nmk hl _,trivial⟩,trivial⟩ kk rfl ?_;(conv=>whnf);have hL:=qae hl o;have hO:=it_ok hok o;have hM:=qng hl o;obtain ⟨hE1,hE2⟩:=qqp hl hok ho
  refine LoopOb.m (σ:=Nat) (fun k=>[(0,.c (.ptr 1000 0)),(1,.c (.int .u64 ((itS l o k).2 : Nat)))]) (fun k=>⟨B1 g,[(1000,nu (itS l o k).1,180)],[A]⟩) (fun k=>k ≤ 2) (fun k=>2 - k) 0 (by decide)
    (Wk.m [1000] [0] kk ⟨⟨kk,nmk (hL 0) _,trivial⟩,trivial⟩ ⟨rfl,rfl⟩) ?_
  intro k hk;(conv=>whnf);refine Cond.d (fun h=>?_) (fun h=>?_)
  · have hk2 : k < 2:=by
      rcases Nat.lt_or_ge k 2 with h2 | h2
      · exact h2
      · exfalso
        have : k = 2:=by omega
        subst this;rw [hE2] at h;omega
    have hb : (itS l o k).2 * 38 < 18446744073709551616:=by
      have : k = 0 ∨ k = 1:=by omega
      rcases this with rfl | rfl
      · show o * 38 < _;omega
      · omega
    (conv=>whnf);refine Ar.nat ((itS l o k).2 * 38) (by simp) hb ?_;(conv=>whnf);refine Cq.by' [1000] [] (qrc _ g (itS l o k).1 (hL k) (hO k) ((itS l o k).2 * 38) hb) rfl ⟨rfl,rfl,rfl,fun _ _=>⟨rfl,?_⟩⟩
    (conv=>whnf);exact ⟨k + 1,by omega,by omega,Wk.m [1000] [0] kk ⟨⟨kk,nmk (hL (k + 1)) _,trivial⟩,trivial⟩ ⟨rfl,rfl⟩⟩
  (conv=>whnf);have h0 : (itS l o k).2 = 0:=by omega
  exact Ret.m (itS l o k).1 [1000] [0] ⟨hL k,hO k,by have:=hM k;rw [h0] at this;exact this⟩ rfl kk ⟨⟨nmk (hL k) _,trivial⟩,trivial⟩ ⟨rfl,rfl⟩
end
section
theorem qk4 {l m : List Nat} (hl : ok64 l) (hm : ok64 m) : ∀ i,(chn (sumD (addG l m)) (sumK (addG l m)) l 0 i).2 ≤ 1
  | 0=>Nat.zero_le _
  | i + 1=>by
    have h:=qk4 hl hm i;have h0:=hl.get i;have h1:=hm.get i;show (ng l i + ng m i + (chn (sumD (addG l m)) (sumK (addG l m)) l 0 i).2) / 18446744073709551616 ≤ 1;omega
theorem qqb (A : HP) (l m : List Nat) (hl : l.length = 4) (hm : m.length = 4) (okl : ok64 l) (okm : ok64 m) :
    Con Tryz.prog 146 [.agg (nu l),.agg (nu m)] [] [] A (fun t : List Nat=>t.length = 4 ∧ ok64 t ∧ num t % Pm = (num l + num m) % Pm) (fun t=>.agg (nu t)) (fun _=>[]) (fun _=>[]):=by
  refine Con.of' tt_ok Tryz.func146 rfl (by decide) [.agg (nu l),.agg (nu m)] [] [] rfl rfl trivial ⟨⟨nmk hl _,trivial⟩,⟨nmk hm _,trivial⟩,trivial⟩ rfl ?_;(conv=>whnf);intro b2;(conv=>whnf);intro b3;(conv=>whnf);intro b4;(conv=>whnf);obtain ⟨D,hD⟩ : ∃ D,D = sumD (addG l m):=⟨_,rfl⟩;obtain ⟨K,hK⟩ : ∃ K,K = sumK (addG l m):=⟨_,rfl⟩;have hS : ∀ i,(chn D K l 0 i).1.length = 4:=fun i=>(q2e i).trans hl;have hC : ∀ i,(chn D K l 0 i).2 ≤ 1:=by rw [hD,hK];exact qk4 okl okm
  refine LoopOb.m (σ:=Nat) (fun i=>[(2,.c (.ptr 2 0)),(3,.c (.ptr 3 0)),(4,.c (.ptr 4 0)),(5,.c (.int .u64 ((chn D K l 0 i).2 : Nat))),(7,.c (.int .i64 i))])
    (fun i=>⟨[(4,b4),(3,b3),(2,b2)],[(4,nu [0,0,0,0],180),(3,nu m,180),(2,nu (chn D K l 0 i).1,180)],[A]⟩) (fun i=>i ≤ 4) (fun i=>4 - i) 0 (by decide)
    (Wk.m [4,3,2] [0] kk ⟨⟨kk,nmk rfl _,trivial⟩,⟨kk,nmk hm _,trivial⟩,⟨kk,nmk (hS 0) _,trivial⟩,trivial⟩ ⟨rfl,rfl⟩) ?_
  intro i hi;have hci:=hC i;(conv=>whnf);refine Cond.d (fun h=>?_) (fun h=>?_)
  · have hi' : i < 4:=by omega
    (conv=>whnf);refine Draw.a (by kernel_rfl) tt_ok (Tv.of (List.range 15) .nil) 13 (by kernel_rfl) ?_;(conv=>whnf);refine ⟨by omega,?_⟩;(conv=>whnf);refine q0i i (by show (i : Int).toNat * 1 = i;omega) (by rw [hS];exact hi') ?_;(conv=>whnf);refine ⟨by omega,?_⟩;(conv=>whnf);refine q0i i (by show (i : Int).toNat * 1 = i;omega) (by rw [hm];exact hi') ?_;(conv=>whnf);refine q3c (ng (chn D K l 0 i).1 i) (ng m i) (chn D K l 0 i).2 (by exact rfl) hci ?_;(conv=>whnf);refine Sub.whole ?_;(conv=>whnf);refine ⟨by omega,?_⟩;conv=>whnf
    refine ⟨⟨rfl,by show (i : Int).toNat * 1 + 1 ≤ 4;omega⟩,?_⟩;(conv=>whnf);refine Ar.i64 (by omega) ?_;(conv=>whnf);have eg : ng (chn D K l 0 i).1 i = ng l i:=q4h (Nat.le_refl _);have eD : (ng (chn D K l 0 i).1 i + ng m i + (chn D K l 0 i).2) % 18446744073709551616 = D i (chn D K l 0 i).2:=by rw [eg,hD];rfl
    have eK : (ng (chn D K l 0 i).1 i + ng m i + (chn D K l 0 i).2) / 18446744073709551616 = K i (chn D K l 0 i).2:=by rw [eg,hK];rfl
    rw [eD,eK];have hs:=q15 (l:=(chn D K l 0 i).1) (k:=i) (n:=D i (chn D K l 0 i).2) (by rw [hS];exact hi');refine ⟨i + 1,by omega,by omega,Wk.m [4,3,2] [0] kk ⟨⟨kk,nmk rfl _,trivial⟩,⟨kk,nmk hm _,trivial⟩,⟨kk,nmk (hS (i + 1)) _,trivial⟩,trivial⟩ ⟨?_,rfl⟩⟩
    show [_,_,blk _ (.cells ((n64s (chn D K l 0 i).1).take ((i : Int).toNat * 1) ++ ([Value.int .u64 ((D i (chn D K l 0 i).2 : Nat) : Int)] ++ (n64s (chn D K l 0 i).1).drop ((i : Int).toNat * 1 + 1)) ++ []).toArray _)] = [_,_,blk _ (.cells (n64s ((chn D K l 0 i).1.set i (D i (chn D K l 0 i).2)) ++ []).toArray _)];rw [show (i : Int).toNat * 1 = i by omega,← hs]
  have hi' : i = 4:=by omega
  subst hi';have hok : ok64 (chn D K l 0 4).1:=by rw [hD,hK];exact q9j okl (qem _) 4
  (conv=>whnf);refine Cq.by' [2] [] (qbj _ b2 (chn D K l 0 4).1 (hS 4) hok (chn D K l 0 4).2 (by omega)) rfl ⟨rfl,rfl,rfl,fun t ht=>⟨rfl,?_⟩⟩
  obtain ⟨h1,h2,h3⟩:=ht
  have e3 : num t % Pm = (num l + num m) % Pm:=by
    rw [h3,hD,hK];exact add_mod hl hm
  (conv=>whnf);exact Ret.m t [] [0] ⟨h1,h2,e3⟩ rfl ⟨nmk h1 _,trivial⟩ trivial ⟨rfl,rfl⟩
theorem qf1 {f g : Nat → Nat} {l : List Nat} : ∀ i,(chn (difD f g) (difK f g) l 0 i).2 ≤ 1
  | 0=>Nat.zero_le _
  | i + 1=>by show difK f g i _ ≤ 1;unfold difK;split <;> omega
theorem qqv (A : HP) (l m : List Nat) (hl : l.length = 4) (hm : m.length = 4) (okl : ok64 l) (okm : ok64 m) :
    Con Tryz.prog 147 [.agg (nu l),.agg (nu m)] [] [] A (fun t : List Nat=>t.length = 4 ∧ ok64 t ∧ (num t + num m) % Pm = num l % Pm) (fun t=>.agg (nu t)) (fun _=>[]) (fun _=>[]):=by
  refine Con.of' tt_ok Tryz.func147 rfl (by decide) [.agg (nu l),.agg (nu m)] [] [] rfl rfl trivial ⟨⟨nmk hl _,trivial⟩,⟨nmk hm _,trivial⟩,trivial⟩ rfl ?_;(conv=>whnf);intro b2;(conv=>whnf);intro b3;(conv=>whnf);intro b4;(conv=>whnf);obtain ⟨D,hD⟩ : ∃ D,D = difD (ng l) (ng m):=⟨_,rfl⟩;obtain ⟨K,hK⟩ : ∃ K,K = difK (ng l) (ng m):=⟨_,rfl⟩;have hS : ∀ i,(chn D K l 0 i).1.length = 4:=fun i=>(q2e i).trans hl;have hC : ∀ i,(chn D K l 0 i).2 ≤ 1:=by rw [hD,hK];exact qf1
  refine LoopOb.m (σ:=Nat) (fun i=>[(2,.c (.ptr 2 0)),(3,.c (.ptr 3 0)),(4,.c (.ptr 4 0)),(5,.c (.int .u64 ((chn D K l 0 i).2 : Nat))),(8,.c (.int .i64 i))])
    (fun i=>⟨[(4,b4),(3,b3),(2,b2)],[(4,nu [0,0,0,0],180),(3,nu m,180),(2,nu (chn D K l 0 i).1,180)],[A]⟩) (fun i=>i ≤ 4) (fun i=>4 - i) 0 (by decide)
    (Wk.m [4,3,2] [0] kk ⟨⟨kk,nmk rfl _,trivial⟩,⟨kk,nmk hm _,trivial⟩,⟨kk,nmk (hS 0) _,trivial⟩,trivial⟩ ⟨rfl,rfl⟩) ?_
  intro i hi;have hci:=hC i;(conv=>whnf);refine Cond.d (fun h=>?_) (fun h=>?_)
  · have hi' : i < 4:=by omega
    (conv=>whnf);refine Draw.a (by kernel_rfl) tt_ok (Tv.of (List.range 15) .nil) 13 (by kernel_rfl) ?_;(conv=>whnf);refine ⟨by omega,?_⟩;(conv=>whnf);refine q0i i (by show (i : Int).toNat * 1 = i;omega) (by rw [hS];exact hi') ?_;(conv=>whnf);refine ⟨by omega,?_⟩;(conv=>whnf);refine q0i i (by show (i : Int).toNat * 1 = i;omega) (by rw [hm];exact hi') ?_;(conv=>whnf);refine qby (ng (chn D K l 0 i).1 i) (ng m i) (chn D K l 0 i).2 (by exact rfl) hci ?_;(conv=>whnf);refine Sub.whole ?_;(conv=>whnf);refine ⟨by omega,?_⟩;conv=>whnf
    refine ⟨⟨rfl,by show (i : Int).toNat * 1 + 1 ≤ 4;omega⟩,?_⟩;(conv=>whnf);refine Ar.i64 (by omega) ?_;(conv=>whnf);have eg : ng (chn D K l 0 i).1 i = ng l i:=q4h (Nat.le_refl _);have eD : (ng (chn D K l 0 i).1 i + 18446744073709551616 - ng m i - (chn D K l 0 i).2) % 18446744073709551616 = D i (chn D K l 0 i).2:=by rw [eg,hD];rfl
    have eK : (if ng (chn D K l 0 i).1 i < ng m i + (chn D K l 0 i).2 then 1 else 0) = K i (chn D K l 0 i).2:=by rw [eg,hK];rfl
    rw [eD,eK];have hs:=q15 (l:=(chn D K l 0 i).1) (k:=i) (n:=D i (chn D K l 0 i).2) (by rw [hS];exact hi');refine ⟨i + 1,by omega,by omega,Wk.m [4,3,2] [0] kk ⟨⟨kk,nmk rfl _,trivial⟩,⟨kk,nmk hm _,trivial⟩,⟨kk,nmk (hS (i + 1)) _,trivial⟩,trivial⟩ ⟨?_,rfl⟩⟩
    show [_,_,blk _ (.cells ((n64s (chn D K l 0 i).1).take ((i : Int).toNat * 1) ++ ([Value.int .u64 ((D i (chn D K l 0 i).2 : Nat) : Int)] ++ (n64s (chn D K l 0 i).1).drop ((i : Int).toNat * 1 + 1)) ++ []).toArray _)] = [_,_,blk _ (.cells (n64s ((chn D K l 0 i).1.set i (D i (chn D K l 0 i).2)) ++ []).toArray _)];rw [show (i : Int).toNat * 1 = i by omega,← hs]
  have hi' : i = 4:=by omega
  subst hi';(conv=>whnf);obtain ⟨e0,e1,e2⟩:=qp1 hl hm okl okm;have hL:=fun k=>q4s (m:=m) hl k;have hO:=fun k=>q7d (m:=m) okl k;have hz : (chn D K l 0 4) = itD l m 0:=by rw [hD,hK];rfl
  rw [hz]
  refine LoopOb.m (σ:=Nat) (fun k=>[(2,.c (.ptr 2 0)),(4,.c (.ptr 4 0)),(5,.c (.int .u64 ((itD l m k).2 : Nat)))])
    (fun k=>⟨[(4,b4),(3,b3),(2,b2)],[(4,nu [0,0,0,0],180),(2,nu (itD l m k).1,180)],[A]⟩) (fun k=>k ≤ 2 ∧ ∀ j,j < k → (itD l m j).2 = 1) (fun k=>2 - k) 0 ⟨by decide,fun j hj=>absurd hj (by omega)⟩
    (Wk.m [4,2] [0] kk ⟨⟨kk,nmk rfl _,trivial⟩,⟨kk,nmk (hL 0) _,trivial⟩,trivial⟩ ⟨rfl,rfl⟩) ?_
  rintro k ⟨hk,hall⟩;(conv=>whnf);refine Cond.d (fun h=>?_) (fun h=>?_)
  · have hk1 : (itD l m k).2 = 1:=by
      have : k = 0 ∨ k = 1 ∨ k = 2:=by omega
      rcases this with rfl | rfl | rfl
      · omega
      · omega
      · have:=e2 (hall 1 (by omega));omega
    have hk2 : k < 2:=by
      rcases Nat.lt_or_ge k 2 with h2 | h2
      · exact h2
      · exfalso
        have : k = 2:=by omega
        subst this;have:=e2 (hall 1 (by omega));omega
    obtain ⟨x,hx⟩ : ∃ x,x = (itD l m k).1:=⟨_,rfl⟩;have hxl : x.length = 4:=by rw [hx];exact hL k
    have hxo : ok64 x:=by rw [hx];exact hO k
    rw [← hx];obtain ⟨D2,hD2⟩ : ∃ D2,D2 = difD (ng x) low38:=⟨_,rfl⟩;obtain ⟨K2,hK2⟩ : ∃ K2,K2 = difK (ng x) low38:=⟨_,rfl⟩;have hS2 : ∀ i,(chn D2 K2 x 0 i).1.length = 4:=fun i=>(q2e i).trans hxl;have hC2 : ∀ i,(chn D2 K2 x 0 i).2 ≤ 1:=by rw [hD2,hK2];exact qf1
    (conv=>whnf);refine ⟨by decide,?_⟩;(conv=>whnf);refine q0i 0 rfl (by rw [hxl];decide) ?_;(conv=>whnf);refine qby (ng x 0) 38 0 (by exact rfl) (by decide) ?_;(conv=>whnf);refine ⟨by decide,?_⟩;(conv=>whnf);refine ⟨⟨rfl,by decide⟩,?_⟩;conv=>whnf
    refine LoopOb.m (σ:=Nat) (fun i=>[(2,.c (.ptr 2 0)),(4,.c (.ptr 4 0)),(5,.c (.int .u64 ((chn D2 K2 x 0 i).2 : Nat))),(7,.c (.int .i64 i))])
      (fun i=>⟨[(4,b4),(3,b3),(2,b2)],[(4,nu [0,0,0,0],180),(2,nu (chn D2 K2 x 0 i).1,180)],[A]⟩) (fun i=>1 ≤ i ∧ i ≤ 4) (fun i=>4 - i) 1 (by decide)
      (Wk.m [4,2] [0] ⟨⟨rfl,kk⟩,⟨rfl,kk⟩,⟨?_,kk⟩,⟨rfl,kk⟩,trivial⟩ ⟨⟨kk,nmk rfl _,trivial⟩,⟨kk,nmk (hS2 1) _,trivial⟩,trivial⟩ ⟨?_,rfl⟩) ?_
    · rw [hK2];rfl
    · have e:=q15 (l:=x) (k:=0) (n:=D2 0 0) (by rw [hxl];decide);have eD : D2 0 0 = (ng x 0 + 18446744073709551616 - 38 - 0) % 18446744073709551616:=by rw [hD2];rfl
      show [_,blk _ (.cells ((n64s x).take 0 ++ ([Value.int .u64 (((ng x 0 + 18446744073709551616 - 38 - 0) % 18446744073709551616 : Nat) : Int)] ++ (n64s x).drop (0 + 1)) ++ []).toArray _)] = [_,blk _ (.cells (n64s (x.set 0 (D2 0 0)) ++ []).toArray _)];rw [← e,eD]
    rintro i ⟨hi1,hi⟩;have hci:=hC2 i;(conv=>whnf);refine Cond.d (fun h=>?_) (fun h=>?_)
    · have hi' : i < 4:=by omega
      (conv=>whnf);refine ⟨by omega,?_⟩;(conv=>whnf);refine q0i i (by show (i : Int).toNat * 1 = i;omega) (by rw [hS2];exact hi') ?_;(conv=>whnf);refine qby (ng (chn D2 K2 x 0 i).1 i) 0 (chn D2 K2 x 0 i).2 (by exact rfl) hci ?_;(conv=>whnf);refine ⟨by omega,?_⟩;(conv=>whnf);refine ⟨⟨rfl,by show (i : Int).toNat * 1 + 1 ≤ 4;omega⟩,?_⟩;(conv=>whnf);refine Ar.i64 (by omega) ?_;(conv=>whnf);have eg : ng (chn D2 K2 x 0 i).1 i = ng x i:=q4h (Nat.le_refl _);have el : low38 i = 0:=by unfold low38;rw [if_neg (by omega)]
      have eD : (ng (chn D2 K2 x 0 i).1 i + 18446744073709551616 - 0 - (chn D2 K2 x 0 i).2) % 18446744073709551616 = D2 i (chn D2 K2 x 0 i).2:=by rw [eg,hD2];unfold difD;rw [el]
      have eK : (if ng (chn D2 K2 x 0 i).1 i < 0 + (chn D2 K2 x 0 i).2 then 1 else 0) = K2 i (chn D2 K2 x 0 i).2:=by rw [eg,hK2];unfold difK;rw [el]
      rw [eD,eK];have hs:=q15 (l:=(chn D2 K2 x 0 i).1) (k:=i) (n:=D2 i (chn D2 K2 x 0 i).2) (by rw [hS2];exact hi');refine ⟨i + 1,⟨by omega,by omega⟩,by omega,Wk.m [4,2] [0] kk ⟨⟨kk,nmk rfl _,trivial⟩,⟨kk,nmk (hS2 (i + 1)) _,trivial⟩,trivial⟩ ⟨?_,rfl⟩⟩
      show [_,blk _ (.cells ((n64s (chn D2 K2 x 0 i).1).take ((i : Int).toNat * 1) ++ ([Value.int .u64 ((D2 i (chn D2 K2 x 0 i).2 : Nat) : Int)] ++ (n64s (chn D2 K2 x 0 i).1).drop ((i : Int).toNat * 1 + 1)) ++ []).toArray _)] = [_,blk _ (.cells (n64s ((chn D2 K2 x 0 i).1.set i (D2 i (chn D2 K2 x 0 i).2)) ++ []).toArray _)];rw [show (i : Int).toNat * 1 = i by omega,← hs]
    have hi' : i = 4:=by omega
    subst hi';have hnx : chn D2 K2 x 0 4 = itD l m (k + 1):=by rw [hD2,hK2,hx];rfl
    rw [hnx];conv=>whnf
    exact ⟨k + 1,⟨by omega,fun j hj=>by
      rcases Nat.lt_or_ge j k with h2 | h2
      · exact hall j h2
      · have : j = k:=by omega
        rw [this];exact hk1⟩,by omega,Wk.m [4,2] [0] kk ⟨⟨kk,nmk rfl _,trivial⟩,⟨kk,nmk (hL (k + 1)) _,trivial⟩,trivial⟩ ⟨rfl,rfl⟩⟩
  (conv=>whnf);have h0 : (itD l m k).2 = 0:=by omega
  exact Ret.m (itD l m k).1 [] [0] ⟨hL k,hO k,by have:=qii hl hm okl okm k hall;rw [h0] at this;exact this⟩ rfl ⟨nmk (hL k) _,trivial⟩ trivial ⟨rfl,rfl⟩
end
section
def ins (w x : List Nat) (o : Nat) : List Nat:=w.take o ++ (x ++ w.drop (o + 4))
theorem q4y {w x : List Nat} {o : Nat} (h : o + 4 ≤ w.length) (hx : x.length = 4) : (ins w x o).length = w.length:=by
  simp [ins,hx];omega
theorem q7q {w : List Nat} {o : Nat} : ins w ((w.drop o).take 4) o = w:=by
  unfold ins;rw [← List.drop_drop,List.take_append_drop,List.take_append_drop]
theorem qf8 {w x : List Nat} {o i v : Nat} (hx : x.length = 4) (hi : i < 4) : (x ++ w.drop (o + 4)).set i v = x.set i v ++ w.drop (o + 4):=List.set_append_left _ _ (by omega)
theorem qfs {w x : List Nat} {o i : Nat} (hx : x.length = 4) (hi : i < 4) : ng (x ++ w.drop (o + 4)) i = ng x i:=by
  unfold ng;rw [List.getElem?_append_left (by omega)]
theorem qfx {w x : List Nat} {o : Nat} (h : o + 4 ≤ w.length) (hx : x.length = 4) : (x ++ w.drop (o + 4)).length = w.length - o:=by simp [hx];omega
theorem qel (A : HP) (g N T : Nat) (w : List Nat) (hw : w.length = N) (ho : 4 ≤ N) (cap : Nat) (l : List Nat) (hl : l.length = 4) (okw : ok64 w) (okl : ok64 l) (d : Nat) (hd : d < 18446744073709551616) :
    Con Tryz.prog 148 [.c (.rs (some (radr (g,0))) 4 cap),.agg (nu l),.c (.int .u64 d)] [(g,[.many N (n64s w)],T)] [] A (fun _ : Unit=>True) (fun _=>.c (.int .u64 ((rowS ((w.drop 0).take 4) l d).2 : Nat)))
      (fun _=>[(g,[.many N (n64s (ins w (rowS ((w.drop 0).take 4) l d).1 0))],T)]) (fun _=>[]):=by
  refine Con.of' tt_ok Tryz.func148 rfl (by decide) [.c (.slc 1000 0 4 cap),.agg (nu l),.c (.int .u64 d)] (B1 g) [(1000,[.many N (n64s w)],T)] rfl rfl ⟨⟨kk,nmk hw _,trivial⟩,trivial⟩ ⟨kk,⟨nmk hl _,trivial⟩,trivial,trivial⟩ rfl ?_;(conv=>whnf);intro b4;(conv=>whnf);obtain ⟨to,hto⟩ : ∃ to,to = (w.drop 0).take 4:=⟨_,rfl⟩;have htl : to.length = 4:=by rw [hto,List.length_take,List.length_drop];omega
  have hok : ok64 to:=by rw [hto];exact fun a ha=>okw a (List.mem_of_mem_drop (List.mem_of_mem_take ha))
  rw [← hto];obtain ⟨D,hD⟩ : ∃ D,D = sumD (rowG to l d):=⟨_,rfl⟩;obtain ⟨K,hK⟩ : ∃ K,K = sumK (rowG to l d):=⟨_,rfl⟩;have hS : ∀ i,(chn D K to 0 i).1.length = 4:=fun i=>(q2e i).trans htl;have hC : ∀ i,(chn D K to 0 i).2 < 18446744073709551616:=by rw [hD,hK];exact row_c hok okl hd
  have hI : ∀ i,((chn D K to 0 i).1 ++ w.drop (0 + 4)).length = N:=fun i=>by have:=qfx (w:=w) (o:=0) (by omega) (hS i);omega
  have hIn : ∀ i,(ins w (chn D K to 0 i).1 0).length = N:=fun i=>by rw [q4y (by omega) (hS i),hw]
  have hP : (w.take 0).length = 0:=by rw [List.length_take];omega
  refine LoopOb.m (σ:=Nat) (fun i=>[(0,.c (.slc 1000 0 4 cap)),(2,.c (.int .u64 d)),(7,.c (.int .u64 ((chn D K to 0 i).2 : Nat))),(13,.agg (nu l)),(14,.c (.int .i64 i))])
    (fun i=>⟨(4,b4) :: B1 g,[(1000,[.many (N) (n64s ((chn D K to 0 i).1 ++ w.drop (0 + 4)))],T)],[A]⟩) (fun i=>i ≤ 4) (fun i=>4 - i) 0 (by decide)
    (Wk.m [1000] [0] ⟨⟨rfl,kk⟩,⟨rfl,kk⟩,⟨rfl,kk⟩,⟨rfl,q04 (nu_ok hl _)⟩,⟨rfl,kk⟩,trivial⟩ ⟨⟨kk,nmk (hI 0) _,trivial⟩,trivial⟩ ⟨?_,rfl⟩) ?_
  · have e : n64s w = n64s (w.take 0) ++ n64s (to ++ w.drop (0 + 4)):=by
      (conv=>lhs;rw [← q7q (w:=w) (o:=0)]);rw [← hto];exact List.map_append
    show [blk _ (.cells (n64s w ++ []).toArray _)] = _;rw [e,List.append_assoc];rfl
  intro i hi;have hci:=hC i;(conv=>whnf);refine Cond.d (fun h=>?_) (fun h=>?_)
  · have hi' : i < 4:=by omega
    (conv=>whnf);refine ⟨by omega,q0i i (by show (i : Int).toNat * 1 = i;omega) (by rw [hl];exact hi') ?_⟩;(conv=>whnf);refine Cq.pu (qc1 _ (ng l i) d (okl.get i) hd) rfl ?_;(conv=>whnf);refine ⟨by omega,?_⟩;(conv=>whnf);refine q0i (l:=(chn D K to 0 i).1 ++ w.drop (0 + 4)) i (by show (i : Int).toNat * 1 = i;omega) (by rw [hI i];omega) ?_;have eg : ng ((chn D K to 0 i).1 ++ w.drop (0 + 4)) i = ng to i:=(qfs (hS i) hi').trans (q4h (Nat.le_refl i));rw [eg];conv=>whnf
    refine q3c (ng l i * d % 18446744073709551616) (ng to i) 0 (by exact rfl) (by decide) ?_;obtain ⟨q1,q2,q3,q4⟩:=q69 (p:=ng l i * d) (t:=ng to i) (c:=(chn D K to 0 i).2) (Nat.mul_le_mul (by have:=okl.get i;omega) (by omega)) (hok.get i) hci;(conv=>whnf);refine Ar.nat (ng l i * d / 18446744073709551616 + (ng l i * d % 18446744073709551616 + ng to i + 0) / 18446744073709551616) (by simp) q2 ?_;(conv=>whnf);refine q3c ((ng l i * d % 18446744073709551616 + ng to i + 0) % 18446744073709551616) (chn D K to 0 i).2 0 (by exact rfl) (by decide) ?_;conv=>whnf
    refine Ar.nat _ (by rw [← Int.natCast_add]) (by rw [q3];exact q4) ?_;(conv=>whnf);refine ⟨by omega,?_⟩;(conv=>whnf);refine ⟨⟨rfl,by show (i : Int).toNat * 1 + 1 ≤ N;omega⟩,?_⟩;(conv=>whnf);refine Ar.i64 (by omega) ?_;(conv=>whnf);rw [q3,q1];have eD : (ng to i + ng l i * d + (chn D K to 0 i).2) % 18446744073709551616 = D i (chn D K to 0 i).2:=by rw [hD];rfl
    have eK : (ng to i + ng l i * d + (chn D K to 0 i).2) / 18446744073709551616 = K i (chn D K to 0 i).2:=by rw [hK];rfl
    rw [eD,eK];have hs:=q15 (l:=(chn D K to 0 i).1 ++ w.drop (0 + 4)) (k:=i) (n:=D i (chn D K to 0 i).2) (by rw [hI i];omega);rw [qf8 (hS i) hi'] at hs;refine ⟨i + 1,by omega,by omega,Wk.m [1000] [0] ⟨⟨rfl,kk⟩,⟨rfl,kk⟩,⟨rfl,kk⟩,⟨rfl,q04 (nu_ok hl _)⟩,⟨rfl,kk⟩,trivial⟩ ⟨⟨kk,nmk (hI (i + 1)) _,trivial⟩,trivial⟩ ⟨?_,rfl⟩⟩;refine congrArg (fun z=>[blk _ (.cells (List.toArray z) _)]) ?_
    (show (n64s ((chn D K to 0 i).1 ++ w.drop (0 + 4))).take ((i : Int).toNat * 1) ++ ([Value.int .u64 ((D i (chn D K to 0 i).2 : Nat) : Int)] ++ (n64s ((chn D K to 0 i).1 ++ w.drop (0 + 4))).drop ((i : Int).toNat * 1 + 1)) ++ [] = n64s ((chn D K to 0 i).1.set i (D i (chn D K to 0 i).2) ++ w.drop (0 + 4)) ++ [];rw [show (i : Int).toNat * 1 = i by omega,hs])
  have hi' : i = 4:=by omega
  subst hi';have he : rowS to l d = chn D K to 0 4:=by rw [hD,hK];rfl
  rw [he];(conv=>whnf);refine Ret.m () [1000] [0] trivial rfl kk ⟨⟨nmk (hIn 4) _,trivial⟩,trivial⟩ ⟨?_,rfl⟩;refine congrArg (fun z=>[blk _ (.cells (List.toArray z) _)]) ?_;rfl
theorem qod (A : HP) (g T : Nat) (w : List Nat) (hw : w.length = 8) (cap : Nat) (l : List Nat) (hl : l.length = 4) (okw : ok64 w) (okl : ok64 l) (d : Nat) (hd : d < 18446744073709551616) :
    Con Tryz.prog 148 [.c (.rs (some (radr (g,1))) 4 cap),.agg (nu l),.c (.int .u64 d)] [(g,[.many 8 (n64s w)],T)] [] A (fun _ : Unit=>True) (fun _=>.c (.int .u64 ((rowS ((w.drop 1).take 4) l d).2 : Nat)))
      (fun _=>[(g,[.many 8 (n64s (ins w (rowS ((w.drop 1).take 4) l d).1 1))],T)]) (fun _=>[]):=by
  refine Con.of' tt_ok Tryz.func148 rfl (by decide) [.c (.slc 1000 1 4 cap),.agg (nu l),.c (.int .u64 d)] (B1 g) [(1000,[.many 8 (n64s w)],T)] rfl rfl ⟨⟨kk,nmk hw _,trivial⟩,trivial⟩ ⟨kk,⟨nmk hl _,trivial⟩,trivial,trivial⟩ rfl ?_;(conv=>whnf);intro b4;(conv=>whnf);obtain ⟨to,hto⟩ : ∃ to,to = (w.drop 1).take 4:=⟨_,rfl⟩;have htl : to.length = 4:=by rw [hto,List.length_take,List.length_drop];omega
  have hok : ok64 to:=by rw [hto];exact fun a ha=>okw a (List.mem_of_mem_drop (List.mem_of_mem_take ha))
  rw [← hto];obtain ⟨D,hD⟩ : ∃ D,D = sumD (rowG to l d):=⟨_,rfl⟩;obtain ⟨K,hK⟩ : ∃ K,K = sumK (rowG to l d):=⟨_,rfl⟩;have hS : ∀ i,(chn D K to 0 i).1.length = 4:=fun i=>(q2e i).trans htl;have hC : ∀ i,(chn D K to 0 i).2 < 18446744073709551616:=by rw [hD,hK];exact row_c hok okl hd
  have hI : ∀ i,((chn D K to 0 i).1 ++ w.drop (1 + 4)).length = 7:=fun i=>by have:=qfx (w:=w) (o:=1) (by omega) (hS i);omega
  have hIn : ∀ i,(ins w (chn D K to 0 i).1 1).length = 8:=fun i=>by rw [q4y (by omega) (hS i),hw]
  have hP : (w.take 1).length = 1:=by rw [List.length_take];omega
  refine LoopOb.m (σ:=Nat) (fun i=>[(0,.c (.slc 1000 1 4 cap)),(2,.c (.int .u64 d)),(7,.c (.int .u64 ((chn D K to 0 i).2 : Nat))),(13,.agg (nu l)),(14,.c (.int .i64 i))])
    (fun i=>⟨(4,b4) :: B1 g,[(1000,[.many 1 (n64s (w.take 1)),.many (7) (n64s ((chn D K to 0 i).1 ++ w.drop (1 + 4)))],T)],[A]⟩) (fun i=>i ≤ 4) (fun i=>4 - i) 0 (by decide)
    (Wk.m [1000] [0] ⟨⟨rfl,kk⟩,⟨rfl,kk⟩,⟨rfl,kk⟩,⟨rfl,q04 (nu_ok hl _)⟩,⟨rfl,kk⟩,trivial⟩ ⟨⟨kk,nmk hP _,nmk (hI 0) _,trivial⟩,trivial⟩ ⟨?_,rfl⟩) ?_
  · have e : n64s w = n64s (w.take 1) ++ n64s (to ++ w.drop (1 + 4)):=by
      (conv=>lhs;rw [← q7q (w:=w) (o:=1)]);rw [← hto];exact List.map_append
    show [blk _ (.cells (n64s w ++ []).toArray _)] = _;rw [e,List.append_assoc];rfl
  intro i hi;have hci:=hC i;(conv=>whnf);refine Cond.d (fun h=>?_) (fun h=>?_)
  · have hi' : i < 4:=by omega
    (conv=>whnf);refine ⟨by omega,q0i i (by show (i : Int).toNat * 1 = i;omega) (by rw [hl];exact hi') ?_⟩;(conv=>whnf);refine Cq.pu (qc1 _ (ng l i) d (okl.get i) hd) rfl ?_;(conv=>whnf);refine ⟨by omega,?_⟩;(conv=>whnf);refine q0i (l:=(chn D K to 0 i).1 ++ w.drop (1 + 4)) i (by show (i : Int).toNat * 1 = i;omega) (by rw [hI i];omega) ?_;have eg : ng ((chn D K to 0 i).1 ++ w.drop (1 + 4)) i = ng to i:=(qfs (hS i) hi').trans (q4h (Nat.le_refl i));rw [eg];conv=>whnf
    refine q3c (ng l i * d % 18446744073709551616) (ng to i) 0 (by exact rfl) (by decide) ?_;obtain ⟨q1,q2,q3,q4⟩:=q69 (p:=ng l i * d) (t:=ng to i) (c:=(chn D K to 0 i).2) (Nat.mul_le_mul (by have:=okl.get i;omega) (by omega)) (hok.get i) hci;(conv=>whnf);refine Ar.nat (ng l i * d / 18446744073709551616 + (ng l i * d % 18446744073709551616 + ng to i + 0) / 18446744073709551616) (by simp) q2 ?_;(conv=>whnf);refine q3c ((ng l i * d % 18446744073709551616 + ng to i + 0) % 18446744073709551616) (chn D K to 0 i).2 0 (by exact rfl) (by decide) ?_;conv=>whnf
    refine Ar.nat _ (by rw [← Int.natCast_add]) (by rw [q3];exact q4) ?_;(conv=>whnf);refine ⟨by omega,?_⟩;(conv=>whnf);refine ⟨⟨rfl,by show (i : Int).toNat * 1 + 1 ≤ 7;omega⟩,?_⟩;(conv=>whnf);refine Ar.i64 (by omega) ?_;(conv=>whnf);rw [q3,q1];have eD : (ng to i + ng l i * d + (chn D K to 0 i).2) % 18446744073709551616 = D i (chn D K to 0 i).2:=by rw [hD];rfl
    have eK : (ng to i + ng l i * d + (chn D K to 0 i).2) / 18446744073709551616 = K i (chn D K to 0 i).2:=by rw [hK];rfl
    rw [eD,eK];have hs:=q15 (l:=(chn D K to 0 i).1 ++ w.drop (1 + 4)) (k:=i) (n:=D i (chn D K to 0 i).2) (by rw [hI i];omega);rw [qf8 (hS i) hi'] at hs;refine ⟨i + 1,by omega,by omega,Wk.m [1000] [0] ⟨⟨rfl,kk⟩,⟨rfl,kk⟩,⟨rfl,kk⟩,⟨rfl,q04 (nu_ok hl _)⟩,⟨rfl,kk⟩,trivial⟩ ⟨⟨kk,nmk hP _,nmk (hI (i + 1)) _,trivial⟩,trivial⟩ ⟨?_,rfl⟩⟩;refine congrArg (fun z=>[blk _ (.cells (List.toArray z) _)]) ?_
    (show n64s (w.take 1) ++ ((n64s ((chn D K to 0 i).1 ++ w.drop (1 + 4))).take ((i : Int).toNat * 1) ++ ([Value.int .u64 ((D i (chn D K to 0 i).2 : Nat) : Int)] ++ (n64s ((chn D K to 0 i).1 ++ w.drop (1 + 4))).drop ((i : Int).toNat * 1 + 1)) ++ []) = n64s (w.take 1) ++ (n64s ((chn D K to 0 i).1.set i (D i (chn D K to 0 i).2) ++ w.drop (1 + 4)) ++ []);rw [show (i : Int).toNat * 1 = i by omega,hs])
  have hi' : i = 4:=by omega
  subst hi';have he : rowS to l d = chn D K to 0 4:=by rw [hD,hK];rfl
  rw [he];(conv=>whnf);refine Ret.m () [1000] [0] trivial rfl kk ⟨⟨nmk (hIn 4) _,trivial⟩,trivial⟩ ⟨?_,rfl⟩;refine congrArg (fun z=>[blk _ (.cells (List.toArray z) _)]) ?_
  (show n64s (w.take 1) ++ (n64s ((chn D K to 0 4).1 ++ w.drop (1 + 4)) ++ []) = n64s (w.take 1 ++ ((chn D K to 0 4).1 ++ w.drop (1 + 4))) ++ [];rw [List.append_nil,List.append_nil];exact List.map_append.symm)
theorem qp5 (A : HP) (g T : Nat) (w : List Nat) (hw : w.length = 8) (cap : Nat) (l : List Nat) (hl : l.length = 4) (okw : ok64 w) (okl : ok64 l) (d : Nat) (hd : d < 18446744073709551616) :
    Con Tryz.prog 148 [.c (.rs (some (radr (g,2))) 4 cap),.agg (nu l),.c (.int .u64 d)] [(g,[.many 8 (n64s w)],T)] [] A (fun _ : Unit=>True) (fun _=>.c (.int .u64 ((rowS ((w.drop 2).take 4) l d).2 : Nat)))
      (fun _=>[(g,[.many 8 (n64s (ins w (rowS ((w.drop 2).take 4) l d).1 2))],T)]) (fun _=>[]):=by
  refine Con.of' tt_ok Tryz.func148 rfl (by decide) [.c (.slc 1000 2 4 cap),.agg (nu l),.c (.int .u64 d)] (B1 g) [(1000,[.many 8 (n64s w)],T)] rfl rfl ⟨⟨kk,nmk hw _,trivial⟩,trivial⟩ ⟨kk,⟨nmk hl _,trivial⟩,trivial,trivial⟩ rfl ?_;(conv=>whnf);intro b4;(conv=>whnf);obtain ⟨to,hto⟩ : ∃ to,to = (w.drop 2).take 4:=⟨_,rfl⟩;have htl : to.length = 4:=by rw [hto,List.length_take,List.length_drop];omega
  have hok : ok64 to:=by rw [hto];exact fun a ha=>okw a (List.mem_of_mem_drop (List.mem_of_mem_take ha))
  rw [← hto];obtain ⟨D,hD⟩ : ∃ D,D = sumD (rowG to l d):=⟨_,rfl⟩;obtain ⟨K,hK⟩ : ∃ K,K = sumK (rowG to l d):=⟨_,rfl⟩;have hS : ∀ i,(chn D K to 0 i).1.length = 4:=fun i=>(q2e i).trans htl;have hC : ∀ i,(chn D K to 0 i).2 < 18446744073709551616:=by rw [hD,hK];exact row_c hok okl hd
  have hI : ∀ i,((chn D K to 0 i).1 ++ w.drop (2 + 4)).length = 6:=fun i=>by have:=qfx (w:=w) (o:=2) (by omega) (hS i);omega
  have hIn : ∀ i,(ins w (chn D K to 0 i).1 2).length = 8:=fun i=>by rw [q4y (by omega) (hS i),hw]
  have hP : (w.take 2).length = 2:=by rw [List.length_take];omega
  refine LoopOb.m (σ:=Nat) (fun i=>[(0,.c (.slc 1000 2 4 cap)),(2,.c (.int .u64 d)),(7,.c (.int .u64 ((chn D K to 0 i).2 : Nat))),(13,.agg (nu l)),(14,.c (.int .i64 i))])
    (fun i=>⟨(4,b4) :: B1 g,[(1000,[.many 2 (n64s (w.take 2)),.many (6) (n64s ((chn D K to 0 i).1 ++ w.drop (2 + 4)))],T)],[A]⟩) (fun i=>i ≤ 4) (fun i=>4 - i) 0 (by decide)
    (Wk.m [1000] [0] ⟨⟨rfl,kk⟩,⟨rfl,kk⟩,⟨rfl,kk⟩,⟨rfl,q04 (nu_ok hl _)⟩,⟨rfl,kk⟩,trivial⟩ ⟨⟨kk,nmk hP _,nmk (hI 0) _,trivial⟩,trivial⟩ ⟨?_,rfl⟩) ?_
  · have e : n64s w = n64s (w.take 2) ++ n64s (to ++ w.drop (2 + 4)):=by
      (conv=>lhs;rw [← q7q (w:=w) (o:=2)]);rw [← hto];exact List.map_append
    show [blk _ (.cells (n64s w ++ []).toArray _)] = _;rw [e,List.append_assoc];rfl
  intro i hi;have hci:=hC i;(conv=>whnf);refine Cond.d (fun h=>?_) (fun h=>?_)
  · have hi' : i < 4:=by omega
    (conv=>whnf);refine ⟨by omega,q0i i (by show (i : Int).toNat * 1 = i;omega) (by rw [hl];exact hi') ?_⟩;(conv=>whnf);refine Cq.pu (qc1 _ (ng l i) d (okl.get i) hd) rfl ?_;(conv=>whnf);refine ⟨by omega,?_⟩;(conv=>whnf);refine q0i (l:=(chn D K to 0 i).1 ++ w.drop (2 + 4)) i (by show (i : Int).toNat * 1 = i;omega) (by rw [hI i];omega) ?_;have eg : ng ((chn D K to 0 i).1 ++ w.drop (2 + 4)) i = ng to i:=(qfs (hS i) hi').trans (q4h (Nat.le_refl i));rw [eg];conv=>whnf
    refine q3c (ng l i * d % 18446744073709551616) (ng to i) 0 (by exact rfl) (by decide) ?_;obtain ⟨q1,q2,q3,q4⟩:=q69 (p:=ng l i * d) (t:=ng to i) (c:=(chn D K to 0 i).2) (Nat.mul_le_mul (by have:=okl.get i;omega) (by omega)) (hok.get i) hci;(conv=>whnf);refine Ar.nat (ng l i * d / 18446744073709551616 + (ng l i * d % 18446744073709551616 + ng to i + 0) / 18446744073709551616) (by simp) q2 ?_;(conv=>whnf);refine q3c ((ng l i * d % 18446744073709551616 + ng to i + 0) % 18446744073709551616) (chn D K to 0 i).2 0 (by exact rfl) (by decide) ?_;conv=>whnf
    refine Ar.nat _ (by rw [← Int.natCast_add]) (by rw [q3];exact q4) ?_;(conv=>whnf);refine ⟨by omega,?_⟩;(conv=>whnf);refine ⟨⟨rfl,by show (i : Int).toNat * 1 + 1 ≤ 6;omega⟩,?_⟩;(conv=>whnf);refine Ar.i64 (by omega) ?_;(conv=>whnf);rw [q3,q1];have eD : (ng to i + ng l i * d + (chn D K to 0 i).2) % 18446744073709551616 = D i (chn D K to 0 i).2:=by rw [hD];rfl
    have eK : (ng to i + ng l i * d + (chn D K to 0 i).2) / 18446744073709551616 = K i (chn D K to 0 i).2:=by rw [hK];rfl
    rw [eD,eK];have hs:=q15 (l:=(chn D K to 0 i).1 ++ w.drop (2 + 4)) (k:=i) (n:=D i (chn D K to 0 i).2) (by rw [hI i];omega);rw [qf8 (hS i) hi'] at hs;refine ⟨i + 1,by omega,by omega,Wk.m [1000] [0] ⟨⟨rfl,kk⟩,⟨rfl,kk⟩,⟨rfl,kk⟩,⟨rfl,q04 (nu_ok hl _)⟩,⟨rfl,kk⟩,trivial⟩ ⟨⟨kk,nmk hP _,nmk (hI (i + 1)) _,trivial⟩,trivial⟩ ⟨?_,rfl⟩⟩;refine congrArg (fun z=>[blk _ (.cells (List.toArray z) _)]) ?_
    (show n64s (w.take 2) ++ ((n64s ((chn D K to 0 i).1 ++ w.drop (2 + 4))).take ((i : Int).toNat * 1) ++ ([Value.int .u64 ((D i (chn D K to 0 i).2 : Nat) : Int)] ++ (n64s ((chn D K to 0 i).1 ++ w.drop (2 + 4))).drop ((i : Int).toNat * 1 + 1)) ++ []) = n64s (w.take 2) ++ (n64s ((chn D K to 0 i).1.set i (D i (chn D K to 0 i).2) ++ w.drop (2 + 4)) ++ []);rw [show (i : Int).toNat * 1 = i by omega,hs])
  have hi' : i = 4:=by omega
  subst hi';have he : rowS to l d = chn D K to 0 4:=by rw [hD,hK];rfl
  rw [he];(conv=>whnf);refine Ret.m () [1000] [0] trivial rfl kk ⟨⟨nmk (hIn 4) _,trivial⟩,trivial⟩ ⟨?_,rfl⟩;refine congrArg (fun z=>[blk _ (.cells (List.toArray z) _)]) ?_
  (show n64s (w.take 2) ++ (n64s ((chn D K to 0 4).1 ++ w.drop (2 + 4)) ++ []) = n64s (w.take 2 ++ ((chn D K to 0 4).1 ++ w.drop (2 + 4))) ++ [];rw [List.append_nil,List.append_nil];exact List.map_append.symm)
theorem qof (A : HP) (g T : Nat) (w : List Nat) (hw : w.length = 8) (cap : Nat) (l : List Nat) (hl : l.length = 4) (okw : ok64 w) (okl : ok64 l) (d : Nat) (hd : d < 18446744073709551616) :
    Con Tryz.prog 148 [.c (.rs (some (radr (g,3))) 4 cap),.agg (nu l),.c (.int .u64 d)] [(g,[.many 8 (n64s w)],T)] [] A (fun _ : Unit=>True) (fun _=>.c (.int .u64 ((rowS ((w.drop 3).take 4) l d).2 : Nat)))
      (fun _=>[(g,[.many 8 (n64s (ins w (rowS ((w.drop 3).take 4) l d).1 3))],T)]) (fun _=>[]):=by
  refine Con.of' tt_ok Tryz.func148 rfl (by decide) [.c (.slc 1000 3 4 cap),.agg (nu l),.c (.int .u64 d)] (B1 g) [(1000,[.many 8 (n64s w)],T)] rfl rfl ⟨⟨kk,nmk hw _,trivial⟩,trivial⟩ ⟨kk,⟨nmk hl _,trivial⟩,trivial,trivial⟩ rfl ?_;(conv=>whnf);intro b4;(conv=>whnf);obtain ⟨to,hto⟩ : ∃ to,to = (w.drop 3).take 4:=⟨_,rfl⟩;have htl : to.length = 4:=by rw [hto,List.length_take,List.length_drop];omega
  have hok : ok64 to:=by rw [hto];exact fun a ha=>okw a (List.mem_of_mem_drop (List.mem_of_mem_take ha))
  rw [← hto];obtain ⟨D,hD⟩ : ∃ D,D = sumD (rowG to l d):=⟨_,rfl⟩;obtain ⟨K,hK⟩ : ∃ K,K = sumK (rowG to l d):=⟨_,rfl⟩;have hS : ∀ i,(chn D K to 0 i).1.length = 4:=fun i=>(q2e i).trans htl;have hC : ∀ i,(chn D K to 0 i).2 < 18446744073709551616:=by rw [hD,hK];exact row_c hok okl hd
  have hI : ∀ i,((chn D K to 0 i).1 ++ w.drop (3 + 4)).length = 5:=fun i=>by have:=qfx (w:=w) (o:=3) (by omega) (hS i);omega
  have hIn : ∀ i,(ins w (chn D K to 0 i).1 3).length = 8:=fun i=>by rw [q4y (by omega) (hS i),hw]
  have hP : (w.take 3).length = 3:=by rw [List.length_take];omega
  refine LoopOb.m (σ:=Nat) (fun i=>[(0,.c (.slc 1000 3 4 cap)),(2,.c (.int .u64 d)),(7,.c (.int .u64 ((chn D K to 0 i).2 : Nat))),(13,.agg (nu l)),(14,.c (.int .i64 i))])
    (fun i=>⟨(4,b4) :: B1 g,[(1000,[.many 3 (n64s (w.take 3)),.many (5) (n64s ((chn D K to 0 i).1 ++ w.drop (3 + 4)))],T)],[A]⟩) (fun i=>i ≤ 4) (fun i=>4 - i) 0 (by decide)
    (Wk.m [1000] [0] ⟨⟨rfl,kk⟩,⟨rfl,kk⟩,⟨rfl,kk⟩,⟨rfl,q04 (nu_ok hl _)⟩,⟨rfl,kk⟩,trivial⟩ ⟨⟨kk,nmk hP _,nmk (hI 0) _,trivial⟩,trivial⟩ ⟨?_,rfl⟩) ?_
  · have e : n64s w = n64s (w.take 3) ++ n64s (to ++ w.drop (3 + 4)):=by
      (conv=>lhs;rw [← q7q (w:=w) (o:=3)]);rw [← hto];exact List.map_append
    show [blk _ (.cells (n64s w ++ []).toArray _)] = _;rw [e,List.append_assoc];rfl
  intro i hi;have hci:=hC i;(conv=>whnf);refine Cond.d (fun h=>?_) (fun h=>?_)
  · have hi' : i < 4:=by omega
    (conv=>whnf);refine ⟨by omega,q0i i (by show (i : Int).toNat * 1 = i;omega) (by rw [hl];exact hi') ?_⟩;(conv=>whnf);refine Cq.pu (qc1 _ (ng l i) d (okl.get i) hd) rfl ?_;(conv=>whnf);refine ⟨by omega,?_⟩;(conv=>whnf);refine q0i (l:=(chn D K to 0 i).1 ++ w.drop (3 + 4)) i (by show (i : Int).toNat * 1 = i;omega) (by rw [hI i];omega) ?_;have eg : ng ((chn D K to 0 i).1 ++ w.drop (3 + 4)) i = ng to i:=(qfs (hS i) hi').trans (q4h (Nat.le_refl i));rw [eg];conv=>whnf
    refine q3c (ng l i * d % 18446744073709551616) (ng to i) 0 (by exact rfl) (by decide) ?_;obtain ⟨q1,q2,q3,q4⟩:=q69 (p:=ng l i * d) (t:=ng to i) (c:=(chn D K to 0 i).2) (Nat.mul_le_mul (by have:=okl.get i;omega) (by omega)) (hok.get i) hci;(conv=>whnf);refine Ar.nat (ng l i * d / 18446744073709551616 + (ng l i * d % 18446744073709551616 + ng to i + 0) / 18446744073709551616) (by simp) q2 ?_;(conv=>whnf);refine q3c ((ng l i * d % 18446744073709551616 + ng to i + 0) % 18446744073709551616) (chn D K to 0 i).2 0 (by exact rfl) (by decide) ?_;conv=>whnf
    refine Ar.nat _ (by rw [← Int.natCast_add]) (by rw [q3];exact q4) ?_;(conv=>whnf);refine ⟨by omega,?_⟩;(conv=>whnf);refine ⟨⟨rfl,by show (i : Int).toNat * 1 + 1 ≤ 5;omega⟩,?_⟩;(conv=>whnf);refine Ar.i64 (by omega) ?_;(conv=>whnf);rw [q3,q1];have eD : (ng to i + ng l i * d + (chn D K to 0 i).2) % 18446744073709551616 = D i (chn D K to 0 i).2:=by rw [hD];rfl
    have eK : (ng to i + ng l i * d + (chn D K to 0 i).2) / 18446744073709551616 = K i (chn D K to 0 i).2:=by rw [hK];rfl
    rw [eD,eK];have hs:=q15 (l:=(chn D K to 0 i).1 ++ w.drop (3 + 4)) (k:=i) (n:=D i (chn D K to 0 i).2) (by rw [hI i];omega);rw [qf8 (hS i) hi'] at hs;refine ⟨i + 1,by omega,by omega,Wk.m [1000] [0] ⟨⟨rfl,kk⟩,⟨rfl,kk⟩,⟨rfl,kk⟩,⟨rfl,q04 (nu_ok hl _)⟩,⟨rfl,kk⟩,trivial⟩ ⟨⟨kk,nmk hP _,nmk (hI (i + 1)) _,trivial⟩,trivial⟩ ⟨?_,rfl⟩⟩;refine congrArg (fun z=>[blk _ (.cells (List.toArray z) _)]) ?_
    (show n64s (w.take 3) ++ ((n64s ((chn D K to 0 i).1 ++ w.drop (3 + 4))).take ((i : Int).toNat * 1) ++ ([Value.int .u64 ((D i (chn D K to 0 i).2 : Nat) : Int)] ++ (n64s ((chn D K to 0 i).1 ++ w.drop (3 + 4))).drop ((i : Int).toNat * 1 + 1)) ++ []) = n64s (w.take 3) ++ (n64s ((chn D K to 0 i).1.set i (D i (chn D K to 0 i).2) ++ w.drop (3 + 4)) ++ []);rw [show (i : Int).toNat * 1 = i by omega,hs])
  have hi' : i = 4:=by omega
  subst hi';have he : rowS to l d = chn D K to 0 4:=by rw [hD,hK];rfl
  rw [he];(conv=>whnf);refine Ret.m () [1000] [0] trivial rfl kk ⟨⟨nmk (hIn 4) _,trivial⟩,trivial⟩ ⟨?_,rfl⟩;refine congrArg (fun z=>[blk _ (.cells (List.toArray z) _)]) ?_
  (show n64s (w.take 3) ++ (n64s ((chn D K to 0 4).1 ++ w.drop (3 + 4)) ++ []) = n64s (w.take 3 ++ ((chn D K to 0 4).1 ++ w.drop (3 + 4))) ++ [];rw [List.append_nil,List.append_nil];exact List.map_append.symm)
end
section
theorem qbm {w x : List Nat} {o c : Nat} (h : o + 5 ≤ w.length) (hx : x.length = 4) : (ins w x o).set (o + 4) c = w.take o ++ (x ++ (c :: w.drop (o + 5))):=by
  unfold ins;have e : (w.take o).length = o:=by rw [List.length_take];omega
  rw [List.set_append_right _ _ (by omega),e,Nat.add_sub_cancel_left,List.set_append_right _ _ (by omega),hx,List.drop_eq_getElem_cons (by omega)];rfl
theorem ldsP {P : Program} {t : Nat} {x : TyX} {b off : Nat} {m : M} {f : SV → Prop} {A : HP} {p : Nat × Nat} {xs : List Value} (j : Nat) (l : List Seg) (hx : x.k.agg = true) (hA : A ∈ m.props) (hr : Rd A (some (radr p)) xs)
    (hb : b = p.1) (ho : off = p.2 + j) (hl : dens m.B l = (xs.drop j).take x.size) (hn : (dens m.B l).length = x.size) (hpos : 0 < x.size) (k1 : ∀ s ∈ l,s.ok m.B) (h : f (.agg l)) :
    With (Ty P t x) (LdOb P t ⟨b,off,none⟩ m f):=by
  refine ⟨fun T=>⟨.agg l,k1,h,fun km w hs=>?_⟩⟩;show (loadVar t ⟨b,off,none⟩).run P w = .ok (.agg (dens m.B l).toArray) w;generalize dens m.B l = l at hl hn ⊢;obtain ⟨g,hg,hp⟩:=qf3 (l:=m.props) hA hs
  rcases hr g hp with rfl | ⟨q,e,hr⟩
  · subst hl;simp at hn;omega
  · obtain rfl : p = q:=by cases p;cases q;simp [radr] at e;simp [e]
    obtain ⟨cs,T',fz,e,h2⟩:=hr.le hg;subst hb ho;have hlen : j + x.size ≤ xs.length:=by rw [hl] at hn;simp at hn;omega
    have hcs : ∀ i,i < x.size → cs.toList[p.2 + j + i]? = l[i]?:=by
      intro i hi;have hli : l[i]? = xs[j + i]?:=by rw [hl,List.getElem?_take_of_lt hi,List.getElem?_drop]
      have hb2 : j + i < xs.length:=by omega
      have h3:=h2 (j + i) xs[j + i] (List.getElem?_eq_getElem hb2);rw [hli,List.getElem?_eq_getElem hb2,← h3]
      simp [Nat.add_assoc]
    refine q1f T (L:=cs.toList) e ?_;rw [hx];simp only [if_true]
    have hfit : p.2 + j + x.size ≤ cs.toList.length:=by
      have:=hcs (x.size - 1) (by omega);rw [List.getElem?_eq_getElem (l:=l) (by omega)] at this;have:=(List.getElem?_eq_some_iff.1 this).1;omega
    refine ⟨hfit,?_⟩;congr 2
    apply List.ext_getElem?
    intro i
    by_cases hi : i < x.size
    · rw [List.getElem?_take_of_lt hi,List.getElem?_drop,hcs i hi]
    · have e1 : l[i]? = none:=List.getElem?_eq_none (by omega);have e2 : ((cs.toList.drop (p.2 + j)).take x.size)[i]? = none:=List.getElem?_eq_none (by rw [List.length_take];omega);rw [e1,e2]
theorem q0t (A : HP) (l m : List Nat) (hl : l.length = 4) (hm : m.length = 4) (okl : ok64 l) (okm : ok64 m) :
    Con Tryz.prog 110 [.agg (nu l),.agg (nu m)] [] [] A (fun t : List Nat=>t.length = 4 ∧ ok64 t ∧ num t % Pm = num l * num m % Pm) (fun t=>.agg (nu t)) (fun _=>[]) (fun _=>[]):=by
  refine Con.of' tt_ok Tryz.func110 rfl (by decide) [.agg (nu l),.agg (nu m)] [] [] rfl rfl trivial ⟨⟨nmk hl _,trivial⟩,⟨nmk hm _,trivial⟩,trivial⟩ rfl ?_;(conv=>whnf);intro b2;(conv=>whnf);intro b3;(conv=>whnf);intro b4;(conv=>whnf);intro b5;(conv=>whnf);have hW:=fun i hi=>qbx (l:=l) (m:=m) hl i hi;have hO:=fun i=>wS_ok okl okm i
  refine LoopOb.m (σ:=Nat) (fun i=>[(2,.c (.ptr 2 0)),(3,.c (.ptr 3 0)),(4,.c (.ptr 4 0)),(5,.c (.ptr 5 0)),(11,.agg (nu m)),(12,.c (.int .i64 i))])
    (fun i=>⟨[(5,b5),(4,b4),(3,b3),(2,b2)],[(5,[.many 8 (n64s (wS l m i))],220),(4,nu [0,0,0,0],180),(2,nu l,180)],[A]⟩) (fun i=>i ≤ 4) (fun i=>4 - i) 0 (by decide)
    (Wk.m [5,4,2] [0] ⟨⟨rfl,kk⟩,⟨rfl,kk⟩,⟨rfl,kk⟩,⟨rfl,kk⟩,⟨rfl,q04 (nu_ok hm _)⟩,⟨rfl,kk⟩,trivial⟩ ⟨⟨kk,nmk rfl _,trivial⟩,⟨kk,nmk rfl _,trivial⟩,⟨kk,nmk hl _,trivial⟩,trivial⟩ ⟨rfl,rfl⟩) ?_
  intro i hi;(conv=>whnf);refine Cond.d (fun h=>?_) (fun h=>?_)
  · obtain rfl | rfl | rfl | rfl : i = 0 ∨ i = 1 ∨ i = 2 ∨ i = 3:=by omega
    · (conv=>whnf);refine ⟨by decide,q0i 0 rfl (by rw [hm];decide) ?_⟩;(conv=>whnf);refine Draw.a (by kernel_rfl) tt_ok (Tv.of (List.range 11) .nil) 8 (by kernel_rfl) ?_;(conv=>whnf);refine Ar.i64 (by omega) ?_;(conv=>whnf);refine Ar.i64 (by omega) ?_;(conv=>whnf);refine ⟨by omega,?_⟩;(conv=>whnf);refine ⟨by omega,?_⟩;(conv=>whnf);refine Cq.by' [5] [] (qel _ b5 8 220 (wS l m 0) (hW 0 (by decide)).1 (by decide) 8 l hl (hO 0) okl (ng m 0) (okm.get 0)) rfl ⟨rfl,rfl,rfl,fun _ _=>⟨rfl,?_⟩⟩
      (conv=>whnf);refine ⟨by omega,?_⟩;(conv=>whnf);refine ⟨⟨rfl,by decide⟩,?_⟩;(conv=>whnf);refine Ar.i64 (by omega) ?_;(conv=>whnf);have hw8:=(hW 0 (by decide)).1;have hr4 : (rowS (((wS l m 0).drop 0).take 4) l (ng m 0)).1.length = 4:=q5q (by rw [List.length_take,List.length_drop];omega);have hs:=q15 (l:=ins (wS l m 0) (rowS (((wS l m 0).drop 0).take 4) l (ng m 0)).1 0) (k:=4) (n:=(rowS (((wS l m 0).drop 0).take 4) l (ng m 0)).2) (by rw [q4y (by omega) hr4];omega);rw [show 4 = 0 + 4 from rfl,qbm (by omega) hr4] at hs
      refine ⟨1,by decide,by decide,Wk.m [5,4,2] [0] ⟨⟨rfl,kk⟩,⟨rfl,kk⟩,⟨rfl,kk⟩,⟨rfl,kk⟩,⟨rfl,q04 (nu_ok hm _)⟩,⟨rfl,kk⟩,trivial⟩ ⟨⟨kk,nmk (hW 1 (by decide)).1 _,trivial⟩,⟨kk,nmk rfl _,trivial⟩,⟨kk,nmk hl _,trivial⟩,trivial⟩ ⟨?_,rfl⟩⟩;refine congrArg (fun z=>[blk _ (.cells (List.toArray z) _),_,_]) ?_
      show (n64s (ins (wS l m 0) (rowS (((wS l m 0).drop 0).take 4) l (ng m 0)).1 0)).take (0 + 4) ++ ([Value.int .u64 (((rowS (((wS l m 0).drop 0).take 4) l (ng m 0)).2 : Nat) : Int)] ++ (n64s (ins (wS l m 0) (rowS (((wS l m 0).drop 0).take 4) l (ng m 0)).1 0)).drop (0 + 4 + 1)) ++ [] = n64s (mulAt (wS l m 0) l (ng m 0) 0) ++ [];rw [hs];rfl
    · (conv=>whnf);refine ⟨by decide,q0i 1 rfl (by rw [hm];decide) ?_⟩;(conv=>whnf);refine Draw.a (by kernel_rfl) tt_ok (Tv.of (List.range 11) .nil) 8 (by kernel_rfl) ?_;(conv=>whnf);refine Ar.i64 (by omega) ?_;(conv=>whnf);refine Ar.i64 (by omega) ?_;(conv=>whnf);refine ⟨by omega,?_⟩;(conv=>whnf);refine ⟨by omega,?_⟩;(conv=>whnf);refine Cq.by' [5] [] (qod _ b5 220 (wS l m 1) (hW 1 (by decide)).1 7 l hl (hO 1) okl (ng m 1) (okm.get 1)) rfl ⟨rfl,rfl,rfl,fun _ _=>⟨rfl,?_⟩⟩
      (conv=>whnf);refine ⟨by omega,?_⟩;(conv=>whnf);refine ⟨⟨rfl,by decide⟩,?_⟩;(conv=>whnf);refine Ar.i64 (by omega) ?_;(conv=>whnf);have hw8:=(hW 1 (by decide)).1;have hr4 : (rowS (((wS l m 1).drop 1).take 4) l (ng m 1)).1.length = 4:=q5q (by rw [List.length_take,List.length_drop];omega);have hs:=q15 (l:=ins (wS l m 1) (rowS (((wS l m 1).drop 1).take 4) l (ng m 1)).1 1) (k:=5) (n:=(rowS (((wS l m 1).drop 1).take 4) l (ng m 1)).2) (by rw [q4y (by omega) hr4];omega);rw [show 5 = 1 + 4 from rfl,qbm (by omega) hr4] at hs
      refine ⟨2,by decide,by decide,Wk.m [5,4,2] [0] ⟨⟨rfl,kk⟩,⟨rfl,kk⟩,⟨rfl,kk⟩,⟨rfl,kk⟩,⟨rfl,q04 (nu_ok hm _)⟩,⟨rfl,kk⟩,trivial⟩ ⟨⟨kk,nmk (hW 2 (by decide)).1 _,trivial⟩,⟨kk,nmk rfl _,trivial⟩,⟨kk,nmk hl _,trivial⟩,trivial⟩ ⟨?_,rfl⟩⟩;refine congrArg (fun z=>[blk _ (.cells (List.toArray z) _),_,_]) ?_
      show (n64s (ins (wS l m 1) (rowS (((wS l m 1).drop 1).take 4) l (ng m 1)).1 1)).take (1 + 4) ++ ([Value.int .u64 (((rowS (((wS l m 1).drop 1).take 4) l (ng m 1)).2 : Nat) : Int)] ++ (n64s (ins (wS l m 1) (rowS (((wS l m 1).drop 1).take 4) l (ng m 1)).1 1)).drop (1 + 4 + 1)) ++ [] = n64s (mulAt (wS l m 1) l (ng m 1) 1) ++ [];rw [hs];rfl
    · (conv=>whnf);refine ⟨by decide,q0i 2 rfl (by rw [hm];decide) ?_⟩;(conv=>whnf);refine Draw.a (by kernel_rfl) tt_ok (Tv.of (List.range 11) .nil) 8 (by kernel_rfl) ?_;(conv=>whnf);refine Ar.i64 (by omega) ?_;(conv=>whnf);refine Ar.i64 (by omega) ?_;(conv=>whnf);refine ⟨by omega,?_⟩;(conv=>whnf);refine ⟨by omega,?_⟩;(conv=>whnf);refine Cq.by' [5] [] (qp5 _ b5 220 (wS l m 2) (hW 2 (by decide)).1 6 l hl (hO 2) okl (ng m 2) (okm.get 2)) rfl ⟨rfl,rfl,rfl,fun _ _=>⟨rfl,?_⟩⟩
      (conv=>whnf);refine ⟨by omega,?_⟩;(conv=>whnf);refine ⟨⟨rfl,by decide⟩,?_⟩;(conv=>whnf);refine Ar.i64 (by omega) ?_;(conv=>whnf);have hw8:=(hW 2 (by decide)).1;have hr4 : (rowS (((wS l m 2).drop 2).take 4) l (ng m 2)).1.length = 4:=q5q (by rw [List.length_take,List.length_drop];omega);have hs:=q15 (l:=ins (wS l m 2) (rowS (((wS l m 2).drop 2).take 4) l (ng m 2)).1 2) (k:=6) (n:=(rowS (((wS l m 2).drop 2).take 4) l (ng m 2)).2) (by rw [q4y (by omega) hr4];omega);rw [show 6 = 2 + 4 from rfl,qbm (by omega) hr4] at hs
      refine ⟨3,by decide,by decide,Wk.m [5,4,2] [0] ⟨⟨rfl,kk⟩,⟨rfl,kk⟩,⟨rfl,kk⟩,⟨rfl,kk⟩,⟨rfl,q04 (nu_ok hm _)⟩,⟨rfl,kk⟩,trivial⟩ ⟨⟨kk,nmk (hW 3 (by decide)).1 _,trivial⟩,⟨kk,nmk rfl _,trivial⟩,⟨kk,nmk hl _,trivial⟩,trivial⟩ ⟨?_,rfl⟩⟩;refine congrArg (fun z=>[blk _ (.cells (List.toArray z) _),_,_]) ?_
      show (n64s (ins (wS l m 2) (rowS (((wS l m 2).drop 2).take 4) l (ng m 2)).1 2)).take (2 + 4) ++ ([Value.int .u64 (((rowS (((wS l m 2).drop 2).take 4) l (ng m 2)).2 : Nat) : Int)] ++ (n64s (ins (wS l m 2) (rowS (((wS l m 2).drop 2).take 4) l (ng m 2)).1 2)).drop (2 + 4 + 1)) ++ [] = n64s (mulAt (wS l m 2) l (ng m 2) 2) ++ [];rw [hs];rfl
    · (conv=>whnf);refine ⟨by decide,q0i 3 rfl (by rw [hm];decide) ?_⟩;(conv=>whnf);refine Draw.a (by kernel_rfl) tt_ok (Tv.of (List.range 11) .nil) 8 (by kernel_rfl) ?_;(conv=>whnf);refine Ar.i64 (by omega) ?_;(conv=>whnf);refine Ar.i64 (by omega) ?_;(conv=>whnf);refine ⟨by omega,?_⟩;(conv=>whnf);refine ⟨by omega,?_⟩;(conv=>whnf);refine Cq.by' [5] [] (qof _ b5 220 (wS l m 3) (hW 3 (by decide)).1 5 l hl (hO 3) okl (ng m 3) (okm.get 3)) rfl ⟨rfl,rfl,rfl,fun _ _=>⟨rfl,?_⟩⟩
      (conv=>whnf);refine ⟨by omega,?_⟩;(conv=>whnf);refine ⟨⟨rfl,by decide⟩,?_⟩;(conv=>whnf);refine Ar.i64 (by omega) ?_;(conv=>whnf);have hw8:=(hW 3 (by decide)).1;have hr4 : (rowS (((wS l m 3).drop 3).take 4) l (ng m 3)).1.length = 4:=q5q (by rw [List.length_take,List.length_drop];omega);have hs:=q15 (l:=ins (wS l m 3) (rowS (((wS l m 3).drop 3).take 4) l (ng m 3)).1 3) (k:=7) (n:=(rowS (((wS l m 3).drop 3).take 4) l (ng m 3)).2) (by rw [q4y (by omega) hr4];omega);rw [show 7 = 3 + 4 from rfl,qbm (by omega) hr4] at hs
      refine ⟨4,by decide,by decide,Wk.m [5,4,2] [0] ⟨⟨rfl,kk⟩,⟨rfl,kk⟩,⟨rfl,kk⟩,⟨rfl,kk⟩,⟨rfl,q04 (nu_ok hm _)⟩,⟨rfl,kk⟩,trivial⟩ ⟨⟨kk,nmk (hW 4 (by decide)).1 _,trivial⟩,⟨kk,nmk rfl _,trivial⟩,⟨kk,nmk hl _,trivial⟩,trivial⟩ ⟨?_,rfl⟩⟩;refine congrArg (fun z=>[blk _ (.cells (List.toArray z) _),_,_]) ?_
      show (n64s (ins (wS l m 3) (rowS (((wS l m 3).drop 3).take 4) l (ng m 3)).1 3)).take (3 + 4) ++ ([Value.int .u64 (((rowS (((wS l m 3).drop 3).take 4) l (ng m 3)).2 : Nat) : Int)] ++ (n64s (ins (wS l m 3) (rowS (((wS l m 3).drop 3).take 4) l (ng m 3)).1 3)).drop (3 + 4 + 1)) ++ [] = n64s (mulAt (wS l m 3) l (ng m 3) 3) ++ [];rw [hs];rfl
  have hi' : i = 4:=by omega
  subst hi';have hw8:=(hW 4 (by decide)).1;have hnum:=qr5 (l:=l) (m:=m) hl hm;have hwok:=hO 4;generalize wS l m 4 = w at hw8 hnum hwok ⊢;(conv=>whnf);refine Draw.a (by kernel_rfl) tt_ok (Tv.of [0,1,2,3,4,5] (.two 6 (Tv.of [7,8,9] .nil) 7 (Tv.of [6,8,9] .nil))) 1000000 (by kernel_rfl) ?_;(conv=>whnf);refine ⟨by decide,?_⟩;(conv=>whnf);refine ⟨by decide,?_⟩;(conv=>whnf);refine ⟨by decide,?_⟩;(conv=>whnf);have hcut : cutA (some ⟨b5,0,none⟩) 8 (Int.toNat 4) 1 = some (radr (b5,4)):=by unfold cutA;rw [if_neg (by decide)];rfl
  refine ⟨by decide,?_⟩;refine (show ∀ {Q : Nat × Nat → Prop} {m : M},Q (b5,4) → PtrOb (cutA (some ⟨b5,0,none⟩) 8 (Int.toNat 4) 1) m Q from fun hq=>by rw [hcut];exact PtrOb.at (p:=(b5,4)) hq) ?_;(conv=>whnf);refine ldsP (A:=Chunk.p [(5,b5),(4,b4),(3,b3),(2,b2)] (5,[.many 8 (n64s w)],220)) (p:=(b5,0)) (xs:=n64s w) 4 [.many 4 (n64s (w.drop 4))] rfl List.mem_cons_self q1p rfl rfl ?_ ?_ (by decide) (q04 (by exact ⟨nmk (by rw [List.length_drop,hw8]) _,trivial⟩)) ?_
  · show n64s (w.drop 4) ++ [] = ((n64s w).drop 4).take 4;rw [List.append_nil,← List.map_drop,List.take_of_length_le];rw [List.length_map,List.length_drop,hw8];decide
  · show (n64s (w.drop 4) ++ []).length = 4;rw [List.append_nil,List.length_map,List.length_drop,hw8]
  (conv=>whnf);refine ⟨?_,?_⟩
  · (conv=>whnf);intro b8;refine Sub.r [5,4,2] [0] ?_;(conv=>whnf);intro b9;refine Sub.r [5,4,2] [0] ?_;(conv=>whnf);refine Sub.r [5,4,2] [0] ?_;(conv=>whnf);refine Sub.r [5,4,2] [0] ?_;(conv=>whnf);refine Draw.a (by kernel_rfl) tt_ok (Tv.of (List.range 4) .nil) 2 (by kernel_rfl) ?_;(conv=>whnf);have ht : List.take (3 + 1) (n64s w) = n64s (w.take 4):=List.map_take.symm;rw [ht];have t4 : (w.take 4).length = 4:=by rw [List.length_take,hw8];rfl
    have d4 : (w.drop 4).length = 4:=by rw [List.length_drop,hw8]
    have C:=fun A=>qel A b8 4 180 (w.take 4) t4 (by decide) 4 (w.drop 4) d4 (fun a ha=>hwok a (List.mem_of_mem_take ha)) (fun a ha=>hwok a (List.mem_of_mem_drop ha)) 38 (by decide);have e1 : ((w.take 4).drop 0).take 4 = w.take 4:=by rw [List.drop_zero,List.take_of_length_le (by omega)]
    have e2 : ins (w.take 4) (foldS w).1 0 = (foldS w).1:=by
      unfold ins;rw [List.take_zero,List.nil_append,List.drop_of_length_le (by omega),List.append_nil]
    rw [e1,show rowS (w.take 4) (w.drop 4) 38 = foldS w from rfl,e2] at C;refine Cq.by' [8] [] (C _) rfl ⟨rfl,rfl,rfl,fun _ _=>⟨rfl,?_⟩⟩
    (conv=>whnf);have f1:=qgk hw8;have f2:=qn3 hw8 hwok;have f3 : (foldS w).1.length = 4:=q5q t4;have f4 : ok64 (foldS w).1:=qj9 (fun a ha=>hwok a (List.mem_of_mem_take ha));refine Cq.by' [8] [] (qbj _ b8 (foldS w).1 f3 f4 (foldS w).2 f2) rfl ⟨rfl,rfl,rfl,fun t ht=>⟨rfl,?_⟩⟩
    obtain ⟨g1,g2,g3⟩:=ht;(conv=>whnf);exact Ret.m t [] [0] ⟨g1,g2,by rw [g3,f1,hnum]⟩ rfl ⟨nmk g1 _,trivial⟩ trivial ⟨rfl,rfl⟩
  · (conv=>whnf);intro b9;refine Sub.r [5,4,2] [0] ?_;(conv=>whnf);intro b8;refine Sub.r [5,4,2] [0] ?_;(conv=>whnf);refine Sub.r [5,4,2] [0] ?_;(conv=>whnf);refine Sub.r [5,4,2] [0] ?_;(conv=>whnf);refine Draw.a (by kernel_rfl) tt_ok (Tv.of (List.range 4) .nil) 2 (by kernel_rfl) ?_;(conv=>whnf);have ht : List.take (3 + 1) (n64s w) = n64s (w.take 4):=List.map_take.symm;rw [ht];have t4 : (w.take 4).length = 4:=by rw [List.length_take,hw8];rfl
    have d4 : (w.drop 4).length = 4:=by rw [List.length_drop,hw8]
    have C:=fun A=>qel A b8 4 180 (w.take 4) t4 (by decide) 4 (w.drop 4) d4 (fun a ha=>hwok a (List.mem_of_mem_take ha)) (fun a ha=>hwok a (List.mem_of_mem_drop ha)) 38 (by decide);have e1 : ((w.take 4).drop 0).take 4 = w.take 4:=by rw [List.drop_zero,List.take_of_length_le (by omega)]
    have e2 : ins (w.take 4) (foldS w).1 0 = (foldS w).1:=by
      unfold ins;rw [List.take_zero,List.nil_append,List.drop_of_length_le (by omega),List.append_nil]
    rw [e1,show rowS (w.take 4) (w.drop 4) 38 = foldS w from rfl,e2] at C;refine Cq.by' [8] [] (C _) rfl ⟨rfl,rfl,rfl,fun _ _=>⟨rfl,?_⟩⟩
    (conv=>whnf);have f1:=qgk hw8;have f2:=qn3 hw8 hwok;have f3 : (foldS w).1.length = 4:=q5q t4;have f4 : ok64 (foldS w).1:=qj9 (fun a ha=>hwok a (List.mem_of_mem_take ha));refine Cq.by' [8] [] (qbj _ b8 (foldS w).1 f3 f4 (foldS w).2 f2) rfl ⟨rfl,rfl,rfl,fun t ht=>⟨rfl,?_⟩⟩
    obtain ⟨g1,g2,g3⟩:=ht;(conv=>whnf);exact Ret.m t [] [0] ⟨g1,g2,by rw [g3,f1,hnum]⟩ rfl ⟨nmk g1 _,trivial⟩ trivial ⟨rfl,rfl⟩
end
section
def ofI (a : List UInt8) (i : Nat) : List Nat:=(ofS a).take i ++ List.replicate (4 - i) 0
def ofV (a : List UInt8) (i m : Nat) : Nat:=le ((a.drop (8 * i + 8 - m)).take m)
theorem qot (a : List UInt8) (i : Nat) (h : i ≤ 4) : (ofI a i).length = 4:=by simp [ofI,ofS];omega
theorem qmb {a : List UInt8} (ha : a.length = 32) {i m : Nat} (hi : i < 4) (hm : m < 8) : ofV a i (m + 1) = ofV a i m * 256 + gd a (8 * i + 7 - m):=by
  unfold ofV
  have e : (a.drop (8 * i + 8 - (m + 1))).take (m + 1) = a[8 * i + 7 - m]'(by omega) :: (a.drop (8 * i + 8 - m)).take m:=by
    rw [show 8 * i + 8 - (m + 1) = 8 * i + 7 - m by omega,List.drop_eq_getElem_cons (by omega),List.take_succ_cons,show 8 * i + 7 - m + 1 = 8 * i + 8 - m by omega]
  rw [e,gd_eq (by omega)];show _ + 256 * _ = _;omega
theorem qqg {a : List UInt8} (ha : a.length = 32) {i m : Nat} (hi : i < 4) (hm : m ≤ 8) : ofV a i m < 256 ^ m:=by
  unfold ofV;have h:=le_lt ((a.drop (8 * i + 8 - m)).take m);have e : ((a.drop (8 * i + 8 - m)).take m).length = m:=by rw [List.length_take,List.length_drop];omega
  rwa [e] at h
theorem qo4 {a : List UInt8} {i : Nat} (hi : i < 4) : (ofI a i).set i (ofV a i 8) = ofI a (i + 1):=by
  obtain rfl | rfl | rfl | rfl : i = 0 ∨ i = 1 ∨ i = 2 ∨ i = 3:=by omega
  all_goals rfl
theorem fof_c (A : HP) (a : List UInt8) (ha : a.length = 32) : Pu Tryz.prog 107 [.agg [.many 32 (u8s a)]] A (.agg (nu (ofS a))):=by
  refine Con.of' tt_ok Tryz.func107 rfl (by decide) [.agg [.many 32 (u8s a)]] [] [] rfl rfl trivial ⟨⟨mok ha _,trivial⟩,trivial⟩ rfl ?_;(conv=>whnf);intro b1;(conv=>whnf);intro b2;(conv=>whnf);intro b3;(conv=>whnf);have hI:=qot a
  refine LoopOb.m (σ:=Nat) (fun i=>[(1,.c (.ptr 1 0)),(2,.c (.ptr 2 0)),(3,.c (.ptr 3 0)),(6,.c (.int .i64 i))])
    (fun i=>⟨[(3,b3),(2,b2),(1,b1)],[(3,nu (ofI a i),180),(2,nu [0,0,0,0],180),(1,[.many 32 (u8s a)],23)],[A]⟩) (fun i=>i ≤ 4) (fun i=>4 - i) 0 (by decide)
    (Wk.m [3,2,1] [0] kk ⟨⟨kk,nmk (hI 0 (by decide)) _,trivial⟩,⟨kk,nmk rfl _,trivial⟩,⟨kk,mok ha _,trivial⟩,trivial⟩ ⟨rfl,rfl⟩) ?_
  intro i hi;(conv=>whnf);refine Cond.d (fun h=>?_) (fun h=>?_)
  · have hi' : i < 4:=by omega
    (conv=>whnf);have hl2 : ∀ m,((ofI a i).set i (ofV a i m)).length = 4:=fun m=>by rw [List.length_set];exact hI i hi
    refine LoopOb.m (σ:=Nat) (fun m=>[(1,.c (.ptr 1 0)),(2,.c (.ptr 2 0)),(3,.c (.ptr 3 0)),(4,.c (.int .i64 i)),(5,.c (.int .i64 ((7 : Int) - m))),(6,.c (.int .i64 i))])
      (fun m=>⟨[(3,b3),(2,b2),(1,b1)],[(3,nu ((ofI a i).set i (ofV a i m)),180),(2,nu [0,0,0,0],180),(1,[.many 32 (u8s a)],23)],[A]⟩) (fun m=>m ≤ 8) (fun m=>8 - m) 0 (by decide)
      (Wk.m [3,2,1] [0] kk ⟨⟨kk,nmk (hl2 0) _,trivial⟩,⟨kk,nmk rfl _,trivial⟩,⟨kk,mok ha _,trivial⟩,trivial⟩ ⟨?_,rfl⟩) ?_
    · have e0 : (ofI a i).set i (ofV a i 0) = ofI a i:=by
        obtain rfl | rfl | rfl | rfl : i = 0 ∨ i = 1 ∨ i = 2 ∨ i = 3:=by omega
        all_goals rfl
      rw [e0]
    intro m hm;(conv=>whnf);refine Cond.d (fun h2=>?_) (fun h2=>?_)
    · have hm' : m < 8:=by omega
      have hv:=qqg ha hi' hm;have hst:=qmb ha hi' hm';have hgd:=gd_lt a (8 * i + 7 - m);(conv=>whnf);refine Draw.a (by kernel_rfl) tt_ok (Tv.of (List.range 15) .nil) 14 (by kernel_rfl) ?_;(conv=>whnf);refine ⟨by omega,?_⟩;(conv=>whnf);have hli : i < ((ofI a i).set i (ofV a i m)).length:=by rw [hl2];exact hi'
      refine q0i i (by show (i : Int).toNat * 1 = i;omega) hli ?_
      have eg : ng ((ofI a i).set i (ofV a i m)) i = ofV a i m:=by
        unfold ng;rw [List.getElem?_set_self (by rw [hI i hi];exact hi')];rfl
      rw [eg];(conv=>whnf);refine ⟨by decide,?_⟩;have hv7 : ofV a i m < 72057594037927936:=Nat.lt_of_lt_of_le hv (by rw [show (72057594037927936 : Nat) = 256 ^ 7 from rfl];exact Nat.pow_le_pow_right (by decide) (by omega));refine Ar.to ((ofV a i m : Int) * 256) rfl (Ar.u64 (by omega) ?_);(conv=>whnf);refine Ar.i64 (by omega) ?_;(conv=>whnf);refine Ar.i64 (by omega) ?_;(conv=>whnf);refine ⟨by omega,?_⟩;(conv=>whnf);refine q0v (8 * i + 7 - m) (by show ((8 : Int) * i + (7 - m)).toNat * 1 = _;omega) (by omega) ?_;(conv=>whnf);refine Ar.u64 (by omega) ?_
      (conv=>whnf);rw [qci (by omega) (by omega) (by omega) (by omega)];have ev : (ofV a i m : Int) * 256 + (gd a (8 * i + 7 - m) : Int) = ((ofV a i (m + 1) : Nat) : Int):=by rw [hst];omega
      rw [ev];refine ⟨by omega,?_⟩;(conv=>whnf);refine ⟨⟨rfl,by show (i : Int).toNat * 1 + 1 ≤ 4;omega⟩,?_⟩;(conv=>whnf);refine Ar.i64 (by omega) ?_;(conv=>whnf);have hs:=q15 (l:=(ofI a i).set i (ofV a i m)) (k:=i) (n:=ofV a i (m + 1)) hli;rw [List.set_set] at hs;refine ⟨m + 1,by omega,by omega,Wk.m [3,2,1] [0] ⟨⟨rfl,kk⟩,⟨rfl,kk⟩,⟨rfl,kk⟩,⟨rfl,kk⟩,⟨?_,kk⟩,⟨rfl,kk⟩,trivial⟩ ⟨⟨kk,nmk (hl2 (m + 1)) _,trivial⟩,⟨kk,nmk rfl _,trivial⟩,⟨kk,mok ha _,trivial⟩,trivial⟩ ⟨?_,rfl⟩⟩
      · show Value.int .i64 ((7 : Int) - m - 1) = Value.int .i64 ((7 : Int) - (m + 1 : Nat));congr 1;omega
      · refine congrArg (fun z=>[blk _ (.cells (List.toArray z) _),_,_]) ?_;show (n64s ((ofI a i).set i (ofV a i m))).take ((i : Int).toNat * 1) ++ ([Value.int .u64 ((ofV a i (m + 1) : Nat) : Int)] ++ (n64s ((ofI a i).set i (ofV a i m))).drop ((i : Int).toNat * 1 + 1)) ++ [] = n64s ((ofI a i).set i (ofV a i (m + 1))) ++ [];rw [show (i : Int).toNat * 1 = i by omega,hs]
    have hm' : m = 8:=by omega
    subst hm';rw [qo4 hi'];(conv=>whnf);refine Ar.i64 (by omega) ?_;(conv=>whnf);exact ⟨i + 1,by omega,by omega,Wk.m [3,2,1] [0] kk ⟨⟨kk,nmk (hI (i + 1) (by omega)) _,trivial⟩,⟨kk,nmk rfl _,trivial⟩,⟨kk,mok ha _,trivial⟩,trivial⟩ ⟨rfl,rfl⟩⟩
  have hi' : i = 4:=by omega
  subst hi';(conv=>whnf);exact Ret.m () [] [0] trivial rfl ⟨nmk rfl _,trivial⟩ trivial ⟨rfl,rfl⟩
end
section
theorem qm0 (A : HP) : Pu Tryz.prog 178 [] A (.agg (nu pl)):=by
  refine Con.of' tt_ok Tryz.func178 rfl (by decide) [] [] [] rfl rfl trivial kk rfl ?_;(conv=>whnf);intro b0;(conv=>whnf);exact Ret.m () [] [0] trivial rfl ⟨nmk rfl _,trivial⟩ trivial ⟨rfl,rfl⟩
theorem qhe {l : List Nat} (h : l.length = 4) (hl : ok64 l) : ∀ k,(∀ j,j < k → (lessS (canS l j)).2 = 0) → num (canS l k) + Pm * k = num l
  | 0,_=>by show num l + Pm * 0 = num l;omega
  | k + 1,hb=>by
    have ih:=qhe h hl k fun j hj=>hb j (by omega);have e:=qg8 (qfe h k) (qji hl k) (hb k (by omega));show num (lessS (canS l k)).1 + Pm * (k + 1) = num l;rw [Nat.mul_add];omega
theorem qlp (A : HP) (l : List Nat) (hl : l.length = 4) (okl : ok64 l) :
    Con Tryz.prog 151 [.agg (nu l)] [] [] A (fun t : List Nat=>t.length = 4 ∧ ok64 t ∧ num t = num l % Pm) (fun t=>.agg (nu t)) (fun _=>[]) (fun _=>[]):=by
  refine Con.of' tt_ok Tryz.func151 rfl (by decide) [.agg (nu l)] [] [] rfl rfl trivial ⟨⟨nmk hl _,trivial⟩,trivial⟩ rfl ?_;(conv=>whnf);intro b1;(conv=>whnf);intro b2;(conv=>whnf);have hL:=fun k=>qfe hl k;have hO:=fun k=>qji okl k
  refine LoopOb.m (σ:=Nat) (fun k=>[(1,.c (.ptr 1 0)),(2,.c (.ptr 2 0))])
    (fun k=>⟨[(2,b2),(1,b1)],[(2,nu [0,0,0,0],180),(1,nu (canS l k),180)],[A]⟩) (fun k=>k ≤ 2 ∧ ∀ j,j < k → (lessS (canS l j)).2 = 0) (fun k=>3 - k) 0 ⟨by decide,fun j hj=>absurd hj (by omega)⟩
    (Wk.m [2,1] [0] kk ⟨⟨kk,nmk rfl _,trivial⟩,⟨kk,nmk (hL 0) _,trivial⟩,trivial⟩ ⟨rfl,rfl⟩) ?_
  rintro k ⟨hk,hall⟩;(conv=>whnf);intro b3;(conv=>whnf);refine Cq.pu (qm0 _) rfl ?_;(conv=>whnf);obtain ⟨x,hx⟩ : ∃ x,x = canS l k:=⟨_,rfl⟩;have hxl : x.length = 4:=by rw [hx];exact hL k
  have hxo : ok64 x:=by rw [hx];exact hO k
  rw [← hx];obtain ⟨D,hD⟩ : ∃ D,D = difD (ng x) (ng pl):=⟨_,rfl⟩;obtain ⟨K,hK⟩ : ∃ K,K = difK (ng x) (ng pl):=⟨_,rfl⟩;have hS : ∀ i,(chn D K [0,0,0,0] 0 i).1.length = 4:=fun i=>q2e i;have hC : ∀ i,(chn D K [0,0,0,0] 0 i).2 ≤ 1:=by rw [hD,hK];exact qf1
  refine LoopOb.m (σ:=Nat) (fun i=>[(1,.c (.ptr 1 0)),(2,.c (.ptr 2 0)),(3,.c (.ptr 3 0)),(4,.c (.int .u64 ((chn D K [0,0,0,0] 0 i).2 : Nat))),(7,.agg (nu pl)),(8,.c (.int .i64 i))])
    (fun i=>⟨[(3,b3),(2,b2),(1,b1)],[(3,nu (chn D K [0,0,0,0] 0 i).1,180),(2,nu [0,0,0,0],180),(1,nu x,180)],[A]⟩) (fun i=>i ≤ 4) (fun i=>4 - i) 0 (by decide)
    (Wk.m [3,2,1] [0] ⟨⟨rfl,kk⟩,⟨rfl,kk⟩,⟨rfl,kk⟩,⟨rfl,kk⟩,⟨rfl,q04 (nu_ok rfl _)⟩,⟨rfl,kk⟩,trivial⟩ ⟨⟨kk,nmk (hS 0) _,trivial⟩,⟨kk,nmk rfl _,trivial⟩,⟨kk,nmk hxl _,trivial⟩,trivial⟩ ⟨rfl,rfl⟩) ?_
  intro i hi;have hci:=hC i;(conv=>whnf);refine Cond.d (fun h=>?_) (fun h=>?_)
  · have hi' : i < 4:=by omega
    (conv=>whnf);refine ⟨by omega,q0i (l:=pl) i (by show (i : Int).toNat * 1 = i;omega) (by exact hi') ?_⟩;(conv=>whnf);refine ⟨by omega,?_⟩;(conv=>whnf);refine q0i (l:=x) i (by show (i : Int).toNat * 1 = i;omega) (by rw [hxl];exact hi') ?_;(conv=>whnf);refine qby (ng x i) (ng pl i) (chn D K [0,0,0,0] 0 i).2 (by exact rfl) hci ?_;(conv=>whnf);refine ⟨by omega,?_⟩;(conv=>whnf);refine ⟨⟨rfl,by show (i : Int).toNat * 1 + 1 ≤ 4;omega⟩,?_⟩;(conv=>whnf);refine Ar.i64 (by omega) ?_;conv=>whnf
    have eD : (ng x i + 18446744073709551616 - ng pl i - (chn D K [0,0,0,0] 0 i).2) % 18446744073709551616 = D i (chn D K [0,0,0,0] 0 i).2:=by rw [hD];rfl
    have eK : (if ng x i < ng pl i + (chn D K [0,0,0,0] 0 i).2 then 1 else 0) = K i (chn D K [0,0,0,0] 0 i).2:=by rw [hK];rfl
    rw [eD,eK];have hs:=q15 (l:=(chn D K [0,0,0,0] 0 i).1) (k:=i) (n:=D i (chn D K [0,0,0,0] 0 i).2) (by rw [hS];exact hi');refine ⟨i + 1,by omega,by omega,Wk.m [3,2,1] [0] ⟨⟨rfl,kk⟩,⟨rfl,kk⟩,⟨rfl,kk⟩,⟨rfl,kk⟩,⟨rfl,q04 (nu_ok rfl _)⟩,⟨rfl,kk⟩,trivial⟩ ⟨⟨kk,nmk (hS (i + 1)) _,trivial⟩,⟨kk,nmk rfl _,trivial⟩,⟨kk,nmk hxl _,trivial⟩,trivial⟩ ⟨?_,rfl⟩⟩;refine congrArg (fun z=>[blk _ (.cells (List.toArray z) _),_,_]) ?_
    show (n64s (chn D K [0,0,0,0] 0 i).1).take ((i : Int).toNat * 1) ++ ([Value.int .u64 ((D i (chn D K [0,0,0,0] 0 i).2 : Nat) : Int)] ++ (n64s (chn D K [0,0,0,0] 0 i).1).drop ((i : Int).toNat * 1 + 1)) ++ [] = n64s ((chn D K [0,0,0,0] 0 i).1.set i (D i (chn D K [0,0,0,0] 0 i).2)) ++ [];rw [show (i : Int).toNat * 1 = i by omega,hs]
  have hi' : i = 4:=by omega
  subst hi';have hnx : chn D K [0,0,0,0] 0 4 = lessS x:=by rw [hD,hK];rfl
  rw [hnx];(conv=>whnf);refine Cond.d (fun h2=>?_) (fun h2=>?_)
  · (conv=>whnf);have hlt:=qoy hxl hxo (by omega);have hsum:=qhe hl okl k hall;rw [← hx] at hsum;exact Ret.m x [] [0] ⟨hxl,hxo,by rw [← hsum,q4g,Nat.mod_eq_of_lt hlt]⟩ rfl ⟨nmk hxl _,trivial⟩ trivial ⟨rfl,rfl⟩
  have h0 : (lessS x).2 = 0:=by omega
  conv=>whnf
  have hk2 : k < 2:=by
    rcases Nat.lt_or_ge k 2 with h3 | h3
    · exact h3
    · exfalso
      have : k = 2:=by omega
      subst this;have q0:=hall 0 (by omega);have q1:=hall 1 (by omega);rw [hx] at h0;exact qoc hl okl q0 q1 h0
  refine ⟨k + 1,⟨by omega,fun j hj=>?_⟩,by omega,Wk.m [2,1] [0] kk ⟨⟨kk,nmk rfl _,trivial⟩,⟨kk,nmk (hL (k + 1)) _,trivial⟩,trivial⟩ ⟨?_,rfl⟩⟩
  · rcases Nat.lt_or_ge j k with h3 | h3
    · exact hall j h3
    · have : j = k:=by omega
      rw [this,← hx];exact h0
  · show _ = [_,blk _ (.cells (n64s (lessS (canS l k)).1 ++ []).toArray _)];rw [← hx];rfl
end
section
theorem qnw {t : List Nat} (h : t.length = 4) (ht : ok64 t) {i : Nat} (hi : i < 4) : ∃ r,num t / 18446744073709551616 ^ i = ng t i + 18446744073709551616 * r:=by
  obtain ⟨a,b,c,d,rfl⟩:=num4 h;have h0:=ht.get 0;have h1:=ht.get 1;have h2:=ht.get 2;have h3:=ht.get 3;have w2 : (18446744073709551616 : Nat) ^ 2 = 340282366920938463463374607431768211456:=rfl;have w3 : (18446744073709551616 : Nat) ^ 3 = 6277101735386680763835789423207666416102355444464034512896:=rfl;simp only [ng,List.getElem?_cons_zero,List.getElem?_cons_succ,Option.getD_some] at h0 h1 h2 h3;obtain rfl | rfl | rfl | rfl : i = 0 ∨ i = 1 ∨ i = 2 ∨ i = 3:=by omega
  all_goals simp only [ng,num,List.getElem?_cons_zero,List.getElem?_cons_succ,Option.getD_some,Nat.pow_zero,Nat.pow_one,w2,w3]
  · exact ⟨b + 18446744073709551616 * (c + 18446744073709551616 * d),by omega⟩
  · exact ⟨c + 18446744073709551616 * d,by omega⟩
  · exact ⟨d,by omega⟩
  · exact ⟨0,by omega⟩
theorem qpq (a r : Nat) {k : Nat} (hk : k < 8) : (a + 18446744073709551616 * r) / 256 ^ k % 256 = a / 256 ^ k % 256:=by
  have p2 : (256 : Nat) ^ 2 = 65536:=rfl;have p3 : (256 : Nat) ^ 3 = 16777216:=rfl;have p4 : (256 : Nat) ^ 4 = 4294967296:=rfl;have p5 : (256 : Nat) ^ 5 = 1099511627776:=rfl;have p6 : (256 : Nat) ^ 6 = 281474976710656:=rfl;have p7 : (256 : Nat) ^ 7 = 72057594037927936:=rfl;obtain rfl | rfl | rfl | rfl | rfl | rfl | rfl | rfl : k = 0 ∨ k = 1 ∨ k = 2 ∨ k = 3 ∨ k = 4 ∨ k = 5 ∨ k = 6 ∨ k = 7:=by omega
  all_goals simp only [Nat.pow_zero,Nat.pow_one,p2,p3,p4,p5,p6,p7]
  all_goals omega
theorem ql4 {t : List Nat} (h : t.length = 4) (ht : ok64 t) {i k : Nat} (hi : i < 4) (hk : k < 8) : num t / 256 ^ (8 * i + k) % 256 = ng t i / 256 ^ k % 256:=by
  obtain ⟨r,hr⟩:=qnw h ht hi;rw [Nat.pow_add,← Nat.div_div_eq_div_mul,Nat.pow_mul,show (256 : Nat) ^ 8 = 18446744073709551616 from rfl,hr,qpq _ _ hk]
theorem qlo (x k : Nat) (hk : k < 8) : IntKind.u8.wrap ((x : Int).fdiv (2 ^ min ((8 : Int) * k).toNat IntKind.u64.bits)) = ((x / 256 ^ k % 256 : Nat) : Int):=by
  have e : min ((8 : Int) * k).toNat IntKind.u64.bits = 8 * k:=by simp [IntKind.bits];omega
  have e2 : ((2 : Int) ^ (8 * k)) = ((256 ^ k : Nat) : Int):=by
    rw [Int.pow_mul];push_cast;rfl
  rw [e,e2,Int.fdiv_eq_ediv_of_nonneg _ (Int.natCast_nonneg _)]
  simp [IntKind.wrap,IntKind.bits,IntKind.signed]
theorem qlq {n k j : Nat} (h : j < k) : (leB n k)[j]'(by rw [lbl];exact h) = UInt8.ofNat (n / 256 ^ j % 256):=by
  have:=qen k n j h;rw [List.getElem?_eq_getElem (by rw [lbl];exact h)] at this;exact Option.some.inj this
theorem qmr (A : HP) (l : List Nat) (hl : l.length = 4) (okl : ok64 l) : Pu Tryz.prog 112 [.agg (nu l)] A (.agg [.many 32 (u8s (leB (num l % Pm) 32))]):=by
  have hR : (leB (num l % Pm) 32).length = 32:=lbl 32 _;refine Con.of' tt_ok Tryz.func112 rfl (by decide) [.agg (nu l)] [] [] rfl rfl trivial ⟨⟨nmk hl _,trivial⟩,trivial⟩ rfl ?_;(conv=>whnf);intro b1;(conv=>whnf);intro b2;(conv=>whnf);intro b3;(conv=>whnf);refine Cq.new (qlp _ l hl okl) rfl fun t ht=>?_;obtain ⟨t4,tok,tn⟩:=ht;obtain ⟨R,hRe⟩ : ∃ R,R = leB (num l % Pm) 32:=⟨_,rfl⟩;rw [← hRe] at hR ⊢
  have hRb : ∀ i k,(hi : i < 4) → (hk : k < 8) → R[8 * i + k]'(by omega) = UInt8.ofNat (ng t i / 256 ^ k % 256):=by
    intro i k hi hk;subst hRe;rw [qlq (by omega),← tn,ql4 t4 tok hi hk]
  conv=>whnf
  refine LoopOb.m (σ:=Nat) (fun i=>[(2,.c (.ptr 2 0)),(3,.c (.ptr 3 0)),(8,.agg (nu t)),(9,.c (.int .i64 i))])
    (fun i=>⟨[(3,b3),(2,b2),(1,b1)],[(3,[.many 32 (fillL R 32 (8 * i))],23),(2,[.many 32 (fillL R 32 0)],23)],[A]⟩) (fun i=>i ≤ 4) (fun i=>4 - i) 0 (by decide)
    (Wk.m [3,2] [0] ⟨⟨rfl,kk⟩,⟨rfl,kk⟩,⟨rfl,q04 (nu_ok t4 _)⟩,⟨rfl,kk⟩,trivial⟩ ⟨⟨kk,q2g (by omega) (by decide) _,trivial⟩,⟨kk,q2g (by omega) (by decide) _,trivial⟩,trivial⟩ ⟨rfl,rfl⟩) ?_
  intro i hi;(conv=>whnf);refine Cond.d (fun h=>?_) (fun h=>?_)
  · have hi' : i < 4:=by omega
    (conv=>whnf);refine ⟨by omega,q0i (l:=t) i (by show (i : Int).toNat * 1 = i;omega) (by rw [t4];exact hi') ?_⟩;conv=>whnf
    refine LoopOb.m (σ:=Nat) (fun k=>[(2,.c (.ptr 2 0)),(3,.c (.ptr 3 0)),(4,.c (.int .i64 i)),(5,.c (.int .u64 (ng t i : Nat))),(8,.agg (nu t)),(9,.c (.int .i64 i)),(13,.c (.int .i64 k))])
      (fun k=>⟨[(3,b3),(2,b2),(1,b1)],[(3,[.many 32 (fillL R 32 (8 * i + k))],23),(2,[.many 32 (fillL R 32 0)],23)],[A]⟩) (fun k=>k ≤ 8) (fun k=>8 - k) 0 (by decide)
      (Wk.m [3,2] [0] ⟨⟨rfl,kk⟩,⟨rfl,kk⟩,⟨rfl,kk⟩,⟨rfl,kk⟩,⟨rfl,q04 (nu_ok t4 _)⟩,⟨rfl,kk⟩,⟨rfl,kk⟩,trivial⟩ ⟨⟨kk,q2g (by omega) (by omega) _,trivial⟩,⟨kk,q2g (by omega) (by decide) _,trivial⟩,trivial⟩ ⟨rfl,rfl⟩) ?_
    intro k hk;(conv=>whnf);refine Cond.d (fun h2=>?_) (fun h2=>?_)
    · have hk' : k < 8:=by omega
      (conv=>whnf);refine Ar.i64 (by omega) ?_;(conv=>whnf);refine Ar.i64 (by omega) ?_;(conv=>whnf);refine Ar.i64 (by omega) ?_;(conv=>whnf);refine ⟨by omega,?_⟩;(conv=>whnf);refine Ar.wr ?_;rw [qlo _ _ hk'];(conv=>whnf);refine ⟨by omega,?_⟩;(conv=>whnf);refine ⟨⟨rfl,by show ((8 : Int) * i + k).toNat * 1 + 1 ≤ 32;omega⟩,?_⟩;(conv=>whnf);refine Ar.i64 (by omega) ?_;conv=>whnf
      have hv : Value.int .u8 ((ng t i / 256 ^ k % 256 : Nat) : Int) = u8 (R[8 * i + k]'(by omega)):=by
        rw [hRb i k hi' hk'];show Value.int .u8 _ = Value.int .u8 ((UInt8.ofNat (ng t i / 256 ^ k % 256)).toNat : Int);congr 2
        simp
      have hs:=q3g (l:=R) (n:=32) (i:=8 * i + k) (by omega) (by omega) _ hv;refine ⟨k + 1,by omega,by omega,Wk.m [3,2] [0] ⟨⟨rfl,kk⟩,⟨rfl,kk⟩,⟨rfl,kk⟩,⟨rfl,kk⟩,⟨rfl,q04 (nu_ok t4 _)⟩,⟨rfl,kk⟩,⟨rfl,kk⟩,trivial⟩ ⟨⟨kk,q2g (by omega) (by omega) _,trivial⟩,⟨kk,q2g (by omega) (by decide) _,trivial⟩,trivial⟩ ⟨?_,rfl⟩⟩;refine congrArg (fun z=>[blk _ (.cells (List.toArray z) _),_]) ?_
      show (fillL R 32 (8 * i + k)).take (((8 : Int) * i + k).toNat * 1) ++ ([Value.int .u8 ((ng t i / 256 ^ k % 256 : Nat) : Int)] ++ (fillL R 32 (8 * i + k)).drop (((8 : Int) * i + k).toNat * 1 + 1)) ++ [] = fillL R 32 (8 * i + (k + 1)) ++ [];rw [show ((8 : Int) * i + k).toNat * 1 = 8 * i + k by omega,hs];rfl
    have hk' : k = 8:=by omega
    subst hk';(conv=>whnf);refine Ar.i64 (by omega) ?_;(conv=>whnf);exact ⟨i + 1,by omega,by omega,Wk.m [3,2] [0] ⟨⟨rfl,kk⟩,⟨rfl,kk⟩,⟨rfl,q04 (nu_ok t4 _)⟩,⟨rfl,kk⟩,trivial⟩ ⟨⟨kk,q2g (by omega) (by omega) _,trivial⟩,⟨kk,q2g (by omega) (by decide) _,trivial⟩,trivial⟩ ⟨rfl,rfl⟩⟩
  have hi' : i = 4:=by omega
  subst hi';rw [show 8 * 4 = 32 from rfl,q9m hR];(conv=>whnf);exact Ret.m () [] [0] trivial rfl ⟨mok hR _,trivial⟩ trivial ⟨rfl,rfl⟩
end
section
structure Pw (v : Nat) (e : Nat) (l : List Nat) : Prop where
  len : l.length = 4
  ok : ok64 l
  eq : num l % Pm = pwm v e
theorem Pw.mul {v e f : Nat} {a b r : List Nat} (ha : Pw v e a) (hb : Pw v f b) (h : r.length = 4 ∧ ok64 r ∧ num r % Pm = num a * num b % Pm) : Pw v (e + f) r :=
  ⟨h.1,h.2.1,by rw [qkf h.2.2,ha.eq,hb.eq,qaw]⟩
theorem q0g (A : HP) (v e : Nat) (l : List Nat) (hl : Pw v e l) (n : Nat) (hn : n ≤ 1000) :
    Con Tryz.prog 150 [.agg (nu l),.c (.int .i64 n)] [] [] A (fun t : List Nat=>Pw v (e * 2 ^ n) t) (fun t=>.agg (nu t)) (fun _=>[]) (fun _=>[]):=by
  refine Con.of' tt_ok Tryz.func150 rfl (by decide) [.agg (nu l),.c (.int .i64 n)] [] [] rfl rfl trivial ⟨⟨nmk hl.len _,trivial⟩,kk⟩ rfl ?_;(conv=>whnf);intro b2;(conv=>whnf);intro b4;conv=>whnf
  refine LoopOb.m (σ:=Nat × List Nat) (fun s=>[(2,.c (.ptr 2 0)),(4,.c (.ptr 4 0)),(5,.c (.int .i64 n)),(6,.c (.int .i64 s.1))])
    (fun s=>⟨[(4,b4),(2,b2)],[(4,nu [0,0,0,0],180),(2,nu s.2,180)],[A]⟩) (fun s=>s.1 ≤ n ∧ Pw v (e * 2 ^ s.1) s.2) (fun s=>n - s.1) (0,l) ⟨Nat.zero_le _,by rw [Nat.pow_zero,Nat.mul_one];exact hl⟩
    (Wk.m [4,2] [0] kk ⟨⟨kk,nmk rfl _,trivial⟩,⟨kk,nmk hl.len _,trivial⟩,trivial⟩ ⟨rfl,rfl⟩) ?_
  rintro ⟨k,t⟩ ⟨hk,ht⟩;dsimp only at hk ht ⊢;(conv=>whnf);refine Cond.d (fun h=>?_) (fun h=>?_)
  · have hk' : k < n:=by omega
    (conv=>whnf);refine Cq.new (q0t _ t t ht.len ht.len ht.ok ht.ok) rfl fun r hr=>?_;have hr2:=ht.mul ht hr;(conv=>whnf);refine Ar.i64 (by omega) ?_;(conv=>whnf);exact ⟨(k + 1,r),⟨by dsimp only;omega,by dsimp only;rw [Nat.pow_succ,← Nat.mul_assoc,Nat.mul_two];exact hr2⟩,by dsimp only;omega,Wk.m [4,2] [0] kk ⟨⟨kk,nmk rfl _,trivial⟩,⟨kk,nmk hr2.len _,trivial⟩,trivial⟩ ⟨rfl,rfl⟩⟩
  have hk' : k = n:=by omega
  subst hk';(conv=>whnf);exact Ret.m t [] [0] ht rfl ⟨nmk ht.len _,trivial⟩ trivial ⟨rfl,rfl⟩
theorem qoq (A : HP) (a : List UInt8) (ha : a.length = 32) : Pu Tryz.prog 152 [.agg [.many 32 (u8s a)]] A (.agg [.many 32 (u8s (leB (le a % Pm) 32))]):=by
  refine Con.of' tt_ok Tryz.func152 rfl (by decide) [.agg [.many 32 (u8s a)]] [] [] rfl rfl trivial ⟨⟨mok ha _,trivial⟩,trivial⟩ rfl ?_;(conv=>whnf);intro b1;(conv=>whnf);intro b2;(conv=>whnf);refine Cq.pu (fof_c _ a ha) rfl ?_;(conv=>whnf);refine Cq.pu (qmr _ (ofS a) rfl (of_ok ha)) rfl ?_;rw [qmo ha];(conv=>whnf);exact Ret.m () [] [0] trivial rfl ⟨mok (lbl 32 _) _,trivial⟩ trivial ⟨rfl,rfl⟩
end
section
theorem Draw.cut {P : Program} {tt : TT} {N : Nat} {ops : List Oper} {env : Env} {m : M} {f : Env → M → Prop} {σ : Type} (E : σ → Env) (G : σ → M) (p : σ → Prop)
    (h : Draw P tt N ops env m fun env' m'=>∃ t,p t ∧ Wk env' m' (E t) (G t)) (k : ∀ t,p t → f (E t) (G t)) : Draw P tt N ops env m f :=
  ⟨fun ro id Q a w hd hn hl hk hs hQ=>h.h ro id Q a w hd hn hl hk hs fun a' w' env' m' d n l k' s ⟨t,pt,wk⟩=>by
    have st:=wk.st (N:=N) ⟨d,n,l,k',s⟩;exact hQ a' w' (E t) (G t) st.d st.n st.l st.k st.s (k t pt)⟩
theorem qqo (A : HP) (v : Nat) (l : List Nat) (hl : Pw v 1 l) : Con Tryz.prog 111 [.agg (nu l)] [] [] A (fun t : List Nat=>Pw v invE t) (fun t=>.agg (nu t)) (fun _=>[]) (fun _=>[]):=by
  refine Con.of' tt_ok Tryz.func111 rfl (by decide) [.agg (nu l)] [] [] rfl rfl trivial ⟨⟨nmk hl.len _,trivial⟩,trivial⟩ rfl ?_;(conv=>whnf);intro b1;(conv=>whnf);intro b2;(conv=>whnf);refine Draw.cut (σ:=Nat × List Nat) (fun s=>[(1,.c (.ptr 1 0)),(2,.c (.ptr 2 0)),(3,.c (.ptr 3 0))]) (fun s=>⟨[(3,s.1),(2,b2),(1,b1)],[(3,nu s.2,180),(2,nu ([0,0,0,0]),180),(1,nu (l),180)],[A]⟩) (fun s=>Pw v 3 s.2) ?_ ?_
  · refine Draw.a (by kernel_rfl) tt_ok (Tv.of [0,2] (.two 1 ((.two 3 (Tv.of [4,5] .nil) 4 (Tv.of [3,5] .nil))) 4 (Tv.of [1,3,5] .nil))) 1000000 (by kernel_rfl) ?_;(conv=>whnf);refine ⟨?_,?_⟩
    · (conv=>whnf);refine Cq.new (q0g _ v (1) l hl 1 (by decide)) rfl fun q3_1 hq3_1=>?_;(conv=>whnf);refine Sub.r [2,1] [0] ?_;(conv=>whnf);refine ⟨?_,?_⟩
      · (conv=>whnf);refine Cq.new (q0t _ q3_1 l hq3_1.len hl.len hq3_1.ok hl.ok) rfl fun q3_2 gq3_2=>?_;have hq3_2 : Pw v 3 q3_2:=(hq3_1).mul hl gq3_2;(conv=>whnf);refine Sub.r [2,1] [0] ?_;(conv=>whnf);intro b3;refine Sub.r [2,1] [0] ?_;(conv=>whnf);refine Sub.r [2,1] [0] ?_;(conv=>whnf);exact ⟨(b3,q3_2),hq3_2,Wk.m [3,2,1] [0] kk ⟨⟨kk,nmk hq3_2.len _,trivial⟩,⟨kk,nmk rfl _,trivial⟩,⟨kk,nmk hl.len _,trivial⟩,trivial⟩ ⟨rfl,rfl⟩⟩
      · (conv=>whnf);intro b3;refine Sub.r [2,1] [0] ?_;(conv=>whnf);refine Cq.new (q0t _ q3_1 l hq3_1.len hl.len hq3_1.ok hl.ok) rfl fun q3_2 gq3_2=>?_;have hq3_2 : Pw v 3 q3_2:=(hq3_1).mul hl gq3_2;(conv=>whnf);refine Sub.r [2,1] [0] ?_;(conv=>whnf);refine Sub.r [2,1] [0] ?_;(conv=>whnf);exact ⟨(b3,q3_2),hq3_2,Wk.m [3,2,1] [0] kk ⟨⟨kk,nmk hq3_2.len _,trivial⟩,⟨kk,nmk rfl _,trivial⟩,⟨kk,nmk hl.len _,trivial⟩,trivial⟩ ⟨rfl,rfl⟩⟩
    · (conv=>whnf);intro b3;refine Sub.r [2,1] [0] ?_;(conv=>whnf);refine Cq.new (q0g _ v (1) l hl 1 (by decide)) rfl fun q3_1 hq3_1=>?_;(conv=>whnf);refine Sub.r [2,1] [0] ?_;(conv=>whnf);refine Cq.new (q0t _ q3_1 l hq3_1.len hl.len hq3_1.ok hl.ok) rfl fun q3_2 gq3_2=>?_;have hq3_2 : Pw v 3 q3_2:=(hq3_1).mul hl gq3_2;(conv=>whnf);refine Sub.r [2,1] [0] ?_;(conv=>whnf);refine Sub.r [2,1] [0] ?_;conv=>whnf
      exact ⟨(b3,q3_2),hq3_2,Wk.m [3,2,1] [0] kk ⟨⟨kk,nmk hq3_2.len _,trivial⟩,⟨kk,nmk rfl _,trivial⟩,⟨kk,nmk hl.len _,trivial⟩,trivial⟩ ⟨rfl,rfl⟩⟩
  rintro ⟨b3,x3⟩ h3;dsimp only at h3 ⊢;(conv=>whnf);refine Draw.cut (σ:=Nat × List Nat) (fun s=>[(1,.c (.ptr 1 0)),(2,.c (.ptr 2 0)),(4,.c (.ptr 4 0))]) (fun s=>⟨[(4,s.1),(3,b3),(2,b2),(1,b1)],[(4,nu s.2,180),(2,nu ([0,0,0,0]),180),(1,nu (l),180)],[A]⟩) (fun s=>Pw v 15 s.2) ?_ ?_
  · refine Draw.a (by kernel_rfl) tt_ok (Tv.of [0,2] (.two 1 ((.two 3 (Tv.of [4,5] .nil) 4 (Tv.of [3,5] .nil))) 4 (Tv.of [1,3,5] .nil))) 1000000 (by kernel_rfl) ?_;(conv=>whnf);refine ⟨?_,?_⟩
    · (conv=>whnf);refine Cq.new (q0g _ v (3) x3 h3 2 (by decide)) rfl fun q4_1 hq4_1=>?_;(conv=>whnf);refine Sub.r [3,2,1] [0] ?_;(conv=>whnf);refine ⟨?_,?_⟩
      · (conv=>whnf);refine Cq.new (q0t _ q4_1 x3 hq4_1.len h3.len hq4_1.ok h3.ok) rfl fun q4_2 gq4_2=>?_;have hq4_2 : Pw v 15 q4_2:=(hq4_1).mul h3 gq4_2;(conv=>whnf);refine Sub.r [3,2,1] [0] ?_;(conv=>whnf);intro b4;refine Sub.r [3,2,1] [0] ?_;(conv=>whnf);refine Sub.r [3,2,1] [0] ?_;(conv=>whnf);exact ⟨(b4,q4_2),hq4_2,Wk.m [4,2,1] [0] kk ⟨⟨kk,nmk hq4_2.len _,trivial⟩,⟨kk,nmk rfl _,trivial⟩,⟨kk,nmk hl.len _,trivial⟩,trivial⟩ ⟨rfl,rfl⟩⟩
      · (conv=>whnf);intro b4;refine Sub.r [3,2,1] [0] ?_;(conv=>whnf);refine Cq.new (q0t _ q4_1 x3 hq4_1.len h3.len hq4_1.ok h3.ok) rfl fun q4_2 gq4_2=>?_;have hq4_2 : Pw v 15 q4_2:=(hq4_1).mul h3 gq4_2;(conv=>whnf);refine Sub.r [3,2,1] [0] ?_;(conv=>whnf);refine Sub.r [3,2,1] [0] ?_;(conv=>whnf);exact ⟨(b4,q4_2),hq4_2,Wk.m [4,2,1] [0] kk ⟨⟨kk,nmk hq4_2.len _,trivial⟩,⟨kk,nmk rfl _,trivial⟩,⟨kk,nmk hl.len _,trivial⟩,trivial⟩ ⟨rfl,rfl⟩⟩
    · (conv=>whnf);intro b4;refine Sub.r [3,2,1] [0] ?_;(conv=>whnf);refine Cq.new (q0g _ v (3) x3 h3 2 (by decide)) rfl fun q4_1 hq4_1=>?_;(conv=>whnf);refine Sub.r [3,2,1] [0] ?_;(conv=>whnf);refine Cq.new (q0t _ q4_1 x3 hq4_1.len h3.len hq4_1.ok h3.ok) rfl fun q4_2 gq4_2=>?_;have hq4_2 : Pw v 15 q4_2:=(hq4_1).mul h3 gq4_2;(conv=>whnf);refine Sub.r [3,2,1] [0] ?_;(conv=>whnf);refine Sub.r [3,2,1] [0] ?_;conv=>whnf
      exact ⟨(b4,q4_2),hq4_2,Wk.m [4,2,1] [0] kk ⟨⟨kk,nmk hq4_2.len _,trivial⟩,⟨kk,nmk rfl _,trivial⟩,⟨kk,nmk hl.len _,trivial⟩,trivial⟩ ⟨rfl,rfl⟩⟩
  rintro ⟨b4,x4⟩ h4;dsimp only at h4 ⊢;(conv=>whnf);refine Draw.cut (σ:=Nat × List Nat) (fun s=>[(1,.c (.ptr 1 0)),(2,.c (.ptr 2 0)),(5,.c (.ptr 5 0))]) (fun s=>⟨[(5,s.1),(4,b4),(3,b3),(2,b2),(1,b1)],[(5,nu s.2,180),(2,nu ([0,0,0,0]),180),(1,nu (l),180)],[A]⟩) (fun s=>Pw v 31 s.2) ?_ ?_
  · refine Draw.a (by kernel_rfl) tt_ok (Tv.of [0,2] (.two 1 ((.two 3 (Tv.of [4,5] .nil) 4 (Tv.of [3,5] .nil))) 4 (Tv.of [1,3,5] .nil))) 1000000 (by kernel_rfl) ?_;(conv=>whnf);refine ⟨?_,?_⟩
    · (conv=>whnf);refine Cq.new (q0g _ v (15) x4 h4 1 (by decide)) rfl fun q5_1 hq5_1=>?_;(conv=>whnf);refine Sub.r [4,2,1] [0] ?_;(conv=>whnf);refine ⟨?_,?_⟩
      · (conv=>whnf);refine Cq.new (q0t _ q5_1 l hq5_1.len hl.len hq5_1.ok hl.ok) rfl fun q5_2 gq5_2=>?_;have hq5_2 : Pw v 31 q5_2:=(hq5_1).mul hl gq5_2;(conv=>whnf);refine Sub.r [4,2,1] [0] ?_;(conv=>whnf);intro b5;refine Sub.r [4,2,1] [0] ?_;(conv=>whnf);refine Sub.r [4,2,1] [0] ?_;(conv=>whnf);exact ⟨(b5,q5_2),hq5_2,Wk.m [5,2,1] [0] kk ⟨⟨kk,nmk hq5_2.len _,trivial⟩,⟨kk,nmk rfl _,trivial⟩,⟨kk,nmk hl.len _,trivial⟩,trivial⟩ ⟨rfl,rfl⟩⟩
      · (conv=>whnf);intro b5;refine Sub.r [4,2,1] [0] ?_;(conv=>whnf);refine Cq.new (q0t _ q5_1 l hq5_1.len hl.len hq5_1.ok hl.ok) rfl fun q5_2 gq5_2=>?_;have hq5_2 : Pw v 31 q5_2:=(hq5_1).mul hl gq5_2;(conv=>whnf);refine Sub.r [4,2,1] [0] ?_;(conv=>whnf);refine Sub.r [4,2,1] [0] ?_;(conv=>whnf);exact ⟨(b5,q5_2),hq5_2,Wk.m [5,2,1] [0] kk ⟨⟨kk,nmk hq5_2.len _,trivial⟩,⟨kk,nmk rfl _,trivial⟩,⟨kk,nmk hl.len _,trivial⟩,trivial⟩ ⟨rfl,rfl⟩⟩
    · (conv=>whnf);intro b5;refine Sub.r [4,2,1] [0] ?_;(conv=>whnf);refine Cq.new (q0g _ v (15) x4 h4 1 (by decide)) rfl fun q5_1 hq5_1=>?_;(conv=>whnf);refine Sub.r [4,2,1] [0] ?_;(conv=>whnf);refine Cq.new (q0t _ q5_1 l hq5_1.len hl.len hq5_1.ok hl.ok) rfl fun q5_2 gq5_2=>?_;have hq5_2 : Pw v 31 q5_2:=(hq5_1).mul hl gq5_2;(conv=>whnf);refine Sub.r [4,2,1] [0] ?_;(conv=>whnf);refine Sub.r [4,2,1] [0] ?_;conv=>whnf
      exact ⟨(b5,q5_2),hq5_2,Wk.m [5,2,1] [0] kk ⟨⟨kk,nmk hq5_2.len _,trivial⟩,⟨kk,nmk rfl _,trivial⟩,⟨kk,nmk hl.len _,trivial⟩,trivial⟩ ⟨rfl,rfl⟩⟩
  rintro ⟨b5,x5⟩ h5;dsimp only at h5 ⊢;(conv=>whnf);refine Draw.cut (σ:=Nat × List Nat) (fun s=>[(1,.c (.ptr 1 0)),(2,.c (.ptr 2 0)),(6,.c (.ptr 6 0))]) (fun s=>⟨[(6,s.1),(5,b5),(4,b4),(3,b3),(2,b2),(1,b1)],[(6,nu s.2,180),(2,nu ([0,0,0,0]),180),(1,nu (l),180)],[A]⟩) (fun s=>Pw v 1023 s.2) ?_ ?_
  · refine Draw.a (by kernel_rfl) tt_ok (Tv.of [0,2] (.two 1 ((.two 3 (Tv.of [4,5] .nil) 4 (Tv.of [3,5] .nil))) 4 (Tv.of [1,3,5] .nil))) 1000000 (by kernel_rfl) ?_;(conv=>whnf);refine ⟨?_,?_⟩
    · (conv=>whnf);refine Cq.new (q0g _ v (31) x5 h5 5 (by decide)) rfl fun q6_1 hq6_1=>?_;(conv=>whnf);refine Sub.r [5,2,1] [0] ?_;(conv=>whnf);refine ⟨?_,?_⟩
      · (conv=>whnf);refine Cq.new (q0t _ q6_1 x5 hq6_1.len h5.len hq6_1.ok h5.ok) rfl fun q6_2 gq6_2=>?_;have hq6_2 : Pw v 1023 q6_2:=(hq6_1).mul h5 gq6_2;(conv=>whnf);refine Sub.r [5,2,1] [0] ?_;(conv=>whnf);intro b6;refine Sub.r [5,2,1] [0] ?_;(conv=>whnf);refine Sub.r [5,2,1] [0] ?_;(conv=>whnf);exact ⟨(b6,q6_2),hq6_2,Wk.m [6,2,1] [0] kk ⟨⟨kk,nmk hq6_2.len _,trivial⟩,⟨kk,nmk rfl _,trivial⟩,⟨kk,nmk hl.len _,trivial⟩,trivial⟩ ⟨rfl,rfl⟩⟩
      · (conv=>whnf);intro b6;refine Sub.r [5,2,1] [0] ?_;(conv=>whnf);refine Cq.new (q0t _ q6_1 x5 hq6_1.len h5.len hq6_1.ok h5.ok) rfl fun q6_2 gq6_2=>?_;have hq6_2 : Pw v 1023 q6_2:=(hq6_1).mul h5 gq6_2;(conv=>whnf);refine Sub.r [5,2,1] [0] ?_;(conv=>whnf);refine Sub.r [5,2,1] [0] ?_;(conv=>whnf);exact ⟨(b6,q6_2),hq6_2,Wk.m [6,2,1] [0] kk ⟨⟨kk,nmk hq6_2.len _,trivial⟩,⟨kk,nmk rfl _,trivial⟩,⟨kk,nmk hl.len _,trivial⟩,trivial⟩ ⟨rfl,rfl⟩⟩
    · (conv=>whnf);intro b6;refine Sub.r [5,2,1] [0] ?_;(conv=>whnf);refine Cq.new (q0g _ v (31) x5 h5 5 (by decide)) rfl fun q6_1 hq6_1=>?_;(conv=>whnf);refine Sub.r [5,2,1] [0] ?_;(conv=>whnf);refine Cq.new (q0t _ q6_1 x5 hq6_1.len h5.len hq6_1.ok h5.ok) rfl fun q6_2 gq6_2=>?_;have hq6_2 : Pw v 1023 q6_2:=(hq6_1).mul h5 gq6_2;(conv=>whnf);refine Sub.r [5,2,1] [0] ?_;(conv=>whnf);refine Sub.r [5,2,1] [0] ?_;conv=>whnf
      exact ⟨(b6,q6_2),hq6_2,Wk.m [6,2,1] [0] kk ⟨⟨kk,nmk hq6_2.len _,trivial⟩,⟨kk,nmk rfl _,trivial⟩,⟨kk,nmk hl.len _,trivial⟩,trivial⟩ ⟨rfl,rfl⟩⟩
  rintro ⟨b6,x6⟩ h6;dsimp only at h6 ⊢;(conv=>whnf);refine Draw.cut (σ:=Nat × List Nat) (fun s=>[(1,.c (.ptr 1 0)),(2,.c (.ptr 2 0)),(6,.c (.ptr 6 0)),(7,.c (.ptr 7 0))]) (fun s=>⟨[(7,s.1),(6,b6),(5,b5),(4,b4),(3,b3),(2,b2),(1,b1)],[(7,nu s.2,180),(6,nu (x6),180),(2,nu ([0,0,0,0]),180),(1,nu (l),180)],[A]⟩) (fun s=>Pw v 1048575 s.2) ?_ ?_
  · refine Draw.a (by kernel_rfl) tt_ok (Tv.of [0,2] (.two 1 ((.two 3 (Tv.of [4,5] .nil) 4 (Tv.of [3,5] .nil))) 4 (Tv.of [1,3,5] .nil))) 1000000 (by kernel_rfl) ?_;(conv=>whnf);refine ⟨?_,?_⟩
    · (conv=>whnf);refine Cq.new (q0g _ v (1023) x6 h6 10 (by decide)) rfl fun q7_1 hq7_1=>?_;(conv=>whnf);refine Sub.r [6,2,1] [0] ?_;(conv=>whnf);refine ⟨?_,?_⟩
      · (conv=>whnf);refine Cq.new (q0t _ q7_1 x6 hq7_1.len h6.len hq7_1.ok h6.ok) rfl fun q7_2 gq7_2=>?_;have hq7_2 : Pw v 1048575 q7_2:=(hq7_1).mul h6 gq7_2;(conv=>whnf);refine Sub.r [6,2,1] [0] ?_;(conv=>whnf);intro b7;refine Sub.r [6,2,1] [0] ?_;(conv=>whnf);refine Sub.r [6,2,1] [0] ?_;(conv=>whnf);exact ⟨(b7,q7_2),hq7_2,Wk.m [7,6,2,1] [0] kk ⟨⟨kk,nmk hq7_2.len _,trivial⟩,⟨kk,nmk h6.len _,trivial⟩,⟨kk,nmk rfl _,trivial⟩,⟨kk,nmk hl.len _,trivial⟩,trivial⟩ ⟨rfl,rfl⟩⟩
      · (conv=>whnf);intro b7;refine Sub.r [6,2,1] [0] ?_;(conv=>whnf);refine Cq.new (q0t _ q7_1 x6 hq7_1.len h6.len hq7_1.ok h6.ok) rfl fun q7_2 gq7_2=>?_;have hq7_2 : Pw v 1048575 q7_2:=(hq7_1).mul h6 gq7_2;(conv=>whnf);refine Sub.r [6,2,1] [0] ?_;(conv=>whnf);refine Sub.r [6,2,1] [0] ?_;(conv=>whnf);exact ⟨(b7,q7_2),hq7_2,Wk.m [7,6,2,1] [0] kk ⟨⟨kk,nmk hq7_2.len _,trivial⟩,⟨kk,nmk h6.len _,trivial⟩,⟨kk,nmk rfl _,trivial⟩,⟨kk,nmk hl.len _,trivial⟩,trivial⟩ ⟨rfl,rfl⟩⟩
    · (conv=>whnf);intro b7;refine Sub.r [6,2,1] [0] ?_;(conv=>whnf);refine Cq.new (q0g _ v (1023) x6 h6 10 (by decide)) rfl fun q7_1 hq7_1=>?_;(conv=>whnf);refine Sub.r [6,2,1] [0] ?_;(conv=>whnf);refine Cq.new (q0t _ q7_1 x6 hq7_1.len h6.len hq7_1.ok h6.ok) rfl fun q7_2 gq7_2=>?_;have hq7_2 : Pw v 1048575 q7_2:=(hq7_1).mul h6 gq7_2;(conv=>whnf);refine Sub.r [6,2,1] [0] ?_;(conv=>whnf);refine Sub.r [6,2,1] [0] ?_;conv=>whnf
      exact ⟨(b7,q7_2),hq7_2,Wk.m [7,6,2,1] [0] kk ⟨⟨kk,nmk hq7_2.len _,trivial⟩,⟨kk,nmk h6.len _,trivial⟩,⟨kk,nmk rfl _,trivial⟩,⟨kk,nmk hl.len _,trivial⟩,trivial⟩ ⟨rfl,rfl⟩⟩
  rintro ⟨b7,x7⟩ h7;dsimp only at h7 ⊢;(conv=>whnf);refine Draw.cut (σ:=Nat × List Nat) (fun s=>[(1,.c (.ptr 1 0)),(2,.c (.ptr 2 0)),(6,.c (.ptr 6 0)),(8,.c (.ptr 8 0))]) (fun s=>⟨[(8,s.1),(7,b7),(6,b6),(5,b5),(4,b4),(3,b3),(2,b2),(1,b1)],[(8,nu s.2,180),(6,nu (x6),180),(2,nu ([0,0,0,0]),180),(1,nu (l),180)],[A]⟩) (fun s=>Pw v 1099511627775 s.2) ?_ ?_
  · refine Draw.a (by kernel_rfl) tt_ok (Tv.of [0,2] (.two 1 ((.two 3 (Tv.of [4,5] .nil) 4 (Tv.of [3,5] .nil))) 4 (Tv.of [1,3,5] .nil))) 1000000 (by kernel_rfl) ?_;(conv=>whnf);refine ⟨?_,?_⟩
    · (conv=>whnf);refine Cq.new (q0g _ v (1048575) x7 h7 20 (by decide)) rfl fun q8_1 hq8_1=>?_;(conv=>whnf);refine Sub.r [7,6,2,1] [0] ?_;(conv=>whnf);refine ⟨?_,?_⟩
      · (conv=>whnf);refine Cq.new (q0t _ q8_1 x7 hq8_1.len h7.len hq8_1.ok h7.ok) rfl fun q8_2 gq8_2=>?_;have hq8_2 : Pw v 1099511627775 q8_2:=(hq8_1).mul h7 gq8_2;(conv=>whnf);refine Sub.r [7,6,2,1] [0] ?_;(conv=>whnf);intro b8;refine Sub.r [7,6,2,1] [0] ?_;(conv=>whnf);refine Sub.r [7,6,2,1] [0] ?_;(conv=>whnf);exact ⟨(b8,q8_2),hq8_2,Wk.m [8,6,2,1] [0] kk ⟨⟨kk,nmk hq8_2.len _,trivial⟩,⟨kk,nmk h6.len _,trivial⟩,⟨kk,nmk rfl _,trivial⟩,⟨kk,nmk hl.len _,trivial⟩,trivial⟩ ⟨rfl,rfl⟩⟩
      · (conv=>whnf);intro b8;refine Sub.r [7,6,2,1] [0] ?_;(conv=>whnf);refine Cq.new (q0t _ q8_1 x7 hq8_1.len h7.len hq8_1.ok h7.ok) rfl fun q8_2 gq8_2=>?_;have hq8_2 : Pw v 1099511627775 q8_2:=(hq8_1).mul h7 gq8_2;(conv=>whnf);refine Sub.r [7,6,2,1] [0] ?_;(conv=>whnf);refine Sub.r [7,6,2,1] [0] ?_;(conv=>whnf);exact ⟨(b8,q8_2),hq8_2,Wk.m [8,6,2,1] [0] kk ⟨⟨kk,nmk hq8_2.len _,trivial⟩,⟨kk,nmk h6.len _,trivial⟩,⟨kk,nmk rfl _,trivial⟩,⟨kk,nmk hl.len _,trivial⟩,trivial⟩ ⟨rfl,rfl⟩⟩
    · (conv=>whnf);intro b8;refine Sub.r [7,6,2,1] [0] ?_;(conv=>whnf);refine Cq.new (q0g _ v (1048575) x7 h7 20 (by decide)) rfl fun q8_1 hq8_1=>?_;(conv=>whnf);refine Sub.r [7,6,2,1] [0] ?_;(conv=>whnf);refine Cq.new (q0t _ q8_1 x7 hq8_1.len h7.len hq8_1.ok h7.ok) rfl fun q8_2 gq8_2=>?_;have hq8_2 : Pw v 1099511627775 q8_2:=(hq8_1).mul h7 gq8_2;(conv=>whnf);refine Sub.r [7,6,2,1] [0] ?_;(conv=>whnf);refine Sub.r [7,6,2,1] [0] ?_;conv=>whnf
      exact ⟨(b8,q8_2),hq8_2,Wk.m [8,6,2,1] [0] kk ⟨⟨kk,nmk hq8_2.len _,trivial⟩,⟨kk,nmk h6.len _,trivial⟩,⟨kk,nmk rfl _,trivial⟩,⟨kk,nmk hl.len _,trivial⟩,trivial⟩ ⟨rfl,rfl⟩⟩
  rintro ⟨b8,x8⟩ h8;dsimp only at h8 ⊢;(conv=>whnf);refine Draw.cut (σ:=Nat × List Nat) (fun s=>[(1,.c (.ptr 1 0)),(2,.c (.ptr 2 0)),(9,.c (.ptr 9 0))]) (fun s=>⟨[(9,s.1),(8,b8),(7,b7),(6,b6),(5,b5),(4,b4),(3,b3),(2,b2),(1,b1)],[(9,nu s.2,180),(2,nu ([0,0,0,0]),180),(1,nu (l),180)],[A]⟩) (fun s=>Pw v 1125899906842623 s.2) ?_ ?_
  · refine Draw.a (by kernel_rfl) tt_ok (Tv.of [0,2] (.two 1 ((.two 3 (Tv.of [4,5] .nil) 4 (Tv.of [3,5] .nil))) 4 (Tv.of [1,3,5] .nil))) 1000000 (by kernel_rfl) ?_;(conv=>whnf);refine ⟨?_,?_⟩
    · (conv=>whnf);refine Cq.new (q0g _ v (1099511627775) x8 h8 10 (by decide)) rfl fun q9_1 hq9_1=>?_;(conv=>whnf);refine Sub.r [8,6,2,1] [0] ?_;(conv=>whnf);refine ⟨?_,?_⟩
      · (conv=>whnf);refine Cq.new (q0t _ q9_1 x6 hq9_1.len h6.len hq9_1.ok h6.ok) rfl fun q9_2 gq9_2=>?_;have hq9_2 : Pw v 1125899906842623 q9_2:=(hq9_1).mul h6 gq9_2;(conv=>whnf);refine Sub.r [8,6,2,1] [0] ?_;(conv=>whnf);intro b9;refine Sub.r [8,6,2,1] [0] ?_;(conv=>whnf);refine Sub.r [8,6,2,1] [0] ?_;(conv=>whnf);exact ⟨(b9,q9_2),hq9_2,Wk.m [9,2,1] [0] kk ⟨⟨kk,nmk hq9_2.len _,trivial⟩,⟨kk,nmk rfl _,trivial⟩,⟨kk,nmk hl.len _,trivial⟩,trivial⟩ ⟨rfl,rfl⟩⟩
      · (conv=>whnf);intro b9;refine Sub.r [8,6,2,1] [0] ?_;(conv=>whnf);refine Cq.new (q0t _ q9_1 x6 hq9_1.len h6.len hq9_1.ok h6.ok) rfl fun q9_2 gq9_2=>?_;have hq9_2 : Pw v 1125899906842623 q9_2:=(hq9_1).mul h6 gq9_2;(conv=>whnf);refine Sub.r [8,6,2,1] [0] ?_;(conv=>whnf);refine Sub.r [8,6,2,1] [0] ?_;(conv=>whnf);exact ⟨(b9,q9_2),hq9_2,Wk.m [9,2,1] [0] kk ⟨⟨kk,nmk hq9_2.len _,trivial⟩,⟨kk,nmk rfl _,trivial⟩,⟨kk,nmk hl.len _,trivial⟩,trivial⟩ ⟨rfl,rfl⟩⟩
    · (conv=>whnf);intro b9;refine Sub.r [8,6,2,1] [0] ?_;(conv=>whnf);refine Cq.new (q0g _ v (1099511627775) x8 h8 10 (by decide)) rfl fun q9_1 hq9_1=>?_;(conv=>whnf);refine Sub.r [8,6,2,1] [0] ?_;(conv=>whnf);refine Cq.new (q0t _ q9_1 x6 hq9_1.len h6.len hq9_1.ok h6.ok) rfl fun q9_2 gq9_2=>?_;have hq9_2 : Pw v 1125899906842623 q9_2:=(hq9_1).mul h6 gq9_2;(conv=>whnf);refine Sub.r [8,6,2,1] [0] ?_;(conv=>whnf);refine Sub.r [8,6,2,1] [0] ?_;conv=>whnf
      exact ⟨(b9,q9_2),hq9_2,Wk.m [9,2,1] [0] kk ⟨⟨kk,nmk hq9_2.len _,trivial⟩,⟨kk,nmk rfl _,trivial⟩,⟨kk,nmk hl.len _,trivial⟩,trivial⟩ ⟨rfl,rfl⟩⟩
  rintro ⟨b9,x9⟩ h9;dsimp only at h9 ⊢;(conv=>whnf);refine Draw.cut (σ:=Nat × List Nat) (fun s=>[(1,.c (.ptr 1 0)),(2,.c (.ptr 2 0)),(9,.c (.ptr 9 0)),(10,.c (.ptr 10 0))]) (fun s=>⟨[(10,s.1),(9,b9),(8,b8),(7,b7),(6,b6),(5,b5),(4,b4),(3,b3),(2,b2),(1,b1)],[(10,nu s.2,180),(9,nu (x9),180),(2,nu ([0,0,0,0]),180),(1,nu (l),180)],[A]⟩) (fun s=>Pw v 1267650600228229401496703205375 s.2) ?_ ?_
  · refine Draw.a (by kernel_rfl) tt_ok (Tv.of [0,2] (.two 1 ((.two 3 (Tv.of [4,5] .nil) 4 (Tv.of [3,5] .nil))) 4 (Tv.of [1,3,5] .nil))) 1000000 (by kernel_rfl) ?_;(conv=>whnf);refine ⟨?_,?_⟩
    · (conv=>whnf);refine Cq.new (q0g _ v (1125899906842623) x9 h9 50 (by decide)) rfl fun q10_1 hq10_1=>?_;(conv=>whnf);refine Sub.r [9,2,1] [0] ?_;(conv=>whnf);refine ⟨?_,?_⟩
      · (conv=>whnf);refine Cq.new (q0t _ q10_1 x9 hq10_1.len h9.len hq10_1.ok h9.ok) rfl fun q10_2 gq10_2=>?_;have hq10_2 : Pw v 1267650600228229401496703205375 q10_2:=(hq10_1).mul h9 gq10_2;(conv=>whnf);refine Sub.r [9,2,1] [0] ?_;(conv=>whnf);intro b10;refine Sub.r [9,2,1] [0] ?_;(conv=>whnf);refine Sub.r [9,2,1] [0] ?_;(conv=>whnf);exact ⟨(b10,q10_2),hq10_2,Wk.m [10,9,2,1] [0] kk ⟨⟨kk,nmk hq10_2.len _,trivial⟩,⟨kk,nmk h9.len _,trivial⟩,⟨kk,nmk rfl _,trivial⟩,⟨kk,nmk hl.len _,trivial⟩,trivial⟩ ⟨rfl,rfl⟩⟩
      · (conv=>whnf);intro b10;refine Sub.r [9,2,1] [0] ?_;(conv=>whnf);refine Cq.new (q0t _ q10_1 x9 hq10_1.len h9.len hq10_1.ok h9.ok) rfl fun q10_2 gq10_2=>?_;have hq10_2 : Pw v 1267650600228229401496703205375 q10_2:=(hq10_1).mul h9 gq10_2;(conv=>whnf);refine Sub.r [9,2,1] [0] ?_;(conv=>whnf);refine Sub.r [9,2,1] [0] ?_;(conv=>whnf);exact ⟨(b10,q10_2),hq10_2,Wk.m [10,9,2,1] [0] kk ⟨⟨kk,nmk hq10_2.len _,trivial⟩,⟨kk,nmk h9.len _,trivial⟩,⟨kk,nmk rfl _,trivial⟩,⟨kk,nmk hl.len _,trivial⟩,trivial⟩ ⟨rfl,rfl⟩⟩
    · (conv=>whnf);intro b10;refine Sub.r [9,2,1] [0] ?_;(conv=>whnf);refine Cq.new (q0g _ v (1125899906842623) x9 h9 50 (by decide)) rfl fun q10_1 hq10_1=>?_;(conv=>whnf);refine Sub.r [9,2,1] [0] ?_;(conv=>whnf);refine Cq.new (q0t _ q10_1 x9 hq10_1.len h9.len hq10_1.ok h9.ok) rfl fun q10_2 gq10_2=>?_;have hq10_2 : Pw v 1267650600228229401496703205375 q10_2:=(hq10_1).mul h9 gq10_2;(conv=>whnf);refine Sub.r [9,2,1] [0] ?_;(conv=>whnf);refine Sub.r [9,2,1] [0] ?_;conv=>whnf
      exact ⟨(b10,q10_2),hq10_2,Wk.m [10,9,2,1] [0] kk ⟨⟨kk,nmk hq10_2.len _,trivial⟩,⟨kk,nmk h9.len _,trivial⟩,⟨kk,nmk rfl _,trivial⟩,⟨kk,nmk hl.len _,trivial⟩,trivial⟩ ⟨rfl,rfl⟩⟩
  rintro ⟨b10,x10⟩ h10;dsimp only at h10 ⊢;(conv=>whnf);refine Draw.cut (σ:=Nat × List Nat) (fun s=>[(1,.c (.ptr 1 0)),(2,.c (.ptr 2 0)),(11,.c (.ptr 11 0))]) (fun s=>⟨[(11,s.1),(10,b10),(9,b9),(8,b8),(7,b7),(6,b6),(5,b5),(4,b4),(3,b3),(2,b2),(1,b1)],[(11,nu s.2,180),(2,nu ([0,0,0,0]),180),(1,nu (l),180)],[A]⟩) (fun s=>Pw v 1809251394333065553493296640760748560207343510400633813116524750123642650623 s.2) ?_ ?_
  · refine Draw.a (by kernel_rfl) tt_ok (Tv.of [0,2,5] (.two 1 ((.two 3 ((.two 4 ((.two 6 (Tv.of [7,8] .nil) 7 (Tv.of [6,8] .nil))) 7 (Tv.of [4,6,8] .nil))) 7 (Tv.of [3,4,6,8] .nil))) 7 (Tv.of [1,3,4,6,8] .nil))) 1000000 (by kernel_rfl) ?_;(conv=>whnf);refine ⟨?_,?_⟩
    · (conv=>whnf);refine Cq.new (q0g _ v (1267650600228229401496703205375) x10 h10 100 (by decide)) rfl fun q11_1 hq11_1=>?_;(conv=>whnf);refine Sub.r [10,9,2,1] [0] ?_;(conv=>whnf);refine ⟨?_,?_⟩
      · (conv=>whnf);refine Cq.new (q0t _ q11_1 x10 hq11_1.len h10.len hq11_1.ok h10.ok) rfl fun q11_2 gq11_2=>?_;have hq11_2 : Pw v 1606938044258990275541962092341162602522202993782792835301375 q11_2:=(hq11_1).mul h10 gq11_2;(conv=>whnf);refine Sub.r [10,9,2,1] [0] ?_;(conv=>whnf);refine ⟨?_,?_⟩
        · (conv=>whnf);refine Cq.new (q0g _ v (1606938044258990275541962092341162602522202993782792835301375) q11_2 hq11_2 50 (by decide)) rfl fun q11_3 hq11_3=>?_;(conv=>whnf);refine Sub.r [10,9,2,1] [0] ?_;(conv=>whnf);refine ⟨?_,?_⟩
          · (conv=>whnf);refine Cq.new (q0t _ q11_3 x9 hq11_3.len h9.len hq11_3.ok h9.ok) rfl fun q11_4 gq11_4=>?_;have hq11_4 : Pw v 1809251394333065553493296640760748560207343510400633813116524750123642650623 q11_4:=(hq11_3).mul h9 gq11_4;(conv=>whnf);refine Sub.r [10,9,2,1] [0] ?_;(conv=>whnf);intro b11;refine Sub.r [10,9,2,1] [0] ?_;(conv=>whnf);refine Sub.r [10,9,2,1] [0] ?_;conv=>whnf
            exact ⟨(b11,q11_4),hq11_4,Wk.m [11,2,1] [0] kk ⟨⟨kk,nmk hq11_4.len _,trivial⟩,⟨kk,nmk rfl _,trivial⟩,⟨kk,nmk hl.len _,trivial⟩,trivial⟩ ⟨rfl,rfl⟩⟩
          · (conv=>whnf);intro b11;refine Sub.r [10,9,2,1] [0] ?_;(conv=>whnf);refine Cq.new (q0t _ q11_3 x9 hq11_3.len h9.len hq11_3.ok h9.ok) rfl fun q11_4 gq11_4=>?_;have hq11_4 : Pw v 1809251394333065553493296640760748560207343510400633813116524750123642650623 q11_4:=(hq11_3).mul h9 gq11_4;(conv=>whnf);refine Sub.r [10,9,2,1] [0] ?_;(conv=>whnf);refine Sub.r [10,9,2,1] [0] ?_;conv=>whnf
            exact ⟨(b11,q11_4),hq11_4,Wk.m [11,2,1] [0] kk ⟨⟨kk,nmk hq11_4.len _,trivial⟩,⟨kk,nmk rfl _,trivial⟩,⟨kk,nmk hl.len _,trivial⟩,trivial⟩ ⟨rfl,rfl⟩⟩
        · (conv=>whnf);intro b11;refine Sub.r [10,9,2,1] [0] ?_;(conv=>whnf);refine Cq.new (q0g _ v (1606938044258990275541962092341162602522202993782792835301375) q11_2 hq11_2 50 (by decide)) rfl fun q11_3 hq11_3=>?_;(conv=>whnf);refine Sub.r [10,9,2,1] [0] ?_;(conv=>whnf);refine Cq.new (q0t _ q11_3 x9 hq11_3.len h9.len hq11_3.ok h9.ok) rfl fun q11_4 gq11_4=>?_;have hq11_4 : Pw v 1809251394333065553493296640760748560207343510400633813116524750123642650623 q11_4:=(hq11_3).mul h9 gq11_4;(conv=>whnf);refine Sub.r [10,9,2,1] [0] ?_
          (conv=>whnf);refine Sub.r [10,9,2,1] [0] ?_;(conv=>whnf);exact ⟨(b11,q11_4),hq11_4,Wk.m [11,2,1] [0] kk ⟨⟨kk,nmk hq11_4.len _,trivial⟩,⟨kk,nmk rfl _,trivial⟩,⟨kk,nmk hl.len _,trivial⟩,trivial⟩ ⟨rfl,rfl⟩⟩
      · (conv=>whnf);intro b11;refine Sub.r [10,9,2,1] [0] ?_;(conv=>whnf);refine Cq.new (q0t _ q11_1 x10 hq11_1.len h10.len hq11_1.ok h10.ok) rfl fun q11_2 gq11_2=>?_;have hq11_2 : Pw v 1606938044258990275541962092341162602522202993782792835301375 q11_2:=(hq11_1).mul h10 gq11_2;(conv=>whnf);refine Sub.r [10,9,2,1] [0] ?_;(conv=>whnf);refine Cq.new (q0g _ v (1606938044258990275541962092341162602522202993782792835301375) q11_2 hq11_2 50 (by decide)) rfl fun q11_3 hq11_3=>?_;(conv=>whnf);refine Sub.r [10,9,2,1] [0] ?_;conv=>whnf
        refine Cq.new (q0t _ q11_3 x9 hq11_3.len h9.len hq11_3.ok h9.ok) rfl fun q11_4 gq11_4=>?_;have hq11_4 : Pw v 1809251394333065553493296640760748560207343510400633813116524750123642650623 q11_4:=(hq11_3).mul h9 gq11_4;(conv=>whnf);refine Sub.r [10,9,2,1] [0] ?_;(conv=>whnf);refine Sub.r [10,9,2,1] [0] ?_;(conv=>whnf);exact ⟨(b11,q11_4),hq11_4,Wk.m [11,2,1] [0] kk ⟨⟨kk,nmk hq11_4.len _,trivial⟩,⟨kk,nmk rfl _,trivial⟩,⟨kk,nmk hl.len _,trivial⟩,trivial⟩ ⟨rfl,rfl⟩⟩
    · (conv=>whnf);intro b11;refine Sub.r [10,9,2,1] [0] ?_;(conv=>whnf);refine Cq.new (q0g _ v (1267650600228229401496703205375) x10 h10 100 (by decide)) rfl fun q11_1 hq11_1=>?_;(conv=>whnf);refine Sub.r [10,9,2,1] [0] ?_;(conv=>whnf);refine Cq.new (q0t _ q11_1 x10 hq11_1.len h10.len hq11_1.ok h10.ok) rfl fun q11_2 gq11_2=>?_;have hq11_2 : Pw v 1606938044258990275541962092341162602522202993782792835301375 q11_2:=(hq11_1).mul h10 gq11_2;(conv=>whnf);refine Sub.r [10,9,2,1] [0] ?_;conv=>whnf
      refine Cq.new (q0g _ v (1606938044258990275541962092341162602522202993782792835301375) q11_2 hq11_2 50 (by decide)) rfl fun q11_3 hq11_3=>?_;(conv=>whnf);refine Sub.r [10,9,2,1] [0] ?_;(conv=>whnf);refine Cq.new (q0t _ q11_3 x9 hq11_3.len h9.len hq11_3.ok h9.ok) rfl fun q11_4 gq11_4=>?_;have hq11_4 : Pw v 1809251394333065553493296640760748560207343510400633813116524750123642650623 q11_4:=(hq11_3).mul h9 gq11_4;(conv=>whnf);refine Sub.r [10,9,2,1] [0] ?_;(conv=>whnf);refine Sub.r [10,9,2,1] [0] ?_;conv=>whnf
      exact ⟨(b11,q11_4),hq11_4,Wk.m [11,2,1] [0] kk ⟨⟨kk,nmk hq11_4.len _,trivial⟩,⟨kk,nmk rfl _,trivial⟩,⟨kk,nmk hl.len _,trivial⟩,trivial⟩ ⟨rfl,rfl⟩⟩
  rintro ⟨b11,x11⟩ h11;dsimp only at h11 ⊢;(conv=>whnf);refine Draw.cut (σ:=Nat × List Nat) (fun s=>[(2,.c (.ptr 2 0)),(11,.c (.ptr 11 0)),(12,.c (.ptr 12 0))]) (fun s=>⟨[(12,s.1),(11,b11),(10,b10),(9,b9),(8,b8),(7,b7),(6,b6),(5,b5),(4,b4),(3,b3),(2,b2),(1,b1)],[(12,nu s.2,180),(11,nu (x11),180),(2,nu ([0,0,0,0]),180)],[A]⟩) (fun s=>Pw v 11 s.2) ?_ ?_
  · refine Draw.a (by kernel_rfl) tt_ok (Tv.of [0,2,5] (.two 1 ((.two 3 ((.two 4 ((.two 6 (Tv.of [7,8] .nil) 7 (Tv.of [6,8] .nil))) 7 (Tv.of [4,6,8] .nil))) 7 (Tv.of [3,4,6,8] .nil))) 7 (Tv.of [1,3,4,6,8] .nil))) 1000000 (by kernel_rfl) ?_;(conv=>whnf);refine ⟨?_,?_⟩
    · (conv=>whnf);refine Cq.new (q0g _ v (1) l hl 2 (by decide)) rfl fun q12_1 hq12_1=>?_;(conv=>whnf);refine Sub.r [11,2,1] [0] ?_;(conv=>whnf);refine ⟨?_,?_⟩
      · (conv=>whnf);refine Cq.new (q0t _ q12_1 l hq12_1.len hl.len hq12_1.ok hl.ok) rfl fun q12_2 gq12_2=>?_;have hq12_2 : Pw v 5 q12_2:=(hq12_1).mul hl gq12_2;(conv=>whnf);refine Sub.r [11,2,1] [0] ?_;(conv=>whnf);refine ⟨?_,?_⟩
        · (conv=>whnf);refine Cq.new (q0g _ v (5) q12_2 hq12_2 1 (by decide)) rfl fun q12_3 hq12_3=>?_;(conv=>whnf);refine Sub.r [11,2,1] [0] ?_;(conv=>whnf);refine ⟨?_,?_⟩
          · (conv=>whnf);refine Cq.new (q0t _ q12_3 l hq12_3.len hl.len hq12_3.ok hl.ok) rfl fun q12_4 gq12_4=>?_;have hq12_4 : Pw v 11 q12_4:=(hq12_3).mul hl gq12_4;(conv=>whnf);refine Sub.r [11,2,1] [0] ?_;(conv=>whnf);intro b12;refine Sub.r [11,2,1] [0] ?_;(conv=>whnf);refine Sub.r [11,2,1] [0] ?_;(conv=>whnf);exact ⟨(b12,q12_4),hq12_4,Wk.m [12,11,2] [0] kk ⟨⟨kk,nmk hq12_4.len _,trivial⟩,⟨kk,nmk h11.len _,trivial⟩,⟨kk,nmk rfl _,trivial⟩,trivial⟩ ⟨rfl,rfl⟩⟩
          · (conv=>whnf);intro b12;refine Sub.r [11,2,1] [0] ?_;(conv=>whnf);refine Cq.new (q0t _ q12_3 l hq12_3.len hl.len hq12_3.ok hl.ok) rfl fun q12_4 gq12_4=>?_;have hq12_4 : Pw v 11 q12_4:=(hq12_3).mul hl gq12_4;(conv=>whnf);refine Sub.r [11,2,1] [0] ?_;(conv=>whnf);refine Sub.r [11,2,1] [0] ?_;(conv=>whnf);exact ⟨(b12,q12_4),hq12_4,Wk.m [12,11,2] [0] kk ⟨⟨kk,nmk hq12_4.len _,trivial⟩,⟨kk,nmk h11.len _,trivial⟩,⟨kk,nmk rfl _,trivial⟩,trivial⟩ ⟨rfl,rfl⟩⟩
        · (conv=>whnf);intro b12;refine Sub.r [11,2,1] [0] ?_;(conv=>whnf);refine Cq.new (q0g _ v (5) q12_2 hq12_2 1 (by decide)) rfl fun q12_3 hq12_3=>?_;(conv=>whnf);refine Sub.r [11,2,1] [0] ?_;(conv=>whnf);refine Cq.new (q0t _ q12_3 l hq12_3.len hl.len hq12_3.ok hl.ok) rfl fun q12_4 gq12_4=>?_;have hq12_4 : Pw v 11 q12_4:=(hq12_3).mul hl gq12_4;(conv=>whnf);refine Sub.r [11,2,1] [0] ?_;(conv=>whnf);refine Sub.r [11,2,1] [0] ?_;conv=>whnf
          exact ⟨(b12,q12_4),hq12_4,Wk.m [12,11,2] [0] kk ⟨⟨kk,nmk hq12_4.len _,trivial⟩,⟨kk,nmk h11.len _,trivial⟩,⟨kk,nmk rfl _,trivial⟩,trivial⟩ ⟨rfl,rfl⟩⟩
      · (conv=>whnf);intro b12;refine Sub.r [11,2,1] [0] ?_;(conv=>whnf);refine Cq.new (q0t _ q12_1 l hq12_1.len hl.len hq12_1.ok hl.ok) rfl fun q12_2 gq12_2=>?_;have hq12_2 : Pw v 5 q12_2:=(hq12_1).mul hl gq12_2;(conv=>whnf);refine Sub.r [11,2,1] [0] ?_;(conv=>whnf);refine Cq.new (q0g _ v (5) q12_2 hq12_2 1 (by decide)) rfl fun q12_3 hq12_3=>?_;(conv=>whnf);refine Sub.r [11,2,1] [0] ?_;(conv=>whnf);refine Cq.new (q0t _ q12_3 l hq12_3.len hl.len hq12_3.ok hl.ok) rfl fun q12_4 gq12_4=>?_
        have hq12_4 : Pw v 11 q12_4:=(hq12_3).mul hl gq12_4;(conv=>whnf);refine Sub.r [11,2,1] [0] ?_;(conv=>whnf);refine Sub.r [11,2,1] [0] ?_;(conv=>whnf);exact ⟨(b12,q12_4),hq12_4,Wk.m [12,11,2] [0] kk ⟨⟨kk,nmk hq12_4.len _,trivial⟩,⟨kk,nmk h11.len _,trivial⟩,⟨kk,nmk rfl _,trivial⟩,trivial⟩ ⟨rfl,rfl⟩⟩
    · (conv=>whnf);intro b12;refine Sub.r [11,2,1] [0] ?_;(conv=>whnf);refine Cq.new (q0g _ v (1) l hl 2 (by decide)) rfl fun q12_1 hq12_1=>?_;(conv=>whnf);refine Sub.r [11,2,1] [0] ?_;(conv=>whnf);refine Cq.new (q0t _ q12_1 l hq12_1.len hl.len hq12_1.ok hl.ok) rfl fun q12_2 gq12_2=>?_;have hq12_2 : Pw v 5 q12_2:=(hq12_1).mul hl gq12_2;(conv=>whnf);refine Sub.r [11,2,1] [0] ?_;(conv=>whnf);refine Cq.new (q0g _ v (5) q12_2 hq12_2 1 (by decide)) rfl fun q12_3 hq12_3=>?_;(conv=>whnf);refine Sub.r [11,2,1] [0] ?_
      (conv=>whnf);refine Cq.new (q0t _ q12_3 l hq12_3.len hl.len hq12_3.ok hl.ok) rfl fun q12_4 gq12_4=>?_;have hq12_4 : Pw v 11 q12_4:=(hq12_3).mul hl gq12_4;(conv=>whnf);refine Sub.r [11,2,1] [0] ?_;(conv=>whnf);refine Sub.r [11,2,1] [0] ?_;(conv=>whnf);exact ⟨(b12,q12_4),hq12_4,Wk.m [12,11,2] [0] kk ⟨⟨kk,nmk hq12_4.len _,trivial⟩,⟨kk,nmk h11.len _,trivial⟩,⟨kk,nmk rfl _,trivial⟩,trivial⟩ ⟨rfl,rfl⟩⟩
  rintro ⟨b12,x12⟩ h12;dsimp only at h12 ⊢;(conv=>whnf);refine Draw.a (by kernel_rfl) tt_ok (Tv.of [0,2,1,3,4] .nil) 4 (by kernel_rfl) ?_;(conv=>whnf);refine Cq.new (q0g _ v _ x11 h11 5 (by decide)) rfl fun r hr=>?_;(conv=>whnf);refine Sub.whole ?_;(conv=>whnf);refine Cq.new (q0t _ r x12 hr.len h12.len hr.ok h12.ok) rfl fun t ht=>?_;have hT : Pw v invE t:=hr.mul h12 ht;(conv=>whnf);refine Sub.whole ?_;(conv=>whnf);exact Ret.m t [] [0] hT rfl ⟨nmk hT.len _,trivial⟩ trivial ⟨rfl,rfl⟩
end
end Go.Proofs.YtfehjfoajlfhfaaGreatDoor
