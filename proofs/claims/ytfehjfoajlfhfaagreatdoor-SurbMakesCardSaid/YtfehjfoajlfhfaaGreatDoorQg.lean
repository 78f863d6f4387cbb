import Derived.Test.YtfehjfoajlfhfaaGreatDoorQc
namespace Go.Proofs.YtfehjfoajlfhfaaGreatDoor
open Go.Sx
set_option maxRecDepth 100000
set_option linter.unusedSimpArgs false
set_option linter.unusedVariables false
set_option pp.deepTerms false
set_option pp.maxSteps 300
section
def wordL (b : List UInt8) : UInt32:=(UInt8.ofNat (gd b 0)).toUInt32 ||| (UInt8.ofNat (gd b 1)).toUInt32 <<< 8 ||| (UInt8.ofNat (gd b 2)).toUInt32 <<< 16 ||| (UInt8.ofNat (gd b 3)).toUInt32 <<< 24
def qA (a b c d : UInt32) : UInt32:=a + b + rotl (b ^^^ (c + rotl (d ^^^ (a + b)) 16)) 12
def qD (a b c d : UInt32) : UInt32:=rotl (rotl (d ^^^ (a + b)) 16 ^^^ qA a b c d) 8
def qC (a b c d : UInt32) : UInt32:=c + rotl (d ^^^ (a + b)) 16 + qD a b c d
def qB (a b c d : UInt32) : UInt32:=rotl (rotl (b ^^^ (c + rotl (d ^^^ (a + b)) 16)) 12 ^^^ qC a b c d) 7
def qAt (s : List UInt32) (i j k l : Nat) : List UInt32 :=
  (((s.set i (qA (wg s i) (wg s j) (wg s k) (wg s l))).set j (qB (wg s i) (wg s j) (wg s k) (wg s l))).set k (qC (wg s i) (wg s j) (wg s k) (wg s l))).set l (qD (wg s i) (wg s j) (wg s k) (wg s l))
theorem q3f (s : List UInt32) (i j k l : Nat) : (qAt s i j k l).length = s.length:=by simp [qAt]
def colS (s : List UInt32) : List UInt32:=qAt (qAt (qAt (qAt s 0 4 8 12) 1 5 9 13) 2 6 10 14) 3 7 11 15
def diaS (s : List UInt32) : List UInt32:=qAt (qAt (qAt (qAt s 0 5 10 15) 1 6 11 12) 2 7 8 13) 3 4 9 14
def dblC (s : List UInt32) : List UInt32:=diaS (colS s)
theorem qkx (s : List UInt32) : (dblC s).length = s.length:=by simp only [dblC,diaS,colS,q3f]
def dblN (s : List UInt32) : Nat → List UInt32
  | 0=>s
  | k + 1=>dblC (dblN s k)
theorem qb9 (s : List UInt32) : ∀ k,(dblN s k).length = s.length
  | 0=>rfl
  | k + 1=>(qkx _).trans (qb9 s k)
def q3l (key n : List UInt8) (count : UInt32) : List UInt32 :=
  [0x61707865,0x3320646e,0x79622d32,0x6b206574] ++ ((List.range 8).map (fun i=>wordL (key.drop (4 * i))) ++ (count :: (List.range 3).map fun i=>wordL (n.drop (4 * i))))
theorem q6o (key n : List UInt8) (count : UInt32) : (q3l key n count).length = 16:=by simp [q3l]
def bytL (w : UInt32) : List UInt8:=[(w >>> UInt32.ofNat 0).toUInt8,(w >>> UInt32.ofNat 8).toUInt8,(w >>> UInt32.ofNat 16).toUInt8,(w >>> UInt32.ofNat 24).toUInt8]
def sumL (w : List UInt32) : List UInt8:=w.flatMap bytL
theorem qge : ∀ w,(sumL w).length = 4 * w.length
  | []=>rfl
  | a :: r=>by show ([_,_,_,_] ++ sumL r).length = _;rw [List.length_append,qge r];simp;omega
def blkW (key n : List UInt8) (count : UInt32) : List UInt32:=(List.range 16).map fun i=>wg (dblN (q3l key n count) 10) i + wg (q3l key n count) i
def q3w (key n : List UInt8) (count : UInt32) : List UInt8:=sumL (blkW key n count)
theorem q3y (key n : List UInt8) (count : UInt32) : (q3w key n count).length = 64:=by rw [q3w,qge];simp [blkW]
def strS (key n : List UInt8) (count : UInt32) : Nat → List UInt8
  | 0=>[]
  | m + 1=>strS key n count m ++ q3w key n (count + UInt32.ofNat m)
theorem q2t (key n : List UInt8) (count : UInt32) : ∀ m,(strS key n count m).length = 64 * m
  | 0=>rfl
  | m + 1=>by rw [strS,List.length_append,q2t key n count m,q3y];omega
end
section
theorem qio (A R : HP) (hE : Ent A R) (a : Option Addr) (cap : Nat) (b : List UInt8) (hb : Rd R a (u8s b)) (hl : 4 ≤ b.length) : Pu Tryz.prog 194 [.c (.rs a b.length cap)] A (.c (.int .u32 ((wordL b).toNat : Int))):=by
  refine Con.of' tt_ok Tryz.func194 rfl (by decide) [.c (.rs a b.length cap)] [] [] rfl rfl trivial kk rfl ?_;(conv=>whnf);refine Draw.quiet (by kernel_rfl) tt_ok (List.range 23) (by kernel_rfl) ?_;have hr:=hb.ent hE;(conv=>whnf);refine idx (A:=A) 0 (by simp) hr (by omega) rfl fun p hp=>?_;subst hp;(conv=>whnf);refine ldb (A:=A) 0 (by simp) hr (by omega) rfl rfl (by first | rfl | simp) ?_;(conv=>whnf);refine Ar.w8 (gd8 b 0) ?_;(conv=>whnf);refine ⟨by omega,PtrOb.at ?_⟩;conv=>whnf
  refine ldb (A:=A) 1 (by simp) hr (by omega) rfl rfl (by first | rfl | simp) ?_;(conv=>whnf);refine Ar.w8 (gd8 b 1) ?_;(conv=>whnf);refine ⟨by decide,?_⟩;refine Ar.wshl (.base _) 8 (by decide) ?_;(conv=>whnf);refine ⟨by omega,PtrOb.at ?_⟩;(conv=>whnf);refine ldb (A:=A) 2 (by simp) hr (by omega) rfl rfl (by first | rfl | simp) ?_;(conv=>whnf);refine Ar.w8 (gd8 b 2) ?_;(conv=>whnf);refine ⟨by decide,?_⟩;refine Ar.wshl (.base _) 16 (by decide) ?_;(conv=>whnf);refine ⟨by omega,PtrOb.at ?_⟩;conv=>whnf
  refine ldb (A:=A) 3 (by simp) hr (by omega) rfl rfl (by first | rfl | simp) ?_;(conv=>whnf);refine Ar.w8 (gd8 b 3) ?_;(conv=>whnf);refine ⟨by decide,?_⟩;refine Ar.wshl (.base _) 24 (by decide) ?_;(conv=>whnf);refine Ret.m () [] [0] trivial ?_ kk kk ⟨rfl,rfl⟩;show Value.int .u32 _ = Value.int .u32 _;rw [(Wd.or (Wd.or (Wd.or (.base _) (.base _)) (.base _)) (.base _)).h];rfl
theorem qjo (A R : HP) (hE : Ent A R) (a : Option Addr) (cap : Nat) (b : List UInt8) (hb : Rd R a (u8s b)) (hl : 4 ≤ b.length) : Pu Tryz.prog 202 [.c (.rs a b.length cap)] A (.c (.int .u32 ((wordL b).toNat : Int))):=by
  refine Con.of' tt_ok Tryz.func202 rfl (by decide) [.c (.rs a b.length cap)] [] [] rfl rfl trivial kk rfl ?_;(conv=>whnf);refine Draw.quiet (by kernel_rfl) tt_ok (List.range 23) (by kernel_rfl) ?_;have hr:=hb.ent hE;(conv=>whnf);refine idx (A:=A) 0 (by simp) hr (by omega) rfl fun p hp=>?_;subst hp;(conv=>whnf);refine ldb (A:=A) 0 (by simp) hr (by omega) rfl rfl (by first | rfl | simp) ?_;(conv=>whnf);refine Ar.w8 (gd8 b 0) ?_;(conv=>whnf);refine ⟨by omega,PtrOb.at ?_⟩;conv=>whnf
  refine ldb (A:=A) 1 (by simp) hr (by omega) rfl rfl (by first | rfl | simp) ?_;(conv=>whnf);refine Ar.w8 (gd8 b 1) ?_;(conv=>whnf);refine ⟨by decide,?_⟩;refine Ar.wshl (.base _) 8 (by decide) ?_;(conv=>whnf);refine ⟨by omega,PtrOb.at ?_⟩;(conv=>whnf);refine ldb (A:=A) 2 (by simp) hr (by omega) rfl rfl (by first | rfl | simp) ?_;(conv=>whnf);refine Ar.w8 (gd8 b 2) ?_;(conv=>whnf);refine ⟨by decide,?_⟩;refine Ar.wshl (.base _) 16 (by decide) ?_;(conv=>whnf);refine ⟨by omega,PtrOb.at ?_⟩;conv=>whnf
  refine ldb (A:=A) 3 (by simp) hr (by omega) rfl rfl (by first | rfl | simp) ?_;(conv=>whnf);refine Ar.w8 (gd8 b 3) ?_;(conv=>whnf);refine ⟨by decide,?_⟩;refine Ar.wshl (.base _) 24 (by decide) ?_;(conv=>whnf);refine Ret.m () [] [0] trivial ?_ kk kk ⟨rfl,rfl⟩;show Value.int .u32 _ = Value.int .u32 _;rw [(Wd.or (Wd.or (Wd.or (.base _) (.base _)) (.base _)) (.base _)).h];rfl
end
section
theorem q55 {l : List UInt32} {i : Nat} {x : UInt32} (hi : i < l.length) : (w32s l).take i ++ ([w32 x] ++ (w32s l).drop (i + 1)) = w32s (l.set i x):=by
  show _ = (l.set i _).map w32;rw [List.map_set,List.set_eq_take_append_cons_drop,if_pos (by simpa using hi)];rfl
theorem qh7 {s : List UInt32} (hs : s.length = 16) {i j k l : Nat} (hi : i < 16) (hj : j < 16) (hk : k < 16) (hl : l < 16) (a b c d : UInt32) {i' j' k' l' : Nat} (ei : i' = i) (ej : j' = j) (ek : k' = k) (el : l' = l) {X Y Z W : List Value}
    (h1 : X = (w32s s).take i' ++ ([w32 a] ++ (w32s s).drop (i' + 1))) (h2 : Y = X.take j' ++ ([w32 b] ++ X.drop (j' + 1))) (h3 : Z = Y.take k' ++ ([w32 c] ++ Y.drop (k' + 1))) (h4 : W = Z.take l' ++ ([w32 d] ++ Z.drop (l' + 1))) : W = w32s ((((s.set i a).set j b).set k c).set l d):=by
  subst ei ej ek el;rw [q55 (by omega)] at h1;subst h1;rw [q55 (by rw [List.length_set];omega)] at h2;subst h2;rw [q55 (by rw [List.length_set,List.length_set];omega)] at h3;subst h3;rw [q55 (by rw [List.length_set,List.length_set,List.length_set];omega)] at h4;exact h4
theorem q30 (A : HP) (g : Nat) (s : List UInt32) (hs : s.length = 16) (i j k l : Nat) (hi : i < 16) (hj : j < 16) (hk : k < 16) (hl : l < 16) :
    Con Tryz.prog 195 [.c (.rp g 0),.c (.int .i64 i),.c (.int .i64 j),.c (.int .i64 k),.c (.int .i64 l)] [(g,[.many 16 (w32s s)],255)] [] A (fun _ : Unit=>True) (fun _=>.tup []) (fun _=>[(g,[.many 16 (w32s (qAt s i j k l))],255)]) (fun _=>[]):=by
  have hks:=wmk hs;refine Con.of' tt_ok Tryz.func195 rfl (by decide) [.c (.ptr 1000 0),.c (.int .i64 i),.c (.int .i64 j),.c (.int .i64 k),.c (.int .i64 l)] [(1000,g)] [(1000,[.many 16 (w32s s)],255)] rfl rfl ⟨⟨trivial,hks _,trivial⟩,trivial⟩ kk rfl ?_;(conv=>whnf);refine Draw.a (by kernel_rfl) tt_ok (Tv.of (List.range 24) .nil) 1000000 (by kernel_rfl) ?_;(conv=>whnf);refine ⟨by omega,?_⟩;(conv=>whnf);refine q0m i (by show (i : Int).toNat * 1 = i;omega) (by omega) ?_;(conv=>whnf);refine ⟨by omega,?_⟩;conv=>whnf
  refine q0m j (by show (j : Int).toNat * 1 = j;omega) (by omega) ?_;(conv=>whnf);refine ⟨by omega,?_⟩;(conv=>whnf);refine q0m k (by show (k : Int).toNat * 1 = k;omega) (by omega) ?_;(conv=>whnf);refine ⟨by omega,?_⟩;(conv=>whnf);refine q0m l (by show (l : Int).toNat * 1 = l;omega) (by omega) ?_;(conv=>whnf);have hq : qAt s i j k l = (((s.set i (qA (wg s i) (wg s j) (wg s k) (wg s l))).set j (qB (wg s i) (wg s j) (wg s k) (wg s l))).set k (qC (wg s i) (wg s j) (wg s k) (wg s l))).set l (qD (wg s i) (wg s j) (wg s k) (wg s l)):=rfl;rw [hq]
  generalize wg s i = a;generalize wg s j = b;generalize wg s k = c;generalize wg s l = d;refine Ar.wadd (.base a) (.base b) ?_;(conv=>whnf);generalize e1 : a + b = a1;rw [(Wd.xor (.base d) (.base a1)).h];refine Cq.pu (rot_c _ (d ^^^ a1) 16 16 (by decide) (by decide) (by decide)) rfl ?_;generalize e2 : rotl (d ^^^ a1) 16 = d1;(conv=>whnf);refine Ar.wadd (.base c) (.base d1) ?_;generalize e3 : c + d1 = c1;(conv=>whnf);rw [(Wd.xor (.base b) (.base c1)).h];refine Cq.pu (rot_c _ (b ^^^ c1) 12 12 (by decide) (by decide) (by decide)) rfl ?_
  generalize e4 : rotl (b ^^^ c1) 12 = b1;(conv=>whnf);refine Ar.wadd (.base a1) (.base b1) ?_;generalize e5 : a1 + b1 = a2;(conv=>whnf);rw [(Wd.xor (.base d1) (.base a2)).h];refine Cq.pu (rot_c _ (d1 ^^^ a2) 8 8 (by decide) (by decide) (by decide)) rfl ?_;generalize e6 : rotl (d1 ^^^ a2) 8 = d2;(conv=>whnf);refine Ar.wadd (.base c1) (.base d2) ?_;generalize e7 : c1 + d2 = c2;(conv=>whnf);rw [(Wd.xor (.base b1) (.base c2)).h];refine Cq.pu (rot_c _ (b1 ^^^ c2) 7 7 (by decide) (by decide) (by decide)) rfl ?_;generalize e8 : rotl (b1 ^^^ c2) 7 = b2
  have ea : qA a b c d = a2:=by rw [← e5,← e4,← e3,← e2,← e1];rfl
  have ed : qD a b c d = d2:=by rw [← e6,← ea,← e2,← e1];rfl
  have ec : qC a b c d = c2:=by rw [← e7,← ed,← e3,← e2,← e1];rfl
  have eb : qB a b c d = b2:=by rw [← e8,← ec,← e4,← e3,← e2,← e1];rfl
  rw [ea,eb,ec,ed];(conv=>whnf);refine Draw.a (by kernel_rfl) tt_ok (Tv.of [0,1,2,3,4,5,6,7,8,9,10,11,12,13,15,18,21,14,16,17,19,20,22,23] .nil) 14 (by kernel_rfl) ?_;(conv=>whnf);refine ⟨by omega,?_⟩;(conv=>whnf);refine ⟨⟨rfl,by show (i : Int).toNat * 1 + 1 ≤ 16;omega⟩,?_⟩;(conv=>whnf);refine ⟨by omega,?_⟩;(conv=>whnf);refine ⟨⟨rfl,by show (j : Int).toNat * 1 + 1 ≤ 16;omega⟩,?_⟩;(conv=>whnf);refine ⟨by omega,?_⟩;(conv=>whnf);refine ⟨⟨rfl,by show (k : Int).toNat * 1 + 1 ≤ 16;omega⟩,?_⟩;conv=>whnf
  refine ⟨by omega,?_⟩;(conv=>whnf);refine ⟨⟨rfl,by show (l : Int).toNat * 1 + 1 ≤ 16;omega⟩,?_⟩;(conv=>whnf);have hl4 : ((((s.set i a2).set j b2).set k c2).set l d2).length = 16:=by simp [hs]
  refine Ret.m () [1000] [0] trivial rfl trivial ⟨⟨wmk hl4 _,trivial⟩,trivial⟩ ⟨?_,rfl⟩;have e4:=qh7 hs hi hj hk hl a2 b2 c2 d2 (i':=(i : Int).toNat * 1) (j':=(j : Int).toNat * 1) (k':=(k : Int).toNat * 1) (l':=(l : Int).toNat * 1) (by omega) (by omega) (by omega) (by omega) rfl rfl rfl rfl;rw [← e4];rfl
theorem qm3 (A : HP) (g : Nat) (s0 : List UInt32) (h0 : s0.length = 16) :
    Con Tryz.prog 180 [.c (.rp g 0)] [(g,[.many 16 (w32s s0)],255)] [] A (fun _ : Unit=>True) (fun _=>.tup []) (fun _=>[(g,[.many 16 (w32s (dblC s0))],255)]) (fun _=>[]):=by
  refine Con.of' tt_ok Tryz.func180 rfl (by decide) [.c (.ptr 1000 0)] [(1000,g)] [(1000,[.many 16 (w32s s0)],255)] rfl rfl ⟨⟨trivial,wmk h0 _,trivial⟩,trivial⟩ kk rfl ?_;unfold dblC diaS colS;(conv=>whnf);refine Cq.by' [1000] [] (q30 _ g s0 h0 0 4 8 12 (by decide) (by decide) (by decide) (by decide)) rfl ⟨rfl,rfl,rfl,fun _ _=>⟨rfl,?_⟩⟩
  have h1 : (qAt s0 0 4 8 12).length = 16:=by rw [q3f];exact h0
  generalize qAt s0 0 4 8 12 = s1 at h1 ⊢;(conv=>whnf);refine Cq.by' [1000] [] (q30 _ g s1 h1 1 5 9 13 (by decide) (by decide) (by decide) (by decide)) rfl ⟨rfl,rfl,rfl,fun _ _=>⟨rfl,?_⟩⟩
  have h2 : (qAt s1 1 5 9 13).length = 16:=by rw [q3f];exact h1
  generalize qAt s1 1 5 9 13 = s2 at h2 ⊢;(conv=>whnf);refine Cq.by' [1000] [] (q30 _ g s2 h2 2 6 10 14 (by decide) (by decide) (by decide) (by decide)) rfl ⟨rfl,rfl,rfl,fun _ _=>⟨rfl,?_⟩⟩
  have h3 : (qAt s2 2 6 10 14).length = 16:=by rw [q3f];exact h2
  generalize qAt s2 2 6 10 14 = s3 at h3 ⊢;(conv=>whnf);refine Cq.by' [1000] [] (q30 _ g s3 h3 3 7 11 15 (by decide) (by decide) (by decide) (by decide)) rfl ⟨rfl,rfl,rfl,fun _ _=>⟨rfl,?_⟩⟩
  have h4 : (qAt s3 3 7 11 15).length = 16:=by rw [q3f];exact h3
  generalize qAt s3 3 7 11 15 = s4 at h4 ⊢;(conv=>whnf);refine Cq.by' [1000] [] (q30 _ g s4 h4 0 5 10 15 (by decide) (by decide) (by decide) (by decide)) rfl ⟨rfl,rfl,rfl,fun _ _=>⟨rfl,?_⟩⟩
  have h5 : (qAt s4 0 5 10 15).length = 16:=by rw [q3f];exact h4
  generalize qAt s4 0 5 10 15 = s5 at h5 ⊢;(conv=>whnf);refine Cq.by' [1000] [] (q30 _ g s5 h5 1 6 11 12 (by decide) (by decide) (by decide) (by decide)) rfl ⟨rfl,rfl,rfl,fun _ _=>⟨rfl,?_⟩⟩
  have h6 : (qAt s5 1 6 11 12).length = 16:=by rw [q3f];exact h5
  generalize qAt s5 1 6 11 12 = s6 at h6 ⊢;(conv=>whnf);refine Cq.by' [1000] [] (q30 _ g s6 h6 2 7 8 13 (by decide) (by decide) (by decide) (by decide)) rfl ⟨rfl,rfl,rfl,fun _ _=>⟨rfl,?_⟩⟩
  have h7 : (qAt s6 2 7 8 13).length = 16:=by rw [q3f];exact h6
  generalize qAt s6 2 7 8 13 = s7 at h7 ⊢;(conv=>whnf);refine Cq.by' [1000] [] (q30 _ g s7 h7 3 4 9 14 (by decide) (by decide) (by decide) (by decide)) rfl ⟨rfl,rfl,rfl,fun _ _=>⟨rfl,?_⟩⟩
  have h8 : (qAt s7 3 4 9 14).length = 16:=by rw [q3f];exact h7
  generalize qAt s7 3 4 9 14 = s8 at h8 ⊢;(conv=>whnf);exact Ret.m () [1000] [0] trivial rfl trivial ⟨⟨wmk h8 _,trivial⟩,trivial⟩ ⟨rfl,rfl⟩
end
section
def bgL (key n : List UInt8) (count : UInt32) (i j : Nat) : List UInt32 :=
  [0x61707865,0x3320646e,0x79622d32,0x6b206574] ++ ((List.range 8).map (fun a=>if a < i then wordL (key.drop (4 * a)) else 0) ++ (count :: (List.range 3).map fun a=>if a < j then wordL (n.drop (4 * a)) else 0))
theorem q7a (key n : List UInt8) (count : UInt32) (i j : Nat) : (bgL key n count i j).length = 16:=by simp [bgL]
theorem qo9 (key n : List UInt8) (count : UInt32) : bgL key n count 8 3 = q3l key n count:=rfl
theorem qiw (key n : List UInt8) (count : UInt32) (i : Nat) (h : i < 8) : (bgL key n count i 0).set (4 + i) (wordL (key.drop (4 * i))) = bgL key n count (i + 1) 0:=by
  obtain rfl | rfl | rfl | rfl | rfl | rfl | rfl | rfl : i = 0 ∨ i = 1 ∨ i = 2 ∨ i = 3 ∨ i = 4 ∨ i = 5 ∨ i = 6 ∨ i = 7:=by omega
  all_goals rfl
theorem qe0 (key n : List UInt8) (count : UInt32) (i : Nat) (h : i < 3) : (bgL key n count 8 i).set (13 + i) (wordL (n.drop (4 * i))) = bgL key n count 8 (i + 1):=by
  obtain rfl | rfl | rfl : i = 0 ∨ i = 1 ∨ i = 2:=by omega
  all_goals rfl
theorem qk9 {b t : Nat} {l : List UInt8} {fz : Nat × Nat} (k : Nat) : Rd (blk b (.cells (u8s l ++ []).toArray t fz)) (some (radr (b,k))) (u8s (l.drop k)) :=
  Rd.blk rfl fun j u h=>by
    show (u8s l ++ []).toArray[k + j]? = some u;rw [List.append_nil,List.getElem?_toArray];rw [u8s,List.getElem?_map,List.getElem?_drop] at h;rw [u8s,List.getElem?_map];exact h
theorem qjb (b : Nat) (k m : Nat) {z : Int} (hz : (m : Int) = z) {M L : Nat} (h : m < M) (hL : L = M - m) :
    [Value.slice (cutA (some (radr (b,0))) M z.toNat 1) ((M : Int).toNat - z.toNat) (M - z.toNat)] = [Value.slice (some (radr (b,m))) L (M - m)]:=by
  subst hz hL;have e : ((m : Nat) : Int).toNat = m:=rfl;have e2 : ((M : Nat) : Int).toNat = M:=rfl;rw [e,e2];unfold cutA;rw [if_neg (by omega),Nat.mul_one];show [Value.slice (some ((⟨b,0,none⟩ : Addr).add m)) _ _] = _;rw [q0l,Nat.zero_add];rfl
theorem qmh (A : HP) (key n : List UInt8) (count : UInt32) (hk : key.length = 32) (hn : n.length = 12) :
    Pu Tryz.prog 179 [.agg [.many 32 (u8s key)],.agg [.many 12 (u8s n)],.c (.int .u32 (count.toNat : Int))] A (.agg [.many 16 (w32s (q3l key n count))]):=by
  have hz : (List.replicate 16 (Value.int .u32 0)).length = 16:=List.length_replicate;have hz2 : ∀ v ∈ (List.replicate 16 (Value.int .u32 0)),Value.oneCell' v = true:=fun v hv=>by rw [(List.mem_replicate.1 hv).2];rfl
  refine Con.of' tt_ok Tryz.func179 rfl (by decide) [.agg [.many 32 (u8s key)],.agg [.many 12 (u8s n)],.c (.int .u32 (count.toNat : Int))] [] [] rfl rfl trivial ⟨⟨mok hk _,trivial⟩,⟨mok hn _,trivial⟩,trivial,trivial⟩ rfl ?_;(conv=>whnf);intro b3;(conv=>whnf);intro b4;(conv=>whnf);intro b6;(conv=>whnf);intro b7;conv=>whnf
  refine LoopOb.m (σ:=Nat) (fun i=>[(3,.c (.ptr 3 0)),(4,.c (.ptr 4 0)),(6,.c (.ptr 6 0)),(7,.c (.ptr 7 0)),(12,.c (.int .i64 i))])
    (fun i=>⟨[(7,b7),(6,b6),(4,b4),(3,b3)],[(7,[.many 16 (w32s (bgL key n count i 0))],255),(6,[.many 16 (List.replicate 16 (Value.int .u32 0))],255),(4,[.many 12 (u8s n)],192),(3,[.many 32 (u8s key)],23)],[A]⟩)
    (fun i=>i ≤ 8) (fun i=>8 - i) 0 (by omega) (Wk.m [7,6,4,3] [0] kk ⟨⟨kk,wmk (q7a _ _ _ _ _) _,trivial⟩,⟨kk,⟨hz,hz2⟩,trivial⟩,⟨kk,mok hn _,trivial⟩,⟨kk,mok hk _,trivial⟩,trivial⟩ ⟨rfl,rfl⟩) ?_
  intro i hi;(conv=>whnf);refine Cond.d (fun h=>?_) (fun h=>?_)
  · have hi' : i < 8:=by omega
    (conv=>whnf);refine Ar.i64 (by omega) ?_;(conv=>whnf);refine Ar.i64 (by omega) ?_;(conv=>whnf);refine ⟨by omega,?_⟩;(conv=>whnf);refine Cq.pu (qio _ (blk b3 (.cells (u8s key ++ []).toArray 23)) (Ent.a mm) (some (radr (b3,4 * i))) (32 - 4 * i) (key.drop (4 * i)) (qk9 _) (by rw [List.length_drop,hk];omega)) (qjb b3 0 (4 * i) (by omega) (by omega) (by rw [List.length_drop,hk])) ?_;(conv=>whnf);refine ⟨by omega,?_⟩;(conv=>whnf);refine ⟨⟨rfl,by show ((4 : Int) + i).toNat * 1 + 1 ≤ 16;omega⟩,?_⟩;(conv=>whnf);refine Ar.i64 (by omega) ?_
    (conv=>whnf);have s1:=q55 (l:=bgL key n count i 0) (i:=4 + i) (x:=wordL (key.drop (4 * i))) (by rw [q7a];omega);rw [qiw key n count i hi'] at s1
    have s2 : (w32s (bgL key n count i 0)).take (((4 : Int) + i).toNat * 1) ++ ([w32 (wordL (key.drop (4 * i)))] ++ (w32s (bgL key n count i 0)).drop (((4 : Int) + i).toNat * 1 + 1)) = w32s (bgL key n count (i + 1) 0):=by
      rw [show ((4 : Int) + i).toNat * 1 = 4 + i by omega];exact s1
    refine ⟨i + 1,by omega,by omega,Wk.m [7,6,4,3] [0] kk ⟨⟨kk,wmk (q7a _ _ _ _ _) _,trivial⟩,⟨kk,⟨hz,hz2⟩,trivial⟩,⟨kk,mok hn _,trivial⟩,⟨kk,mok hk _,trivial⟩,trivial⟩ ⟨?_,rfl⟩⟩;rw [← s2];rfl
  obtain rfl : i = 8:=by omega
  conv=>whnf
  refine LoopOb.m (σ:=Nat) (fun i=>[(4,.c (.ptr 4 0)),(6,.c (.ptr 6 0)),(7,.c (.ptr 7 0)),(23,.c (.int .i64 i))])
    (fun i=>⟨[(7,b7),(6,b6),(4,b4)],[(7,[.many 16 (w32s (bgL key n count 8 i))],255),(6,[.many 16 (List.replicate 16 (Value.int .u32 0))],255),(4,[.many 12 (u8s n)],192)],[A]⟩)
    (fun i=>i ≤ 3) (fun i=>3 - i) 0 (by omega) (Wk.m [7,6,4] [0] kk ⟨⟨kk,wmk (q7a _ _ _ _ _) _,trivial⟩,⟨kk,⟨hz,hz2⟩,trivial⟩,⟨kk,mok hn _,trivial⟩,trivial⟩ ⟨rfl,rfl⟩) ?_
  intro i hi;(conv=>whnf);refine Cond.d (fun h=>?_) (fun h=>?_)
  · have hi' : i < 3:=by omega
    (conv=>whnf);refine Ar.i64 (by omega) ?_;(conv=>whnf);refine Ar.i64 (by omega) ?_;(conv=>whnf);refine ⟨by omega,?_⟩;(conv=>whnf);refine Cq.pu (qio _ (blk b4 (.cells (u8s n ++ []).toArray 192)) (Ent.a mm) (some (radr (b4,4 * i))) (12 - 4 * i) (n.drop (4 * i)) (qk9 _) (by rw [List.length_drop,hn];omega)) (qjb b4 0 (4 * i) (by omega) (by omega) (by rw [List.length_drop,hn])) ?_;(conv=>whnf);refine ⟨by omega,?_⟩;(conv=>whnf);refine ⟨⟨rfl,by show ((13 : Int) + i).toNat * 1 + 1 ≤ 16;omega⟩,?_⟩;(conv=>whnf);refine Ar.i64 (by omega) ?_
    (conv=>whnf);have s1:=q55 (l:=bgL key n count 8 i) (i:=13 + i) (x:=wordL (n.drop (4 * i))) (by rw [q7a];omega);rw [qe0 key n count i hi'] at s1
    have s2 : (w32s (bgL key n count 8 i)).take (((13 : Int) + i).toNat * 1) ++ ([w32 (wordL (n.drop (4 * i)))] ++ (w32s (bgL key n count 8 i)).drop (((13 : Int) + i).toNat * 1 + 1)) = w32s (bgL key n count 8 (i + 1)):=by
      rw [show ((13 : Int) + i).toNat * 1 = 13 + i by omega];exact s1
    refine ⟨i + 1,by omega,by omega,Wk.m [7,6,4] [0] kk ⟨⟨kk,wmk (q7a _ _ _ _ _) _,trivial⟩,⟨kk,⟨hz,hz2⟩,trivial⟩,⟨kk,mok hn _,trivial⟩,trivial⟩ ⟨?_,rfl⟩⟩;rw [← s2];rfl
  obtain rfl : i = 3:=by omega
  rw [qo9];(conv=>whnf);exact Ret.m () [] [0] trivial rfl ⟨wmk (q6o _ _ _) _,trivial⟩ trivial ⟨rfl,rfl⟩
end
section
theorem qez : ∀ (w : List UInt32) (i k : Nat),i < w.length → k < 4 → (sumL w)[4 * i + k]? = some (wg w i >>> UInt32.ofNat (8 * k)).toUInt8
  | [],i,k,h,_=>absurd h (by simp)
  | a :: r,0,k,_,hk=>by
    obtain rfl | rfl | rfl | rfl : k = 0 ∨ k = 1 ∨ k = 2 ∨ k = 3:=by omega
    all_goals rfl
  | a :: r,i + 1,k,h,hk=>by
    show (bytL a ++ sumL r)[4 * (i + 1) + k]? = _;have e : (bytL a).length = 4:=rfl;rw [List.getElem?_append_right (by omega),e,show 4 * (i + 1) + k - 4 = 4 * i + k by omega,qez r i k (by simpa using h) hk];rfl
def fillP (D : List UInt8) (n m : Nat) : List UInt8:=D.take m ++ List.replicate (n - m) 0
theorem q3j {D : List UInt8} {n : Nat} (h : D.length = n) {m : Nat} (hm : m ≤ n) : (fillP D n m).length = n:=by simp [fillP];omega
theorem qch {D : List UInt8} {n : Nat} (h : D.length = n) {m : Nat} (hm : m < n) {c : UInt8} (hc : D[m]? = some c) : (u8s (fillP D n m)).take m ++ ([u8 c] ++ (u8s (fillP D n m)).drop (m + 1)) = u8s (fillP D n (m + 1)):=by
  have e1 : (D.take m).length = m:=by rw [List.length_take];omega
  have hD : D[m]'(by omega) = c:=by
    rw [List.getElem?_eq_getElem (by omega)] at hc;exact Option.some.inj hc
  have e2 : D.take (m + 1) = D.take m ++ [c]:=by rw [List.take_succ_eq_append_getElem (by omega),hD]
  have es : (fillP D n m).set m c = fillP D n (m + 1):=by
    unfold fillP;rw [List.set_append_right _ _ (by omega),e1,Nat.sub_self,show n - m = (n - (m + 1)) + 1 by omega,List.replicate_succ,List.set_cons_zero,e2,List.append_assoc];rfl
  rw [← es];show _ = ((fillP D n m).set m c).map u8;rw [List.map_set,List.set_eq_take_append_cons_drop,if_pos (by rw [List.length_map,q3j h (by omega)];exact hm)];rfl
theorem qaj (D : List UInt8) (n : Nat) : fillP D n 0 = List.replicate n 0:=by simp [fillP]
theorem qda {D : List UInt8} {n : Nat} (h : D.length = n) : fillP D n n = D:=by unfold fillP;rw [List.take_of_length_le (by omega)];simp
theorem qju (key n : List UInt8) (count : UInt32) {i : Nat} (h : i < 16) : wg (blkW key n count) i = wg (dblN (q3l key n count) 10) i + wg (q3l key n count) i:=by
  unfold blkW;rw [wg_eq (by simpa using h)];simp
theorem qpp (A : HP) (key n : List UInt8) (count : UInt32) (hk : key.length = 32) (hn : n.length = 12) :
    Pu Tryz.prog 153 [.agg [.many 32 (u8s key)],.agg [.many 12 (u8s n)],.c (.int .u32 (count.toNat : Int))] A (.agg [.many 64 (u8s (q3w key n count))]):=by
  have hz : (List.replicate 64 (Value.int .u8 0)).length = 64:=List.length_replicate;have hz2 : ∀ v ∈ (List.replicate 64 (Value.int .u8 0)),Value.oneCell' v = true:=fun v hv=>by rw [(List.mem_replicate.1 hv).2];rfl
  have hDl:=q3y key n count;have hF : (q3l key n count).length = 16:=q6o _ _ _;have hb:=fun A=>qmh A key n count hk hn;have hW : q3w key n count = sumL (blkW key n count):=rfl;have hWl : (blkW key n count).length = 16:=by simp [blkW]
  have hWg:=fun i (h : i < 16)=>qju key n count h;generalize blkW key n count = W at hW hWl hWg;generalize q3w key n count = D at hDl hW ⊢;generalize q3l key n count = F at hF hb hWg;refine Con.of' tt_ok Tryz.func153 rfl (by decide) [.agg [.many 32 (u8s key)],.agg [.many 12 (u8s n)],.c (.int .u32 (count.toNat : Int))] [] [] rfl rfl trivial ⟨⟨mok hk _,trivial⟩,⟨mok hn _,trivial⟩,trivial,trivial⟩ rfl ?_;(conv=>whnf);intro b3;(conv=>whnf);intro b4;(conv=>whnf);intro b6;(conv=>whnf);refine Cq.pu (hb _) rfl ?_;(conv=>whnf);intro b7
  (conv=>whnf);intro b8;(conv=>whnf);have hS : ∀ k,(dblN F k).length = 16:=fun k=>(qb9 F k).trans hF
  refine LoopOb.m (σ:=Nat) (fun i=>[(6,.c (.ptr 6 0)),(7,.c (.ptr 7 0)),(8,.c (.ptr 8 0)),(18,.c (.int .i64 i))])
    (fun i=>⟨[(8,b8),(7,b7),(6,b6)],[(8,[.many 16 (w32s (dblN F i))],255),(7,[.many 16 (w32s F)],255),(6,[.many 64 (List.replicate 64 (Value.int .u8 0))],225)],[A]⟩)
    (fun i=>i ≤ 10) (fun i=>10 - i) 0 (by omega) (Wk.m [8,7,6] [0] kk ⟨⟨kk,wmk hF _,trivial⟩,⟨kk,wmk hF _,trivial⟩,⟨kk,⟨hz,hz2⟩,trivial⟩,trivial⟩ ⟨rfl,rfl⟩) ?_
  intro i hi;(conv=>whnf);refine Cond.d (fun h=>?_) (fun h=>?_)
  · have hi' : i < 10:=by omega
    (conv=>whnf);refine Cq.by' [8] [] (qm3 _ b8 (dblN F i) (hS i)) rfl ⟨rfl,rfl,rfl,fun _ _=>⟨rfl,?_⟩⟩
    (conv=>whnf);refine Ar.i64 (by omega) ?_;(conv=>whnf);exact ⟨i + 1,by omega,by omega,Wk.m [8,7,6] [0] kk ⟨⟨kk,wmk (hS (i + 1)) _,trivial⟩,⟨kk,wmk hF _,trivial⟩,⟨kk,⟨hz,hz2⟩,trivial⟩,trivial⟩ ⟨rfl,rfl⟩⟩
  obtain rfl : i = 10:=by omega
  have hS10:=hS 10;generalize dblN F 10 = S at hS10 hWg ⊢;(conv=>whnf);intro b9;conv=>whnf
  refine LoopOb.m (σ:=Nat) (fun i=>[(6,.c (.ptr 6 0)),(7,.c (.ptr 7 0)),(9,.c (.ptr 9 0)),(22,.agg [.many 16 (w32s S)]),(23,.c (.int .i64 i))])
    (fun i=>⟨[(9,b9),(7,b7),(6,b6)],[(9,[.many 64 (u8s (fillP D 64 (4 * i)))],225),(7,[.many 16 (w32s F)],255),(6,[.many 64 (List.replicate 64 (Value.int .u8 0))],225)],[A]⟩)
    (fun i=>i ≤ 16) (fun i=>16 - i) 0 (by omega) (Wk.m [9,7,6] [0] ⟨⟨rfl,kk⟩,⟨rfl,kk⟩,⟨rfl,kk⟩,⟨rfl,q04 ⟨wmk hS10 _,trivial⟩⟩,⟨rfl,kk⟩,trivial⟩ ⟨⟨kk,mok (q3j hDl (by omega)) _,trivial⟩,⟨kk,wmk hF _,trivial⟩,⟨kk,⟨hz,hz2⟩,trivial⟩,trivial⟩ ⟨by rw [Nat.mul_zero,qaj];rfl,rfl⟩) ?_
  intro i hi;(conv=>whnf);refine Cond.d (fun h=>?_) (fun h=>?_)
  · have hi' : i < 16:=by omega
    (conv=>whnf);refine ⟨by omega,?_⟩;refine q0m i (by show (i : Int).toNat * 1 = i;omega) (by omega) ?_;(conv=>whnf);refine ⟨by omega,?_⟩;(conv=>whnf);refine q0m i (by show (i : Int).toNat * 1 = i;omega) (by omega) ?_;(conv=>whnf);refine Ar.wadd (.base _) (.base _) ?_;rw [← hWg i hi'];have hWi:=fun k (hk : k < 4)=>qez W i k (by omega) hk;rw [← hW] at hWi;generalize wg W i = w at hWi ⊢;conv=>whnf
    refine LoopOb.m (σ:=Nat) (fun k=>[(6,.c (.ptr 6 0)),(7,.c (.ptr 7 0)),(9,.c (.ptr 9 0)),(10,.c (.int .i64 i)),(11,.c (.int .u32 (w.toNat : Int))),(22,.agg [.many 16 (w32s S)]),(23,.c (.int .i64 i)),(32,.c (.int .i64 k))])
      (fun k=>⟨[(9,b9),(7,b7),(6,b6)],[(9,[.many 64 (u8s (fillP D 64 (4 * i + k)))],225),(7,[.many 16 (w32s F)],255),(6,[.many 64 (List.replicate 64 (Value.int .u8 0))],225)],[A]⟩)
      (fun k=>k ≤ 4) (fun k=>4 - k) 0 (by omega) (Wk.m [9,7,6] [0] ⟨⟨rfl,kk⟩,⟨rfl,kk⟩,⟨rfl,kk⟩,⟨rfl,kk⟩,⟨rfl,kk⟩,⟨rfl,q04 ⟨wmk hS10 _,trivial⟩⟩,⟨rfl,kk⟩,⟨rfl,kk⟩,trivial⟩ ⟨⟨kk,mok (q3j hDl (by omega)) _,trivial⟩,⟨kk,wmk hF _,trivial⟩,⟨kk,⟨hz,hz2⟩,trivial⟩,trivial⟩ ⟨rfl,rfl⟩) ?_
    intro k hk;(conv=>whnf);refine Cond.d (fun h2=>?_) (fun h2=>?_)
    · have hk' : k < 4:=by omega
      (conv=>whnf);refine Ar.i64 (by omega) ?_;(conv=>whnf);refine Ar.i64 (by omega) ?_;(conv=>whnf);refine Ar.i64 (by omega) ?_;(conv=>whnf);refine ⟨by omega,?_⟩;(conv=>whnf);rw [show min ((8 : Int) * k).toNat IntKind.u32.bits = 8 * k by simp only [IntKind.bits];omega];refine Ar.wbyte (Wd.shr (.base w) (8 * k) (by omega)) ?_;(conv=>whnf);refine ⟨by omega,?_⟩;(conv=>whnf);refine ⟨⟨rfl,by show ((4 : Int) * i + k).toNat * 1 + 1 ≤ 64;omega⟩,?_⟩;(conv=>whnf);refine Ar.i64 (by omega) ?_;conv=>whnf
      have s1:=qch hDl (m:=4 * i + k) (by omega) (hWi k hk')
      have s2 : (u8s (fillP D 64 (4 * i + k))).take (((4 : Int) * i + k).toNat * 1) ++ ([u8 ((w >>> UInt32.ofNat (8 * k)).toUInt8)] ++ (u8s (fillP D 64 (4 * i + k))).drop (((4 : Int) * i + k).toNat * 1 + 1)) = u8s (fillP D 64 (4 * i + (k + 1))):=by
        rw [show ((4 : Int) * i + k).toNat * 1 = 4 * i + k by omega];exact s1
      refine ⟨k + 1,by omega,by omega,Wk.m [9,7,6] [0] ⟨⟨rfl,kk⟩,⟨rfl,kk⟩,⟨rfl,kk⟩,⟨rfl,kk⟩,⟨rfl,kk⟩,⟨rfl,q04 ⟨wmk hS10 _,trivial⟩⟩,⟨rfl,kk⟩,⟨rfl,kk⟩,trivial⟩ ⟨⟨kk,mok (q3j hDl (by omega)) _,trivial⟩,⟨kk,wmk hF _,trivial⟩,⟨kk,⟨hz,hz2⟩,trivial⟩,trivial⟩ ⟨?_,rfl⟩⟩;rw [← s2];rfl
    obtain rfl : k = 4:=by omega
    (conv=>whnf);refine Ar.i64 (by omega) ?_;(conv=>whnf);exact ⟨i + 1,by omega,by omega,Wk.m [9,7,6] [0] ⟨⟨rfl,kk⟩,⟨rfl,kk⟩,⟨rfl,kk⟩,⟨rfl,q04 ⟨wmk hS10 _,trivial⟩⟩,⟨rfl,kk⟩,trivial⟩ ⟨⟨kk,mok (q3j hDl (by omega)) _,trivial⟩,⟨kk,wmk hF _,trivial⟩,⟨kk,⟨hz,hz2⟩,trivial⟩,trivial⟩ ⟨rfl,rfl⟩⟩
  obtain rfl : i = 16:=by omega
  rw [qda hDl];(conv=>whnf);exact Ret.m () [] [0] trivial rfl ⟨mok hDl _,trivial⟩ trivial ⟨rfl,rfl⟩
end
section
theorem Src.rsP {m : M} {A : HP} (hA : A ∈ m.props) {a : Option Addr} {k c : Nat} {ys : List Value} (hr : Rd A a ys) : Src m (.c (.rs a k c)) k ys:=by
  intro _ w hs;obtain ⟨g,hg,hp⟩:=qf3 (l:=m.props) hA hs
  rcases hr g hp with rfl | ⟨p,rfl,r'⟩
  · cases a with
    | none=>exact .inr (.inl ⟨c,rfl,rfl⟩)
    | some p=>exact .inl ⟨p,c,rfl,fun j u h=>by simp at h⟩
  · exact .inl ⟨radr p,c,rfl,fun j u h=>by simp only [radr,q0l];exact (r'.le hg).cell h⟩
theorem OwnO.pre {a : Option Addr} {cap e : Nat} {xs : List Value} (k : Nat) (hk : k ≤ xs.length) (h : Hp) (o : OwnO a cap e 1 xs h) : OwnO a k e 1 (xs.take k) h:=by
  rcases o with ⟨rfl,rfl,rfl⟩ | ⟨b,pre,junk,post,fz,rfl,hb,hl,hf,h1⟩
  · exact .inl ⟨rfl,by simpa using hk,by simp⟩
  · have e1 : pre ++ (xs ++ (junk ++ post)) = pre ++ (xs.take k ++ ([] ++ (xs.drop k ++ (junk ++ post)))):=by
      rw [List.nil_append,← List.append_assoc (xs.take k),List.take_append_drop]
    exact .inr ⟨b,pre,[],xs.drop k ++ (junk ++ post),fz,rfl,by rw [← e1];exact hb,by simp;omega,by rw [← e1];exact hf,by rw [← e1];exact h1⟩
theorem qap (a : Option Addr) (m s : Nat) : cutA a m 0 s = a:=by
  unfold cutA
  split
  · rfl
  · cases a <;> simp [Addr.add]
theorem qfp (A : HP) (key n : List UInt8) (count : UInt32) (long : Nat) (hk : key.length = 32) (hn : n.length = 12) (hl : long ≤ 65536) (hc : count.toNat + (long + 63) / 64 ≤ 4294967296) :
    Con Tryz.prog 114 [.agg [.many 32 (u8s key)],.agg [.many 12 (u8s n)],.c (.int .u32 (count.toNat : Int)),.c (.int .i64 long)] [] [] A (fun t : Option Addr=>t = none → long = 0) (fun t=>.tup [.c (.rs t long long),.c (.int .i64 0)]) (fun _=>[]) (fun t=>[OwnO t long 5 1 (u8s ((strS key n count ((long + 63) / 64)).take long))]):=by
  refine Con.of' tt_ok Tryz.func114 rfl (by decide) [.agg [.many 32 (u8s key)],.agg [.many 12 (u8s n)],.c (.int .u32 (count.toNat : Int)),.c (.int .i64 long)] [] [] rfl rfl trivial ⟨⟨mok hk _,trivial⟩,⟨mok hn _,trivial⟩,trivial,trivial,trivial⟩ rfl ?_;(conv=>whnf);intro b4;(conv=>whnf);intro b5;(conv=>whnf);refine Cond.d (fun h=>?_) (fun h=>?_)
  · omega
  (conv=>whnf);refine Cond.d (fun h=>?_) (fun h=>?_)
  · omega
  have hcl:=count.toNat_lt;(conv=>whnf);refine Ar.i64 (by omega) ?_;(conv=>whnf);refine Ar.i64 (by omega) ?_;(conv=>whnf);refine Ar.i64 (by omega) ?_;(conv=>whnf);refine ⟨by decide,?_⟩;rw [show ((long : Int) + 64 - 1).tdiv 64 = (((long + 63) / 64 : Nat) : Int) by rw [show (long : Int) + 64 - 1 = ((long + 63 : Nat) : Int) by omega];rfl];refine Ar.i64 (by omega) ?_;(conv=>whnf);refine Ar.i64 (by omega) ?_;(conv=>whnf);refine Cond.d (fun h=>?_) (fun h=>?_)
  · omega
  clear h;(conv=>whnf);refine Ar.i64 (by omega) ?_;(conv=>whnf);refine ⟨⟨by omega,by omega,by omega,by show (1 : Int) * _ ≤ _;omega⟩,?_⟩;intro b30;conv=>whnf
  refine LoopOb.m (σ:=Nat × Option Addr × Nat) (fun s=>[(2,.c (.int .u32 ((count + UInt32.ofNat s.1).toNat : Int))),(3,.c (.int .i64 long)),(4,.c (.ptr 4 0)),(5,.c (.ptr 5 0)),(10,.c (.rs s.2.1 (strS key n count s.1).length s.2.2))])
    (fun s=>⟨[(5,b5),(4,b4)],[(5,[.many 12 (u8s n)],192),(4,[.many 32 (u8s key)],23)],[Own s.2.1 s.2.2 5 1 (u8s (strS key n count s.1)),A]⟩)
    (fun s=>s.1 ≤ (long + 63) / 64 ∧ Fc s.2.1 s.2.2 (strS key n count s.1)) (fun s=>(long + 63) / 64 - s.1) (0,some (radr (b30,0)),long + 64) ⟨Nat.zero_le _,Nat.zero_le _,fun h=>by cases h⟩ ?_ ?_
  · refine Wk.own 30 0 (long + 64) 1 ⟨_,_,rfl,⟨by show 0 + ((long : Int) + 64).toNat = _;omega,Nat.zero_le _⟩,⟨⟨by simp,fun v hv=>by rw [(List.mem_replicate.1 hv).2];rfl⟩,trivial⟩,?_⟩;refine Wk.m [5,4] [0,0] ⟨⟨?_,kk⟩,⟨rfl,kk⟩,⟨rfl,kk⟩,⟨rfl,kk⟩,⟨?_,kk⟩,trivial⟩ ⟨⟨kk,mok hn _,trivial⟩,⟨kk,mok hk _,trivial⟩,trivial⟩ ⟨rfl,rfl⟩
    · show Value.int .u32 _ = Value.int .u32 _;rw [show count + UInt32.ofNat 0 = count by simp]
    · show Value.slice (some (radr (b30,0))) 0 ((long : Int) + 64).toNat = Value.slice (some (radr (b30,0))) 0 (long + 64);rw [show ((long : Int) + 64).toNat = long + 64 by omega]
  rintro ⟨m,a,c⟩ ⟨hm,hc⟩;dsimp only at hm hc ⊢;have hml:=q2t key n count m;(conv=>whnf);refine Cond.d (fun h=>?_) (fun h=>?_)
  · have hm' : m < (long + 63) / 64:=by omega
    (conv=>whnf);refine Cq.pu (qpp _ key n (count + UInt32.ofNat m) hk hn) rfl ?_;have hBl:=q3y key n (count + UInt32.ofNat m);have es : strS key n count (m + 1) = strS key n count m ++ q3w key n (count + UInt32.ofNat m):=rfl;generalize q3w key n (count + UInt32.ofNat m) = D at es hBl ⊢;(conv=>whnf);intro b11;(conv=>whnf);refine appb (l:=strS key n count m) (m:=D) (.refl _) (Src.slc (by exact ⟨[],by show (u8s D ++ []) = u8s D ++ [];rfl⟩)) rfl hBl.symm ⟨rfl,by decide,by decide⟩ (by rw [hml,hBl];omega) 24 (.inr rfl) ?_;intro a2 c2 hc2
    rw [← es] at hc2 ⊢;(conv=>whnf);refine Ar.wadd (.base (count + UInt32.ofNat m)) (.base 1) ?_;(conv=>whnf);refine ⟨(m + 1,a2,c2),⟨by dsimp only;omega,hc2⟩,by dsimp only;omega,Wk.m [5,4] [0,0] ⟨⟨?_,kk⟩,⟨rfl,kk⟩,⟨rfl,kk⟩,⟨rfl,kk⟩,⟨rfl,kk⟩,trivial⟩ ⟨⟨kk,mok hn _,trivial⟩,⟨kk,mok hk _,trivial⟩,trivial⟩ ⟨rfl,rfl⟩⟩;show Value.int .u32 ((count + UInt32.ofNat m + 1).toNat : Int) = Value.int .u32 ((count + UInt32.ofNat (m + 1)).toNat : Int);rw [UInt32.add_assoc,UInt32.ofNat_add];rfl
  obtain rfl : m = (long + 63) / 64:=by omega
  have hle : long ≤ (strS key n count ((long + 63) / 64)).length:=by omega
  have hcc:=hc.1;have hlen:=hml;generalize strS key n count ((long + 63) / 64) = L at hc hle hcc hlen ⊢;(conv=>whnf);refine ⟨⟨⟨by omega,by omega⟩,rfl⟩,⟨by omega,by omega⟩,?_⟩;(conv=>whnf);refine Ret.turn (F':=[OwnO a long 5 1 (u8s (L.take long)),A]) (fun g s=>q0x (fun g' h'=>?_) s) ?_
  · rw [q1e];exact OwnO.pre long (by rw [u8l];omega) g' (OwnO.of g' h')
  refine Ret.m a [] [0,0] (fun e=>by have:=hc.2 e;rw [this] at hle;simpa using hle) ?_ kk kk ⟨rfl,rfl⟩;show Value.tuple #[Value.slice (cutA a ((long : Int)).toNat 0 1) long long,_] = _;rw [qap];rfl
end
end Go.Proofs.YtfehjfoajlfhfaaGreatDoor
