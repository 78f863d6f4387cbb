import Derived.Test.YtckkhagclfmmdaaDoorQb
import Derived.Test.YtckkhagclfmmdaaDoorQf
namespace Go.Proofs.YtckkhagclfmmdaaDoor
open Go.Sx
set_option maxRecDepth 100000
set_option linter.unusedSimpArgs false
set_option linter.unusedVariables false
set_option pp.deepTerms false
set_option pp.maxSteps 300
section
def dv : List Nat → Nat
  | []=>0
  | a :: r=>a + 256 * dv r
end
section
end
section
end
section
end
section
end
section
end
section
end
section
end
section
end
section
theorem fm_lt (x y : Nat) : fm x y < Pm:=Nat.mod_lt _ q4c
end
section
end
section
abbrev pr (p : Pt) : List Seg:=[.many 32 (u8s (leB p.x 32)),.many 32 (u8s (leB p.z 32))]
abbrev ky (l : List UInt8) : List Seg:=[.many 32 (u8s l)]
end
section
end
section
def okK (l : List (List UInt8)) : Prop:=∀ k ∈ l,k.length = 32
def rowK (l : List (List UInt8)) : List Value:=(l.map u8s).flatten
theorem q4s (l m : List (List UInt8)) : rowK (l ++ m) = rowK l ++ rowK m:=by simp [rowK]
theorem q0q {l : List (List UInt8)} (h : okK l) : (rowK l).length = l.length * 32:=by
  have:=q16 (css:=l.map u8s) (n:=32) (fun c hc=>by simp at hc;obtain ⟨y,hy,rfl⟩:=hc;rw [u8l];exact h y hy)
  simpa [rowK] using this
theorem qdx {l : List (List UInt8)} (h : okK l) (k : Nat) : okK (l.take k):=fun x hx=>h x (List.mem_of_mem_take hx)
theorem q5v {l m : List (List UInt8)} (h : okK l) (h' : okK m) : okK (l ++ m):=fun x hx=>(List.mem_append.1 hx).elim (h x) (h' x)
theorem q7w {k : List UInt8} (h : k.length = 32) : okK [k]:=fun x hx=>by rw [List.mem_singleton.1 hx];exact h
theorem qfz {l : List (List UInt8)} (h : okK l) (k : Nat) (hk : k ≤ l.length) : (rowK l).drop (k * 32) = rowK (l.drop k):=by
  have e : rowK l = rowK (l.take k) ++ rowK (l.drop k):=by rw [← q4s,List.take_append_drop]
  have hl : (rowK (l.take k)).length = k * 32:=by rw [q0q (qdx h k),List.length_take,Nat.min_eq_left hk]
  rw [e,← hl,List.drop_left]
theorem ldk {t : Nat} {x : TyX} {b off : Nat} {m : M} {f : SV → Prop} {A : HP} {p : Nat × Nat} {l : List (List UInt8)} (i : Nat) (hA : A ∈ m.F) (hr : Rd A (some (radr p)) (rowK l)) (h : okK l) (hi : i < l.length)
    (hx : x.k.agg = true) (hn : x.size = 32) (hb : b = p.1) (ho : off = p.2 + i * 32) (hf : f (.agg [.many 32 (u8s l[i])])) : With (Ty Tryd.prog t x) (LdOb Tryd.prog t ⟨b,off,none⟩ m f):=by
  have hl : l[i].length = 32:=h _ (List.getElem_mem hi);have ed : ∀ B : Names,dens B [.many 32 (u8s l[i])] = u8s l[i]:=fun B=>List.append_nil _;refine lds (A:=A) (i * 32) [.many 32 (u8s l[i])] hx hA hr hb ho ?_ ?_ (by omega) (q02 ⟨mok hl _,trivial⟩) hf
  · rw [ed,hn,qfz h _ (by omega),List.drop_eq_getElem_cons hi];show _ = (u8s l[i] ++ rowK (l.drop (i + 1))).take 32;rw [← hl,← u8l,List.take_left]
  · rw [ed,u8l,hl,hn]
theorem q5z (k u : List UInt8) : q00 k u = (zk,7) ∨ q00 k u = (q0v (q03 k) (q0c u),0):=by
  by_cases h : q0v (q03 k) (q0c u) = zk
  · exact .inl (by unfold q00;rw [if_pos h])
  · exact .inr (by unfold q00;rw [if_neg h])
theorem q1f (k u : List UInt8) : (q00 k u).1.length = 32:=by
  rcases q5z k u with h | h
  · rw [h];exact q3n
  · rw [h];exact q1j _ _
theorem qc9 (k u : List UInt8) : 0 ≤ (q00 k u).2 ∧ (q00 k u).2 ≤ 7:=by
  rcases q5z k u with h | h
  · rw [h];exact ⟨by show (0 : Int) ≤ 7;decide,by show (7 : Int) ≤ 7;decide⟩
  · rw [h];exact ⟨by show (0 : Int) ≤ 0;decide,by show (0 : Int) ≤ 7;decide⟩
attribute [local irreducible] q00 q0v q0c
theorem q7n : ∀ (l : List (List UInt8)) (r : List UInt8),r.length = 32 → (q1r l r).1.length = 32
  | [],_,h=>h
  | k :: l,r,h=>by
    by_cases h0 : (q00 k r).2 = 0
    · rw [show q1r (k :: l) r = q1r l (q00 k r).1 from if_pos h0];exact q7n l _ (q1f _ _)
    · rw [show q1r (k :: l) r = (zk,(q00 k r).2) from if_neg h0];exact q3n
theorem q8i {k r : List UInt8} {l : List (List UInt8)} (h : (q00 k r).2 ≠ 0) : q1r (k :: l) r = (zk,(q00 k r).2):=if_neg h
theorem q84 {k r : List UInt8} {l : List (List UInt8)} (h : (q00 k r).2 = 0) : q1r (k :: l) r = q1r l (q00 k r).1:=if_pos h
theorem qac {u : List UInt8} {l : List (List UInt8)} (h : 8 < l.length) : q05 u l = (zk,3):=by unfold q05;rw [if_pos h]
theorem q5s {u : List UInt8} {l : List (List UInt8)} (h : ¬ 8 < l.length) (h1 : q0c u = zk) : q05 u l = (zk,7):=by unfold q05;rw [if_neg h,if_pos h1]
theorem q98 {u : List UInt8} {l : List (List UInt8)} (h : ¬ 8 < l.length) (h1 : q0c u ≠ zk) : q05 u l = q1r l (q0c u):=by unfold q05;rw [if_neg h,if_neg h1]
theorem q5q (u : List UInt8) (l : List (List UInt8)) : (q05 u l).1.length = 32:=by
  by_cases h : 8 < l.length
  · rw [qac h];exact q3n
  by_cases h1 : q0c u = zk
  · rw [q5s h h1];exact q3n
  · rw [q98 h h1];exact q7n l _ (q1u u)
attribute [local irreducible] q05
theorem qkp (A R : HP) (hE : Ent A R) (a : Option Addr) (cap : Nat) (u : List UInt8) (l : List (List UInt8)) (hu : u.length = 32) (hl : okK l) (hr : Rd R a (rowK l)) (hn : l.length ≤ 1000000000) :
    Pu Tryd.prog 32 [.agg [.many 32 (u8s u)],.c (.rs a l.length cap)] A (.tup [.agg [.many 32 (u8s (q05 u l).1)],.c (.int .i64 (q05 u l).2)]):=by
  have hr:=hr.ent hE;have hz : (List.replicate 32 (Value.int .u8 0)).length = 32:=List.length_replicate;have hz2 : ∀ v ∈ (List.replicate 32 (Value.int .u8 0)),Value.oneCell' v = true:=fun v hv=>by rw [(List.mem_replicate.1 hv).2];rfl
  refine Con.of' tt_ok Tryd.func32 rfl (by decide) [.agg [.many 32 (u8s u)],.c (.rs a l.length cap)] [] [] rfl rfl trivial ⟨⟨mok hu _,trivial⟩,trivial,trivial⟩ rfl ?_;(conv=>whnf);intro b2;(conv=>whnf);intro b4;(conv=>whnf);refine Cond.d (fun h=>?_) (fun h=>?_)
  · have e:=qac (u:=u) (l:=l) (by omega);rw [e];(conv=>whnf);exact Ret.m () [] [0] trivial rfl ⟨⟨mok q3n _,trivial⟩,trivial,trivial⟩ trivial ⟨rfl,rfl⟩
  (conv=>whnf);refine Cq.pu (q9k _ u hu) rfl ?_;(conv=>whnf);intro b6;(conv=>whnf);refine qb2 (q1u u) q3n (by simp [dens,Seg.den]) (by rfl) ?_;(conv=>whnf);refine Cond.d (fun h1=>?_) (fun h1=>?_)
  · have e:=q5s (u:=u) (l:=l) (by omega) h1;rw [e];(conv=>whnf);exact Ret.m () [] [0] trivial rfl ⟨⟨mok q3n _,trivial⟩,trivial,trivial⟩ trivial ⟨rfl,rfl⟩
  have e:=q98 (u:=u) (l:=l) (by omega) h1;have hcl:=q5q u l;rw [e] at hcl ⊢;generalize hZ : q1r l (q0c u) = Z at hcl ⊢;conv=>whnf
  refine LoopOb.m (σ:=Nat × List UInt8) (fun s=>[(4,.c (.ptr 4 0)),(6,.c (.ptr 6 0)),(21,.c (.rs a l.length cap)),(22,.c (.int .i64 l.length)),(23,.c (.int .i64 s.1))])
    (fun s=>⟨[(6,b6),(4,b4)],[(6,[.many 32 (u8s s.2)],23),(4,[.many 32 (List.replicate 32 (Value.int .u8 0))],23)],[A]⟩)
    (fun s=>s.1 ≤ l.length ∧ s.2.length = 32 ∧ q1r (l.drop s.1) s.2 = Z) (fun s=>l.length - s.1) (0,q0c u) ⟨Nat.zero_le _,q1u u,hZ⟩ (Wk.m [6,4] [0] kk ⟨⟨kk,mok (q1u u) _,trivial⟩,⟨kk,⟨hz,hz2⟩,trivial⟩,trivial⟩ ⟨rfl,rfl⟩) ?_
  rintro ⟨i,r⟩ ⟨hi,hrl,hg⟩;dsimp only at hi hrl hg ⊢;(conv=>whnf);refine Cond.d (fun h2=>?_) (fun h2=>?_)
  · have hi' : i < l.length:=by omega
    have hk : l[i].length = 32:=hl _ (List.getElem_mem hi');have ed : l.drop i = l[i] :: l.drop (i + 1):=List.drop_eq_getElem_cons hi';rw [ed] at hg;have hA:=fun (h0 : (q00 l[i] r).2 ≠ 0)=>(q8i (k:=l[i]) (l:=l.drop (i + 1)) (r:=r) h0).symm.trans hg;have hB:=fun (h0 : (q00 l[i] r).2 = 0)=>(q84 (k:=l[i]) (l:=l.drop (i + 1)) (r:=r) h0).symm.trans hg;clear hg;(conv=>whnf);refine ⟨by omega,PtrOb.rd (A:=A) (by simp) hr (by rw [q0q hl];omega) fun p hp=>?_⟩;subst hp;conv=>whnf
    refine ldk (A:=A) (l:=l) i (by simp) hr hl hi' rfl rfl rfl (by show _ + (i : Int).toNat * 32 = _;omega) ?_;(conv=>whnf);intro b8;(conv=>whnf);refine Cq.pu (q6i _ l[i] r hk hrl) rfl ?_;have hs7:=qc9 l[i] r;have hsl:=q1f l[i] r;generalize q00 l[i] r = y at hA hB hs7 hsl ⊢;obtain ⟨y1,y2⟩:=y;dsimp only at hA hB hs7 hsl ⊢;(conv=>whnf);intro b9;(conv=>whnf);refine Cond.neI (fun h3=>?_) (fun h3=>?_)
    · rw [← hA h3];(conv=>whnf);exact Ret.m () [] [0] trivial rfl ⟨⟨mok q3n _,trivial⟩,trivial,trivial⟩ trivial ⟨rfl,rfl⟩
    · have hg:=hB h3;(conv=>whnf);refine Ar.i64 (by omega) ?_;(conv=>whnf);exact ⟨(i + 1,y1),⟨by dsimp only;omega,hsl,hg⟩,by dsimp only;omega,Wk.m [6,4] [0] kk ⟨⟨kk,mok hsl _,trivial⟩,⟨kk,⟨hz,hz2⟩,trivial⟩,trivial⟩ ⟨rfl,rfl⟩⟩
  obtain rfl : i = l.length:=by omega
  have e2 : Z = (r,0):=by rw [← hg,List.drop_length];rfl
  rw [e2];(conv=>whnf);exact Ret.m () [] [0] trivial rfl ⟨⟨mok hrl _,trivial⟩,trivial,trivial⟩ trivial ⟨rfl,rfl⟩
end
section
attribute [local irreducible] q00 q0v q0c q05
end
end Go.Proofs.YtckkhagclfmmdaaDoor
