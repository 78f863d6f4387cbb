import Derived.Test.YtfehjfoajlfhfaaGreatDoorQa
import Derived.Test.YtfehjfoajlfhfaaGreatDoorQe
namespace Go.Proofs.YtfehjfoajlfhfaaGreatDoor
open Go.Sx
set_option maxRecDepth 100000
set_option linter.unusedSimpArgs false
set_option linter.unusedVariables false
set_option pp.deepTerms false
set_option pp.maxSteps 300
section
end
section
end
section
end
section
def keyP (l : List UInt8) (i : Nat) : List UInt8:=l.take i ++ List.replicate (32 - i) 0
theorem qag {l : List UInt8} (h : l.length = 32) {i : Nat} (hi : i ≤ 32) : (keyP l i).length = 32:=by simp [keyP];omega
theorem qi2 {l : List UInt8} (h : l.length = 32) {i : Nat} (hi : i < 32) : (keyP l i).set i (UInt8.ofNat (gd l i)) = keyP l (i + 1):=by
  have e1 : (l.take i).length = i:=by rw [List.length_take];omega
  have e2 : l.take (i + 1) = l.take i ++ [l[i]]:=List.take_succ_eq_append_getElem (by omega);unfold keyP;rw [List.set_append_right _ _ (by omega),e1,Nat.sub_self,show 32 - i = (32 - (i + 1)) + 1 by omega,List.replicate_succ,List.set_cons_zero,gd_eq (by omega),e2,List.append_assoc,UInt8.ofNat_toNat];rfl
theorem qi1 {l : List UInt8} (h : l.length = 32) : keyP l 32 = l:=by unfold keyP;rw [List.take_of_length_le (by omega)];simp
theorem qfl (l : List UInt8) : keyP l 0 = List.replicate 32 0:=by simp [keyP]
end
section
end
section
end
section
end
section
end
section
end
section
end
section
end
section
abbrev pr (p : Pt) : List Seg:=[.many 32 (u8s (leB p.x 32)),.many 32 (u8s (leB p.z 32))]
abbrev ky (l : List UInt8) : List Seg:=[.many 32 (u8s l)]
end
section
end
section
def okK (l : List (List UInt8)) : Prop:=∀ k ∈ l,k.length = 32
def rowK (l : List (List UInt8)) : List Value:=(l.map u8s).flatten
theorem q47 (l m : List (List UInt8)) : rowK (l ++ m) = rowK l ++ rowK m:=by simp [rowK]
theorem q1b {l : List (List UInt8)} (h : okK l) : (rowK l).length = l.length * 32:=by
  have:=q27 (css:=l.map u8s) (n:=32) (fun c hc=>by simp at hc;obtain ⟨y,hy,rfl⟩:=hc;rw [u8l];exact h y hy)
  simpa [rowK] using this
theorem qec {l : List (List UInt8)} (h : okK l) (k : Nat) : okK (l.take k):=fun x hx=>h x (List.mem_of_mem_take hx)
theorem q5z {l m : List (List UInt8)} (h : okK l) (h' : okK m) : okK (l ++ m):=fun x hx=>(List.mem_append.1 hx).elim (h x) (h' x)
theorem q85 {k : List UInt8} (h : k.length = 32) : okK [k]:=fun x hx=>by rw [List.mem_singleton.1 hx];exact h
theorem qgk {l : List (List UInt8)} (h : okK l) (k : Nat) (hk : k ≤ l.length) : (rowK l).drop (k * 32) = rowK (l.drop k):=by
  have e : rowK l = rowK (l.take k) ++ rowK (l.drop k):=by rw [← q47,List.take_append_drop]
  have hl : (rowK (l.take k)).length = k * 32:=by rw [q1b (qec h k),List.length_take,Nat.min_eq_left hk]
  rw [e,← hl,List.drop_left]
theorem ldk {t : Nat} {x : TyX} {b off : Nat} {m : M} {f : SV → Prop} {A : HP} {p : Nat × Nat} {l : List (List UInt8)} (i : Nat) (hA : A ∈ m.F) (hr : Rd A (some (radr p)) (rowK l)) (h : okK l) (hi : i < l.length)
    (hx : x.k.agg = true) (hn : x.size = 32) (hb : b = p.1) (ho : off = p.2 + i * 32) (hf : f (.agg [.many 32 (u8s l[i])])) : With (Ty Tryz.prog t x) (LdOb Tryz.prog t ⟨b,off,none⟩ m f):=by
  have hl : l[i].length = 32:=h _ (List.getElem_mem hi);have ed : ∀ B : Names,dens B [.many 32 (u8s l[i])] = u8s l[i]:=fun B=>List.append_nil _;refine lds (A:=A) (i * 32) [.many 32 (u8s l[i])] hx hA hr hb ho ?_ ?_ (by omega) (q02 ⟨mok hl _,trivial⟩) hf
  · rw [ed,hn,qgk h _ (by omega),List.drop_eq_getElem_cons hi];show _ = (u8s l[i] ++ rowK (l.drop (i + 1))).take 32;rw [← hl,← u8l,List.take_left]
  · rw [ed,u8l,hl,hn]
theorem q6x (k u : List UInt8) : q00 k u = (zk,7) ∨ q00 k u = (q0h (q22 k) (q07 u),0):=by
  by_cases h : q0h (q22 k) (q07 u) = zk
  · exact .inl (by unfold q00;rw [if_pos h])
  · exact .inr (by unfold q00;rw [if_neg h])
theorem q28 (k u : List UInt8) : (q00 k u).1.length = 32:=by
  rcases q6x k u with h | h
  · rw [h];exact q2d
  · rw [h];exact q21 _ _
theorem qct (k u : List UInt8) : 0 ≤ (q00 k u).2 ∧ (q00 k u).2 ≤ 7:=by
  rcases q6x k u with h | h
  · rw [h];exact ⟨by show (0 : Int) ≤ 7;decide,by show (7 : Int) ≤ 7;decide⟩
  · rw [h];exact ⟨by show (0 : Int) ≤ 0;decide,by show (0 : Int) ≤ 7;decide⟩
attribute [local irreducible] q00 q0h q07
theorem q8a : ∀ (l : List (List UInt8)) (r : List UInt8),r.length = 32 → (q2w l r).1.length = 32
  | [],_,h=>h
  | k :: l,r,h=>by
    by_cases h0 : (q00 k r).2 = 0
    · rw [show q2w (k :: l) r = q2w l (q00 k r).1 from if_pos h0];exact q8a l _ (q28 _ _)
    · rw [show q2w (k :: l) r = (zk,(q00 k r).2) from if_neg h0];exact q2d
theorem q93 {k r : List UInt8} {l : List (List UInt8)} (h : (q00 k r).2 ≠ 0) : q2w (k :: l) r = (zk,(q00 k r).2):=if_neg h
theorem q9m {k r : List UInt8} {l : List (List UInt8)} (h : (q00 k r).2 = 0) : q2w (k :: l) r = q2w l (q00 k r).1:=if_pos h
theorem qbf {u : List UInt8} {l : List (List UInt8)} (h : 8 < l.length) : q03 u l = (zk,3):=by unfold q03;rw [if_pos h]
theorem q6b {u : List UInt8} {l : List (List UInt8)} (h : ¬ 8 < l.length) (h1 : q07 u = zk) : q03 u l = (zk,7):=by unfold q03;rw [if_neg h,if_pos h1]
theorem qaq {u : List UInt8} {l : List (List UInt8)} (h : ¬ 8 < l.length) (h1 : q07 u ≠ zk) : q03 u l = q2w l (q07 u):=by unfold q03;rw [if_neg h,if_neg h1]
theorem q6f (u : List UInt8) (l : List (List UInt8)) : (q03 u l).1.length = 32:=by
  by_cases h : 8 < l.length
  · rw [qbf h];exact q2d
  by_cases h1 : q07 u = zk
  · rw [q6b h h1];exact q2d
  · rw [qaq h h1];exact q8a l _ (q2a u)
attribute [local irreducible] q03
theorem qm2 (A R : HP) (hE : Ent A R) (a : Option Addr) (cap : Nat) (u : List UInt8) (l : List (List UInt8)) (hu : u.length = 32) (hl : okK l) (hr : Rd R a (rowK l)) (hn : l.length ≤ 1000000000) :
    Pu Tryz.prog 100 [.agg [.many 32 (u8s u)],.c (.rs a l.length cap)] A (.tup [.agg [.many 32 (u8s (q03 u l).1)],.c (.int .i64 (q03 u l).2)]):=by
  have hr:=hr.ent hE;have hz : (List.replicate 32 (Value.int .u8 0)).length = 32:=List.length_replicate;have hz2 : ∀ v ∈ (List.replicate 32 (Value.int .u8 0)),Value.oneCell' v = true:=fun v hv=>by rw [(List.mem_replicate.1 hv).2];rfl
  refine Con.of' tt_ok Tryz.func100 rfl (by decide) [.agg [.many 32 (u8s u)],.c (.rs a l.length cap)] [] [] rfl rfl trivial ⟨⟨mok hu _,trivial⟩,trivial,trivial⟩ rfl ?_;(conv=>whnf);intro b2;(conv=>whnf);intro b4;(conv=>whnf);refine Cond.d (fun h=>?_) (fun h=>?_)
  · have e:=qbf (u:=u) (l:=l) (by omega);rw [e];(conv=>whnf);exact Ret.m () [] [0] trivial rfl ⟨⟨mok q2d _,trivial⟩,trivial,trivial⟩ trivial ⟨rfl,rfl⟩
  (conv=>whnf);refine Cq.pu (qav _ u hu) rfl ?_;(conv=>whnf);intro b6;(conv=>whnf);refine qbo (q2a u) q2d (by simp [dens,Seg.den]) (by rfl) ?_;(conv=>whnf);refine Cond.d (fun h1=>?_) (fun h1=>?_)
  · have e:=q6b (u:=u) (l:=l) (by omega) h1;rw [e];(conv=>whnf);exact Ret.m () [] [0] trivial rfl ⟨⟨mok q2d _,trivial⟩,trivial,trivial⟩ trivial ⟨rfl,rfl⟩
  have e:=qaq (u:=u) (l:=l) (by omega) h1;have hcl:=q6f u l;rw [e] at hcl ⊢;generalize hZ : q2w l (q07 u) = Z at hcl ⊢;conv=>whnf
  refine LoopOb.m (σ:=Nat × List UInt8) (fun s=>[(4,.c (.ptr 4 0)),(6,.c (.ptr 6 0)),(21,.c (.rs a l.length cap)),(22,.c (.int .i64 l.length)),(23,.c (.int .i64 s.1))])
    (fun s=>⟨[(6,b6),(4,b4)],[(6,[.many 32 (u8s s.2)],23),(4,[.many 32 (List.replicate 32 (Value.int .u8 0))],23)],[A]⟩)
    (fun s=>s.1 ≤ l.length ∧ s.2.length = 32 ∧ q2w (l.drop s.1) s.2 = Z) (fun s=>l.length - s.1) (0,q07 u) ⟨Nat.zero_le _,q2a u,hZ⟩ (Wk.m [6,4] [0] kk ⟨⟨kk,mok (q2a u) _,trivial⟩,⟨kk,⟨hz,hz2⟩,trivial⟩,trivial⟩ ⟨rfl,rfl⟩) ?_
  rintro ⟨i,r⟩ ⟨hi,hrl,hg⟩;dsimp only at hi hrl hg ⊢;(conv=>whnf);refine Cond.d (fun h2=>?_) (fun h2=>?_)
  · have hi' : i < l.length:=by omega
    have hk : l[i].length = 32:=hl _ (List.getElem_mem hi');have ed : l.drop i = l[i] :: l.drop (i + 1):=List.drop_eq_getElem_cons hi';rw [ed] at hg;have hA:=fun (h0 : (q00 l[i] r).2 ≠ 0)=>(q93 (k:=l[i]) (l:=l.drop (i + 1)) (r:=r) h0).symm.trans hg;have hB:=fun (h0 : (q00 l[i] r).2 = 0)=>(q9m (k:=l[i]) (l:=l.drop (i + 1)) (r:=r) h0).symm.trans hg;clear hg;(conv=>whnf);refine ⟨by omega,PtrOb.rd (A:=A) (by simp) hr (by rw [q1b hl];omega) fun p hp=>?_⟩;subst hp;conv=>whnf
    refine ldk (A:=A) (l:=l) i (by simp) hr hl hi' rfl rfl rfl (by show _ + (i : Int).toNat * 32 = _;omega) ?_;(conv=>whnf);intro b8;(conv=>whnf);refine Cq.pu (q73 _ l[i] r hk hrl) rfl ?_;have hs7:=qct l[i] r;have hsl:=q28 l[i] r;generalize q00 l[i] r = y at hA hB hs7 hsl ⊢;obtain ⟨y1,y2⟩:=y;dsimp only at hA hB hs7 hsl ⊢;(conv=>whnf);intro b9;(conv=>whnf);refine Cond.neI (fun h3=>?_) (fun h3=>?_)
    · rw [← hA h3];(conv=>whnf);exact Ret.m () [] [0] trivial rfl ⟨⟨mok q2d _,trivial⟩,trivial,trivial⟩ trivial ⟨rfl,rfl⟩
    · have hg:=hB h3;(conv=>whnf);refine Ar.i64 (by omega) ?_;(conv=>whnf);exact ⟨(i + 1,y1),⟨by dsimp only;omega,hsl,hg⟩,by dsimp only;omega,Wk.m [6,4] [0] kk ⟨⟨kk,mok hsl _,trivial⟩,⟨kk,⟨hz,hz2⟩,trivial⟩,trivial⟩ ⟨rfl,rfl⟩⟩
  obtain rfl : i = l.length:=by omega
  have e2 : Z = (r,0):=by rw [← hg,List.drop_length];rfl
  rw [e2];(conv=>whnf);exact Ret.m () [] [0] trivial rfl ⟨⟨mok hrl _,trivial⟩,trivial,trivial⟩ trivial ⟨rfl,rfl⟩
end
section
attribute [local irreducible] q00 q0h q07 q03
end
end Go.Proofs.YtfehjfoajlfhfaaGreatDoor
