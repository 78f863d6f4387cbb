import Derived.Test.YtfehjfoajlfhfaaGreatDoorQn
import Derived.Test.YtfehjfoajlfhfaaGreatDoorQm
namespace Go.Proofs.YtfehjfoajlfhfaaGreatDoor
open Go.Sx
set_option maxRecDepth 100000
set_option pp.deepTerms false
set_option pp.maxSteps 300
set_option linter.unusedSimpArgs false
set_option linter.unusedVariables false
section
attribute [local irreducible] macD q01 strS q03 q00 q02 q0e q06 q05 q08 openB q0j decC tagH q13 q12 q11 q0h
theorem Con.map {P : Program} {f : Nat} {args : List SV} {qc : List Cel} {pre : List HP} {A : HP} {τ τ' : Type} {p : τ → Prop} {val : τ → SV} {qc' : τ → List Cel} {post : τ → List HP}
    {p2 : τ' → Prop} {val2 : τ' → SV} {qc2 : τ' → List Cel} {post2 : τ' → List HP} (C : Con P f args qc pre A p val qc' post) (g : τ → τ') (h : ∀ t,p t → p2 (g t) ∧ val t = val2 (g t) ∧ qc' t = qc2 (g t) ∧ post t = post2 (g t)) :
    Con P f args qc pre A p2 val2 qc2 post2 :=
  ⟨C.runs,fun w hs=>(C.h w hs).mono (by
    rintro e w' ⟨t,hp,he,hv,hq,hs'⟩;obtain ⟨h1,h2,h3,h4⟩:=h t hp;exact ⟨g t,h1,by rw [← h2];exact he,by rw [← h2];exact hv,by rw [← h3];exact hq,by rw [← h3,← h4];exact hs'⟩)⟩
end
section
theorem qja (A R R' : HP) (hE : Ent A R) (hE' : Ent A R') (a a' : Option Addr) (cap cap' : Nat) (l : List (List UInt8)) (hl : okK l) (hr : Rd R a (rowK l)) (hr' : Rd R' a' (rowK l)) (hn : l.length ≤ 1000000) :
    Pu Tryz.prog 35 [.c (.rs a l.length cap),.c (.rs a' l.length cap')] A (.c .tt):=by
  have hr:=hr.ent hE;have hr':=hr'.ent hE';refine Con.of' tt_ok Tryz.func35 rfl (by decide) [.c (.rs a l.length cap),.c (.rs a' l.length cap')] [] [] rfl rfl trivial kk rfl ?_;(conv=>whnf);refine Cond.neI (fun h=>absurd rfl h) (fun h=>?_);(conv=>whnf);refine LoopOb.m (σ:=Nat) (fun i=>[(0,.c (.rs a l.length cap)),(1,.c (.rs a' l.length cap')),(12,.c (.int .i64 l.length)),(13,.c (.int .i64 i))]) (fun i=>⟨[],[],[A]⟩) (fun i=>i ≤ l.length) (fun i=>l.length - i) 0 (Nat.zero_le _) (Wk.m [] [0] kk trivial ⟨rfl,rfl⟩) ?_;intro i hi;conv=>whnf
  refine Cond.d (fun h=>?_) (fun h=>?_)
  · have hi' : i < l.length:=by omega
    have hk:=hl _ (List.getElem_mem hi');(conv=>whnf);refine Draw.a (by kernel_rfl) tt_ok (Tv.of (List.range 9) .nil) 1000000 (by kernel_rfl) ?_;(conv=>whnf);refine ⟨by omega,PtrOb.rd (A:=A) (by simp) hr (by rw [q0k hl];omega) fun p hp=>?_⟩;(conv=>whnf);refine ldk (A:=A) (l:=l) i (by simp) (by rw [← hp];exact hr) hl hi' rfl rfl rfl (by show _ + (i : Int).toNat * 32 = _;omega) ?_;(conv=>whnf);refine ⟨by omega,PtrOb.rd (A:=A) (by simp) hr' (by rw [q0k hl];omega) fun q hq=>?_⟩;conv=>whnf
    refine ldk (A:=A) (l:=l) i (by simp) (by rw [← hq];exact hr') hl hi' rfl rfl rfl (by show _ + (i : Int).toNat * 32 = _;omega) ?_;(conv=>whnf);refine q7o (l:=l[i]) (m:=l[i]) hk hk (by simp [dens,Seg.den]) (by simp [dens,Seg.den]) ?_;(conv=>whnf);refine Cond.not (Cond.d (fun _=>?_) (fun h=>absurd rfl h));(conv=>whnf);refine Ar.i64 (by omega) ?_;(conv=>whnf);exact ⟨i + 1,by omega,by omega,Wk.m [] [0] kk trivial ⟨rfl,rfl⟩⟩
  (conv=>whnf);exact Ret.m () [] [0] trivial rfl kk kk ⟨rfl,rfl⟩
end
section
attribute [local irreducible] macD q01 strS q03 q00 q02 q0e q06 q05 q08 openB q0j decC q0d q0u q0b q0h tagH leB q13 q12 q11 q0a
theorem qht {R : HP} {a : Option Addr} : Rd R a []:=fun _ _=>.inl rfl
end
section
attribute [local irreducible] macD q01 strS q03 q00 q02 q0e q06 q05 q08 openB q0j decC q0d q0u q0b q0h tagH leB q13 q12 q11 q0a
end
end Go.Proofs.YtfehjfoajlfhfaaGreatDoor
