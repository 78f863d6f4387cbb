import Derived.Test.YtfehjfoajlfhfaaGreatDoorQq
import Derived.Test.YtfehjfoajlfhfaaGreatDoorQp
namespace Go.Proofs.YtfehjfoajlfhfaaGreatDoor
open Go.Sx
set_option maxRecDepth 100000
set_option pp.deepTerms false
set_option pp.maxSteps 300
set_option linter.unusedSimpArgs false
set_option linter.unusedVariables false
section
abbrev ptrK (g : Nat) : Value:=.pointer (some ⟨g,0,none⟩)
abbrev qBk (g : Nat) (a : Option Addr) (n cap : Nat) : List Cel:=[(g,[.one (.rs a n cap)],60)]
def backs (l : List (List UInt8)) : List (SV × SV):=(List.range l.length).map fun j=>(.c (.int .i64 ((l.length - 1 - j : Nat) : Int)),.agg [.many 32 (u8s (kAt l (l.length - 1 - j)))])
theorem q8w (l : List (List UInt8)) : (backs l).length = l.length:=by simp [backs]
theorem qg6 {l : List (List UInt8)} {j : Nat} (h : j < l.length) : (backs l)[j]? = some (.c (.int .i64 ((l.length - 1 - j : Nat) : Int)),.agg [.many 32 (u8s (l[l.length - 1 - j]'(by omega)))]):=by
  unfold backs;rw [List.getElem?_map,List.getElem?_range h,Option.map_some,q5d (by omega)]
theorem qgs (A : HP) (a : Option Addr) (cap n : Nat) : Con Tryz.prog 55 [.c (.rs a n cap)] [] [] A (fun _ : Nat=>True)
    (fun g=>.c (.raw (.func (.func 92) #[] #[ptrK g]))) (fun _=>[]) (fun g=>[all ((qBk g a n cap).map Cel.p)]):=by
  refine Con.of' tt_ok Tryz.func55 rfl (by decide) [.c (.rs a n cap)] [] [] rfl rfl trivial kk rfl ?_;(conv=>whnf);intro b1;(conv=>whnf);refine Ret.grp [1] [] ?_;exact Ret.m b1 [] [0,0] trivial rfl kk trivial ⟨rfl,rfl⟩
theorem qec (a : Option Addr) (cap g : Nat) (l : List (List UInt8)) (hl : okK l) (hn : l.length ≤ 1000000) :
    Iter2 Tryz.prog 92 [ptrK g] (backs l) (qBk g a l.length cap) [RowK a cap 23 l] (fun _ : Unit=>True) (fun _=>qBk g a l.length cap) (fun _=>[RowK a cap 23 l]):=by
  intro L K A hY;rw [q8w];refine Con.of' tt_ok Tryz.func92 rfl (by decide) [.c (.raw (.func (.yield L) #[] #[])),.c (.ptr 1000 0)] [(1000,g)] [(1000,[.one (.rs a l.length cap)],60)] rfl rfl kk kk rfl ?_;(conv=>whnf);refine Ar.i64 (by omega) ?_;conv=>whnf
  refine LoopOb.m (σ:=Nat) (fun j=>[(0,.c (.raw (.func (.yield L) #[] #[]))),(1,.c (.ptr 1000 0)),(3,.c (.int .i64 ((l.length : Int) - 1 - j)))])
    (fun j=>⟨[(1000,g)],[(1000,[.one (.rs a l.length cap)],60)],[K j,RowK a cap 23 l,A]⟩) (fun j=>j ≤ l.length) (fun j=>l.length - j) 0 (Nat.zero_le _)
    (Wk.m [1000] [0,0,0] ⟨⟨rfl,kk⟩,⟨rfl,kk⟩,⟨?_,kk⟩,trivial⟩ kk ⟨rfl,rfl⟩) ?_
  · show Value.int .i64 _ = Value.int .i64 _;congr 1 <;> omega
  intro j hj;(conv=>whnf);refine Cond.d (fun h=>?_) (fun h=>?_)
  · have hj1 : j < l.length:=by omega
    have ei : (l.length : Int) - 1 - j = ((l.length - 1 - j : Nat) : Int):=by omega
    rw [ei];have ex:=qg6 hj1;(conv=>whnf);refine ⟨by omega,PtrOb.rd (A:=RowK a cap 23 l) (by simp) Own.rd (by rw [q0k hl];omega) fun p hp=>?_⟩;subst hp;(conv=>whnf);refine ldk (A:=RowK (some (radr p)) cap 23 l) (l:=l) (l.length - 1 - j) (by simp) Own.rd hl (by omega) rfl rfl rfl (by show _ + ((l.length - 1 - j : Nat) : Int).toNat * 32 = _;omega) ?_;(conv=>whnf);refine YieldOb.by2 0 (hY j _ ex) rfl ⟨rfl,?_⟩;(conv=>whnf);refine Ar.i64 (by omega) ?_;conv=>whnf
    refine ⟨j + 1,by omega,by omega,Wk.m [1000] [0,0,0] ⟨⟨rfl,kk⟩,⟨rfl,kk⟩,⟨?_,kk⟩,trivial⟩ kk ⟨rfl,rfl⟩⟩;show Value.int .i64 _ = Value.int .i64 _;congr 1 <;> omega
  · obtain rfl : j = l.length:=by omega
    (conv=>whnf);exact Ret.m () [1000] [0,0,0] trivial rfl kk kk ⟨rfl,rfl⟩
end
section
attribute [local irreducible] macD q01 strS q03 q00 q02 q0e q06 q05 q08 q0a q0d q0b lionB lockS q09
end
section
attribute [local irreducible] macD q01 strS q03 q00 q02 q0e q06 q05 q08 q0a q0d q0b lionB lockS q0p q09 openB q0j decC tagH q13 q12 q11 q0h peelS leB
theorem qmt {b t : Nat} {fz : Nat × Nat} {xs ys : List Value} (h : xs = ys) : Rd (blk b (.cells xs.toArray t fz)) (some (radr (b,0))) ys:=by
  subst h
  exact Rd.blk rfl fun j u hj=>by
    show xs.toArray[0 + j]? = some u;rw [List.getElem?_toArray,Nat.zero_add,hj]
end
section
attribute [local irreducible] macD q01 strS q03 q00 q02 q0e q06 q05 q08 q0a q0d q0b lionB lockS q0p q09 openB q0j decC tagH q13 q12 q11 q0h
end
end Go.Proofs.YtfehjfoajlfhfaaGreatDoor
