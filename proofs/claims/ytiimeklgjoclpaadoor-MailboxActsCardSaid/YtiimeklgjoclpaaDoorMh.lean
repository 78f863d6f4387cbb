/- Boxes that no call made. -/
import Derived.Test.YtiimeklgjoclpaaDoorMg
namespace Go.Proofs.YtiimeklgjoclpaaDoor
open Go.Sx
set_option maxRecDepth 100000
set_option pp.deepTerms false
set_option pp.maxSteps 300
set_option linter.unusedSimpArgs false
set_option linter.unusedVariables false

abbrev ecel (g : Nat) : Cel := (g, [.one (.int .i64 0), .one (.raw (.map none))], 68)
theorem goodN_c (A : HProp) : Pu Tryd.prog 23 [.c (.raw (.pointer none))] A (.c .ff) := by
  refine Con.of' tt_ok Tryd.func23 rfl (by decide) [.c (.raw (.pointer none))] [] [] rfl rfl trivial (by repeat' (first | exact trivial | rfl | apply And.intro)) rfl ?_
  conv => whnf
  exact Ret.mk' () [] [0] trivial rfl (by repeat' (first | exact trivial | rfl | apply And.intro)) (by repeat' (first | exact trivial | rfl | apply And.intro)) ⟨rfl, rfl⟩
theorem goodE_c (A : HProp) (g : Nat) : Con Tryd.prog 23 [.c (.rp g 0)] [ecel g] [] A (fun _ : Unit => True) (fun _ => .c .ff) (fun _ => [ecel g]) (fun _ => []) := by
  refine Con.of' tt_ok Tryd.func23 rfl (by decide) [.c (.ptr 1000 0)] [(1000, g)] [(1000, (ecel g).2)] rfl rfl (by repeat' (first | exact trivial | rfl | apply And.intro)) (by repeat' (first | exact trivial | rfl | apply And.intro)) rfl ?_
  conv => whnf
  exact Ret.mk' () [1000] [0] trivial rfl (by repeat' (first | exact trivial | rfl | apply And.intro)) (by repeat' (first | exact trivial | rfl | apply And.intro)) ⟨rfl, rfl⟩
theorem lenN_c (A : HProp) (n : Int) : Pu Tryd.prog 13 [.c (.raw (.pointer none)), .c (.int .i64 n)] A (.c (.int .i64 0)) := by
  have := n
  refine Con.of' tt_ok Tryd.func13 rfl (by decide) [.c (.raw (.pointer none)), .c (.int .i64 n)] [] [] rfl rfl trivial (by repeat' (first | exact trivial | rfl | apply And.intro)) rfl ?_
  conv => whnf
  (try intro b)
  (try conv => whnf)
  (try intro b')
  (try conv => whnf)
  refine CallOb.pu (goodN_c _) rfl ?_
  conv => whnf
  exact Ret.mk' () [] [0] trivial rfl (by repeat' (first | exact trivial | rfl | apply And.intro)) (by repeat' (first | exact trivial | rfl | apply And.intro)) ⟨rfl, rfl⟩
theorem lenE_c (A : HProp) (g : Nat) (n : Int) : Con Tryd.prog 13 [.c (.rp g 0), .c (.int .i64 n)] [ecel g] [] A (fun _ : Unit => True) (fun _ => .c (.int .i64 0)) (fun _ => [ecel g]) (fun _ => []) := by
  have := n
  refine Con.of' tt_ok Tryd.func13 rfl (by decide) [.c (.ptr 1000 0), .c (.int .i64 n)] [(1000, g)] [(1000, (ecel g).2)] rfl rfl (by repeat' (first | exact trivial | rfl | apply And.intro)) (by repeat' (first | exact trivial | rfl | apply And.intro)) rfl ?_
  conv => whnf
  (try intro b)
  (try conv => whnf)
  (try intro b')
  (try conv => whnf)
  refine CallOb.by' [1000] [] (goodE_c _ g) rfl ⟨rfl, rfl, rfl, fun _ _ => ⟨rfl, ?_⟩⟩
  conv => whnf
  exact Ret.mk' () [1000] [0] trivial rfl (by repeat' (first | exact trivial | rfl | apply And.intro)) (by repeat' (first | exact trivial | rfl | apply And.intro)) ⟨rfl, rfl⟩
theorem expireN_c (A : HProp) (n : Int) : Pu Tryd.prog 19 [.c (.raw (.pointer none)), .c (.int .i64 n)] A (.c (.int .i64 0)) := by
  have := n
  refine Con.of' tt_ok Tryd.func19 rfl (by decide) [.c (.raw (.pointer none)), .c (.int .i64 n)] [] [] rfl rfl trivial (by repeat' (first | exact trivial | rfl | apply And.intro)) rfl ?_
  conv => whnf
  (try intro b)
  (try conv => whnf)
  (try intro b')
  (try conv => whnf)
  refine CallOb.pu (goodN_c _) rfl ?_
  conv => whnf
  exact Ret.mk' () [] [0] trivial rfl (by repeat' (first | exact trivial | rfl | apply And.intro)) (by repeat' (first | exact trivial | rfl | apply And.intro)) ⟨rfl, rfl⟩
theorem expireE_c (A : HProp) (g : Nat) (n : Int) : Con Tryd.prog 19 [.c (.rp g 0), .c (.int .i64 n)] [ecel g] [] A (fun _ : Unit => True) (fun _ => .c (.int .i64 0)) (fun _ => [ecel g]) (fun _ => []) := by
  have := n
  refine Con.of' tt_ok Tryd.func19 rfl (by decide) [.c (.ptr 1000 0), .c (.int .i64 n)] [(1000, g)] [(1000, (ecel g).2)] rfl rfl (by repeat' (first | exact trivial | rfl | apply And.intro)) (by repeat' (first | exact trivial | rfl | apply And.intro)) rfl ?_
  conv => whnf
  (try intro b)
  (try conv => whnf)
  (try intro b')
  (try conv => whnf)
  refine CallOb.by' [1000] [] (goodE_c _ g) rfl ⟨rfl, rfl, rfl, fun _ _ => ⟨rfl, ?_⟩⟩
  conv => whnf
  exact Ret.mk' () [1000] [0] trivial rfl (by repeat' (first | exact trivial | rfl | apply And.intro)) (by repeat' (first | exact trivial | rfl | apply And.intro)) ⟨rfl, rfl⟩
theorem openN_c (A : HProp) (n : Int) (k : List UInt8) (h : k.length = 32) : Pu Tryd.prog 9 [.c (.raw (.pointer none)), .c (.int .i64 n), .agg [.many 32 (u8s k)]] A (.c (.int .i64 1)) := by
  have hk := many_ok h
  refine Con.of' tt_ok Tryd.func9 rfl (by decide) [.c (.raw (.pointer none)), .c (.int .i64 n), .agg [.many 32 (u8s k)]] [] [] rfl rfl trivial ⟨rfl, trivial, ⟨hk _, trivial⟩, trivial⟩ rfl ?_
  conv => whnf
  (try intro b)
  (try conv => whnf)
  (try intro b')
  (try conv => whnf)
  refine CallOb.pu (goodN_c _) rfl ?_
  conv => whnf
  exact Ret.mk' () [] [0] trivial rfl (by repeat' (first | exact trivial | rfl | apply And.intro)) (by repeat' (first | exact trivial | rfl | apply And.intro)) ⟨rfl, rfl⟩
theorem openE_c (A : HProp) (g : Nat) (n : Int) (k : List UInt8) (h : k.length = 32) : Con Tryd.prog 9 [.c (.rp g 0), .c (.int .i64 n), .agg [.many 32 (u8s k)]] [ecel g] [] A (fun _ : Unit => True) (fun _ => .c (.int .i64 1)) (fun _ => [ecel g]) (fun _ => []) := by
  have hk := many_ok h
  refine Con.of' tt_ok Tryd.func9 rfl (by decide) [.c (.ptr 1000 0), .c (.int .i64 n), .agg [.many 32 (u8s k)]] [(1000, g)] [(1000, (ecel g).2)] rfl rfl (by repeat' (first | exact trivial | rfl | apply And.intro)) ⟨trivial, trivial, ⟨hk _, trivial⟩, trivial⟩ rfl ?_
  conv => whnf
  (try intro b)
  (try conv => whnf)
  (try intro b')
  (try conv => whnf)
  refine CallOb.by' [1000] [] (goodE_c _ g) rfl ⟨rfl, rfl, rfl, fun _ _ => ⟨rfl, ?_⟩⟩
  conv => whnf
  exact Ret.mk' () [1000] [0] trivial rfl (by repeat' (first | exact trivial | rfl | apply And.intro)) (by repeat' (first | exact trivial | rfl | apply And.intro)) ⟨rfl, rfl⟩
theorem fetchN_c (A : HProp) (now who ack : Int) (k : List UInt8) (h : k.length = 16) : Pu Tryd.prog 11 [.c (.raw (.pointer none)), .c (.int .i64 now), .c (.int .i64 who), .c (.int .i64 ack), .agg [.many 16 (u8s k)]] A (.tup [.c (.rs none 0 0), .c (.int .i64 1)]) := by
  have hk := many_ok h
  refine Con.of' tt_ok Tryd.func11 rfl (by decide) [.c (.raw (.pointer none)), .c (.int .i64 now), .c (.int .i64 who), .c (.int .i64 ack), .agg [.many 16 (u8s k)]] [] [] rfl rfl trivial ⟨rfl, trivial, trivial, trivial, ⟨hk _, trivial⟩, trivial⟩ rfl ?_
  conv => whnf
  (try intro b)
  (try conv => whnf)
  (try intro b')
  (try conv => whnf)
  refine CallOb.pu (goodN_c _) rfl ?_
  conv => whnf
  exact Ret.mk' () [] [0] trivial rfl (by repeat' (first | exact trivial | rfl | apply And.intro)) (by repeat' (first | exact trivial | rfl | apply And.intro)) ⟨rfl, rfl⟩
theorem fetchE_c (A : HProp) (g : Nat) (now who ack : Int) (k : List UInt8) (h : k.length = 16) : Con Tryd.prog 11 [.c (.rp g 0), .c (.int .i64 now), .c (.int .i64 who), .c (.int .i64 ack), .agg [.many 16 (u8s k)]] [ecel g] [] A (fun _ : Unit => True) (fun _ => .tup [.c (.rs none 0 0), .c (.int .i64 1)]) (fun _ => [ecel g]) (fun _ => []) := by
  have hk := many_ok h
  refine Con.of' tt_ok Tryd.func11 rfl (by decide) [.c (.ptr 1000 0), .c (.int .i64 now), .c (.int .i64 who), .c (.int .i64 ack), .agg [.many 16 (u8s k)]] [(1000, g)] [(1000, (ecel g).2)] rfl rfl (by repeat' (first | exact trivial | rfl | apply And.intro)) ⟨trivial, trivial, trivial, trivial, ⟨hk _, trivial⟩, trivial⟩ rfl ?_
  conv => whnf
  (try intro b)
  (try conv => whnf)
  (try intro b')
  (try conv => whnf)
  refine CallOb.by' [1000] [] (goodE_c _ g) rfl ⟨rfl, rfl, rfl, fun _ _ => ⟨rfl, ?_⟩⟩
  conv => whnf
  exact Ret.mk' () [1000] [0] trivial rfl (by repeat' (first | exact trivial | rfl | apply And.intro)) (by repeat' (first | exact trivial | rfl | apply And.intro)) ⟨rfl, rfl⟩
theorem putN_c (A : HProp) (now : Int) (c : Cmd) (h : c.id.length = 8) (a : Option Addr) (n cap : Nat) : Pu Tryd.prog 10 [.c (.raw (.pointer none)), .c (.int .i64 now), .agg c.sg, .c (.rs a n cap)] A (.c (.int .i64 1)) := by
  have hk := many_ok h
  refine Con.of' tt_ok Tryd.func10 rfl (by decide) [.c (.raw (.pointer none)), .c (.int .i64 now), .agg c.sg, .c (.rs a n cap)] [] [] rfl rfl trivial ⟨rfl, trivial, ⟨trivial, trivial, trivial, hk _, trivial⟩, trivial, trivial⟩ rfl ?_
  conv => whnf
  (try intro b)
  (try conv => whnf)
  (try intro b')
  (try conv => whnf)
  refine CallOb.pu (goodN_c _) rfl ?_
  conv => whnf
  exact Ret.mk' () [] [0] trivial rfl (by repeat' (first | exact trivial | rfl | apply And.intro)) (by repeat' (first | exact trivial | rfl | apply And.intro)) ⟨rfl, rfl⟩
theorem putE_c (A : HProp) (g : Nat) (now : Int) (c : Cmd) (h : c.id.length = 8) (a : Option Addr) (n cap : Nat) : Con Tryd.prog 10 [.c (.rp g 0), .c (.int .i64 now), .agg c.sg, .c (.rs a n cap)] [ecel g] [] A (fun _ : Unit => True) (fun _ => .c (.int .i64 1)) (fun _ => [ecel g]) (fun _ => []) := by
  have hk := many_ok h
  refine Con.of' tt_ok Tryd.func10 rfl (by decide) [.c (.ptr 1000 0), .c (.int .i64 now), .agg c.sg, .c (.rs a n cap)] [(1000, g)] [(1000, (ecel g).2)] rfl rfl (by repeat' (first | exact trivial | rfl | apply And.intro)) ⟨trivial, trivial, ⟨trivial, trivial, trivial, hk _, trivial⟩, trivial, trivial⟩ rfl ?_
  conv => whnf
  (try intro b)
  (try conv => whnf)
  (try intro b')
  (try conv => whnf)
  refine CallOb.by' [1000] [] (goodE_c _ g) rfl ⟨rfl, rfl, rfl, fun _ _ => ⟨rfl, ?_⟩⟩
  conv => whnf
  exact Ret.mk' () [1000] [0] trivial rfl (by repeat' (first | exact trivial | rfl | apply And.intro)) (by repeat' (first | exact trivial | rfl | apply And.intro)) ⟨rfl, rfl⟩
end Go.Proofs.YtiimeklgjoclpaaDoor
