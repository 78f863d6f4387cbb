/- The laws OctetNobody and OctetStops, walked. -/
import Derived.Test.YthmopeddbpoakaaOg
namespace Go.Proofs.Ythmopeddbpoakaa
open Go.Sx
set_option maxRecDepth 100000
set_option pp.deepTerms false
set_option pp.maxSteps 300
set_option linter.unusedSimpArgs false
set_option linter.unusedVariables false

/-! A writer, a reader, that no call made. -/
def w0 : WS := ⟨0, [], 0⟩
def r0 : RS := ⟨0, []⟩
abbrev Wu (g : Nat) : HProp := Box (fun _ : Unit => True) (fun _ => [wc g .ff w0 none 0]) (fun _ => [])
abbrev Ru (g : Nat) : HProp := Box (fun _ : Unit => True) (fun _ => [rc g .ff r0 none 0]) (fun _ => [])
theorem wnum_u (A : HProp) (g : Nat) (n size : Int) : Con Try.prog 14 [.c (.rp g 0), .c (.int .u64 n), .c (.int .i64 size)] [] [Wu g] A (fun _ : Unit => True) (fun _ => .c (.int .i64 1)) (fun _ => []) (fun _ => [Wu g]) := by
  refine Con.box (Y := Unit) (k' := fun _ _ => True) (Q' := fun _ _ => [wc g .ff w0 none 0]) (R' := fun _ _ => []) (Runs.of Try.func14 rfl (by decide)) ?_
  rintro ⟨⟩ hk
  refine Con.of' tt_ok Try.func14 rfl (by decide) [.c (.ptr 1000 0), .c (.int .u64 n), .c (.int .i64 size)] (B1 g) [(1000, (wc g .ff w0 none 0).2)] rfl rfl (by repeat' (first | exact trivial | rfl | apply And.intro)) (by repeat' (first | exact trivial | rfl | apply And.intro)) rfl ?_
  conv => whnf
  refine CallOb.by' [1000] [] (wgood_u _ g _ none 0) rfl ⟨rfl, rfl, rfl, fun _ _ => ⟨rfl, ?_⟩⟩
  conv => whnf
  exact Ret.mk' ((), ()) [1000] [0] ⟨trivial, trivial⟩ rfl (by repeat' (first | exact trivial | rfl | apply And.intro)) (by repeat' (first | exact trivial | rfl | apply And.intro)) ⟨rfl, rfl⟩
theorem wnum_n (A : HProp) (n size : Int) : Pu Try.prog 14 [.c (.raw (.pointer none)), .c (.int .u64 n), .c (.int .i64 size)] A (.c (.int .i64 1)) := by
  refine Con.of' tt_ok Try.func14 rfl (by decide) [.c (.raw (.pointer none)), .c (.int .u64 n), .c (.int .i64 size)] [] [] rfl rfl (by repeat' (first | exact trivial | rfl | apply And.intro)) (by repeat' (first | exact trivial | rfl | apply And.intro)) rfl ?_
  conv => whnf
  refine CallOb.pu (wgood_n _) rfl ?_
  conv => whnf
  exact Ret.mk' () [] [0] trivial rfl (by repeat' (first | exact trivial | rfl | apply And.intro)) (by repeat' (first | exact trivial | rfl | apply And.intro)) ⟨rfl, rfl⟩
theorem wbytes_u (A : HProp) (g : Nat) (a : Option Addr) (c : Nat) (n : Nat) : Con Try.prog 16 [.c (.rp g 0), .c (.rs a n c)] [] [Wu g] A (fun _ : Unit => True) (fun _ => .c (.int .i64 1)) (fun _ => []) (fun _ => [Wu g]) := by
  refine Con.box (Y := Unit) (k' := fun _ _ => True) (Q' := fun _ _ => [wc g .ff w0 none 0]) (R' := fun _ _ => []) (Runs.of Try.func16 rfl (by decide)) ?_
  rintro ⟨⟩ hk
  refine Con.of' tt_ok Try.func16 rfl (by decide) [.c (.ptr 1000 0), .c (.rs a n c)] (B1 g) [(1000, (wc g .ff w0 none 0).2)] rfl rfl (by repeat' (first | exact trivial | rfl | apply And.intro)) (by repeat' (first | exact trivial | rfl | apply And.intro)) rfl ?_
  conv => whnf
  refine CallOb.by' [1000] [] (wgood_u _ g _ none 0) rfl ⟨rfl, rfl, rfl, fun _ _ => ⟨rfl, ?_⟩⟩
  conv => whnf
  exact Ret.mk' ((), ()) [1000] [0] ⟨trivial, trivial⟩ rfl (by repeat' (first | exact trivial | rfl | apply And.intro)) (by repeat' (first | exact trivial | rfl | apply And.intro)) ⟨rfl, rfl⟩
theorem wbytes_n (A : HProp) (a : Option Addr) (c : Nat) (n : Nat) : Pu Try.prog 16 [.c (.raw (.pointer none)), .c (.rs a n c)] A (.c (.int .i64 1)) := by
  refine Con.of' tt_ok Try.func16 rfl (by decide) [.c (.raw (.pointer none)), .c (.rs a n c)] [] [] rfl rfl (by repeat' (first | exact trivial | rfl | apply And.intro)) (by repeat' (first | exact trivial | rfl | apply And.intro)) rfl ?_
  conv => whnf
  refine CallOb.pu (wgood_n _) rfl ?_
  conv => whnf
  exact Ret.mk' () [] [0] trivial rfl (by repeat' (first | exact trivial | rfl | apply And.intro)) (by repeat' (first | exact trivial | rfl | apply And.intro)) ⟨rfl, rfl⟩
theorem wfill_u (A : HProp) (g : Nat) (n : Int) : Con Try.prog 18 [.c (.rp g 0), .c (.int .i64 n)] [] [Wu g] A (fun _ : Unit => True) (fun _ => .c (.int .i64 1)) (fun _ => []) (fun _ => [Wu g]) := by
  refine Con.box (Y := Unit) (k' := fun _ _ => True) (Q' := fun _ _ => [wc g .ff w0 none 0]) (R' := fun _ _ => []) (Runs.of Try.func18 rfl (by decide)) ?_
  rintro ⟨⟩ hk
  refine Con.of' tt_ok Try.func18 rfl (by decide) [.c (.ptr 1000 0), .c (.int .i64 n)] (B1 g) [(1000, (wc g .ff w0 none 0).2)] rfl rfl (by repeat' (first | exact trivial | rfl | apply And.intro)) (by repeat' (first | exact trivial | rfl | apply And.intro)) rfl ?_
  conv => whnf
  refine CallOb.by' [1000] [] (wgood_u _ g _ none 0) rfl ⟨rfl, rfl, rfl, fun _ _ => ⟨rfl, ?_⟩⟩
  conv => whnf
  exact Ret.mk' ((), ()) [1000] [0] ⟨trivial, trivial⟩ rfl (by repeat' (first | exact trivial | rfl | apply And.intro)) (by repeat' (first | exact trivial | rfl | apply And.intro)) ⟨rfl, rfl⟩
theorem wfill_n (A : HProp) (n : Int) : Pu Try.prog 18 [.c (.raw (.pointer none)), .c (.int .i64 n)] A (.c (.int .i64 1)) := by
  refine Con.of' tt_ok Try.func18 rfl (by decide) [.c (.raw (.pointer none)), .c (.int .i64 n)] [] [] rfl rfl (by repeat' (first | exact trivial | rfl | apply And.intro)) (by repeat' (first | exact trivial | rfl | apply And.intro)) rfl ?_
  conv => whnf
  refine CallOb.pu (wgood_n _) rfl ?_
  conv => whnf
  exact Ret.mk' () [] [0] trivial rfl (by repeat' (first | exact trivial | rfl | apply And.intro)) (by repeat' (first | exact trivial | rfl | apply And.intro)) ⟨rfl, rfl⟩
theorem wall_u (A : HProp) (g : Nat)  : Con Try.prog 20 [.c (.rp g 0)] [] [Wu g] A (fun _ : Unit => True) (fun _ => .tup [.c (.rs none 0 0), .c (.int .i64 1)]) (fun _ => []) (fun _ => [Wu g]) := by
  refine Con.box (Y := Unit) (k' := fun _ _ => True) (Q' := fun _ _ => [wc g .ff w0 none 0]) (R' := fun _ _ => []) (Runs.of Try.func20 rfl (by decide)) ?_
  rintro ⟨⟩ hk
  refine Con.of' tt_ok Try.func20 rfl (by decide) [.c (.ptr 1000 0)] (B1 g) [(1000, (wc g .ff w0 none 0).2)] rfl rfl (by repeat' (first | exact trivial | rfl | apply And.intro)) (by repeat' (first | exact trivial | rfl | apply And.intro)) rfl ?_
  conv => whnf
  refine CallOb.by' [1000] [] (wgood_u _ g _ none 0) rfl ⟨rfl, rfl, rfl, fun _ _ => ⟨rfl, ?_⟩⟩
  conv => whnf
  exact Ret.mk' ((), ()) [1000] [0] ⟨trivial, trivial⟩ rfl (by repeat' (first | exact trivial | rfl | apply And.intro)) (by repeat' (first | exact trivial | rfl | apply And.intro)) ⟨rfl, rfl⟩
theorem wall_n (A : HProp)  : Pu Try.prog 20 [.c (.raw (.pointer none))] A (.tup [.c (.rs none 0 0), .c (.int .i64 1)]) := by
  refine Con.of' tt_ok Try.func20 rfl (by decide) [.c (.raw (.pointer none))] [] [] rfl rfl (by repeat' (first | exact trivial | rfl | apply And.intro)) (by repeat' (first | exact trivial | rfl | apply And.intro)) rfl ?_
  conv => whnf
  refine CallOb.pu (wgood_n _) rfl ?_
  conv => whnf
  exact Ret.mk' () [] [0] trivial rfl (by repeat' (first | exact trivial | rfl | apply And.intro)) (by repeat' (first | exact trivial | rfl | apply And.intro)) ⟨rfl, rfl⟩
theorem rnum_u (A : HProp) (g : Nat) (n : Int) : Con Try.prog 22 [.c (.rp g 0), .c (.int .i64 n)] [] [Ru g] A (fun _ : Unit => True) (fun _ => .tup [.c (.int .u64 0), .c (.int .i64 1)]) (fun _ => []) (fun _ => [Ru g]) := by
  refine Con.box (Y := Unit) (k' := fun _ _ => True) (Q' := fun _ _ => [rc g .ff r0 none 0]) (R' := fun _ _ => []) (Runs.of Try.func22 rfl (by decide)) ?_
  rintro ⟨⟩ hk
  refine Con.of' tt_ok Try.func22 rfl (by decide) [.c (.ptr 1000 0), .c (.int .i64 n)] (B1 g) [(1000, (rc g .ff r0 none 0).2)] rfl rfl (by repeat' (first | exact trivial | rfl | apply And.intro)) (by repeat' (first | exact trivial | rfl | apply And.intro)) rfl ?_
  conv => whnf
  refine CallOb.by' [1000] [] (rgood_u _ g _ none 0) rfl ⟨rfl, rfl, rfl, fun _ _ => ⟨rfl, ?_⟩⟩
  conv => whnf
  exact Ret.mk' ((), ()) [1000] [0] ⟨trivial, trivial⟩ rfl (by repeat' (first | exact trivial | rfl | apply And.intro)) (by repeat' (first | exact trivial | rfl | apply And.intro)) ⟨rfl, rfl⟩
theorem rnum_n (A : HProp) (n : Int) : Pu Try.prog 22 [.c (.raw (.pointer none)), .c (.int .i64 n)] A (.tup [.c (.int .u64 0), .c (.int .i64 1)]) := by
  refine Con.of' tt_ok Try.func22 rfl (by decide) [.c (.raw (.pointer none)), .c (.int .i64 n)] [] [] rfl rfl (by repeat' (first | exact trivial | rfl | apply And.intro)) (by repeat' (first | exact trivial | rfl | apply And.intro)) rfl ?_
  conv => whnf
  refine CallOb.pu (rgood_n _) rfl ?_
  conv => whnf
  exact Ret.mk' () [] [0] trivial rfl (by repeat' (first | exact trivial | rfl | apply And.intro)) (by repeat' (first | exact trivial | rfl | apply And.intro)) ⟨rfl, rfl⟩
theorem rbytes_u (A : HProp) (g : Nat) (n : Int) : Con Try.prog 24 [.c (.rp g 0), .c (.int .i64 n)] [] [Ru g] A (fun _ : Unit => True) (fun _ => .tup [.c (.rs none 0 0), .c (.int .i64 1)]) (fun _ => []) (fun _ => [Ru g]) := by
  refine Con.box (Y := Unit) (k' := fun _ _ => True) (Q' := fun _ _ => [rc g .ff r0 none 0]) (R' := fun _ _ => []) (Runs.of Try.func24 rfl (by decide)) ?_
  rintro ⟨⟩ hk
  refine Con.of' tt_ok Try.func24 rfl (by decide) [.c (.ptr 1000 0), .c (.int .i64 n)] (B1 g) [(1000, (rc g .ff r0 none 0).2)] rfl rfl (by repeat' (first | exact trivial | rfl | apply And.intro)) (by repeat' (first | exact trivial | rfl | apply And.intro)) rfl ?_
  conv => whnf
  refine CallOb.by' [1000] [] (rgood_u _ g _ none 0) rfl ⟨rfl, rfl, rfl, fun _ _ => ⟨rfl, ?_⟩⟩
  conv => whnf
  exact Ret.mk' ((), ()) [1000] [0] ⟨trivial, trivial⟩ rfl (by repeat' (first | exact trivial | rfl | apply And.intro)) (by repeat' (first | exact trivial | rfl | apply And.intro)) ⟨rfl, rfl⟩
theorem rbytes_n (A : HProp) (n : Int) : Pu Try.prog 24 [.c (.raw (.pointer none)), .c (.int .i64 n)] A (.tup [.c (.rs none 0 0), .c (.int .i64 1)]) := by
  refine Con.of' tt_ok Try.func24 rfl (by decide) [.c (.raw (.pointer none)), .c (.int .i64 n)] [] [] rfl rfl (by repeat' (first | exact trivial | rfl | apply And.intro)) (by repeat' (first | exact trivial | rfl | apply And.intro)) rfl ?_
  conv => whnf
  refine CallOb.pu (rgood_n _) rfl ?_
  conv => whnf
  exact Ret.mk' () [] [0] trivial rfl (by repeat' (first | exact trivial | rfl | apply And.intro)) (by repeat' (first | exact trivial | rfl | apply And.intro)) ⟨rfl, rfl⟩
theorem rleft_u (A : HProp) (g : Nat)  : Con Try.prog 26 [.c (.rp g 0)] [] [Ru g] A (fun _ : Unit => True) (fun _ => .c (.int .i64 0)) (fun _ => []) (fun _ => [Ru g]) := by
  refine Con.box (Y := Unit) (k' := fun _ _ => True) (Q' := fun _ _ => [rc g .ff r0 none 0]) (R' := fun _ _ => []) (Runs.of Try.func26 rfl (by decide)) ?_
  rintro ⟨⟩ hk
  refine Con.of' tt_ok Try.func26 rfl (by decide) [.c (.ptr 1000 0)] (B1 g) [(1000, (rc g .ff r0 none 0).2)] rfl rfl (by repeat' (first | exact trivial | rfl | apply And.intro)) (by repeat' (first | exact trivial | rfl | apply And.intro)) rfl ?_
  conv => whnf
  refine CallOb.by' [1000] [] (rgood_u _ g _ none 0) rfl ⟨rfl, rfl, rfl, fun _ _ => ⟨rfl, ?_⟩⟩
  conv => whnf
  exact Ret.mk' ((), ()) [1000] [0] ⟨trivial, trivial⟩ rfl (by repeat' (first | exact trivial | rfl | apply And.intro)) (by repeat' (first | exact trivial | rfl | apply And.intro)) ⟨rfl, rfl⟩
theorem rleft_n (A : HProp)  : Pu Try.prog 26 [.c (.raw (.pointer none))] A (.c (.int .i64 0)) := by
  refine Con.of' tt_ok Try.func26 rfl (by decide) [.c (.raw (.pointer none))] [] [] rfl rfl (by repeat' (first | exact trivial | rfl | apply And.intro)) (by repeat' (first | exact trivial | rfl | apply And.intro)) rfl ?_
  conv => whnf
  refine CallOb.pu (rgood_n _) rfl ?_
  conv => whnf
  exact Ret.mk' () [] [0] trivial rfl (by repeat' (first | exact trivial | rfl | apply And.intro)) (by repeat' (first | exact trivial | rfl | apply And.intro)) ⟨rfl, rfl⟩
theorem rdone_u (A : HProp) (g : Nat)  : Con Try.prog 28 [.c (.rp g 0)] [] [Ru g] A (fun _ : Unit => True) (fun _ => .c .ff) (fun _ => []) (fun _ => [Ru g]) := by
  refine Con.box (Y := Unit) (k' := fun _ _ => True) (Q' := fun _ _ => [rc g .ff r0 none 0]) (R' := fun _ _ => []) (Runs.of Try.func28 rfl (by decide)) ?_
  rintro ⟨⟩ hk
  refine Con.of' tt_ok Try.func28 rfl (by decide) [.c (.ptr 1000 0)] (B1 g) [(1000, (rc g .ff r0 none 0).2)] rfl rfl (by repeat' (first | exact trivial | rfl | apply And.intro)) (by repeat' (first | exact trivial | rfl | apply And.intro)) rfl ?_
  conv => whnf
  refine CallOb.by' [1000] [] (rgood_u _ g _ none 0) rfl ⟨rfl, rfl, rfl, fun _ _ => ⟨rfl, ?_⟩⟩
  conv => whnf
  exact Ret.mk' ((), ()) [1000] [0] ⟨trivial, trivial⟩ rfl (by repeat' (first | exact trivial | rfl | apply And.intro)) (by repeat' (first | exact trivial | rfl | apply And.intro)) ⟨rfl, rfl⟩
theorem rdone_n (A : HProp)  : Pu Try.prog 28 [.c (.raw (.pointer none))] A (.c .ff) := by
  refine Con.of' tt_ok Try.func28 rfl (by decide) [.c (.raw (.pointer none))] [] [] rfl rfl (by repeat' (first | exact trivial | rfl | apply And.intro)) (by repeat' (first | exact trivial | rfl | apply And.intro)) rfl ?_
  conv => whnf
  refine CallOb.pu (rgood_n _) rfl ?_
  conv => whnf
  exact Ret.mk' () [] [0] trivial rfl (by repeat' (first | exact trivial | rfl | apply And.intro)) (by repeat' (first | exact trivial | rfl | apply And.intro)) ⟨rfl, rfl⟩
end Go.Proofs.Ythmopeddbpoakaa
