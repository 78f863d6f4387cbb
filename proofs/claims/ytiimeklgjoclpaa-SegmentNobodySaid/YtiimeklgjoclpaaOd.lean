/- The document's answer: bytes laid down, and taken. -/
import Derived.Test.YtiimeklgjoclpaaOc
namespace Go.Proofs.Ytiimeklgjoclpaa
open Go.Sx
set_option maxRecDepth 100000
set_option pp.deepTerms false
set_option pp.maxSteps 300
set_option linter.unusedSimpArgs false
set_option linter.unusedVariables false

abbrev wv (s : WS) (a : Option Addr) (c : Nat) : List Seg := [.one (.rs a s.l.length c), .one (.int .i64 s.room), .one (.int .i64 s.e)]
abbrev rv (s : RS) (a : Option Addr) (c : Nat) : List Seg := [.one (.rs a s.l.length c), .one (.int .i64 s.e)]

theorem digits_c (A : HProp) (n : Int) (size : Nat) (hs : size ≤ 8) :
    Con Try.prog 33 [.c (.int .u64 n), .c (.int .i64 size)] [] [] A (fun x : Option Addr × Nat => (beb n size).length ≤ x.2 ∧ (x.1 = none → beb n size = [])) (fun x => .c (.rs x.1 (beb n size).length x.2)) (fun _ => []) (fun x => [Own x.1 x.2 5 1 (u8s (beb n size))]) := by
  refine Con.of' tt_ok Try.func33 rfl (by decide) [.c (.int .u64 n), .c (.int .i64 size)] [] [] rfl rfl trivial (by repeat' (first | exact trivial | rfl | apply And.intro)) rfl ?_
  conv => whnf
  refine LoopOb.mk' (σ := NS) (fun s => [(0, .c (.int .u64 n)), (1, .c (.int .i64 size)), (5, .c (.rs s.a s.l.length s.cap)), (6, .c (.int .i64 ((size : Int) - s.k)))])
    (fun q => ⟨[], [], [Own q.a q.cap 5 1 (u8s q.l), A]⟩)
    (fun s => s.k ≤ size ∧ s.l.length ≤ 8 ∧ s.l ++ beb n s.k = beb n size ∧ (s.l.length ≤ s.cap ∧ (s.a = none → s.l = []))) (fun s => s.k) ⟨size, [], none, 0⟩ ⟨Nat.le_refl _, by simp, rfl, by simp⟩ ?_ ?_
  · refine Wk.own0 5 1 ?_
    refine Wk.mk' [] [0, 0] ⟨⟨rfl, trivial⟩, ⟨rfl, trivial⟩, ⟨rfl, trivial⟩, ⟨?_, trivial⟩, trivial⟩ (by repeat' (first | exact trivial | rfl | apply And.intro)) ⟨rfl, rfl⟩
    show Value.int .i64 0 = Value.int .i64 ((size : Int) - size)
    congr 1; omega
  rintro ⟨k, l', a', cap'⟩ ⟨hk8, hle, hb, hc⟩
  dsimp only at hk8 hle hb hc ⊢
  conv => whnf
  refine Cond.dec (fun h => ?_) (fun h => ?_)
  · obtain ⟨k, rfl⟩ : ∃ j, k = j + 1 := ⟨k - 1, by omega⟩
    conv => whnf
    refine Ar.i64 (by omega) ?_
    conv => whnf
    refine Ar.i64 (by omega) ?_
    conv => whnf
    refine Ar.i64 (by omega) ?_
    conv => whnf
    refine Ar.u64 (by omega) ?_
    conv => whnf
    refine ⟨by omega, ?_⟩
    refine Ar.wr ?_
    conv => whnf
    intro b18
    conv => whnf
    have e8 : min (8 * ((size : Int) - 1 - ((size : Int) - ((k + 1 : Nat) : Int)))).toNat IntKind.u64.bits = 8 * k := by simp [IntKind.bits]; omega
    refine append_bytes (a := a') (n := l'.length) (cap := cap') (l := l') (k := 1) (m := [by8 (n.fdiv (2 ^ (8 * k)))]) (src := .c (.slc 22 0 1 1)) (.refl _) rfl rfl
      (by rw [← e8]; simp only [u8s_by8, u8s_nil]; exact Src.slc (Exists.intro [] rfl)) ⟨rfl, rfl⟩ (by omega) 23 (.inr rfl) ?_
    intro a2 c2 hc2 hn2
    conv => whnf
    refine Ar.i64 (by omega) ?_
    conv => whnf
    refine ⟨⟨k, l' ++ [by8 (n.fdiv (2 ^ (8 * k)))], a2, c2⟩, ⟨by dsimp only; omega, ?_, ?_, by simp; omega, fun h => absurd (hn2 h) (by omega)⟩, by dsimp only; omega, Wk.mk' [] [0, 0] ⟨⟨rfl, trivial⟩, ⟨rfl, trivial⟩, ⟨?_, trivial⟩, ⟨?_, trivial⟩, trivial⟩ (by repeat' (first | exact trivial | rfl | apply And.intro)) ⟨rfl, rfl⟩⟩
    · have e := congrArg List.length hb
      simp only [List.length_append, beb_len] at e
      simp; omega
    · rw [← hb]; simp [beb]
    · show Value.slice a2 (l'.length + 1) c2 = Value.slice a2 (l' ++ [by8 (n.fdiv (2 ^ (8 * k)))]).length c2
      rw [List.length_append]; rfl
    · show Value.int .i64 ((size : Int) - ((k + 1 : Nat) : Int) + 1) = Value.int .i64 ((size : Int) - k)
      congr 1; omega
  · have h0 : k = 0 := by omega
    subst h0
    simp only [beb, List.append_nil] at hb
    subst hb
    conv => whnf
    exact Ret.mk' (a', cap') [] [0, 0] hc rfl (by repeat' (first | exact trivial | rfl | apply And.intro)) (by repeat' (first | exact trivial | rfl | apply And.intro)) ⟨rfl, rfl⟩

/-! The reader. -/
end Go.Proofs.Ytiimeklgjoclpaa
