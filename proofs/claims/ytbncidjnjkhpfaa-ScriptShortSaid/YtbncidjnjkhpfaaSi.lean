/- Encode, the program's: numbers laid behind. -/
import Derived.Test.YtbncidjnjkhpfaaSh
namespace Go.Proofs.Ytbncidjnjkhpfaa
open Go.Sx
set_option maxRecDepth 100000
set_option pp.deepTerms false
set_option pp.maxSteps 300
set_option linter.unusedSimpArgs false

/-- A number's lowest bytes, the highest one first. -/
def beb (n : Int) : Nat → List UInt8
  | 0 => []
  | k + 1 => by8 (n.fdiv (2 ^ (8 * k))) :: beb n k
theorem beb_len (n : Int) (k : Nat) : (beb n k).length = k := by induction k with
  | zero => rfl
  | succ k ih => simp [beb, ih]

structure PS where
  k : Nat
  l : List UInt8
  a : Option Addr
  cap : Nat

theorem put_c (A : HProp) (b : Nat) (a : Option Addr) (cap : Nat) (l : List UInt8) (hl : l.length ≤ 100000000) (hcap : l.length ≤ cap ∧ (a = none → l = [])) (n : Int) (size : Nat) (hs : size ≤ 2) :
    Con Try.prog 26 [.c (.int .i64 n), .c (.int .i64 size), .c (.rp b 0)] [(b, [.one (.rs a l.length cap)], 22)] [Own a cap 5 1 (u8s l)] A
      (fun x : Option Addr × Nat => (l ++ beb n size).length ≤ x.2 ∧ (x.1 = none → l ++ beb n size = [])) (fun _ => .tup []) (fun x => [(b, [.one (.rs x.1 (l ++ beb n size).length x.2)], 22)]) (fun x => [Own x.1 x.2 5 1 (u8s (l ++ beb n size))]) := by
  refine Con.of' tt_ok Try.func26 rfl (by decide) [.c (.int .i64 n), .c (.int .i64 size), .c (.ptr 1000 0)] [(1000, b)] [(1000, [.one (.rs a l.length cap)], 22)] rfl rfl (by repeat' (first | exact trivial | apply And.intro)) (by repeat' (first | exact trivial | apply And.intro)) rfl ?_
  conv => whnf
  refine Ar.i64 (by omega) ?_
  conv => whnf
  refine LoopOb.mk' (σ := PS) (fun s => [(0, .c (.int .i64 n)), (2, .c (.ptr 1000 0)), (5, .c (.int .i64 ((s.k : Int) - 1)))])
    (fun s => ⟨[(1000, b)], [(1000, [.one (.rs s.a s.l.length s.cap)], 22)], [Own s.a s.cap 5 1 (u8s s.l), A]⟩)
    (fun s => s.k ≤ 2 ∧ s.l.length ≤ l.length + 2 ∧ s.l ++ beb n s.k = l ++ beb n size ∧ (s.l.length ≤ s.cap ∧ (s.a = none → s.l = []))) (fun s => s.k) ⟨size, l, a, cap⟩ ⟨hs, by dsimp only; omega, rfl, hcap⟩
    (Wk.mk' [1000] [0, 0] ⟨⟨rfl, trivial⟩, ⟨rfl, trivial⟩, ⟨rfl, trivial⟩, trivial⟩ (by repeat' (first | exact trivial | apply And.intro)) ⟨rfl, rfl⟩) ?_
  rintro ⟨k, l', a', cap'⟩ ⟨hk, hle, hb, hc⟩
  dsimp only at hk hle hb hc ⊢
  conv => whnf
  refine Cond.dec (fun h => ?_) (fun h => ?_)
  · obtain ⟨k, rfl⟩ : ∃ j, k = j + 1 := ⟨k - 1, by omega⟩
    conv => whnf
    refine Draw.sealed (by kernel_rfl) tt_ok (List.range 9) 8 [(1000, [.one (.rs a' l'.length cap')], 22)] [A] (by kernel_rfl) (fun k c h => k c (by simpa using h)) (Sub.parts [1000] [1] ⟨rfl, rfl⟩ ?_)
    conv => whnf
    refine Ar.i64 (by omega) ?_
    conv => whnf
    refine ⟨by omega, ?_⟩
    conv => whnf
    refine Ar.wr ?_
    conv => whnf
    intro b18
    conv => whnf
    refine Sub.parts [1000] [1] ⟨rfl, rfl⟩ ?_
    conv => whnf
    have e8 : min (8 * (((k + 1 : Nat) : Int) - 1)).toNat IntKind.i64.bits = 8 * k := by simp [IntKind.bits]; omega
    refine append_bytes (a := a') (n := l'.length) (cap := cap') (l := l') (k := 1) (m := [by8 (n.fdiv (2 ^ (8 * k)))]) (src := .c (.slc 18 0 1 1)) (.refl _) rfl rfl
      (by rw [← e8]; simp only [u8s_by8, u8s_nil]; exact Src.slc (Exists.intro [] rfl)) ⟨rfl, rfl⟩ (by omega) 22 (.inr rfl) ?_
    intro a2 c2 hc2 hn2
    conv => whnf
    refine Sub.parts [1000] [1] ⟨rfl, rfl⟩ ?_
    conv => whnf
    refine Ar.i64 (by omega) ?_
    conv => whnf
    refine ⟨⟨k, l' ++ [by8 (n.fdiv (2 ^ (8 * k)))], a2, c2⟩, ⟨by dsimp only; omega, ?_, ?_, by simp; omega, fun h => absurd (hn2 h) (by omega)⟩, by dsimp only; omega, Wk.mk' [1000] [0, 0] ⟨⟨rfl, trivial⟩, ⟨rfl, trivial⟩, ⟨?_, trivial⟩, trivial⟩ (by repeat' (first | exact trivial | apply And.intro)) ⟨?_, rfl⟩⟩
    · have e := congrArg List.length hb
      simp only [List.length_append, beb_len] at e
      simp; omega
    · rw [← hb]; simp [beb]
    · show Value.int .i64 (((k + 1 : Nat) : Int) - 1 - 1) = Value.int .i64 ((k : Int) - 1)
      congr 1; omega
    · simp [Chunk.p, bl, dens, Seg.den, SC.den]
  · have h0 : k = 0 := by omega
    subst h0
    simp only [beb, List.append_nil] at hb
    subst hb
    conv => whnf
    exact Ret.mk' (a', cap') [1000] [0, 0] hc rfl (by repeat' (first | exact trivial | apply And.intro)) (by repeat' (first | exact trivial | apply And.intro)) ⟨rfl, rfl⟩
end Go.Proofs.Ytbncidjnjkhpfaa
