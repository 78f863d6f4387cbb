/- The script's reader: a number, the bytes copied, a step. -/
import Derived.Test.YtbncidjnjkhpfaaSa
namespace Go.Proofs.Ytbncidjnjkhpfaa
open Go.Sx
set_option maxRecDepth 100000
set_option pp.deepTerms false
set_option pp.maxSteps 300
set_option linter.unusedSimpArgs false

theorem clone_c (A R : HProp) (hE : Ent A R) (a : Option Addr) (cap : Nat) (l : List UInt8) (hl : Bts R a cap l) (hs : l.length ≤ 1000000) :
    Con Try.prog 27 [.c (.rs a l.length cap)] [] [] A (fun x : Option Addr × Nat × HProp => Bts x.2.2 x.1 x.2.1 l) (fun x => .c (.rs x.1 l.length x.2.1)) (fun _ => []) (fun x => [x.2.2]) := by
  refine Con.of' tt_ok Try.func27 rfl (by decide) [.c (.rs a l.length cap)] [] [] rfl rfl trivial (by repeat' (first | exact trivial | apply And.intro)) rfl ?_
  conv => whnf
  refine Cond.mk (fun h => ?_) (fun h => ?_)
  · conv => whnf
    have h0 : l = [] := hl.2.2 (by simpa using h)
    subst h0
    refine Ret.grp [] [] ?_
    conv => whnf
    exact Ret.mk' (none, 0, all []) [] [0, 0] ⟨rd_nil, Nat.le_refl _, fun _ => rfl⟩ rfl (by repeat' (first | exact trivial | apply And.intro)) trivial ⟨rfl, rfl⟩
  · conv => whnf
    intro b
    conv => whnf
    refine With.own (i := 5) (n := 0) (cap := 0) (size := 1) ⟨_, _, rfl, ⟨rfl, Nat.le_refl _⟩, ?_⟩
    refine append_own (a := some ⟨b, 0, none⟩) (n := 0) (cap := 0) (xs := []) (k := l.length) (ys := u8s l) (src := .c (.rs a l.length cap)) (.refl _) rfl (by simp [u8s]) (Src.rs (A := A) (by simp) (hl.1.ent hE)) (u8s_one l) (by simp; omega) (by omega) (by decide) 22 (.inr rfl) ?_
    intro a' cap' hc hn
    conv => whnf
    simp only [Nat.zero_add, List.nil_append] at hc hn ⊢
    exact Ret.mk' (a', cap', Own a' cap' 5 1 (u8s l)) [] [0, 0] ⟨Own.rd, hc, fun e => List.eq_nil_of_length_eq_zero (hn e)⟩ rfl (by repeat' (first | exact trivial | apply And.intro)) trivial ⟨rfl, rfl⟩

/-- The reader's answer: the number, what is left, whether all is bad. -/
def numR (l : List UInt8) (bad : Bool) (size : Nat) : Int × List UInt8 × Bool := if l.length < size then (0, l, true) else (big (l.take size), l.drop size, bad)
abbrev rdr (r : Nat) (a : Option Addr) (cap : Nat) (l : List UInt8) (bad : Bool) : Cel := (r, [.one (.rs a l.length cap), .one (.bool bad)], 49)

theorem num_c (A R : HProp) (hE : Ent A R) (r : Nat) (a : Option Addr) (cap : Nat) (l : List UInt8) (bad : Bool) (hl : Bts R a cap l) (size : Nat) (hs : size ≤ 2) :
    Con Try.prog 19 [.c (.rp r 0), .c (.int .i64 size)] [rdr r a cap l bad] [] A (fun x : Option Addr × Nat => Bts R x.1 x.2 (numR l bad size).2.1) (fun _ => .c (.int .i64 (numR l bad size).1))
      (fun x => [rdr r x.1 x.2 (numR l bad size).2.1 (numR l bad size).2.2]) (fun _ => []) := by
  refine Con.of' tt_ok Try.func19 rfl (by decide) [.c (.ptr 1000 0), .c (.int .i64 size)] [(1000, r)] [(1000, [.one (.rs a l.length cap), .one (.bool bad)], 49)] rfl rfl ⟨⟨trivial, trivial, trivial, trivial⟩, trivial⟩ (by repeat' (first | exact trivial | apply And.intro)) rfl ?_
  conv => whnf
  have hlc : l.length ≤ cap := hl.2.1
  refine Cond.dec (fun h => ?_) (fun h => ?_)
  · conv => whnf
    have e : numR l bad size = (0, l, true) := if_pos (by omega)
    rw [e]
    exact Ret.mk' (a, cap) [1000] [0] hl rfl (by repeat' (first | exact trivial | apply And.intro)) (by repeat' (first | exact trivial | apply And.intro)) ⟨rfl, rfl⟩
  · have h' : size ≤ l.length := by omega
    have e : numR l bad size = (big (l.take size), l.drop size, bad) := if_neg (by omega)
    rw [e]
    conv => whnf
    refine ⟨by omega, ?_⟩
    conv => whnf
    refine LoopOb.mk' (σ := Nat) (fun k => [(0, .c (.ptr 1000 0)), (1, .c (.int .i64 size)), (5, .c (.int .i64 (big (l.take k)))), (23, .c (.rs (cutA a cap 0 1) size cap)), (24, .c (.int .i64 size)), (25, .c (.int .i64 k))])
      (fun _ => ⟨[(1000, r)], [(1000, [.one (.rs a l.length cap), .one (.bool bad)], 49)], [A]⟩) (fun k => k ≤ size) (fun k => size - k) 0 (Nat.zero_le _)
      (Wk.mk' [1000] [0] ⟨⟨rfl, trivial⟩, ⟨rfl, trivial⟩, ⟨rfl, trivial⟩, ⟨rfl, trivial⟩, ⟨rfl, trivial⟩, ⟨rfl, trivial⟩, trivial⟩ ⟨⟨trivial, trivial, trivial, trivial⟩, trivial⟩ ⟨rfl, rfl⟩) ?_
    intro k hk
    conv => whnf
    refine Cond.dec (fun h1 => ?_) (fun h1 => ?_)
    · have h1 : k < size := by omega
      conv => whnf
      refine ⟨by omega, ?_⟩
      have hr' := ((hl.take size).sub 0 size (by omega)).1.ent hE
      have e2 : ((l.take size).drop 0).take size = l.take size := by rw [List.drop_zero, List.take_take, Nat.min_self]
      rw [e2] at hr'
      refine PtrOb.rd (A := A) (by simp) hr' (by simp; omega) fun p hp => ?_
      rw [hp] at hr' ⊢
      conv => whnf
      have hlt : k < l.length := by omega
      refine ld (A := A) k (.int .u8 (l[k].toNat : Int)) rfl (by simp) hr' rfl (by simp) ?_ trivial ?_
      · rw [u8s_get (by simp; omega)]; simp [SC.den]
      conv => whnf
      have hb := big_lt (l.take k) 2 (by simp; omega)
      have hc256 := u8_lt l[k]
      refine ⟨by omega, Ar.to (big (l.take k) * 256) rfl ?_⟩
      refine Ar.i64 (by omega) ?_
      conv => whnf
      refine Ar.i64 (by omega) ?_
      conv => whnf
      refine Ar.i64 (by omega) ?_
      conv => whnf
      refine ⟨k + 1, h1, by omega, Wk.mk' [1000] [0] ⟨⟨rfl, trivial⟩, ⟨rfl, trivial⟩, ⟨?_, trivial⟩, ⟨?_, trivial⟩, ⟨rfl, trivial⟩, ⟨rfl, trivial⟩, trivial⟩ ⟨⟨trivial, trivial, trivial, trivial⟩, trivial⟩ ⟨rfl, rfl⟩⟩
      · show Value.int .i64 (ibits .or .i64 (big (l.take k) * 256) (l[k].toNat : Int)) = Value.int .i64 _
        rw [big_take l k hlt, or_byte hb.1 (by omega) hc256.1 hc256.2]
      · show SV.den _ (.c (.rs (some (radr p)) size cap)) = _
        rw [← hp]
    · have h1 : k = size := by omega
      subst h1
      conv => whnf
      refine ⟨by omega, ?_⟩
      conv => whnf
      refine Ret.mk' (cutA a cap k 1, cap - k) [1000] [0] (hl.drop k (by omega)) rfl (by repeat' (first | exact trivial | apply And.intro)) (by repeat' (first | exact trivial | apply And.intro)) ⟨?_, rfl⟩
      simp [Chunk.p, Cel.p, bl, dens, Seg.den, SC.den]

end Go.Proofs.Ytbncidjnjkhpfaa
