/- The document's answer: one step. -/
import Derived.Test.YtbncidjnjkhpfaaSd
namespace Go.Proofs.Ytbncidjnjkhpfaa
open Go.Sx
set_option maxRecDepth 100000
set_option pp.deepTerms false
set_option pp.maxSteps 300
set_option linter.unusedSimpArgs false

def zero : Stp := ⟨0, 0, 0, 0, []⟩
/-- One step: how many bytes it has; 0: there are too few. -/
def oneN (l : List UInt8) : Stp × Nat :=
  let k := gd l 0 % 9
  let n := 1 + szr k
  if l.length < n then (zero, 0)
  else if k = 1 then if l.length < n + gd l 3 then (zero, 0) else (⟨1, gd l 1, gd l 2, 0, (l.drop n).take (gd l 3)⟩, n + gd l 3)
  else if k = 5 then (⟨5, gd l 1, 256 * gd l 2 + gd l 3, gd l 4, []⟩, n)
  else if k = 6 then (⟨6, 0, 0, 0, []⟩, n)
  else (⟨k, gd l 1, 0, 0, []⟩, n)
theorem tmodg (l : List UInt8) (k : Nat) : (gd l k : Int).tmod 9 = ((gd l k % 9 : Nat) : Int) := (Int.ofNat_tmod _ _).symm

theorem one_c (A R : HProp) (hE : Ent A R) (a : Option Addr) (cap : Nat) (l : List UInt8) (hl : Bts R a cap l) (h0 : 0 < l.length) (hs : l.length ≤ 1000000) :
    Con Try.prog 21 [.c (.rs a l.length cap)] [] [] A (fun x : Option Addr × Nat => Bts R x.1 x.2 (oneN l).1.t) (fun x => .tup [.agg [.one (.int .i64 (oneN l).1.k), .one (.int .i64 (oneN l).1.a), .one (.int .i64 (oneN l).1.b), .one (.int .i64 (oneN l).1.c), .one (.rs x.1 (oneN l).1.t.length x.2)], .c (.int .i64 (oneN l).2)]) (fun _ => []) (fun _ => []) := by
  refine Con.of' tt_ok Try.func21 rfl (by decide) [.c (.rs a l.length cap)] [] [] rfl rfl trivial (by repeat' (first | exact trivial | apply And.intro)) rfl ?_
  have hr := hl.1.ent hE
  have hc := hl.2.1
  have q0 := gd_lt l 0
  have q1 := gd_lt l 1
  have q2 := gd_lt l 2
  have q3 := gd_lt l 3
  have q4 := gd_lt l 4
  conv => whnf
  intro b2
  conv => whnf
  refine idx (A := A) 0 (by simp) hr h0 rfl fun p hp => ?_
  subst hp
  conv => whnf
  refine ldb (A := A) 0 (by simp) hr h0 rfl rfl rfl ?_
  conv => whnf
  refine Ar.i64 (by omega) ?_
  conv => whnf
  refine ⟨by decide, ?_⟩
  rw [tmodg]
  conv => whnf
  intro b4
  conv => whnf
  refine CallOb.pu (size_c _ _) rfl ?_
  conv => whnf
  have k9 : gd l 0 % 9 < 9 := Nat.mod_lt _ (by decide)
  have hz : szr (gd l 0 % 9 : Nat) ≤ 4 := by unfold szr; split <;> (try split) <;> (try split) <;> omega
  refine Ar.i64 (by omega) ?_
  conv => whnf
  refine Cond.dec (fun h => ?_) (fun h => ?_)
  · have e : oneN l = (zero, 0) := by unfold oneN; rw [if_pos (by omega)]
    rw [e]
    conv => whnf
    exact Ret.mk' (none, 0) [] [0] ⟨rd_nil, Nat.le_refl _, fun _ => rfl⟩ rfl (by repeat' (first | exact trivial | apply And.intro)) (by repeat' (first | exact trivial | apply And.intro)) ⟨rfl, rfl⟩
  unfold oneN
  rw [if_neg (by omega)]
  conv => whnf
  refine Cond.neI (fun h6 => ?_) (fun h6 => ?_)
  · conv => whnf
    have l2 : 2 ≤ l.length := by
      have : szr (gd l 0 % 9 : Nat) ≥ 1 := by unfold szr; split <;> (try split) <;> (try split) <;> first | omega | (exfalso; omega)
      omega
    refine ⟨by omega, PtrOb.at ?_⟩
    conv => whnf
    refine ldb (A := A) 1 (by simp) hr (by omega) rfl rfl rfl ?_
    conv => whnf
    refine Ar.i64 (by omega) ?_
    conv => whnf
    refine Cond.eqI (fun h1 => ?_) (fun h1 => ?_)
    · have e1 : gd l 0 % 9 = 1 := by omega
      have ez : szr (gd l 0 % 9 : Nat) = 3 := by rw [e1]; rfl
      rw [if_pos e1, ez]
      conv => whnf
      refine ⟨by omega, PtrOb.at ?_⟩
      conv => whnf
      refine ldb (A := A) 2 (by simp) hr (by omega) rfl rfl rfl ?_
      conv => whnf
      refine Ar.i64 (by omega) ?_
      conv => whnf
      refine ⟨by omega, PtrOb.at ?_⟩
      conv => whnf
      refine ldb (A := A) 3 (by simp) hr (by omega) rfl rfl rfl ?_
      conv => whnf
      refine Ar.i64 (by omega) ?_
      conv => whnf
      refine Ar.i64 (by omega) ?_
      conv => whnf
      refine Cond.dec (fun h3 => ?_) (fun h3 => ?_)
      · rw [if_pos (by omega)]
        conv => whnf
        exact Ret.mk' (none, 0) [] [0] ⟨rd_nil, Nat.le_refl _, fun _ => rfl⟩ rfl (by repeat' (first | exact trivial | apply And.intro)) (by repeat' (first | exact trivial | apply And.intro)) ⟨rfl, rfl⟩
      · rw [if_neg (by omega)]
        conv => whnf
        refine ⟨by omega, ?_⟩
        conv => whnf
        refine ⟨by omega, ?_⟩
        conv => whnf
        have el : ((l.drop (1 + 3)).take (gd l 3)).length = gd l 3 := by simp; omega
        refine Ret.mk' (cutA (some (radr p)) cap 4 1, cap - 4) [] [0] (hl.sub 4 (gd l 3) (by omega)) ?_ (by repeat' (first | exact trivial | apply And.intro)) (by repeat' (first | exact trivial | apply And.intro)) ⟨rfl, rfl⟩
        dsimp only
        rw [el]
        have e4 : ((1 : Int) + (3 : Nat) + (gd l 3 : Nat)).toNat - 4 = gd l 3 := by omega
        show Value.tuple #[.agg #[_, _, _, _, .slice _ (((1 : Int) + (3 : Nat) + (gd l 3 : Nat)).toNat - 4) _], _] = Value.tuple #[.agg #[_, _, _, _, .slice _ _ _], _]
        rw [e4, show ((gd l 0 % 9 : Nat) : Int) = 1 from h1]
        simp [SA.den, SC.den]
    · have e1 : ¬ gd l 0 % 9 = 1 := by omega
      rw [if_neg e1]
      conv => whnf
      refine Cond.eqI (fun h5 => ?_) (fun h5 => ?_)
      · have e5 : gd l 0 % 9 = 5 := by omega
        have ez : szr (gd l 0 % 9 : Nat) = 4 := by rw [e5]; rfl
        rw [if_pos e5, ez]
        conv => whnf
        refine Draw.greedy (by kernel_rfl) tt_ok (List.range 12) [] [A] (by kernel_rfl) (fun _ _ h => by cases h) (Sub.parts [] [0] ⟨rfl, rfl⟩ ?_)
        conv => whnf
        refine ⟨by omega, PtrOb.at ?_⟩
        conv => whnf
        refine ldb (A := A) 2 (by simp) hr (by omega) rfl rfl rfl ?_
        conv => whnf
        refine Ar.i64 (by omega) ?_
        conv => whnf
        refine Ar.i64 (by omega) ?_
        conv => whnf
        refine ⟨by omega, PtrOb.at ?_⟩
        conv => whnf
        refine ldb (A := A) 3 (by simp) hr (by omega) rfl rfl rfl ?_
        conv => whnf
        refine Ar.i64 (by omega) ?_
        conv => whnf
        refine Ar.i64 (by omega) ?_
        conv => whnf
        refine Sub.parts [] [0] ⟨rfl, rfl⟩ ?_
        conv => whnf
        refine ⟨by omega, PtrOb.at ?_⟩
        conv => whnf
        refine ldb (A := A) 4 (by simp) hr (by omega) rfl rfl rfl ?_
        conv => whnf
        refine Ar.i64 (by omega) ?_
        conv => whnf
        refine Ret.mk' (none, 0) [] [0] ⟨rd_nil, Nat.le_refl _, fun _ => rfl⟩ ?_ (by repeat' (first | exact trivial | apply And.intro)) (by repeat' (first | exact trivial | apply And.intro)) ⟨rfl, rfl⟩
        rw [h5]
        rfl
      · have e5 : ¬ gd l 0 % 9 = 5 := by omega
        have e6 : ¬ gd l 0 % 9 = 6 := by omega
        rw [if_neg e5, if_neg e6]
        conv => whnf
        refine Ret.mk' (none, 0) [] [0] ⟨rd_nil, Nat.le_refl _, fun _ => rfl⟩ ?_ (by repeat' (first | exact trivial | apply And.intro)) (by repeat' (first | exact trivial | apply And.intro)) ⟨rfl, rfl⟩
        rfl
  · have e1 : ¬ gd l 0 % 9 = 1 := by omega
    have e5 : ¬ gd l 0 % 9 = 5 := by omega
    rw [if_neg e1, if_neg e5, if_pos (by omega)]
    conv => whnf
    refine Cond.eqI (fun h1 => absurd h1 (by omega)) (fun _ => ?_)
    conv => whnf
    refine Cond.eqI (fun h1 => absurd h1 (by omega)) (fun _ => ?_)
    conv => whnf
    refine Ret.mk' (none, 0) [] [0] ⟨rd_nil, Nat.le_refl _, fun _ => rfl⟩ ?_ (by repeat' (first | exact trivial | apply And.intro)) (by repeat' (first | exact trivial | apply And.intro)) ⟨rfl, rfl⟩
    rw [h6]
    rfl
end Go.Proofs.Ytbncidjnjkhpfaa
