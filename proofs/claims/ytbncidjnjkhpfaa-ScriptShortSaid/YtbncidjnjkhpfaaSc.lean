/- The script's reader: a step. -/
import Derived.Test.YtbncidjnjkhpfaaSb
namespace Go.Proofs.Ytbncidjnjkhpfaa
open Go.Sx
set_option maxRecDepth 100000
set_option pp.deepTerms false
set_option pp.maxSteps 300
set_option linter.unusedSimpArgs false

def num1 (kind : Int) (l : List UInt8) (bad : Bool) := numR l bad (shp kind).1
def num2 (kind : Int) (l : List UInt8) (bad : Bool) := numR (num1 kind l bad).2.1 (num1 kind l bad).2.2 (shp kind).2.1
def num3 (kind : Int) (l : List UInt8) (bad : Bool) := numR (num2 kind l bad).2.1 (num2 kind l bad).2.2 (shp kind).2.2.1
def num4 (kind : Int) (l : List UInt8) (bad : Bool) := numR (num3 kind l bad).2.1 (num3 kind l bad).2.2 (shp kind).2.2.2
/-- A step taken: the step, what is left, whether all is bad. -/
def stepR (kind : Int) (l : List UInt8) (bad : Bool) : Stp × List UInt8 × Bool :=
  if (num4 kind l bad).1 > ((num4 kind l bad).2.1.length : Int) ∨ (num4 kind l bad).2.2 = true then (⟨kind, (num1 kind l bad).1, (num2 kind l bad).1, (num3 kind l bad).1, []⟩, (num4 kind l bad).2.1, true)
  else (⟨kind, (num1 kind l bad).1, (num2 kind l bad).1, (num3 kind l bad).1, (num4 kind l bad).2.1.take (num4 kind l bad).1.toNat⟩, (num4 kind l bad).2.1.drop (num4 kind l bad).1.toNat, false)
theorem shp_le (k : Int) : (shp k).1 ≤ 1 ∧ (shp k).2.1 ≤ 2 ∧ (shp k).2.2.1 ≤ 1 ∧ (shp k).2.2.2 ≤ 1 := by unfold shp; split <;> (try split) <;> (try split) <;> simp
theorem numR_range (l : List UInt8) (bad : Bool) (n : Nat) : 0 ≤ (numR l bad n).1 ∧ (numR l bad n).1 < 256 ^ n := by
  unfold numR; split
  · have : (0 : Int) < 256 ^ n := Int.pow_pos (by omega)
    exact ⟨Int.le_refl _, this⟩
  · have := big_lt (l.take n) n (by simp; omega)
    exact this
theorem numR_len (l : List UInt8) (bad : Bool) (n : Nat) : (numR l bad n).2.1.length ≤ l.length := by
  unfold numR; split <;> simp
theorem num4_range (kind : Int) (l : List UInt8) (bad : Bool) : 0 ≤ (num4 kind l bad).1 ∧ (num4 kind l bad).1 < 256 := by
  have h := numR_range (num3 kind l bad).2.1 (num3 kind l bad).2.2 (shp kind).2.2.2
  have h2 := (shp_le kind).2.2.2
  have h3 : (256 : Int) ^ (shp kind).2.2.2 ≤ 256 := by
    rcases Nat.le_one_iff_eq_zero_or_eq_one.1 h2 with e | e <;> rw [e] <;> decide
  exact ⟨h.1, Int.lt_of_lt_of_le h.2 h3⟩
theorem num4_len (kind : Int) (l : List UInt8) (bad : Bool) : (num4 kind l bad).2.1.length ≤ l.length :=
  Nat.le_trans (numR_len _ _ _) (Nat.le_trans (numR_len _ _ _) (Nat.le_trans (numR_len _ _ _) (numR_len _ _ _)))

theorem step_c (A R : HProp) (hE : Ent A R) (r : Nat) (a : Option Addr) (cap : Nat) (l : List UInt8) (bad : Bool) (hl : Bts R a cap l) (hs : l.length ≤ 1000000) (kind : Int) :
    Con Try.prog 20 [.c (.rp r 0), .c (.int .i64 kind)] [rdr r a cap l bad] [] A
      (fun x : (Option Addr × Nat) × Option Addr × Nat × HProp => Bts R x.1.1 x.1.2 (stepR kind l bad).2.1 ∧ Bts x.2.2.2 x.2.1 x.2.2.1 (stepR kind l bad).1.t) (fun x => (stepR kind l bad).1.sv x.2.1 x.2.2.1)
      (fun x => [rdr r x.1.1 x.1.2 (stepR kind l bad).2.1 (stepR kind l bad).2.2]) (fun x => [x.2.2.2]) := by
  refine Con.of' tt_ok Try.func20 rfl (by decide) [.c (.ptr 1000 0), .c (.int .i64 kind)] [(1000, r)] [(1000, [.one (.rs a l.length cap), .one (.bool bad)], 49)] rfl rfl ⟨⟨trivial, trivial, trivial, trivial⟩, trivial⟩ (by repeat' (first | exact trivial | apply And.intro)) rfl ?_
  have hA : ∀ {x : List HProp}, A ∈ x → Ent (all x) R := fun h => (Ent.all h).trans hE
  have hsh := shp_le kind
  conv => whnf
  intro b4
  conv => whnf
  refine CallOb.pu (shape_c _ kind) rfl ?_
  conv => whnf
  intro b9
  conv => whnf
  refine CallOb.by' [1000] [] (num_c _ R (hA (by simp)) r a cap l bad hl (shp kind).1 (by omega)) rfl ⟨rfl, rfl, rfl, fun x1 hx1 => ⟨rfl, ?_⟩⟩
  have f1 := numR_len l bad (shp kind).1
  generalize e1 : numR l bad (shp kind).1 = n1 at hx1 f1 ⊢
  conv => whnf
  refine CallOb.by' [1000] [] (num_c _ R (hA (by simp)) r x1.1 x1.2 _ _ hx1 (shp kind).2.1 (by omega)) rfl ⟨rfl, rfl, rfl, fun x2 hx2 => ⟨rfl, ?_⟩⟩
  have f2 := numR_len n1.2.1 n1.2.2 (shp kind).2.1
  generalize e2 : numR n1.2.1 n1.2.2 (shp kind).2.1 = n2 at hx2 f2 ⊢
  conv => whnf
  refine CallOb.by' [1000] [] (num_c _ R (hA (by simp)) r x2.1 x2.2 _ _ hx2 (shp kind).2.2.1 (by omega)) rfl ⟨rfl, rfl, rfl, fun x3 hx3 => ⟨rfl, ?_⟩⟩
  have f3 := numR_len n2.2.1 n2.2.2 (shp kind).2.2.1
  generalize e3 : numR n2.2.1 n2.2.2 (shp kind).2.2.1 = n3 at hx3 f3 ⊢
  conv => whnf
  refine CallOb.by' [1000] [] (num_c _ R (hA (by simp)) r x3.1 x3.2 _ _ hx3 (shp kind).2.2.2 (by omega)) rfl ⟨rfl, rfl, rfl, fun x4 hx4 => ⟨rfl, ?_⟩⟩
  have f4 := numR_len n3.2.1 n3.2.2 (shp kind).2.2.2
  have g4 := num4_range kind l bad
  have d1 : num1 kind l bad = n1 := e1
  have d2 : num2 kind l bad = n2 := by unfold num2; rw [d1]; exact e2
  have d3 : num3 kind l bad = n3 := by unfold num3; rw [d2]; exact e3
  have d4 : num4 kind l bad = numR n3.2.1 n3.2.2 (shp kind).2.2.2 := by unfold num4; rw [d3]
  generalize e4 : numR n3.2.1 n3.2.2 (shp kind).2.2.2 = n4 at hx4 f4 d4 ⊢
  rw [d4] at g4
  have fl : n4.2.1.length ≤ 1000000 := by omega
  unfold stepR
  rw [d1, d2, d3, d4]
  clear e1 e2 e3 e4 d1 d2 d3 d4 f1 f2 f3 f4 hsh hx1 hx2 hx3
  have fin : ∀ (m : n4.2.2 = true ∨ n4.1 > (n4.2.1.length : Int)), (if n4.1 > (n4.2.1.length : Int) ∨ n4.2.2 = true then ((⟨kind, n1.1, n2.1, n3.1, []⟩ : Stp), n4.2.1, true) else (⟨kind, n1.1, n2.1, n3.1, n4.2.1.take n4.1.toNat⟩, n4.2.1.drop n4.1.toNat, false)) = (⟨kind, n1.1, n2.1, n3.1, []⟩, n4.2.1, true) := fun m => if_pos m.symm
  conv => whnf
  refine Cond.dec (fun h => ?_) (fun h => ?_)
  · rw [fin (.inr h)]
    conv => whnf
    refine Ret.grp [] [] ?_
    conv => whnf
    exact Ret.mk' ((x4.1, x4.2), none, 0, all []) [1000] [0, 0] ⟨hx4, rd_nil, Nat.le_refl _, fun _ => rfl⟩ rfl (by repeat' (first | exact trivial | apply And.intro)) (by repeat' (first | exact trivial | apply And.intro)) ⟨rfl, rfl⟩
  · conv => whnf
    refine Cond.mk (fun h2 => ?_) (fun h2 => ?_)
    · rw [fin (.inl h2)]
      conv => whnf
      refine Ret.grp [] [] ?_
      conv => whnf
      exact Ret.mk' ((x4.1, x4.2), none, 0, all []) [1000] [0, 0] ⟨hx4, rd_nil, Nat.le_refl _, fun _ => rfl⟩ rfl (by repeat' (first | exact trivial | apply And.intro)) (by repeat' (first | exact trivial | apply And.intro)) ⟨rfl, rfl⟩
    · rw [if_neg (by simp [h2]; omega)]
      conv => whnf
      refine ⟨by have := hx4.2.1; omega, ?_⟩
      obtain ⟨k, hk⟩ := Int.eq_ofNat_of_zero_le g4.1
      have hkl : k ≤ n4.2.1.length := by omega
      have el : (n4.2.1.take n4.1.toNat).length = n4.1.toNat := by rw [List.length_take]; omega
      conv => whnf
      refine CallOb.by' [] [] (clone_c _ R (hA (by simp)) (cutA x4.1 x4.2 0 1) x4.2 (n4.2.1.take n4.1.toNat) ?_ (by omega)) ?_ ⟨rfl, rfl, rfl, fun x5 hx5 => ⟨rfl, ?_⟩⟩
      · have := (hx4.take n4.1.toNat).sub 0 n4.1.toNat (by have := hx4.2.1; omega)
        rw [List.drop_zero, List.take_take, Nat.min_self] at this
        exact this
      · rw [el]; rfl
      conv => whnf
      refine ⟨by omega, ?_⟩
      conv => whnf
      have := hx4.2.1
      refine Ret.mk' ((cutA x4.1 x4.2 n4.1.toNat 1, x4.2 - n4.1.toNat), x5.1, x5.2.1, x5.2.2) [1000] [0, 0] ⟨hx4.drop n4.1.toNat (by omega), hx5⟩ rfl (by repeat' (first | exact trivial | apply And.intro)) (by repeat' (first | exact trivial | apply And.intro)) ⟨?_, rfl⟩
      simp [Chunk.p, Cel.p, bl, dens, Seg.den, SC.den, el, h2]
end Go.Proofs.Ytbncidjnjkhpfaa
