/- The law OctetReads, walked. -/
import Derived.Test.YthmopeddbpoakaaOe
namespace Go.Proofs.Ythmopeddbpoakaa
open Go.Sx
set_option maxRecDepth 100000
set_option pp.deepTerms false
set_option pp.maxSteps 300
set_option linter.unusedSimpArgs false
set_option linter.unusedVariables false

structure RL where
  i : Nat
  s : RS
  a : Option Addr
  c : Nat

theorem rtake_le (s : RS) (n : Nat) : (s.take n).1.l.length ≤ s.l.length ∧ (s.take n).2.1.length ≤ s.l.length := by
  unfold RS.take; split
  · split
    · exact ⟨Nat.le_refl _, by simp⟩
    · exact ⟨by simp, by simp; omega⟩
  · exact ⟨Nat.le_refl _, by simp⟩
theorem rnum_le (s : RS) (n : Int) : (s.num n).1.l.length ≤ s.l.length := by
  unfold RS.num; split
  · rw [rfail_l]; exact Nat.le_refl _
  · exact (rtake_le s _).1
theorem rbytes_le (s : RS) (n : Int) : (s.bytes n).1.l.length ≤ s.l.length ∧ (s.bytes n).2.1.length ≤ s.l.length := by
  unfold RS.bytes; split
  · rw [rfail_l]; exact ⟨Nat.le_refl _, by simp⟩
  · exact rtake_le s _

theorem reads_c (W : World) (a : Option Addr) (c : Nat) (b : List UInt8) (hb : Bts (old W) a c b) (a0 : Option Addr) (c0 : Nat) (l : List Act) (hrow : Row (old W) a0 4 (ActE (old W)) l) : LawC Try.prog 4 [.c (.rs a b.length c), .c (.rs a0 l.length c0)] W := by
  refine Con.of' tt_ok Try.func4 rfl (by decide) [.c (.rs a b.length c), .c (.rs a0 l.length c0)] [] [] rfl rfl trivial (by repeat' (first | exact trivial | rfl | apply And.intro)) rfl ?_
  conv => whnf
  refine CallOb.pu (alive7_c _) rfl ?_
  conv => whnf
  refine Cond.mk (fun h => by cases h) (fun _ => ?_)
  conv => whnf
  refine Cond.dec (fun h => ?_) (fun h => ?_)
  · conv => whnf
    exact Ret.mk' () [] [0] trivial rfl (by repeat' (first | exact trivial | rfl | apply And.intro)) (by repeat' (first | exact trivial | rfl | apply And.intro)) ⟨rfl, rfl⟩
  conv => whnf
  refine CallOb.by' [] [] (newReader_c _ (old W) (Ent.all (by first | (simp; done) | (simp [M.props]; done) | (simp [M.props]; first | (left; rfl) | (right; left; rfl) | (right; right; left; rfl) | (right; right; right; left; rfl) | (right; right; right; right; left; rfl)))) a c b hb (by omega)) rfl ⟨rfl, rfl, rfl, fun g _ => ⟨rfl, ?_⟩⟩
  conv => whnf
  intro b6
  conv => whnf
  refine LoopOb.mk' (σ := RL) (fun s => [(1, .c (.rs a0 l.length c0)), (5, .c (.rp g 0)), (6, .c (.ptr 6 0)), (7, .c (.int .i64 s.i))])
    (fun s => ⟨[(6, b6)], [(6, rv s.s s.a s.c, 46)], [Rr g s.s, old W]⟩) (fun s => s.i ≤ l.length ∧ s.s.l.length ≤ 1000 ∧ Bts (old W) s.a s.c s.s.l) (fun s => l.length - s.i)
    ⟨0, ⟨0, b⟩, a, c⟩ ⟨Nat.zero_le _, by dsimp only; omega, hb⟩ (Wk.mk' [6] [0, 0] ⟨⟨rfl, trivial⟩, ⟨rfl, trivial⟩, ⟨rfl, (by repeat' (first | exact trivial | rfl | apply And.intro))⟩, ⟨rfl, trivial⟩, trivial⟩ (by repeat' (first | exact trivial | rfl | apply And.intro)) ⟨rfl, rfl⟩) ?_
  rintro ⟨i, s, a, c⟩ ⟨hi, hle, hZ⟩
  dsimp only at hi hle hZ ⊢
  conv => whnf
  refine Cond.dec (fun h => ?_) (fun h => ?_)
  case refine_2 =>
    conv => whnf
    exact Ret.mk' () [] [1] trivial rfl (by repeat' (first | exact trivial | rfl | apply And.intro)) (by repeat' (first | exact trivial | rfl | apply And.intro)) ⟨rfl, rfl⟩
  conv => whnf
  refine Cond.dec (fun h60 => ?_) (fun h60 => ?_)
  case refine_2 =>
    conv => whnf
    exact Ret.mk' () [] [1] trivial rfl (by repeat' (first | exact trivial | rfl | apply And.intro)) (by repeat' (first | exact trivial | rfl | apply And.intro)) ⟨rfl, rfl⟩
  have hi' : i < l.length := by omega
  conv => whnf
  refine ⟨by omega, ?_⟩
  refine row_ptr (A := old W) (by simp) (Ent.refl _) hrow (by omega) fun p hp => ?_
  subst hp
  conv => whnf
  refine ldact (A := old W) i (by simp) (Ent.refl _) hrow hi' rfl rfl rfl (by simp) fun ta tc ht hx => ?_
  generalize l[i] = x at ht hx ⊢
  obtain ⟨xk, xn, xz, xb⟩ := x
  obtain ⟨hxk, hxn, hxz⟩ := hx
  dsimp only at ht hxk hxn hxz ⊢
  conv => whnf
  intro b8
  conv => whnf
  refine ⟨by decide, ?_⟩
  refine Cond.eqI (fun h2 => ?_) (fun h2 => ?_)
  · conv => whnf
    refine CallOb.by' [] [0] (rnum_c _ g s xz) rfl ⟨rfl, rfl, rfl, fun _ _ => ⟨rfl, ?_⟩⟩
    conv => whnf
    refine CallOb.by' [] [] (dtakenum_c _ (old W) (Ent.all (by first | (simp; done) | (simp [M.props]; done) | (simp [M.props]; first | (left; rfl) | (right; left; rfl) | (right; right; left; rfl) | (right; right; right; left; rfl) | (right; right; right; right; left; rfl)))) s a c hZ xz (by omega)) rfl ⟨rfl, rfl, rfl, fun x1 hx1 => ⟨rfl, ?_⟩⟩
    have hle2 := rnum_le s xz
    generalize s.num xz = s' at hx1 hle2 ⊢
    obtain ⟨s', v, f⟩ := s'
    obtain ⟨a', c'⟩ := x1
    dsimp only at hx1 hle2 ⊢
    have hZ' := hx1
    conv => whnf
    intro b11
    conv => whnf
    refine Cond.neI (fun h => absurd rfl h) (fun _ => ?_)
    conv => whnf
    refine Cond.neI (fun h => absurd rfl h) (fun _ => ?_)
    conv => whnf
    refine Draw.greedy (by kernel_rfl) tt_ok [0, 2, 1, 3, 4, 5, 6, 8, 7, 9, 10, 11] [(6, rv s' a' c', 46)] [old W] (by kernel_rfl) (fun k c h => k c (by simp at h; simp [h])) (Sub.parts [6] [1] ⟨rfl, rfl⟩ ?_)
    conv => whnf
    refine CallOb.by' [] [0] (rleft_c _ g s') rfl ⟨rfl, rfl, rfl, fun _ _ => ⟨rfl, ?_⟩⟩
    conv => whnf
    refine Sub.parts [6] [1] ⟨rfl, rfl⟩ ?_
    conv => whnf
    refine CallOb.pu (dleft_c _ s' a' c') rfl ?_
    conv => whnf
    refine Sub.parts [6] [1] ⟨rfl, rfl⟩ ?_
    conv => whnf
    refine Cond.neI (fun h => absurd rfl h) (fun _ => ?_)
    conv => whnf
    refine CallOb.by' [] [0] (rdone_c _ g s') rfl ⟨rfl, rfl, rfl, fun _ _ => ⟨rfl, ?_⟩⟩
    conv => whnf
    refine Sub.parts [6] [1] ⟨rfl, rfl⟩ ?_
    conv => whnf
    refine CallOb.pu (ddone_c _ (old W) (Ent.all (by first | (simp; done) | (simp [M.props]; done) | (simp [M.props]; first | (left; rfl) | (right; left; rfl) | (right; right; left; rfl) | (right; right; right; left; rfl) | (right; right; right; right; left; rfl)))) s' a' c' hZ' (by omega)) rfl ?_
    conv => whnf
    refine Sub.parts [6] [1] ⟨rfl, rfl⟩ ?_
    conv => whnf
    refine Cond.mk (fun h => by simp at h) (fun _ => ?_)
    conv => whnf
    refine Ar.i64 (by omega) ?_
    conv => whnf
    exact ⟨⟨i + 1, s', a', c'⟩, ⟨by dsimp only; omega, by dsimp only; omega, hZ'⟩, by dsimp only; omega, Wk.mk' [6] [0, 0] ⟨⟨rfl, trivial⟩, ⟨rfl, trivial⟩, ⟨rfl, (by repeat' (first | exact trivial | rfl | apply And.intro))⟩, ⟨rfl, trivial⟩, trivial⟩ (by repeat' (first | exact trivial | rfl | apply And.intro)) ⟨rfl, rfl⟩⟩
  · conv => whnf
    refine CallOb.by' [] [0] (rbytes_c _ g s xz) rfl ⟨rfl, rfl, rfl, fun x0 hx0 => ⟨rfl, ?_⟩⟩
    conv => whnf
    refine CallOb.by' [] [] (dtakebytes_c _ (old W) (Ent.all (by first | (simp; done) | (simp [M.props]; done) | (simp [M.props]; first | (left; rfl) | (right; left; rfl) | (right; right; left; rfl) | (right; right; right; left; rfl) | (right; right; right; right; left; rfl)))) s a c hZ xz (by omega)) rfl ⟨rfl, rfl, rfl, fun x1 hx1 => ⟨rfl, ?_⟩⟩
    have hle2 := rbytes_le s xz
    generalize s.bytes xz = s' at hx0 hx1 hle2 ⊢
    obtain ⟨s', v, f⟩ := s'
    obtain ⟨⟨a', c'⟩, a3, c3⟩ := x1
    obtain ⟨a2, c2⟩ := x0
    dsimp only at hx0 hx1 hle2 ⊢
    obtain ⟨hZ', hv⟩ := hx1
    conv => whnf
    intro b16
    conv => whnf
    refine conv_str (x := .c (.rs a2 v.length c2)) Try.underlying26 Try.underlying5 Try.underlying9 (Src.rs (A := Own a2 c2 5 1 (u8s v)) (by simp) Own.rd) rfl (fun s h => by cases h) ?_
    conv => whnf
    refine conv_str (x := .c (.rs a3 v.length c3)) Try.underlying26 Try.underlying5 Try.underlying9 (Src.rs (A := old W) (by simp) hv.1) rfl (fun s h => by cases h) ?_
    conv => whnf
    refine Cond.mk (fun h => by simp at h) (fun _ => ?_)
    conv => whnf
    refine Cond.neI (fun h => absurd rfl h) (fun _ => ?_)
    conv => whnf
    refine LoopOb.mk' (σ := Nat × List UInt8) (fun q => [(1, .c (.rs (some (radr p)) l.length c0)), (5, .c (.rp g 0)), (6, .c (.ptr 6 0)), (7, .c (.int .i64 i)), (14, .c (.rs a2 v.length c2)), (100, .c (.int .i64 v.length)), (101, .c (.int .i64 q.1))])
      (fun q => ⟨[(6, b6)], [(6, rv s' a' c', 46)], [Own a2 c2 5 1 (u8s q.2), Rr g s', old W]⟩) (fun q => q.1 ≤ v.length ∧ q.2.length = v.length) (fun q => v.length - q.1)
      (0, v) ⟨Nat.zero_le _, rfl⟩ (Wk.mk' [6] [1, 0, 0] ⟨⟨rfl, trivial⟩, ⟨rfl, trivial⟩, ⟨rfl, (by repeat' (first | exact trivial | rfl | apply And.intro))⟩, ⟨rfl, trivial⟩, ⟨rfl, trivial⟩, ⟨rfl, trivial⟩, ⟨rfl, trivial⟩, trivial⟩ (by repeat' (first | exact trivial | rfl | apply And.intro)) ⟨rfl, rfl⟩) ?_
    rintro ⟨k, v'⟩ ⟨hk, hv'⟩
    dsimp only at hk hv' ⊢
    conv => whnf
    refine Cond.dec (fun h7 => ?_) (fun h7 => ?_)
    · have hk' : k < v'.length := by omega
      conv => whnf
      refine ⟨by omega, PtrOb.rd (A := Own a2 c2 5 1 (u8s v')) (by simp) Own.rd (by rw [u8s_length]; omega) fun p2 hp2 => ?_⟩
      subst hp2
      conv => whnf
      refine ldb (A := Own (some (radr p2)) c2 5 1 (u8s v')) k (by simp) Own.rd hk' rfl rfl (by first | rfl | simp) ?_
      conv => whnf
      refine ⟨by omega, PtrOb.at ?_⟩
      conv => whnf
      obtain ⟨cc, hcc⟩ := xor_byte (gd v' k) 255
      rw [hcc]
      refine st_byte k cc (.refl _) rfl rfl (by first | rfl | simp) rfl hk' ?_
      conv => whnf
      refine Ar.i64 (by omega) ?_
      conv => whnf
      exact ⟨(k + 1, v'.set k cc), ⟨by dsimp only; omega, by simpa using hv'⟩, by dsimp only; omega, Wk.mk' [6] [0, 0, 0] ⟨⟨rfl, trivial⟩, ⟨rfl, trivial⟩, ⟨rfl, (by repeat' (first | exact trivial | rfl | apply And.intro))⟩, ⟨rfl, trivial⟩, ⟨rfl, trivial⟩, ⟨rfl, trivial⟩, ⟨rfl, trivial⟩, trivial⟩ (by repeat' (first | exact trivial | rfl | apply And.intro)) ⟨rfl, rfl⟩⟩
    · conv => whnf
      refine Draw.greedy (by kernel_rfl) tt_ok [0, 2, 1, 3, 4, 5, 6, 8, 7, 9, 10, 11] [(6, rv s' a' c', 46)] [old W] (by kernel_rfl) (fun k c h => k c (by simp at h; simp [h])) (Sub.parts [6] [2] ⟨rfl, rfl⟩ ?_)
      conv => whnf
      refine CallOb.by' [] [1] (rleft_c _ g s') rfl ⟨rfl, rfl, rfl, fun _ _ => ⟨rfl, ?_⟩⟩
      conv => whnf
      refine Sub.parts [6] [2] ⟨rfl, rfl⟩ ?_
      conv => whnf
      refine CallOb.pu (dleft_c _ s' a' c') rfl ?_
      conv => whnf
      refine Sub.parts [6] [2] ⟨rfl, rfl⟩ ?_
      conv => whnf
      refine Cond.neI (fun h => absurd rfl h) (fun _ => ?_)
      conv => whnf
      refine CallOb.by' [] [0] (rdone_c _ g s') rfl ⟨rfl, rfl, rfl, fun _ _ => ⟨rfl, ?_⟩⟩
      conv => whnf
      refine Sub.parts [6] [2] ⟨rfl, rfl⟩ ?_
      conv => whnf
      refine CallOb.pu (ddone_c _ (old W) (Ent.all (by first | (simp; done) | (simp [M.props]; done) | (simp [M.props]; first | (left; rfl) | (right; left; rfl) | (right; right; left; rfl) | (right; right; right; left; rfl) | (right; right; right; right; left; rfl)))) s' a' c' hZ' (by omega)) rfl ?_
      conv => whnf
      refine Sub.parts [6] [2] ⟨rfl, rfl⟩ ?_
      conv => whnf
      refine Cond.mk (fun h => by simp at h) (fun _ => ?_)
      conv => whnf
      refine Ar.i64 (by omega) ?_
      conv => whnf
      exact ⟨⟨i + 1, s', a', c'⟩, ⟨by dsimp only; omega, by dsimp only; omega, hZ'⟩, by dsimp only; omega, Wk.mk' [6] [0, 1] ⟨⟨rfl, trivial⟩, ⟨rfl, trivial⟩, ⟨rfl, (by repeat' (first | exact trivial | rfl | apply And.intro))⟩, ⟨rfl, trivial⟩, trivial⟩ (by repeat' (first | exact trivial | rfl | apply And.intro)) ⟨rfl, rfl⟩⟩
end Go.Proofs.Ythmopeddbpoakaa
