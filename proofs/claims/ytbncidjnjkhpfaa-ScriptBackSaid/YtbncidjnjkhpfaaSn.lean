/- The four laws, walked. -/
import Derived.Test.YtbncidjnjkhpfaaSm
namespace Go.Proofs.Ytbncidjnjkhpfaa
open Go.Sx
set_option maxRecDepth 100000
set_option pp.deepTerms false
set_option pp.maxSteps 300
set_option linter.unusedSimpArgs false

theorem decodes_c (W : World) (a : Option Addr) (cap : Nat) (l : List UInt8) (hl : Bts (old W) a cap l) : LawC Try.prog 3 [.c (.rs a l.length cap)] W := by
  refine Con.of' tt_ok Try.func3 rfl (by decide) [.c (.rs a l.length cap)] [] [] rfl rfl trivial (by repeat' (first | exact trivial | apply And.intro)) rfl ?_
  conv => whnf
  refine CallOb.pu (alive_c _) rfl ?_
  conv => whnf
  refine Cond.mk (fun h => by cases h) (fun _ => ?_)
  conv => whnf
  refine Cond.dec (fun h => ?_) (fun h => ?_)
  · conv => whnf
    exact Ret.mk' () [] [0] trivial rfl (by repeat' (first | exact trivial | apply And.intro)) trivial ⟨rfl, rfl⟩
  conv => whnf
  refine CallOb.by' [] [] (decode_c _ (old W) (Ent.all (by simp)) a cap l hl (by omega)) rfl ⟨rfl, rfl, rfl, fun x1 hx1 => ⟨rfl, ?_⟩⟩
  conv => whnf
  refine CallOb.by' [] [] (rdecode_c _ (old W) (Ent.all (by simp)) a cap l hl (by omega)) rfl ⟨rfl, rfl, rfl, fun x2 hx2 => ⟨rfl, ?_⟩⟩
  conv => whnf
  have hlen := (decP_said l).1
  rw [← decP_R] at hx2
  refine CallOb.pu (samel_c _ x1.2.2 x1.2.2 x2.2.2 (old W) (Ent.all (by simp)) (Ent.all (by simp)) (Ent.all (by simp)) (Ent.all (by simp)) x1.1 x1.2.1 (decP l) hx1 x2.1 x2.2.1 (decP l) hx2 (by omega)) ?_ ?_
  · rw [← decP_R]
  conv => whnf
  exact Ret.mk' () [] [2] trivial (by simp; rfl) (by repeat' (first | exact trivial | apply And.intro)) trivial ⟨rfl, rfl⟩

structure AS where
  i : Nat
  a : Option Addr
  cap : Nat
  xs : List Value

theorem encodes_c (W : World) (a : Option Addr) (cap : Nat) (l : List Stp) (hrow : Row (old W) a 5 (StepE (old W)) l) : LawC Try.prog 4 [.c (.rs a l.length cap)] W := by
  refine Con.of' tt_ok Try.func4 rfl (by decide) [.c (.rs a l.length cap)] [] [] rfl rfl trivial (by repeat' (first | exact trivial | apply And.intro)) rfl ?_
  conv => whnf
  refine CallOb.pu (alive_c _) rfl ?_
  conv => whnf
  refine Cond.mk (fun h => by cases h) (fun _ => ?_)
  conv => whnf
  refine CallOb.pu (fits_c _ (old W) (old W) (Ent.all (by simp)) a cap l hrow) rfl ?_
  conv => whnf
  refine Cond.not (Cond.mk (fun hf => ?_) (fun hf => ?_))
  case refine_2 =>
    conv => whnf
    exact Ret.mk' () [] [0] trivial rfl (by repeat' (first | exact trivial | apply And.intro)) trivial ⟨rfl, rfl⟩
  have hl : l.length ≤ 300 := by
    simp only [fitsL, Bool.and_eq_true, decide_eq_true_eq] at hf; exact hf.1
  conv => whnf
  refine LoopOb.mk' (σ := AS) (fun s => [(0, .c (.rs a l.length cap)), (3, .c (.rs s.a (l.take s.i).length s.cap)), (15, .c (.rs a l.length cap)), (16, .c (.int .i64 l.length)), (17, .c (.int .i64 s.i))])
    (fun s => ⟨[], [], [Own s.a s.cap 33 5 s.xs, old W]⟩) (fun s => s.i ≤ l.length ∧ OwnRow s.xs 5 (StepE (old W)) (l.take s.i)) (fun s => l.length - s.i) ⟨0, none, 0, []⟩ ⟨Nat.zero_le _, .nil⟩ ?_ ?_
  · refine Wk.own0 33 5 ?_
    exact Wk.mk' [] [0, 0] ⟨⟨rfl, trivial⟩, ⟨rfl, trivial⟩, ⟨rfl, trivial⟩, ⟨rfl, trivial⟩, ⟨rfl, trivial⟩, trivial⟩ (by repeat' (first | exact trivial | apply And.intro)) ⟨rfl, rfl⟩
  rintro ⟨i, oa, oc, xs⟩ ⟨hi, hxs⟩
  dsimp only at hi hxs ⊢
  conv => whnf
  refine Cond.dec (fun h => ?_) (fun h => ?_)
  · have hi' : i < l.length := by omega
    conv => whnf
    refine ⟨by omega, ?_⟩
    refine row_ptr (A := old W) (by simp) (Ent.refl _) hrow (by omega) fun p hp => ?_
    subst hp
    conv => whnf
    refine ldstep (A := old W) i (by simp) (Ent.refl _) hrow hi' rfl rfl rfl (by simp) fun ta tc ht => ?_
    have etake : l.take (i + 1) = l.take i ++ [l[i]] := List.take_succ_eq_append_getElem hi'
    have hout : ((l.take i).length + 1 + ((l.take i).length + 1) / 4 + 192) * 56 ≤ 281474976710656 := by
      have : (l.take i).length ≤ i := by simp; omega
      omega
    generalize l[i] = s at ht etake ⊢
    conv => whnf
    intro b5
    conv => whnf
    refine CallOb.pu (theirs_c _ s ta tc) rfl ?_
    conv => whnf
    intro b24
    conv => whnf
    refine append_own (a := oa) (n := (l.take i).length) (cap := oc) (xs := xs) (k := 1) (ys := [.int .i64 s.k, .int .i64 s.a, .int .i64 s.b, .int .i64 s.c, .slice ta s.t.length tc]) (src := .c (.slc 24 0 1 1)) (.refl _) hxs.len rfl (by exact Src.slc (Exists.intro [] rfl)) (by simp [Value.oneCell']) hout (by omega) (by decide) 25 (.inr rfl) ?_
    intro oa' oc' _ _
    conv => whnf
    refine Draw.quiet (by kernel_rfl) tt_ok [0, 3, 1, 2, 4, 5] (by kernel_rfl) ?_
    conv => whnf
    refine CallOb.pu (theirs_c _ s ta tc) rfl ?_
    conv => whnf
    refine Sub.whole ?_
    conv => whnf
    refine CallOb.pu (may_c _ s ta tc) rfl ?_
    conv => whnf
    refine Sub.whole ?_
    conv => whnf
    refine CallOb.pu (rmay_c _ (old W) (Ent.all (by simp)) s ta tc ht) rfl ?_
    conv => whnf
    refine Sub.whole ?_
    conv => whnf
    rw [may_PR]
    refine Cond.mk (fun h => by simp at h) (fun _ => ?_)
    conv => whnf
    refine Ar.i64 (by omega) ?_
    conv => whnf
    refine ⟨⟨i + 1, oa', oc', _⟩, ⟨hi', by dsimp only; rw [etake]; exact hxs.snoc (fun x c h => h) rfl ⟨ta, tc, rfl, ht⟩⟩, by dsimp only; omega, ?_⟩
    dsimp only
    refine Wk.mk' [] [0, 0] ⟨⟨rfl, trivial⟩, ⟨?_, trivial⟩, ⟨rfl, trivial⟩, ⟨rfl, trivial⟩, ⟨rfl, trivial⟩, trivial⟩ (by repeat' (first | exact trivial | apply And.intro)) ⟨rfl, rfl⟩
    rw [etake, List.length_append]
    rfl
  have hi' : i = l.length := by omega
  subst hi'
  rw [List.take_length] at hxs ⊢
  have hrow2 := hxs.row (R := Own oa oc 33 5 xs) Own.rd
  conv => whnf
  refine CallOb.by' [] [] (encode_c _ _ (old W) (Ent.all (by simp)) (Ent.all (by simp)) oa oc l hrow2 hl) rfl ⟨rfl, rfl, rfl, fun x1 hx1 => ⟨rfl, ?_⟩⟩
  conv => whnf
  refine CallOb.by' [] [] (rencode_c _ (old W) (old W) (Ent.all (by simp)) (Ent.all (by simp)) a cap l hrow hl) rfl ⟨rfl, rfl, rfl, fun x2 hx2 => ⟨rfl, ?_⟩⟩
  rw [← enc_PR] at hx2
  rw [← enc_PR]
  conv => whnf
  refine conv_str (x := .c (.rs x1.1 (encP l).1.length x1.2.1)) Try.underlying22 Try.underlying5 Try.underlying9 (Src.rs (A := x1.2.2) (by simp) hx1.1) rfl (fun s h => by cases h) ?_
  conv => whnf
  refine conv_str (x := .c (.rs x2.1 (encP l).1.length x2.2.1)) Try.underlying22 Try.underlying5 Try.underlying9 (Src.rs (A := x2.2.2) (by simp) hx2.1) rfl (fun s h => by cases h) ?_
  conv => whnf
  refine Cond.mk (fun h => ?_) (fun h => ?_)
  · conv => whnf
    exact Ret.mk' () [] [3] trivial (by simp [tupOf, SA.sv, ofValue, SV.den, SC.den, h]) (by repeat' (first | exact trivial | apply And.intro)) trivial ⟨rfl, rfl⟩
  · simp at h

theorem short_c (W : World) (a : Option Addr) (cap : Nat) (l : List UInt8) (hl : Bts (old W) a cap l) (n : Int) (hn : 0 ≤ n ∧ n ≤ 65535) : LawC Try.prog 6 [.c (.rs a l.length cap), .c (.int .u16 n)] W := by
  refine Con.of' tt_ok Try.func6 rfl (by decide) [.c (.rs a l.length cap), .c (.int .u16 n)] [] [] rfl rfl trivial (by repeat' (first | exact trivial | apply And.intro)) rfl ?_
  conv => whnf
  refine CallOb.pu (alive_c _) rfl ?_
  conv => whnf
  refine Cond.mk (fun h => by cases h) (fun _ => ?_)
  conv => whnf
  refine Cond.dec (fun h => ?_) (fun h => ?_)
  · conv => whnf
    exact Ret.mk' () [] [0] trivial rfl (by repeat' (first | exact trivial | apply And.intro)) trivial ⟨rfl, rfl⟩
  conv => whnf
  refine Ar.i64 (by omega) ?_
  conv => whnf
  have hcap := hl.2.1
  obtain ⟨k, hk⟩ : ∃ k : Nat, min n (l.length : Int) = k := ⟨(min n (l.length : Int)).toNat, by omega⟩
  have hkl : k ≤ l.length := by omega
  rw [hk]
  refine Draw.quiet (by kernel_rfl) tt_ok [0, 2, 3, 4, 1, 5, 6, 7] (by kernel_rfl) ?_
  conv => whnf
  refine ⟨by omega, ?_⟩
  refine CallOb.by' [] [] (decode_c _ (old W) (Ent.all (by simp)) a cap l hl (by omega)) rfl ⟨rfl, rfl, rfl, fun x1 hx1 => ⟨rfl, ?_⟩⟩
  conv => whnf
  refine Sub.parts [] [1] ⟨rfl, rfl⟩ ?_
  conv => whnf
  have elk : (l.take k).length = k := by simp; omega
  refine CallOb.by' [] [] (decode_c _ (old W) (Ent.all (by simp)) (cutA a cap 0 1) cap (l.take k) (hl.sub 0 k (by omega)) (by omega)) (by rw [elk]; rfl) ⟨rfl, rfl, rfl, fun x2 hx2 => ⟨rfl, ?_⟩⟩
  conv => whnf
  refine Sub.parts [] [2] ⟨rfl, rfl⟩ ?_
  conv => whnf
  have hpre := decP_short l k
  have hlen := (decP_said l).1
  have hpl := hpre.length_le
  refine Cond.dec (fun h => absurd h (by omega)) (fun h => ?_)
  obtain ⟨a1, c1, R1⟩ := x1
  obtain ⟨a2, c2, R2⟩ := x2
  dsimp only at hx1 hx2 ⊢
  conv => whnf
  refine LoopOb.mk' (σ := Nat) (fun i => [(6, .c (.rs a1 (decP l).length c1)), (7, .c (.rs a2 (decP (l.take k)).length c2)), (31, .c (.int .i64 (decP (l.take k)).length)), (32, .c (.int .i64 i))])
    (fun _ => ⟨[], [], [R2, R1, old W]⟩) (fun i => i ≤ (decP (l.take k)).length) (fun i => (decP (l.take k)).length - i) 0 (Nat.zero_le _) (Wk.mk' [] [0, 0, 0] ⟨⟨rfl, trivial⟩, ⟨rfl, trivial⟩, ⟨rfl, trivial⟩, ⟨rfl, trivial⟩, trivial⟩ (by repeat' (first | exact trivial | apply And.intro)) ⟨rfl, rfl⟩) ?_
  intro i hi
  conv => whnf
  refine Cond.dec (fun h => ?_) (fun h => ?_)
  · have hi' : i < (decP (l.take k)).length := by omega
    have hj' : i < (decP l).length := by omega
    conv => whnf
    refine Draw.quiet (by kernel_rfl) tt_ok [0, 1, 2, 3, 5, 6, 7, 8, 4, 9, 10, 11] (by kernel_rfl) ?_
    conv => whnf
    refine ⟨by omega, ?_⟩
    refine row_ptr (A := R2) (by simp) (Ent.refl _) hx2 (by omega) fun p hp => ?_
    subst hp
    conv => whnf
    refine ldstep (A := R2) i (by simp) (Ent.refl _) hx2 hi' rfl rfl rfl (by simp) fun ta tc ht => ?_
    conv => whnf
    refine ⟨by omega, ?_⟩
    refine row_ptr (A := R1) (by simp) (Ent.refl _) hx1 (by omega) fun p' hp' => ?_
    subst hp'
    conv => whnf
    refine ldstep (A := R1) i (by simp) (Ent.refl _) hx1 hj' rfl rfl rfl (by simp) fun ta' tc' ht' => ?_
    have e : (decP (l.take k))[i] = (decP l)[i] := by
      obtain ⟨t, ht⟩ := hpre
      simp [← ht, List.getElem_append_left hi']
    generalize (decP (l.take k))[i] = x at ht e ⊢
    subst e
    conv => whnf
    refine CallOb.pu (ours_c _ _ ta tc) rfl ?_
    conv => whnf
    refine Sub.whole ?_
    conv => whnf
    refine CallOb.pu (ours_c _ _ ta' tc') rfl ?_
    conv => whnf
    refine Sub.whole ?_
    conv => whnf
    refine CallOb.pu (same_c _ _ _ ta ta' tc tc' (ht.1.ent (Ent.all (by simp))) (ht'.1.ent (Ent.all (by simp)))) rfl ?_
    conv => whnf
    refine Sub.whole ?_
    conv => whnf
    refine Cond.not (Cond.dec (fun _ => ?_) (fun h => absurd rfl h))
    conv => whnf
    refine Ar.i64 (by omega) ?_
    conv => whnf
    exact ⟨i + 1, hi', by omega, Wk.mk' [] [0, 0, 0] ⟨⟨rfl, trivial⟩, ⟨rfl, trivial⟩, ⟨rfl, trivial⟩, ⟨rfl, trivial⟩, trivial⟩ (by repeat' (first | exact trivial | apply And.intro)) ⟨rfl, rfl⟩⟩
  · conv => whnf
    exact Ret.mk' () [] [2] trivial rfl (by repeat' (first | exact trivial | apply And.intro)) trivial ⟨rfl, rfl⟩
end Go.Proofs.Ytbncidjnjkhpfaa
