/- The law ScriptBack, walked. -/
import Derived.Test.YtbncidjnjkhpfaaSn
namespace Go.Proofs.Ytbncidjnjkhpfaa
open Go.Sx
set_option maxRecDepth 100000
set_option pp.deepTerms false
set_option pp.maxSteps 300
set_option linter.unusedSimpArgs false

theorem backs_c (W : World) (a : Option Addr) (cap : Nat) (l : List Stp) (hrow : Row (old W) a 5 (StepE (old W)) l) (b : Option Addr) (bcap : Nat) (m : List UInt8) (hb : Bts (old W) b bcap m) : LawC Try.prog 5 [.c (.rs a l.length cap), .c (.rs b m.length bcap)] W := by
  refine Con.of' tt_ok Try.func5 rfl (by decide) [.c (.rs a l.length cap), .c (.rs b m.length bcap)] [] [] rfl rfl trivial (by repeat' (first | exact trivial | apply And.intro)) rfl ?_
  conv => whnf
  refine CallOb.pu (alive_c _) rfl ?_
  conv => whnf
  refine Cond.mk (fun h => by cases h) (fun _ => ?_)
  conv => whnf
  refine CallOb.pu (fits_c _ (old W) (old W) (Ent.all (by simp)) a cap l hrow) rfl ?_
  conv => whnf
  refine Cond.not (Cond.mk (fun hf => ?_) (fun hf => ?_))
  case refine_2 =>
    conv => whnf
    exact Ret.mk' () [] [0] trivial rfl (by repeat' (first | exact trivial | apply And.intro)) trivial ⟨rfl, rfl⟩
  have hl : l.length ≤ 300 := by
    simp only [fitsL, Bool.and_eq_true, decide_eq_true_eq] at hf; exact hf.1
  conv => whnf
  refine Cond.dec (fun h => ?_) (fun h => ?_)
  · conv => whnf
    exact Ret.mk' () [] [0] trivial rfl (by repeat' (first | exact trivial | apply And.intro)) trivial ⟨rfl, rfl⟩
  conv => whnf
  refine LoopOb.mk' (σ := AS) (fun s => [(0, .c (.rs a l.length cap)), (1, .c (.rs b m.length bcap)), (5, .c (.rs s.a (l.take s.i).length s.cap)), (26, .c (.rs a l.length cap)), (27, .c (.int .i64 l.length)), (28, .c (.int .i64 s.i))])
    (fun s => ⟨[], [], [Own s.a s.cap 33 5 s.xs, old W]⟩) (fun s => s.i ≤ l.length ∧ OwnRow s.xs 5 (StepE (old W)) (l.take s.i)) (fun s => l.length - s.i) ⟨0, none, 0, []⟩ ⟨Nat.zero_le _, .nil⟩ ?_ ?_
  · refine Wk.own0 33 5 ?_
    exact Wk.mk' [] [0, 0] ⟨⟨rfl, trivial⟩, ⟨rfl, trivial⟩, ⟨rfl, trivial⟩, ⟨rfl, trivial⟩, ⟨rfl, trivial⟩, ⟨rfl, trivial⟩, trivial⟩ (by repeat' (first | exact trivial | apply And.intro)) ⟨rfl, rfl⟩
  rintro ⟨i, oa, oc, xs⟩ ⟨hi, hxs⟩
  dsimp only at hi hxs ⊢
  conv => whnf
  refine Cond.dec (fun h => ?_) (fun h => ?_)
  · have hi' : i < l.length := by omega
    conv => whnf
    refine ⟨by omega, ?_⟩
    refine row_ptr (A := old W) (by simp) (Ent.refl _) hrow (by omega) fun p hp => ?_
    subst hp
    conv => whnf
    refine ldstep (A := old W) i (by simp) (Ent.refl _) hrow hi' rfl rfl rfl (by simp) fun ta tc ht => ?_
    have etake : l.take (i + 1) = l.take i ++ [l[i]] := List.take_succ_eq_append_getElem hi'
    have hout : ((l.take i).length + 1 + ((l.take i).length + 1) / 4 + 192) * 56 ≤ 281474976710656 := by
      have : (l.take i).length ≤ i := by simp; omega
      omega
    generalize l[i] = s at ht etake ⊢
    conv => whnf
    intro b5
    conv => whnf
    refine CallOb.pu (theirs_c _ s ta tc) rfl ?_
    conv => whnf
    intro b24
    conv => whnf
    refine append_own (a := oa) (n := (l.take i).length) (cap := oc) (xs := xs) (k := 1) (ys := [.int .i64 s.k, .int .i64 s.a, .int .i64 s.b, .int .i64 s.c, .slice ta s.t.length tc]) (src := .c (.slc 35 0 1 1)) (.refl _) hxs.len rfl (by exact Src.slc (Exists.intro [] rfl)) (by simp [Value.oneCell']) hout (by omega) (by decide) 25 (.inr rfl) ?_
    intro oa' oc' _ _
    conv => whnf
    refine Ar.i64 (by omega) ?_
    conv => whnf
    refine ⟨⟨i + 1, oa', oc', _⟩, ⟨hi', by dsimp only; rw [etake]; exact hxs.snoc (fun x c h => h) rfl ⟨ta, tc, rfl, ht⟩⟩, by dsimp only; omega, ?_⟩
    dsimp only
    refine Wk.mk' [] [0, 0] ⟨⟨rfl, trivial⟩, ⟨rfl, trivial⟩, ⟨?_, trivial⟩, ⟨rfl, trivial⟩, ⟨rfl, trivial⟩, ⟨rfl, trivial⟩, trivial⟩ (by repeat' (first | exact trivial | apply And.intro)) ⟨rfl, rfl⟩
    rw [etake, List.length_append]
    rfl
  have hi' : i = l.length := by omega
  subst hi'
  rw [List.take_length] at hxs ⊢
  have hrow2 := hxs.row (R := Own oa oc 33 5 xs) Own.rd
  conv => whnf
  refine CallOb.by' [] [] (encode_c _ _ (old W) (Ent.all (by simp)) (Ent.all (by simp)) oa oc l hrow2 hl) rfl ⟨rfl, rfl, rfl, fun x1 hx1 => ⟨rfl, ?_⟩⟩
  obtain ⟨a1, c1, R1⟩ := x1
  dsimp only at hx1 ⊢
  have hel : (encP l).1.length ≤ 1000000 := by
    unfold encP
    split
    · simp
    · split
      · simp
      · rename_i h1 h2
        have := flat_len l (by simpa using h1)
        dsimp only; omega
  have hsaid := decP_said m
  conv => whnf
  refine Cond.eqI (fun he => ?_) (fun he => ?_)
  · conv => whnf
    refine CallOb.by' [] [] (decode_c _ R1 (Ent.all (by simp)) a1 c1 (encP l).1 hx1 hel) rfl ⟨rfl, rfl, rfl, fun x2 hx2 => ⟨rfl, ?_⟩⟩
    rw [encP_back l he] at hx2 ⊢
    obtain ⟨a2, c2, R2⟩ := x2
    dsimp only at hx2 ⊢
    conv => whnf
    refine CallOb.pu (samel_c _ R2 R2 (old W) (old W) (Ent.all (by simp)) (Ent.all (by simp)) (Ent.all (by simp)) (Ent.all (by simp)) a2 c2 l hx2 a cap l hrow (by omega)) rfl ?_
    conv => whnf
    refine Cond.not (Cond.dec (fun _ => ?_) (fun h => absurd rfl h))
    conv => whnf
    refine CallOb.by' [] [] (decode_c _ (old W) (Ent.all (by simp)) b bcap m hb (by omega)) rfl ⟨rfl, rfl, rfl, fun x3 hx3 => ⟨rfl, ?_⟩⟩
    obtain ⟨a3, c3, R3⟩ := x3
    dsimp only at hx3 ⊢
    generalize decP m = said at hsaid hx3 ⊢
    conv => whnf
    refine CallOb.by' [] [] (encode_c _ R3 R3 (Ent.all (by simp)) (Ent.all (by simp)) a3 c3 said hx3 (by omega)) rfl ⟨rfl, rfl, rfl, fun x4 hx4 => ⟨rfl, ?_⟩⟩
    rw [hsaid.2.2.1] at hx4 ⊢
    obtain ⟨a4, c4, R4⟩ := x4
    dsimp only at hx4 ⊢
    conv => whnf
    refine Cond.neI (fun h => absurd rfl h) (fun _ => ?_)
    conv => whnf
    refine Cond.dec (fun h => absurd h (by omega)) (fun _ => ?_)
    conv => whnf
    refine Cond.dec (fun h => absurd h (by omega)) (fun _ => ?_)
    conv => whnf
    refine CallOb.by' [] [] (decode_c _ R4 (Ent.all (by simp)) a4 c4 _ hx4 (by omega)) rfl ⟨rfl, rfl, rfl, fun x5 hx5 => ⟨rfl, ?_⟩⟩
    rw [hsaid.2.2.2.2] at hx5 ⊢
    obtain ⟨a5, c5, R5⟩ := x5
    dsimp only at hx5 ⊢
    conv => whnf
    refine LoopOb.mk' (σ := Nat) (fun i => [(10, .c (.rs a3 said.length c3)), (13, .c (.rs a5 said.length c5)), (75, .c (.rs a3 said.length c3)), (76, .c (.int .i64 said.length)), (77, .c (.int .i64 i))])
      (fun _ => ⟨[], [], [R5, R4, R3, old W]⟩) (fun i => i ≤ said.length) (fun i => said.length - i) 0 (Nat.zero_le _) (Wk.mk' [] [0, 0, 0, 3] ⟨⟨rfl, trivial⟩, ⟨rfl, trivial⟩, ⟨rfl, trivial⟩, ⟨rfl, trivial⟩, ⟨rfl, trivial⟩, trivial⟩ (by repeat' (first | exact trivial | apply And.intro)) ⟨rfl, rfl⟩) ?_
    intro i hi
    conv => whnf
    refine Cond.dec (fun h => ?_) (fun h => ?_)
    · have hi' : i < said.length := by omega
      conv => whnf
      refine ⟨by omega, ?_⟩
      refine row_ptr (A := R3) (by simp) (Ent.refl _) hx3 (by omega) fun p hp => ?_
      subst hp
      conv => whnf
      refine ldstep (A := R3) i (by simp) (Ent.refl _) hx3 hi' rfl rfl rfl (by simp) fun ta tc ht => ?_
      have hm := hsaid.2.1 _ (List.getElem_mem hi')
      conv => whnf
      intro b15
      conv => whnf
      refine Draw.quiet (by kernel_rfl) tt_ok [0, 1, 2, 3, 4, 5, 6, 7, 8, 9, 10, 11, 12, 13, 15, 14, 16, 17, 18, 19] (by kernel_rfl) ?_
      conv => whnf
      refine CallOb.pu (may_c _ _ ta tc) rfl ?_
      conv => whnf
      refine Sub.whole ?_
      rw [hm]
      conv => whnf
      refine Cond.mk (fun h => by cases h) (fun _ => ?_)
      conv => whnf
      refine Cond.dec (fun h => absurd h (by omega)) (fun _ => ?_)
      conv => whnf
      refine ⟨by omega, ?_⟩
      refine row_ptr (A := R5) (by simp) (Ent.refl _) hx5 (by omega) fun p' hp' => ?_
      subst hp'
      conv => whnf
      refine ldstep (A := R5) i (by simp) (Ent.refl _) hx5 hi' rfl rfl rfl (by simp) fun ta' tc' ht' => ?_
      generalize said[i] = x at ht ht' hm ⊢
      conv => whnf
      refine CallOb.pu (ours_c _ _ ta' tc') rfl ?_
      conv => whnf
      refine Sub.whole ?_
      conv => whnf
      refine CallOb.pu (ours_c _ _ ta tc) rfl ?_
      conv => whnf
      refine Sub.whole ?_
      conv => whnf
      refine CallOb.pu (same_c _ _ _ ta' ta tc' tc (ht'.1.ent (Ent.all (by simp [M.props]))) (ht.1.ent (Ent.all (by simp [M.props])))) rfl ?_
      conv => whnf
      refine Sub.whole ?_
      conv => whnf
      refine Cond.not (Cond.dec (fun _ => ?_) (fun h => absurd rfl h))
      conv => whnf
      refine Ar.i64 (by omega) ?_
      conv => whnf
      exact ⟨i + 1, hi', by omega, Wk.mk' [] [0, 0, 0, 0] ⟨⟨rfl, trivial⟩, ⟨rfl, trivial⟩, ⟨rfl, trivial⟩, ⟨rfl, trivial⟩, ⟨rfl, trivial⟩, trivial⟩ (by repeat' (first | exact trivial | apply And.intro)) ⟨rfl, rfl⟩⟩
    · conv => whnf
      exact Ret.mk' () [] [3] trivial (by simp [tupOf, SA.sv, ofValue, SV.den, SC.den]) (by repeat' (first | exact trivial | apply And.intro)) trivial ⟨rfl, rfl⟩
  conv => whnf
  refine CallOb.by' [] [] (decode_c _ (old W) (Ent.all (by simp)) b bcap m hb (by omega)) rfl ⟨rfl, rfl, rfl, fun x3 hx3 => ⟨rfl, ?_⟩⟩
  obtain ⟨a3, c3, R3⟩ := x3
  dsimp only at hx3 ⊢
  generalize decP m = said at hsaid hx3 ⊢
  conv => whnf
  refine CallOb.by' [] [] (encode_c _ R3 R3 (Ent.all (by simp)) (Ent.all (by simp)) a3 c3 said hx3 (by omega)) rfl ⟨rfl, rfl, rfl, fun x4 hx4 => ⟨rfl, ?_⟩⟩
  rw [hsaid.2.2.1] at hx4 ⊢
  obtain ⟨a4, c4, R4⟩ := x4
  dsimp only at hx4 ⊢
  conv => whnf
  refine Cond.neI (fun h => absurd rfl h) (fun _ => ?_)
  conv => whnf
  refine Cond.dec (fun h => absurd h (by omega)) (fun _ => ?_)
  conv => whnf
  refine Cond.dec (fun h => absurd h (by omega)) (fun _ => ?_)
  conv => whnf
  refine CallOb.by' [] [] (decode_c _ R4 (Ent.all (by simp)) a4 c4 _ hx4 (by omega)) rfl ⟨rfl, rfl, rfl, fun x5 hx5 => ⟨rfl, ?_⟩⟩
  rw [hsaid.2.2.2.2] at hx5 ⊢
  obtain ⟨a5, c5, R5⟩ := x5
  dsimp only at hx5 ⊢
  conv => whnf
  refine LoopOb.mk' (σ := Nat) (fun i => [(10, .c (.rs a3 said.length c3)), (13, .c (.rs a5 said.length c5)), (75, .c (.rs a3 said.length c3)), (76, .c (.int .i64 said.length)), (77, .c (.int .i64 i))])
    (fun _ => ⟨[], [], [R5, R4, R3, old W]⟩) (fun i => i ≤ said.length) (fun i => said.length - i) 0 (Nat.zero_le _) (Wk.mk' [] [0, 0, 0, 2] ⟨⟨rfl, trivial⟩, ⟨rfl, trivial⟩, ⟨rfl, trivial⟩, ⟨rfl, trivial⟩, ⟨rfl, trivial⟩, trivial⟩ (by repeat' (first | exact trivial | apply And.intro)) ⟨rfl, rfl⟩) ?_
  intro i hi
  conv => whnf
  refine Cond.dec (fun h => ?_) (fun h => ?_)
  · have hi' : i < said.length := by omega
    conv => whnf
    refine ⟨by omega, ?_⟩
    refine row_ptr (A := R3) (by simp) (Ent.refl _) hx3 (by omega) fun p hp => ?_
    subst hp
    conv => whnf
    refine ldstep (A := R3) i (by simp) (Ent.refl _) hx3 hi' rfl rfl rfl (by simp) fun ta tc ht => ?_
    have hm := hsaid.2.1 _ (List.getElem_mem hi')
    conv => whnf
    intro b15
    conv => whnf
    refine Draw.quiet (by kernel_rfl) tt_ok [0, 1, 2, 3, 4, 5, 6, 7, 8, 9, 10, 11, 12, 13, 15, 14, 16, 17, 18, 19] (by kernel_rfl) ?_
    conv => whnf
    refine CallOb.pu (may_c _ _ ta tc) rfl ?_
    conv => whnf
    refine Sub.whole ?_
    rw [hm]
    conv => whnf
    refine Cond.mk (fun h => by cases h) (fun _ => ?_)
    conv => whnf
    refine Cond.dec (fun h => absurd h (by omega)) (fun _ => ?_)
    conv => whnf
    refine ⟨by omega, ?_⟩
    refine row_ptr (A := R5) (by simp) (Ent.refl _) hx5 (by omega) fun p' hp' => ?_
    subst hp'
    conv => whnf
    refine ldstep (A := R5) i (by simp) (Ent.refl _) hx5 hi' rfl rfl rfl (by simp) fun ta' tc' ht' => ?_
    generalize said[i] = x at ht ht' hm ⊢
    conv => whnf
    refine CallOb.pu (ours_c _ _ ta' tc') rfl ?_
    conv => whnf
    refine Sub.whole ?_
    conv => whnf
    refine CallOb.pu (ours_c _ _ ta tc) rfl ?_
    conv => whnf
    refine Sub.whole ?_
    conv => whnf
    refine CallOb.pu (same_c _ _ _ ta' ta tc' tc (ht'.1.ent (Ent.all (by simp [M.props]))) (ht.1.ent (Ent.all (by simp [M.props])))) rfl ?_
    conv => whnf
    refine Sub.whole ?_
    conv => whnf
    refine Cond.not (Cond.dec (fun _ => ?_) (fun h => absurd rfl h))
    conv => whnf
    refine Ar.i64 (by omega) ?_
    conv => whnf
    exact ⟨i + 1, hi', by omega, Wk.mk' [] [0, 0, 0, 0] ⟨⟨rfl, trivial⟩, ⟨rfl, trivial⟩, ⟨rfl, trivial⟩, ⟨rfl, trivial⟩, ⟨rfl, trivial⟩, trivial⟩ (by repeat' (first | exact trivial | apply And.intro)) ⟨rfl, rfl⟩⟩
  · conv => whnf
    exact Ret.mk' () [] [3] trivial (by simp [tupOf, SA.sv, ofValue, SV.den, SC.den]) (by repeat' (first | exact trivial | apply And.intro)) trivial ⟨rfl, rfl⟩
end Go.Proofs.Ytbncidjnjkhpfaa
