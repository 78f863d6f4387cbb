/- Commands out of bytes: the document's answer; answers that it fixes. -/
import Derived.Test.YthmopeddbpoakaaCc
namespace Go.Proofs.Ythmopeddbpoakaa
open Go.Sx
set_option maxRecDepth 100000
set_option pp.deepTerms false
set_option pp.maxSteps 300
set_option linter.unusedSimpArgs false
set_option linter.unusedVariables false

theorem fitsBarr16 : Fits Try.prog (.barr 16) 73 = true := by simp only [Fits, Try.underlying73, Try.underlying5]; kernel_rfl
theorem key16 : Try.prog.keyTypeAt 5 73 = true := by kernel_rfl
theorem grd16 : Try.prog.eqGuardType Try.prog.depth 73 = false := by kernel_rfl
theorem eq_16 {l m : List UInt8} {xs ys : List Value} {f : Bool → Prop} (hl : l.length = 16) (hm : m.length = 16) (ex : xs = u8s l) (ey : ys = u8s m) (h : f (decide (l = m))) : EqAgg Try.prog 73 xs ys f := by
  subst ex ey
  refine eq_agg (s := .barr 16) (R := fun _ => True) (R' := fun _ => True) ⟨.unit, .unit, .inr ⟨16, .inl rfl⟩⟩ rfl fitsBarr16 key16 (by decide) grd16 (good_barr hl _) (good_barr hm _) fun b hb => ?_
  rw [bool_iff hb]; exact h

theorem zeros_iff (l : List UInt8) : l.any (· != 0) = false ↔ l = List.replicate l.length 0 := by
  rw [List.eq_replicate_iff]
  simp
theorem by8_nat' (x : UInt8) : by8 (x.toNat : Int) = x := by
  have := x.toNat_lt
  unfold by8
  have e : (((x.toNat : Int) % 256).toNat) = x.toNat := by omega
  rw [e]; simp
theorem bytes_cmdOf {b : List UInt8} (h : b.length = 16) : (cmdOf b).bytes = b ↔ (b.drop 12).any (· != 0) = false := by
  obtain ⟨x0, x1, x2, x3, r, rfl, hr⟩ := split4 h
  have q3 := x3.toNat_lt
  have e3 : (256 * (x2.toNat : Int) + (x3.toNat : Int)).fdiv 256 = x2.toNat := by rw [Int.fdiv_eq_ediv_of_nonneg _ (by decide)]; omega
  have e4 : by8 (256 * (x2.toNat : Int) + (x3.toNat : Int)) = x3 := by
    rw [← by8_nat' x3]; unfold by8
    have : (256 * (x2.toNat : Int) + ((UInt8.ofNat ((x3.toNat : Int) % 256).toNat).toNat : Int)) % 256 = (x3.toNat : Int) % 256 := by
      have : UInt8.ofNat ((x3.toNat : Int) % 256).toNat = x3 := by have := by8_nat' x3; unfold by8 at this; exact this
      rw [this]; omega
    rw [this]
  have e : (cmdOf (x0 :: x1 :: x2 :: x3 :: r)).bytes = x0 :: x1 :: x2 :: x3 :: (r.take 8 ++ [0, 0, 0, 0]) := by
    simp [Cmd.bytes, cmdOf, gd, beb, by8_nat', e3, e4]
  have ed : (x0 :: x1 :: x2 :: x3 :: r).drop 12 = r.drop 8 := rfl
  rw [e, ed, zeros_iff]
  have hl : (r.drop 8).length = 4 := by simp; omega
  rw [hl]
  constructor
  · intro h
    simp only [List.cons.injEq, true_and] at h
    have := congrArg (List.drop 8) h
    rw [List.drop_append_of_le_length (by simp; omega), List.drop_eq_nil_of_le (by simp; omega)] at this
    exact this.symm
  · intro h
    have := List.take_append_drop 8 r
    rw [h] at this
    rw [show [0, 0, 0, 0] = List.replicate 4 (0 : UInt8) from rfl, this]

theorem rdecode9_c (A : HProp) (b : List UInt8) (hb : b.length = 16) : Pu Try.prog 38 [.agg [.many 16 (u8s b)]] A (.tup [.agg (decC b).1.sg, .c (.int .i64 (decC b).2)]) := by
  have hk := many_ok hb
  have hkd := many_ok (decC_len hb)
  have g0 := gd_lt b 0
  have g1 := gd_lt b 1
  have g2 := gd_lt b 2
  have g3 := gd_lt b 3
  refine Con.of' tt_ok Try.func38 rfl (by decide) [.agg [.many 16 (u8s b)]] [] [] rfl rfl trivial (by repeat' (first | exact trivial | rfl | exact hk _ | apply And.intro)) rfl ?_
  conv => whnf
  intro b1
  conv => whnf
  intro b2
  conv => whnf
  refine ⟨by decide, ?_⟩
  refine elem_u8 0 rfl (by omega) ?_
  conv => whnf
  refine Ar.i64 (by omega) ?_
  conv => whnf
  refine ⟨by decide, ?_⟩
  refine elem_u8 1 rfl (by omega) ?_
  conv => whnf
  refine Ar.i64 (by omega) ?_
  conv => whnf
  refine ⟨by decide, ?_⟩
  refine elem_u8 2 rfl (by omega) ?_
  conv => whnf
  refine Ar.i64 (by omega) ?_
  conv => whnf
  refine Ar.i64 (by omega) ?_
  conv => whnf
  refine ⟨by decide, ?_⟩
  refine elem_u8 3 rfl (by omega) ?_
  conv => whnf
  refine Ar.i64 (by omega) ?_
  conv => whnf
  refine Ar.i64 (by omega) ?_
  conv => whnf
  intro b4
  conv => whnf
  have hid : ((b.drop 4).take 8).length = 8 := cmdOf_len hb
  have zok : ∀ B, Seg.ok B (.many 8 (List.replicate 8 (.int .u8 0))) := fun B => ⟨rfl, fun v hv => by simp at hv; subst hv; rfl⟩
  refine LoopOb.mk' (σ := Nat) (fun i => [(1, .c (.ptr 1 0)), (2, .c (.ptr 2 0)), (4, .c (.ptr 4 0)), (5, .c (.int .i64 i))])
    (fun i => ⟨[(4, b4), (2, b2), (1, b1)], [(4, [.one (.int .i64 (gd b 0)), .one (.int .i64 (gd b 1)), .one (.int .i64 (256 * gd b 2 + gd b 3)), .many 8 (fillL ((b.drop 4).take 8) 8 i)], 72),
      (2, [.one (.int .i64 0), .one (.int .i64 0), .one (.int .i64 0), .many 8 (List.replicate 8 (.int .u8 0))], 72), (1, [.many 16 (u8s b)], 73)], [A]⟩) (fun i => i ≤ 8) (fun i => 8 - i) 0 (Nat.zero_le _)
    (Wk.mk' [4, 2, 1] [0] ⟨⟨rfl, (by repeat' (first | exact trivial | rfl | apply And.intro))⟩, ⟨rfl, (by repeat' (first | exact trivial | rfl | apply And.intro))⟩, ⟨rfl, (by repeat' (first | exact trivial | rfl | apply And.intro))⟩, ⟨rfl, trivial⟩, trivial⟩ ⟨⟨trivial, trivial, trivial, trivial, fillL_ok (by omega) (by decide) _, trivial⟩, ⟨trivial, trivial, trivial, trivial, zok _, trivial⟩, ⟨trivial, hk _, trivial⟩, trivial⟩ ⟨by rw [fillL_zero]; rfl, rfl⟩) ?_
  intro i hi
  conv => whnf
  refine Cond.dec (fun h => ?_) (fun h => ?_)
  · have hi' : i < ((b.drop 4).take 8).length := by omega
    conv => whnf
    refine Ar.i64 (by omega) ?_
    conv => whnf
    refine ⟨by omega, ?_⟩
    refine elem_u8 (4 + i) (by show (4 + (i : Int)).toNat * 1 = 4 + i; omega) (by omega) ?_
    conv => whnf
    refine ⟨by omega, ?_⟩
    conv => whnf
    refine ⟨⟨rfl, by show (i : Int).toNat * 1 + 1 ≤ 8; omega⟩, ?_⟩
    conv => whnf
    refine Ar.i64 (by omega) ?_
    conv => whnf
    refine ⟨i + 1, by omega, by omega, Wk.mk' [4, 2, 1] [0] ⟨⟨rfl, (by repeat' (first | exact trivial | rfl | apply And.intro))⟩, ⟨rfl, (by repeat' (first | exact trivial | rfl | apply And.intro))⟩, ⟨rfl, (by repeat' (first | exact trivial | rfl | apply And.intro))⟩, ⟨rfl, trivial⟩, trivial⟩ ⟨⟨trivial, trivial, trivial, trivial, fillL_ok (by omega) (by omega) _, trivial⟩, ⟨trivial, trivial, trivial, trivial, zok _, trivial⟩, ⟨trivial, hk _, trivial⟩, trivial⟩ ⟨?_, rfl⟩⟩
    have e2 := fillL_set hi' (n := 8) (by omega) (.int .u8 (gd b (4 + i))) (by
      have : ((b.drop 4).take 8)[i] = b[4 + i]'(by omega) := by simp
      rw [this, gd_eq (by omega)]; rfl)
    have e1 : (i : Int).toNat * 1 = i := by omega
    show [blk b4 (.cells ([Value.int .i64 (gd b 0), .int .i64 (gd b 1), .int .i64 (256 * gd b 2 + gd b 3)] ++ (List.take ((i : Int).toNat * 1) (fillL ((b.drop 4).take 8) 8 i) ++ ([Value.int .u8 (gd b (4 + i))] ++ List.drop ((i : Int).toNat * 1 + 1) (fillL ((b.drop 4).take 8) 8 i)) ++ [])).toArray _), _, _] = _
    rw [e1, e2]
    rfl
  · have hi' : i = 8 := by omega
    subst hi'
    rw [fillL_all hid]
    have hk8 := many_ok hid
    conv => whnf
    refine Draw.quiet (by kernel_rfl) tt_ok [0, 1, 2, 3, 4, 6, 5, 7, 8] (by kernel_rfl) ?_
    conv => whnf
    refine CallOb.pu (rmay_c _ (cmdOf b) hid) rfl ?_
    conv => whnf
    refine Sub.whole ?_
    conv => whnf
    refine Cond.not (Cond.mk (fun hm => ?_) (fun hm => ?_))
    · conv => whnf
      refine CallOb.pu (rbytes9_c _ (cmdOf b) hid hm) rfl ?_
      conv => whnf
      refine Sub.whole ?_
      conv => whnf
      refine eq_16 (l := (cmdOf b).bytes) (m := b) (Cmd.bytes_len hid) hb (List.append_nil _) (List.append_nil _) ?_
      conv => whnf
      refine Cond.not (Cond.dec (fun he => ?_) (fun he => ?_))
      · have e : decC b = (cmdOf b, 0) := by unfold decC; rw [if_pos ⟨(bytes_cmdOf hb).1 he, hm⟩]
        rw [e] at hkd ⊢
        conv => whnf
        exact Ret.mk' () [] [0] trivial rfl ⟨⟨trivial, trivial, trivial, hkd _, trivial⟩, trivial, trivial⟩ (by repeat' (first | exact trivial | rfl | apply And.intro)) ⟨rfl, rfl⟩
      · have e : decC b = (cmd0, 5) := by unfold decC; rw [if_neg fun h => he ((bytes_cmdOf hb).2 h.1)]
        rw [e] at hkd ⊢
        conv => whnf
        exact Ret.mk' () [] [0] trivial rfl ⟨⟨trivial, trivial, trivial, hkd _, trivial⟩, trivial, trivial⟩ (by repeat' (first | exact trivial | rfl | apply And.intro)) ⟨rfl, rfl⟩
    · have e : decC b = (cmd0, 5) := by unfold decC; rw [if_neg fun h => by rw [hm] at h; cases h.2]
      rw [e] at hkd ⊢
      conv => whnf
      exact Ret.mk' () [] [0] trivial rfl ⟨⟨trivial, trivial, trivial, hkd _, trivial⟩, trivial, trivial⟩ (by repeat' (first | exact trivial | rfl | apply And.intro)) ⟨rfl, rfl⟩
end Go.Proofs.Ythmopeddbpoakaa
