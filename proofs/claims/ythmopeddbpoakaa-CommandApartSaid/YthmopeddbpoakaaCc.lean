/- Commands out of bytes: the program's answer, the document's. -/
import Derived.Test.YthmopeddbpoakaaCb
namespace Go.Proofs.Ythmopeddbpoakaa
open Go.Sx
set_option maxRecDepth 100000
set_option pp.deepTerms false
set_option pp.maxSteps 300
set_option linter.unusedSimpArgs false
set_option linter.unusedVariables false

theorem rencode9_c (A : HProp) (c : Cmd) (hk8 : c.id.length = 8) : Pu Try.prog 34 [.agg c.sg] A (.tup [.agg [.many 16 (u8s c.enc.1)], .c (.int .i64 c.enc.2)]) := by
  have hk := many_ok hk8
  have hk16 := many_ok (Cmd.enc_len hk8)
  refine Con.of' tt_ok Try.func34 rfl (by decide) [.agg c.sg] [] [] rfl rfl trivial (by repeat' (first | exact trivial | rfl | exact hk _ | apply And.intro)) rfl ?_
  conv => whnf
  intro b1
  conv => whnf
  intro b2
  conv => whnf
  refine CallOb.pu (rmay_c _ c hk8) rfl ?_
  conv => whnf
  refine Cond.not (Cond.mk (fun hm => ?_) (fun hm => ?_))
  case refine_2 =>
    have e : c.enc = (List.replicate 16 0, 2) := by unfold Cmd.enc; rw [hm]; rfl
    rw [e] at hk16 ⊢
    conv => whnf
    exact Ret.mk' () [] [0] trivial (by rw [u8s_zero]; rfl) ⟨⟨hk16 _, trivial⟩, trivial, trivial⟩ (by repeat' (first | exact trivial | rfl | apply And.intro)) ⟨rfl, rfl⟩
  have e : c.enc = (c.bytes, 0) := by unfold Cmd.enc; rw [hm]; rfl
  rw [e] at hk16 ⊢
  conv => whnf
  refine CallOb.pu (rbytes9_c _ c hk8 hm) rfl ?_
  conv => whnf
  exact Ret.mk' () [] [0] trivial rfl ⟨⟨hk16 _, trivial⟩, trivial, trivial⟩ (by repeat' (first | exact trivial | rfl | apply And.intro)) ⟨rfl, rfl⟩

theorem theirs9_c (A : HProp) (c : Cmd) (hk8 : c.id.length = 8) : Pu Try.prog 33 [.agg c.sg] A (.agg c.sg) := by
  have hk := many_ok hk8
  refine Con.of' tt_ok Try.func33 rfl (by decide) [.agg c.sg] [] [] rfl rfl trivial (by repeat' (first | exact trivial | rfl | exact hk _ | apply And.intro)) rfl ?_
  conv => whnf
  intro b1
  conv => whnf
  intro b2
  conv => whnf
  exact Ret.mk' () [] [0] trivial rfl (by repeat' (first | exact trivial | rfl | exact hk _ | apply And.intro)) (by repeat' (first | exact trivial | rfl | apply And.intro)) ⟨rfl, rfl⟩
theorem ours9_c (A : HProp) (c : Cmd) (hk8 : c.id.length = 8) : Pu Try.prog 39 [.agg c.sg] A (.agg c.sg) := by
  have hk := many_ok hk8
  refine Con.of' tt_ok Try.func39 rfl (by decide) [.agg c.sg] [] [] rfl rfl trivial (by repeat' (first | exact trivial | rfl | exact hk _ | apply And.intro)) rfl ?_
  conv => whnf
  intro b1
  conv => whnf
  intro b2
  conv => whnf
  exact Ret.mk' () [] [0] trivial rfl (by repeat' (first | exact trivial | rfl | exact hk _ | apply And.intro)) (by repeat' (first | exact trivial | rfl | apply And.intro)) ⟨rfl, rfl⟩

theorem rnum1 (x : UInt8) (r : List UInt8) : (⟨0, x :: r⟩ : RS).num 1 = (⟨0, r⟩, (x.toNat : Int), 0) := by
  unfold RS.num RS.take
  rw [if_neg (by decide), if_pos rfl, if_neg (by simp)]
  simp [big]
theorem rnum2 (x y : UInt8) (r : List UInt8) : (⟨0, x :: y :: r⟩ : RS).num 2 = (⟨0, r⟩, (x.toNat : Int) * 256 + (y.toNat : Int), 0) := by
  unfold RS.num RS.take
  rw [if_neg (by decide), if_pos rfl, if_neg (by simp)]
  simp [big]
theorem rbytes_ok (l : List UInt8) (n : Nat) (h : n ≤ l.length) : (⟨0, l⟩ : RS).bytes n = (⟨0, l.drop n⟩, l.take n, 0) := by
  unfold RS.bytes RS.take
  rw [if_neg (by omega), if_pos rfl, if_neg (by simp; omega)]
  simp

theorem decode1_c (A : HProp) (b g : Nat) (s : RS) (size : Int) (hn : 0 ≤ (s.num size).2.1 ∧ (s.num size).2.1 < 9223372036854775808) :
    Con Try.prog 55 [.c (.int .i64 size), .c (.rp b 0)] [(b, [.one (.rp g 0)], 43)] [Rr g s] A (fun _ : Unit => True) (fun _ => .c (.int .i64 (s.num size).2.1)) (fun _ => [(b, [.one (.rp g 0)], 43)]) (fun _ => [Rr g (s.num size).1]) := by
  refine Con.of' tt_ok Try.func55 rfl (by decide) [.c (.int .i64 size), .c (.ptr 1000 0)] (B1 b) [(1000, [.one (.rp g 0)], 43)] rfl rfl (by repeat' (first | exact trivial | rfl | apply And.intro)) (by repeat' (first | exact trivial | rfl | apply And.intro)) rfl ?_
  conv => whnf
  refine CallOb.by' [] [0] (rnum_c _ g s size) rfl ⟨rfl, rfl, rfl, fun _ _ => ⟨rfl, ?_⟩⟩
  conv => whnf
  refine Ar.i64 (by omega) ?_
  conv => whnf
  exact Ret.mk' () [1000] [0, 0] trivial rfl (by repeat' (first | exact trivial | rfl | apply And.intro)) (by repeat' (first | exact trivial | rfl | apply And.intro)) ⟨rfl, rfl⟩

def cmdOf (b : List UInt8) : Cmd := ⟨gd b 0, gd b 1, 256 * gd b 2 + gd b 3, (b.drop 4).take 8⟩
def decC (b : List UInt8) : Cmd × Int := if (b.drop 12).any (· != 0) = false ∧ (cmdOf b).may = true then (cmdOf b, 0) else (cmd0, 5)
theorem cmdOf_len {b : List UInt8} (h : b.length = 16) : (cmdOf b).id.length = 8 := by simp [cmdOf, h]
theorem decC_len {b : List UInt8} (h : b.length = 16) : (decC b).1.id.length = 8 := by
  unfold decC; split
  · exact cmdOf_len h
  · rfl
theorem split4 {b : List UInt8} (h : b.length = 16) : ∃ x0 x1 x2 x3 r, b = x0 :: x1 :: x2 :: x3 :: r ∧ r.length = 12 := by
  match b, h with
  | x0 :: x1 :: x2 :: x3 :: r, h => exact ⟨x0, x1, x2, x3, r, rfl, by simpa using h⟩

theorem decode9_c (A : HProp) (b : List UInt8) (hb : b.length = 16) : Pu Try.prog 37 [.agg [.many 16 (u8s b)]] A (.tup [.agg (decC b).1.sg, .c (.int .i64 (decC b).2)]) := by
  have hk := many_ok hb
  have hkd := many_ok (decC_len hb)
  refine Con.of' tt_ok Try.func37 rfl (by decide) [.agg [.many 16 (u8s b)]] [] [] rfl rfl trivial (by repeat' (first | exact trivial | rfl | exact hk _ | apply And.intro)) rfl ?_
  conv => whnf
  intro b1
  conv => whnf
  intro b2
  conv => whnf
  have hR : Rd (blk b1 (.cells (u8s b ++ []).toArray 73)) (some (radr (b1, 0))) (u8s b) := rd_many
  refine CallOb.by' [] [] (newReader_c _ _ (Ent.all (List.mem_cons_of_mem _ List.mem_cons_self)) (some (radr (b1, 0))) 16 b ⟨hR, by rw [hb]; exact Nat.le_refl _, fun h => by cases h⟩ (by omega)) (by rw [hb]; rfl) ⟨rfl, rfl, rfl, fun g _ => ⟨rfl, ?_⟩⟩
  conv => whnf
  intro b4
  conv => whnf
  intro b6
  conv => whnf
  obtain ⟨x0, x1, x2, x3, r, rfl, hr⟩ := split4 hb
  have n1 := rnum1 x0 (x1 :: x2 :: x3 :: r)
  have n2 := rnum1 x1 (x2 :: x3 :: r)
  have n3 := rnum2 x2 x3 r
  have q0 := x0.toNat_lt
  have q1 := x1.toNat_lt
  have q2 := x2.toNat_lt
  have q3 := x3.toNat_lt
  refine CallOb.by' [4] [0] (decode1_c _ b4 g ⟨0, x0 :: x1 :: x2 :: x3 :: r⟩ 1 (by rw [n1]; dsimp only; omega)) rfl ⟨rfl, rfl, rfl, fun _ _ => ⟨rfl, ?_⟩⟩
  rw [n1]
  conv => whnf
  refine CallOb.by' [4] [0] (decode1_c _ b4 g ⟨0, x1 :: x2 :: x3 :: r⟩ 1 (by rw [n2]; dsimp only; omega)) rfl ⟨rfl, rfl, rfl, fun _ _ => ⟨rfl, ?_⟩⟩
  rw [n2]
  conv => whnf
  refine CallOb.by' [4] [0] (decode1_c _ b4 g ⟨0, x2 :: x3 :: r⟩ 2 (by rw [n3]; dsimp only; omega)) rfl ⟨rfl, rfl, rfl, fun _ _ => ⟨rfl, ?_⟩⟩
  rw [n3]
  conv => whnf
  have n4 := rbytes_ok r 8 (by omega)
  refine CallOb.by' [] [0] (rbytes_c _ g ⟨0, r⟩ 8) rfl ⟨rfl, rfl, rfl, fun x5 hx5 => ⟨rfl, ?_⟩⟩
  rw [show ((8 : Int)) = ((8 : Nat) : Int) from rfl, n4] at hx5 ⊢
  have el : (r.take 8).length = 8 := by simp; omega
  conv => whnf
  refine copy_slc (k := 8) (ys := u8s (r.take 8)) (src := .c (.rs x5.1 (r.take 8).length x5.2)) (by rw [el]; exact Src.rs (A := Own x5.1 x5.2 5 1 (u8s (r.take 8))) (by simp) Own.rd) (by rw [u8s_length, el]; rfl) (u8s_one _) (by decide) ?_
  conv => whnf
  refine CallOb.by' [] [0] (rdone_c _ g ⟨0, r.drop 8⟩) rfl ⟨rfl, rfl, rfl, fun _ _ => ⟨rfl, ?_⟩⟩
  have ec : cmdOf (x0 :: x1 :: x2 :: x3 :: r) = ⟨x0.toNat, x1.toNat, (x2.toNat : Int) * 256 + (x3.toNat : Int), r.take 8⟩ := by
    unfold cmdOf
    simp [gd, Int.mul_comm]
  have ed : (x0 :: x1 :: x2 :: x3 :: r).drop 12 = r.drop 8 := rfl
  have edn : (⟨0, r.drop 8⟩ : RS).done = !(r.drop 8).any (· != 0) := by unfold RS.done; rw [decide_eq_true rfl, Bool.true_and]
  rw [edn]
  have ebad : ∀ (h : ¬ ((r.drop 8).any (· != 0) = false ∧ (cmdOf (x0 :: x1 :: x2 :: x3 :: r)).may = true)), decC (x0 :: x1 :: x2 :: x3 :: r) = (cmd0, 5) := fun h => by unfold decC; rw [ed]; exact if_neg h
  have bad : ∀ (h : ¬ ((r.drop 8).any (· != 0) = false ∧ (cmdOf (x0 :: x1 :: x2 :: x3 :: r)).may = true)), True := fun _ => trivial
  conv => whnf
  refine Cond.not (Cond.not (Cond.mk (fun hz => ?_) (fun hz => ?_)))
  · rw [ebad (fun h => by rw [hz] at h; cases h.1)] at hkd ⊢
    conv => whnf
    exact Ret.mk' () [] [2] trivial rfl ⟨⟨trivial, trivial, trivial, hkd _, trivial⟩, trivial, trivial⟩ (by repeat' (first | exact trivial | rfl | apply And.intro)) ⟨rfl, rfl⟩
  conv => whnf
  refine CallOb.pu (may_c _ ⟨x0.toNat, x1.toNat, (x2.toNat : Int) * 256 + (x3.toNat : Int), r.take 8⟩ el) rfl ?_
  conv => whnf
  refine Cond.not (Cond.mk (fun hm => ?_) (fun hm => ?_))
  · have e : decC (x0 :: x1 :: x2 :: x3 :: r) = (⟨x0.toNat, x1.toNat, (x2.toNat : Int) * 256 + (x3.toNat : Int), r.take 8⟩, 0) := by
      unfold decC; rw [ed, ec, if_pos ⟨hz, hm⟩]
    rw [e] at hkd ⊢
    conv => whnf
    exact Ret.mk' () [] [2] trivial rfl ⟨⟨trivial, trivial, trivial, hkd _, trivial⟩, trivial, trivial⟩ (by repeat' (first | exact trivial | rfl | apply And.intro)) ⟨rfl, rfl⟩
  · rw [ebad (fun h => by rw [ec, hm] at h; cases h.2)] at hkd ⊢
    conv => whnf
    exact Ret.mk' () [] [2] trivial rfl ⟨⟨trivial, trivial, trivial, hkd _, trivial⟩, trivial, trivial⟩ (by repeat' (first | exact trivial | rfl | apply And.intro)) ⟨rfl, rfl⟩
end Go.Proofs.Ythmopeddbpoakaa
