/- The program's writer: numbers, bytes, noughts, all. -/
import Derived.Test.YtiimeklgjoclpaaOa
namespace Go.Proofs.Ytiimeklgjoclpaa
open Go.Sx
set_option maxRecDepth 100000
set_option pp.deepTerms false
set_option pp.maxSteps 300
set_option linter.unusedSimpArgs false
set_option linter.unusedVariables false

structure NS where
  k : Nat
  l : List UInt8
  a : Option Addr
  cap : Nat
theorem fail_l (s : WS) (k : Int) : (s.fail k).1.l = s.l ∧ (s.fail k).1.room = s.room := by unfold WS.fail; split <;> exact ⟨rfl, rfl⟩
theorem wk_fail {s : WS} {x : Option Addr × Nat} (h : wk s x) (k : Int) : wk (s.fail k).1 x := by
  unfold wk at *; rw [(fail_l s k).1, (fail_l s k).2]; exact h
theorem fitsN_le {n size : Int} (h : fitsN n size = true) : 1 ≤ size ∧ size ≤ 8 := by simp [fitsN] at h; omega

theorem wnum_c (A : HProp) (g : Nat) (s : WS) (n size : Int) (hn : 0 ≤ n ∧ n < 18446744073709551616) :
    Con Try.prog 29 [.c (.rp g 0), .c (.int .u64 n), .c (.int .i64 size)] [] [Wr g s] A (fun _ : Unit => True) (fun _ => .c (.int .i64 (s.num n size).2)) (fun _ => []) (fun _ => [Wr g (s.num n size).1]) := by
  refine Con.box (Runs.of Try.func29 rfl (by decide)) ?_
  rintro ⟨a, cap⟩ hk
  refine Con.of' tt_ok Try.func29 rfl (by decide) [.c (.ptr 1000 0), .c (.int .u64 n), .c (.int .i64 size)] (B1 g) [(1000, (wc 0 .tt s a cap).2)] rfl rfl (by repeat' (first | exact trivial | rfl | apply And.intro)) (by repeat' (first | exact trivial | rfl | apply And.intro)) rfl ?_
  conv => whnf
  refine CallOb.by' [1000] [] (wgood_c _ g s a cap) rfl ⟨rfl, rfl, rfl, fun _ _ => ⟨rfl, ?_⟩⟩
  conv => whnf
  refine CallOb.pu (fits_c _ n size hn) rfl ?_
  conv => whnf
  refine Cond.not (Cond.mk (fun hf => ?_) (fun hf => ?_))
  case refine_2 =>
    have e : s.num n size = s.fail 2 := by unfold WS.num; rw [hf]; rfl
    rw [e]
    conv => whnf
    refine CallOb.by' [1000] [] (wfails_c _ g s a cap 2) rfl ⟨rfl, rfl, rfl, fun x1 hx1 => ⟨rfl, ?_⟩⟩
    conv => whnf
    refine Ret.mk' ((a, cap), ()) [1000] [0, 0] ⟨wk_fail hk 2, trivial⟩ rfl (by repeat' (first | exact trivial | rfl | apply And.intro)) (by repeat' (first | exact trivial | rfl | apply And.intro)) ⟨rfl, ?_⟩
    show [Own a cap 5 1 (u8s s.l), A] = [Own a cap 5 1 (u8s (s.fail 2).1.l), A]
    rw [(fail_l s 2).1]
  have e : s.num n size = s.lay (beb n size.toNat) := by unfold WS.num; rw [hf]; rfl
  rw [e]
  have hs := fitsN_le hf
  obtain ⟨z, rfl⟩ : ∃ k : Nat, size = k := ⟨size.toNat, by omega⟩
  rw [Int.toNat_natCast]
  conv => whnf
  refine Ar.i64 (by omega) ?_
  conv => whnf
  refine LoopOb.mk' (σ := NS) (fun s => [(0, .c (.ptr 1000 0)), (1, .c (.int .u64 n)), (7, .c (.rs s.a s.l.length s.cap)), (8, .c (.int .i64 ((s.k : Int) - 1)))])
    (fun q => ⟨B1 g, [(1000, (wc 0 .tt s a cap).2)], [Own q.a q.cap 5 1 (u8s q.l), wo s a cap, A]⟩)
    (fun s => s.k ≤ 8 ∧ s.l.length ≤ 8 ∧ s.l ++ beb n s.k = beb n z ∧ (s.l.length ≤ s.cap ∧ (s.a = none → s.l = []))) (fun s => s.k) ⟨z, [], none, 0⟩ ⟨by dsimp only; omega, by simp, rfl, by simp⟩ ?_ ?_
  · refine Wk.own0 5 1 ?_
    exact Wk.mk' [1000] [0, 0, 0] ⟨⟨rfl, trivial⟩, ⟨rfl, trivial⟩, ⟨rfl, trivial⟩, ⟨rfl, trivial⟩, trivial⟩ (by repeat' (first | exact trivial | rfl | apply And.intro)) ⟨rfl, rfl⟩
  rintro ⟨k, l', a', cap'⟩ ⟨hk8, hle, hb, hc⟩
  dsimp only at hk8 hle hb hc ⊢
  conv => whnf
  refine Cond.dec (fun h => ?_) (fun h => ?_)
  · obtain ⟨k, rfl⟩ : ∃ j, k = j + 1 := ⟨k - 1, by omega⟩
    conv => whnf
    refine Ar.i64 (by omega) ?_
    conv => whnf
    refine ⟨by omega, ?_⟩
    refine Ar.wr ?_
    conv => whnf
    intro b18
    conv => whnf
    have e8 : min (8 * (((k + 1 : Nat) : Int) - 1)).toNat IntKind.u64.bits = 8 * k := by simp [IntKind.bits]; omega
    refine append_bytes (a := a') (n := l'.length) (cap := cap') (l := l') (k := 1) (m := [by8 (n.fdiv (2 ^ (8 * k)))]) (src := .c (.slc 32 0 1 1)) (.refl _) rfl rfl
      (by rw [← e8]; simp only [u8s_by8, u8s_nil]; exact Src.slc (Exists.intro [] rfl)) ⟨rfl, rfl⟩ (by omega) 23 (.inr rfl) ?_
    intro a2 c2 hc2 hn2
    conv => whnf
    refine Ar.i64 (by omega) ?_
    conv => whnf
    refine ⟨⟨k, l' ++ [by8 (n.fdiv (2 ^ (8 * k)))], a2, c2⟩, ⟨by dsimp only; omega, ?_, ?_, by simp; omega, fun h => absurd (hn2 h) (by omega)⟩, by dsimp only; omega, Wk.mk' [1000] [0, 0, 0] ⟨⟨rfl, trivial⟩, ⟨rfl, trivial⟩, ⟨?_, trivial⟩, ⟨?_, trivial⟩, trivial⟩ (by repeat' (first | exact trivial | rfl | apply And.intro)) ⟨rfl, rfl⟩⟩
    · have e := congrArg List.length hb
      simp only [List.length_append, beb_len] at e
      simp; omega
    · rw [← hb]; simp [beb]
    · show Value.slice a2 (l'.length + 1) c2 = Value.slice a2 (l' ++ [by8 (n.fdiv (2 ^ (8 * k)))]).length c2
      rw [List.length_append]; rfl
    · show Value.int .i64 (((k + 1 : Nat) : Int) - 1 - 1) = Value.int .i64 ((k : Int) - 1)
      congr 1; omega
  · have h0 : k = 0 := by omega
    subst h0
    simp only [beb, List.append_nil] at hb
    subst hb
    conv => whnf
    refine CallOb.by' [1000] [1] (wlay_c _ _ (Ent.all (by simp; left; rfl)) g s (a, cap) hk a' cap' (beb n z) Own.rd (by omega)) rfl ⟨rfl, rfl, rfl, fun x1 hx1 => ⟨rfl, ?_⟩⟩
    conv => whnf
    exact Ret.mk' x1 [1000] [0, 1] hx1 rfl (by repeat' (first | exact trivial | rfl | apply And.intro)) (by repeat' (first | exact trivial | rfl | apply And.intro)) ⟨rfl, rfl⟩

theorem wbytes_c (A R : HProp) (hE : Ent A R) (g : Nat) (s : WS) (ab : Option Addr) (cb : Nat) (b : List UInt8) (hb : Rd R ab (u8s b)) (hbl : b.length ≤ 1000000) :
    Con Try.prog 30 [.c (.rp g 0), .c (.rs ab b.length cb)] [] [Wr g s] A (fun _ : Unit => True) (fun _ => .c (.int .i64 (s.lay b).2)) (fun _ => []) (fun _ => [Wr g (s.lay b).1]) := by
  refine Con.box (Runs.of Try.func30 rfl (by decide)) ?_
  rintro ⟨a, cap⟩ hk
  refine Con.of' tt_ok Try.func30 rfl (by decide) [.c (.ptr 1000 0), .c (.rs ab b.length cb)] (B1 g) [(1000, (wc 0 .tt s a cap).2)] rfl rfl (by repeat' (first | exact trivial | rfl | apply And.intro)) (by repeat' (first | exact trivial | rfl | apply And.intro)) rfl ?_
  conv => whnf
  refine CallOb.by' [1000] [] (wgood_c _ g s a cap) rfl ⟨rfl, rfl, rfl, fun _ _ => ⟨rfl, ?_⟩⟩
  conv => whnf
  refine CallOb.by' [1000] [0] (wlay_c _ R ((Ent.all (by simp)).trans hE) g s (a, cap) hk ab cb b hb hbl) rfl ⟨rfl, rfl, rfl, fun x1 hx1 => ⟨rfl, ?_⟩⟩
  conv => whnf
  exact Ret.mk' x1 [1000] [0, 0] hx1 rfl (by repeat' (first | exact trivial | rfl | apply And.intro)) (by repeat' (first | exact trivial | rfl | apply And.intro)) ⟨rfl, rfl⟩

theorem wfill_c (A : HProp) (g : Nat) (s : WS) (to : Int) :
    Con Try.prog 31 [.c (.rp g 0), .c (.int .i64 to)] [] [Wr g s] A (fun _ : Unit => True) (fun _ => .c (.int .i64 (s.fill to).2)) (fun _ => []) (fun _ => [Wr g (s.fill to).1]) := by
  refine Con.box (Runs.of Try.func31 rfl (by decide)) ?_
  rintro ⟨a, cap⟩ hk
  refine Con.of' tt_ok Try.func31 rfl (by decide) [.c (.ptr 1000 0), .c (.int .i64 to)] (B1 g) [(1000, (wc 0 .tt s a cap).2)] rfl rfl (by repeat' (first | exact trivial | rfl | apply And.intro)) (by repeat' (first | exact trivial | rfl | apply And.intro)) rfl ?_
  conv => whnf
  refine CallOb.by' [1000] [] (wgood_c _ g s a cap) rfl ⟨rfl, rfl, rfl, fun _ _ => ⟨rfl, ?_⟩⟩
  conv => whnf
  refine Cond.dec (fun h => ?_) (fun h => ?_)
  · rw [show s.fill to = s.fail 2 from if_pos h]
    conv => whnf
    refine CallOb.by' [1000] [] (wfails_c _ g s a cap 2) rfl ⟨rfl, rfl, rfl, fun x1 hx1 => ⟨rfl, ?_⟩⟩
    conv => whnf
    refine Ret.mk' ((a, cap), ()) [1000] [0, 0] ⟨wk_fail hk 2, trivial⟩ rfl (by repeat' (first | exact trivial | rfl | apply And.intro)) (by repeat' (first | exact trivial | rfl | apply And.intro)) ⟨rfl, ?_⟩
    show [Own a cap 5 1 (u8s s.l), A] = [Own a cap 5 1 (u8s (s.fail 2).1.l), A]
    rw [(fail_l s 2).1]
  conv => whnf
  refine Cond.dec (fun h2 => ?_) (fun h2 => ?_)
  · rw [show s.fill to = s.fail 8 by unfold WS.fill; rw [if_neg h, if_pos h2]]
    conv => whnf
    refine CallOb.by' [1000] [] (wfails_c _ g s a cap 8) rfl ⟨rfl, rfl, rfl, fun x1 hx1 => ⟨rfl, ?_⟩⟩
    conv => whnf
    refine Ret.mk' ((a, cap), ()) [1000] [0, 0] ⟨wk_fail hk 8, trivial⟩ rfl (by repeat' (first | exact trivial | rfl | apply And.intro)) (by repeat' (first | exact trivial | rfl | apply And.intro)) ⟨rfl, ?_⟩
    show [Own a cap 5 1 (u8s s.l), A] = [Own a cap 5 1 (u8s (s.fail 8).1.l), A]
    rw [(fail_l s 8).1]
  have e : s.fill to = s.lay (List.replicate (to - s.l.length).toNat 0) := by unfold WS.fill; rw [if_neg h, if_neg h2]
  obtain ⟨z, hz⟩ : ∃ k : Nat, to - s.l.length = k := ⟨(to - s.l.length).toNat, by omega⟩
  rw [hz, Int.toNat_natCast] at e
  rw [e]
  have hk4 := hk.2.2
  conv => whnf
  refine Ar.i64 (by omega) ?_
  rw [hz]
  conv => whnf
  refine ⟨⟨by omega, by omega, by omega, by simp; omega⟩, ?_⟩
  intro b40
  conv => whnf
  have ez : u8s (List.replicate z 0) = List.replicate z (.int .u8 0) := by simp [u8s, u8]
  have hB : Rd (blk b40 (.cells (List.replicate z (Value.int .u8 0) ++ []).toArray 5)) (some (radr (b40, 0))) (u8s (List.replicate z 0)) := by
    rw [ez]; exact rd_many
  refine CallOb.by' [1000] [0] (wlay_c _ _ (Ent.all List.mem_cons_self) g s (a, cap) hk (some (radr (b40, 0))) z (List.replicate z 0) hB (by simp; omega)) (by rw [List.length_replicate]; rfl) ⟨rfl, rfl, rfl, fun x1 hx1 => ⟨rfl, ?_⟩⟩
  conv => whnf
  exact Ret.mk' x1 [1000] [0, 0] hx1 rfl (by repeat' (first | exact trivial | rfl | apply And.intro)) (by repeat' (first | exact trivial | rfl | apply And.intro)) ⟨rfl, rfl⟩
theorem wall_c (A : HProp) (g : Nat) (s : WS) :
    Con Try.prog 32 [.c (.rp g 0)] [] [Wr g s] A (fun x : Option Addr × Nat => s.all.1.length ≤ x.2 ∧ (x.1 = none → s.all.1 = [])) (fun x => .tup [.c (.rs x.1 s.all.1.length x.2), .c (.int .i64 s.all.2)]) (fun _ => []) (fun x => [Wr g s, Own x.1 x.2 5 1 (u8s s.all.1)]) := by
  refine Con.box (Runs.of Try.func32 rfl (by decide)) ?_
  rintro ⟨a, cap⟩ hk
  have hk4 := hk.2
  refine Con.of' tt_ok Try.func32 rfl (by decide) [.c (.ptr 1000 0)] (B1 g) [(1000, (wc 0 .tt s a cap).2)] rfl rfl (by repeat' (first | exact trivial | rfl | apply And.intro)) (by repeat' (first | exact trivial | rfl | apply And.intro)) rfl ?_
  conv => whnf
  refine CallOb.by' [1000] [] (wgood_c _ g s a cap) rfl ⟨rfl, rfl, rfl, fun _ _ => ⟨rfl, ?_⟩⟩
  conv => whnf
  refine Cond.neI (fun h => ?_) (fun h => ?_)
  · rw [show s.all = ([], s.e) from if_neg h]
    conv => whnf
    refine Draw.quiet (by kernel_rfl) tt_ok [5, 0, 1, 2, 3, 4, 6] (by kernel_rfl) ?_
    conv => whnf
    refine Ret.own0 5 1 ?_
    exact Ret.mk' ((a, cap), none, 0) [1000] [1, 0, 0] ⟨hk, Nat.le_refl _, fun _ => rfl⟩ rfl (by repeat' (first | exact trivial | rfl | apply And.intro)) (by repeat' (first | exact trivial | rfl | apply And.intro)) ⟨rfl, rfl⟩
  · rw [show s.all = (s.l, 0) from if_pos h]
    conv => whnf
    refine CallOb.by' [] [] (clone_c _ (wo s a cap) (Ent.all (by simp [M.props])) a cap s.l ⟨Own.rd, hk.1⟩ (by omega)) rfl ⟨rfl, rfl, rfl, fun x1 hx1 => ⟨rfl, ?_⟩⟩
    conv => whnf
    exact Ret.mk' ((a, cap), x1) [1000] [1, 0, 0] ⟨hk, hx1⟩ rfl (by repeat' (first | exact trivial | rfl | apply And.intro)) (by repeat' (first | exact trivial | rfl | apply And.intro)) ⟨rfl, rfl⟩
end Go.Proofs.Ytiimeklgjoclpaa
