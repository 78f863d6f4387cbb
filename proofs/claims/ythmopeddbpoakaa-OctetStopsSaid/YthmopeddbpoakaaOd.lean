/- The document's answer: bytes laid down, and taken. -/
import Derived.Test.YthmopeddbpoakaaOc
namespace Go.Proofs.Ythmopeddbpoakaa
open Go.Sx
set_option maxRecDepth 100000
set_option pp.deepTerms false
set_option pp.maxSteps 300
set_option linter.unusedSimpArgs false
set_option linter.unusedVariables false

abbrev wv (s : WS) (a : Option Addr) (c : Nat) : List Seg := [.one (.rs a s.l.length c), .one (.int .i64 s.room), .one (.int .i64 s.e)]
abbrev rv (s : RS) (a : Option Addr) (c : Nat) : List Seg := [.one (.rs a s.l.length c), .one (.int .i64 s.e)]

theorem rfits_c (A : HProp) (n size : Int) (hn : 0 ≤ n ∧ n < 18446744073709551616) : Pu Try.prog 30 [.c (.int .u64 n), .c (.int .i64 size)] A (.c (.bool (fitsN n size))) := by
  refine Con.of' tt_ok Try.func30 rfl (by decide) [.c (.int .u64 n), .c (.int .i64 size)] [] [] rfl rfl trivial (by repeat' (first | exact trivial | rfl | apply And.intro)) rfl ?_
  conv => whnf
  refine Cond.dec (fun h1 => ?_) (fun h1 => ?_)
  · conv => whnf
    refine Cond.dec (fun h2 => ?_) (fun h2 => ?_)
    · conv => whnf
      refine Cond.eqI (fun h3 => ?_) (fun h3 => ?_)
      · conv => whnf
        refine Ret.mk' () [] [0] trivial ?_ (by repeat' (first | exact trivial | rfl | apply And.intro)) (by repeat' (first | exact trivial | rfl | apply And.intro)) ⟨rfl, rfl⟩
        subst h3
        simp [tupOf, SA.sv, ofValue, SV.den, SC.den, fitsN]
        omega
      · conv => whnf
        refine Ar.i64 (by omega) ?_
        conv => whnf
        refine Ar.u64 (by omega) ?_
        conv => whnf
        obtain ⟨k, rfl⟩ : ∃ k : Nat, size = k := ⟨size.toNat, by omega⟩
        have hk : k ≤ 7 := by omega
        refine ⟨by omega, ?_⟩
        have e2 : (2 : Int) ^ (min (8 * (k : Int)).toNat IntKind.u64.bits) = 256 ^ k := by
          have : min (8 * (k : Int)).toNat IntKind.u64.bits = 8 * k := by simp [IntKind.bits]; omega
          rw [this, Int.pow_mul]; rfl
        rw [e2]
        conv => whnf
        refine Ret.mk' () [] [0] trivial ?_ (by repeat' (first | exact trivial | rfl | apply And.intro)) (by repeat' (first | exact trivial | rfl | apply And.intro)) ⟨rfl, rfl⟩
        have hp : (0 : Int) < 256 ^ k := Int.pow_pos (by decide)
        have e3 : (n.fdiv (256 ^ k) == 0) = decide (n < 256 ^ k) := by
          rw [Int.fdiv_eq_ediv_of_nonneg _ (Int.le_of_lt hp)]
          by_cases h : n < 256 ^ k
          · rw [Int.ediv_eq_zero_of_lt hn.1 h]; simp [h]
          · have : 0 < n / 256 ^ k := Int.le_ediv_of_mul_le hp (by omega)
            rw [decide_eq_false h, beq_eq_false_iff_ne]; omega
        simp [tupOf, SA.sv, ofValue, SV.den, SC.den, fitsN, e3]
        omega
    · conv => whnf
      refine Ret.mk' () [] [0] trivial ?_ (by repeat' (first | exact trivial | rfl | apply And.intro)) (by repeat' (first | exact trivial | rfl | apply And.intro)) ⟨rfl, rfl⟩
      simp [tupOf, SA.sv, ofValue, SV.den, SC.den, fitsN]
      omega
  · conv => whnf
    refine Ret.mk' () [] [0] trivial ?_ (by repeat' (first | exact trivial | rfl | apply And.intro)) (by repeat' (first | exact trivial | rfl | apply And.intro)) ⟨rfl, rfl⟩
    simp [tupOf, SA.sv, ofValue, SV.den, SC.den, fitsN]
    omega

theorem dfail_c (A : HProp) (s : WS) (a : Option Addr) (c : Nat) (k : Int) : Pu Try.prog 44 [.agg (wv s a c), .c (.int .i64 k)] A (.tup [.agg (wv { s with e := k } a c), .c (.int .i64 k)]) := by
  refine Con.of' tt_ok Try.func44 rfl (by decide) [.agg (wv s a c), .c (.int .i64 k)] [] [] rfl rfl trivial (by repeat' (first | exact trivial | rfl | apply And.intro)) rfl ?_
  conv => whnf
  intro b3
  conv => whnf
  intro b4
  conv => whnf
  exact Ret.mk' () [] [0] trivial rfl (by repeat' (first | exact trivial | rfl | apply And.intro)) (by repeat' (first | exact trivial | rfl | apply And.intro)) ⟨rfl, rfl⟩

theorem dlay_c (A R R' : HProp) (hE : Ent A R) (hE' : Ent A R') (s : WS) (a : Option Addr) (c : Nat) (hw : Bts R a c s.l) (h0 : s.e = 0) (ab : Option Addr) (cb : Nat) (b : List UInt8) (hb : Rd R' ab (u8s b)) (hl : s.l.length ≤ 1000000) (hbl : b.length ≤ 1000000) :
    Con Try.prog 45 [.agg (wv s a c), .c (.rs ab b.length cb)] [] [] A (fun y : RX => Bts (all [y.2.2, R]) y.1 y.2.1 (s.lay b).1.l)
      (fun y => .tup [.agg (wv (s.lay b).1 y.1 y.2.1), .c (.int .i64 (s.lay b).2)]) (fun _ => []) (fun y => [y.2.2]) := by
  refine Con.of' tt_ok Try.func45 rfl (by decide) [.agg (wv s a c), .c (.rs ab b.length cb)] [] [] rfl rfl trivial (by repeat' (first | exact trivial | rfl | apply And.intro)) rfl ?_
  conv => whnf
  intro b2
  conv => whnf
  intro b4
  conv => whnf
  refine Ar.i64 (by omega) ?_
  conv => whnf
  refine Cond.dec (fun h => ?_) (fun h => ?_)
  · have e : s.lay b = ({ s with e := 8 }, 8) := by unfold WS.lay; rw [if_pos h0, if_pos (by omega)]
    rw [e]
    conv => whnf
    refine Ret.grp [] [] ?_
    conv => whnf
    exact Ret.mk' (a, c, all []) [] [0, 0] (hw.ent (Ent.all (by simp))) rfl (by repeat' (first | exact trivial | rfl | apply And.intro)) (by repeat' (first | exact trivial | rfl | apply And.intro)) ⟨rfl, rfl⟩
  · have e : s.lay b = ({ s with l := s.l ++ b }, 0) := by unfold WS.lay; rw [if_pos h0, if_neg (by omega)]
    rw [e]
    conv => whnf
    intro b18
    conv => whnf
    refine With.own (i := 18) (n := 0) (cap := 0) (size := 1) ⟨_, _, rfl, ⟨rfl, Nat.le_refl _⟩, ?_⟩
    refine append_bytes (a := some ⟨b18, 0, none⟩) (n := 0) (cap := 0) (l := []) (k := s.l.length) (m := s.l) (src := .c (.rs a s.l.length c)) (.refl _) rfl rfl (Src.rs (A := A) (by simp) (hw.1.ent hE)) ⟨rfl, rfl⟩ (by omega) 26 (.inr rfl) ?_
    intro a1 c1 hc1 hn1
    rw [Nat.zero_add, List.nil_append]
    conv => whnf
    refine append_bytes (a := a1) (n := s.l.length) (cap := c1) (l := s.l) (k := b.length) (m := b) (src := .c (.rs ab b.length cb)) (.refl _) rfl rfl (Src.rs (A := A) (by simp) (hb.ent hE')) ⟨rfl, rfl⟩ (by omega) 26 (.inr rfl) ?_
    intro a2 c2 hc2 hn2
    conv => whnf
    have el : (s.l ++ b).length = s.l.length + b.length := List.length_append
    refine Ret.mk' (a2, c2, Own a2 c2 5 1 (u8s (s.l ++ b))) [] [0, 0] ⟨Rd.ent (q := Own a2 c2 5 1 (u8s (s.l ++ b))) (Ent.all (by simp)) Own.rd, by dsimp only; omega, fun hz => List.eq_nil_of_length_eq_zero (by dsimp only; rw [el]; exact hn2 hz)⟩ ?_ (by repeat' (first | exact trivial | rfl | apply And.intro)) (by repeat' (first | exact trivial | rfl | apply And.intro)) ⟨rfl, rfl⟩
    simp [tupOf, SV.den, SA.den, SC.den, dens, Seg.den, ofValue, h0]

theorem digits_c (A : HProp) (n : Int) (size : Nat) (hs : size ≤ 8) :
    Con Try.prog 46 [.c (.int .u64 n), .c (.int .i64 size)] [] [] A (fun x : Option Addr × Nat => (beb n size).length ≤ x.2 ∧ (x.1 = none → beb n size = [])) (fun x => .c (.rs x.1 (beb n size).length x.2)) (fun _ => []) (fun x => [Own x.1 x.2 5 1 (u8s (beb n size))]) := by
  refine Con.of' tt_ok Try.func46 rfl (by decide) [.c (.int .u64 n), .c (.int .i64 size)] [] [] rfl rfl trivial (by repeat' (first | exact trivial | rfl | apply And.intro)) rfl ?_
  conv => whnf
  refine LoopOb.mk' (σ := NS) (fun s => [(0, .c (.int .u64 n)), (1, .c (.int .i64 size)), (5, .c (.rs s.a s.l.length s.cap)), (6, .c (.int .i64 ((size : Int) - s.k)))])
    (fun q => ⟨[], [], [Own q.a q.cap 5 1 (u8s q.l), A]⟩)
    (fun s => s.k ≤ size ∧ s.l.length ≤ 8 ∧ s.l ++ beb n s.k = beb n size ∧ (s.l.length ≤ s.cap ∧ (s.a = none → s.l = []))) (fun s => s.k) ⟨size, [], none, 0⟩ ⟨Nat.le_refl _, by simp, rfl, by simp⟩ ?_ ?_
  · refine Wk.own0 5 1 ?_
    refine Wk.mk' [] [0, 0] ⟨⟨rfl, trivial⟩, ⟨rfl, trivial⟩, ⟨rfl, trivial⟩, ⟨?_, trivial⟩, trivial⟩ (by repeat' (first | exact trivial | rfl | apply And.intro)) ⟨rfl, rfl⟩
    show Value.int .i64 0 = Value.int .i64 ((size : Int) - size)
    congr 1; omega
  rintro ⟨k, l', a', cap'⟩ ⟨hk8, hle, hb, hc⟩
  dsimp only at hk8 hle hb hc ⊢
  conv => whnf
  refine Cond.dec (fun h => ?_) (fun h => ?_)
  · obtain ⟨k, rfl⟩ : ∃ j, k = j + 1 := ⟨k - 1, by omega⟩
    conv => whnf
    refine Ar.i64 (by omega) ?_
    conv => whnf
    refine Ar.i64 (by omega) ?_
    conv => whnf
    refine Ar.i64 (by omega) ?_
    conv => whnf
    refine Ar.u64 (by omega) ?_
    conv => whnf
    refine ⟨by omega, ?_⟩
    refine Ar.wr ?_
    conv => whnf
    intro b18
    conv => whnf
    have e8 : min (8 * ((size : Int) - 1 - ((size : Int) - ((k + 1 : Nat) : Int)))).toNat IntKind.u64.bits = 8 * k := by simp [IntKind.bits]; omega
    refine append_bytes (a := a') (n := l'.length) (cap := cap') (l := l') (k := 1) (m := [by8 (n.fdiv (2 ^ (8 * k)))]) (src := .c (.slc 22 0 1 1)) (.refl _) rfl rfl
      (by rw [← e8]; simp only [u8s_by8, u8s_nil]; exact Src.slc (Exists.intro [] rfl)) ⟨rfl, rfl⟩ (by omega) 26 (.inr rfl) ?_
    intro a2 c2 hc2 hn2
    conv => whnf
    refine Ar.i64 (by omega) ?_
    conv => whnf
    refine ⟨⟨k, l' ++ [by8 (n.fdiv (2 ^ (8 * k)))], a2, c2⟩, ⟨by dsimp only; omega, ?_, ?_, by simp; omega, fun h => absurd (hn2 h) (by omega)⟩, by dsimp only; omega, Wk.mk' [] [0, 0] ⟨⟨rfl, trivial⟩, ⟨rfl, trivial⟩, ⟨?_, trivial⟩, ⟨?_, trivial⟩, trivial⟩ (by repeat' (first | exact trivial | rfl | apply And.intro)) ⟨rfl, rfl⟩⟩
    · have e := congrArg List.length hb
      simp only [List.length_append, beb_len] at e
      simp; omega
    · rw [← hb]; simp [beb]
    · show Value.slice a2 (l'.length + 1) c2 = Value.slice a2 (l' ++ [by8 (n.fdiv (2 ^ (8 * k)))]).length c2
      rw [List.length_append]; rfl
    · show Value.int .i64 ((size : Int) - ((k + 1 : Nat) : Int) + 1) = Value.int .i64 ((size : Int) - k)
      congr 1; omega
  · have h0 : k = 0 := by omega
    subst h0
    simp only [beb, List.append_nil] at hb
    subst hb
    conv => whnf
    exact Ret.mk' (a', cap') [] [0, 0] hc rfl (by repeat' (first | exact trivial | rfl | apply And.intro)) (by repeat' (first | exact trivial | rfl | apply And.intro)) ⟨rfl, rfl⟩

theorem dnum_c (A R : HProp) (hE : Ent A R) (s : WS) (a : Option Addr) (c : Nat) (hw : Bts R a c s.l) (n size : Int) (hn : 0 ≤ n ∧ n < 18446744073709551616) (hl : s.l.length ≤ 1000000) :
    Con Try.prog 15 [.agg (wv s a c), .c (.int .u64 n), .c (.int .i64 size)] [] [] A (fun y : RX => Bts (all [y.2.2, R]) y.1 y.2.1 (s.num n size).1.l)
      (fun y => .tup [.agg (wv (s.num n size).1 y.1 y.2.1), .c (.int .i64 (s.num n size).2)]) (fun _ => []) (fun y => [y.2.2]) := by
  have hA : ∀ {x : List HProp}, A ∈ x → Ent (all x) R := fun h => (Ent.all h).trans hE
  refine Con.of' tt_ok Try.func15 rfl (by decide) [.agg (wv s a c), .c (.int .u64 n), .c (.int .i64 size)] [] [] rfl rfl trivial (by repeat' (first | exact trivial | rfl | apply And.intro)) rfl ?_
  conv => whnf
  intro b3
  conv => whnf
  intro b6
  conv => whnf
  refine Cond.neI (fun h => ?_) (fun h => ?_)
  · have e : s.num n size = (s, s.e) := by unfold WS.num WS.lay WS.fail; rw [if_neg h, if_neg h]; split <;> rfl
    rw [e]
    conv => whnf
    refine Draw.greedy (by kernel_rfl) tt_ok [0, 1, 2, 3, 4] [(3, wv s a c, 28)] [A] (by kernel_rfl) (fun k c h => k c (by simp at h; simp [h])) (Sub.parts [3] [0] ⟨rfl, rfl⟩ ?_)
    conv => whnf
    refine Sub.parts [3] [0] ⟨rfl, rfl⟩ ?_
    conv => whnf
    refine Ret.grp [] [] ?_
    conv => whnf
    exact Ret.mk' (a, c, all []) [] [0, 0] (hw.ent (Ent.all (by simp))) rfl (by repeat' (first | exact trivial | rfl | apply And.intro)) (by repeat' (first | exact trivial | rfl | apply And.intro)) ⟨rfl, rfl⟩
  conv => whnf
  refine CallOb.pu (rfits_c _ n size hn) rfl ?_
  conv => whnf
  refine Cond.not (Cond.mk (fun hf => ?_) (fun hf => ?_))
  case refine_2 =>
    have e : s.num n size = ({ s with e := 2 }, 2) := by unfold WS.num WS.fail; rw [hf, if_pos h]; rfl
    rw [e]
    conv => whnf
    refine CallOb.pu (dfail_c _ s a c 2) rfl ?_
    conv => whnf
    refine Ret.grp [] [] ?_
    conv => whnf
    exact Ret.mk' (a, c, all []) [] [0, 0] (hw.ent (Ent.all (by simp))) rfl (by repeat' (first | exact trivial | rfl | apply And.intro)) (by repeat' (first | exact trivial | rfl | apply And.intro)) ⟨rfl, rfl⟩
  have e : s.num n size = s.lay (beb n size.toNat) := by unfold WS.num; rw [hf]; rfl
  rw [e]
  have hs := fitsN_le hf
  obtain ⟨z, rfl⟩ : ∃ k : Nat, size = k := ⟨size.toNat, by omega⟩
  rw [Int.toNat_natCast]
  conv => whnf
  refine Draw.greedy (by kernel_rfl) tt_ok (List.range 9) [(3, wv s a c, 28)] [A] (by kernel_rfl) (fun k c h => k c (by simp at h; simp [h])) (Sub.parts [3] [0] ⟨rfl, rfl⟩ ?_)
  conv => whnf
  refine CallOb.by' [] [] (digits_c _ n z (by omega)) rfl ⟨rfl, rfl, rfl, fun x1 hx1 => ⟨rfl, ?_⟩⟩
  conv => whnf
  refine Sub.parts [3] [1] ⟨rfl, rfl⟩ ?_
  conv => whnf
  refine CallOb.by' [] [] (dlay_c _ R _ (hA (by simp)) (Ent.all (by simp [M.props]; right; right; left; rfl)) s a c hw h x1.1 x1.2 (beb n z) Own.rd hl (by rw [beb_len]; omega)) rfl ⟨rfl, rfl, rfl, fun x2 hx2 => ⟨rfl, ?_⟩⟩
  conv => whnf
  refine Sub.parts [3] [2] ⟨rfl, rfl⟩ ?_
  conv => whnf
  refine Sub.parts [3] [2] ⟨rfl, rfl⟩ ?_
  conv => whnf
  exact Ret.mk' x2 [] [0, 1] hx2 rfl (by repeat' (first | exact trivial | rfl | apply And.intro)) (by repeat' (first | exact trivial | rfl | apply And.intro)) ⟨rfl, rfl⟩

theorem dbytes_c (A R R' : HProp) (hE : Ent A R) (hE' : Ent A R') (s : WS) (a : Option Addr) (c : Nat) (hw : Bts R a c s.l) (ab : Option Addr) (cb : Nat) (b : List UInt8) (hb : Rd R' ab (u8s b)) (hl : s.l.length ≤ 1000000) (hbl : b.length ≤ 1000000) :
    Con Try.prog 17 [.agg (wv s a c), .c (.rs ab b.length cb)] [] [] A (fun y : RX => Bts (all [y.2.2, R]) y.1 y.2.1 (s.lay b).1.l)
      (fun y => .tup [.agg (wv (s.lay b).1 y.1 y.2.1), .c (.int .i64 (s.lay b).2)]) (fun _ => []) (fun y => [y.2.2]) := by
  have hA : ∀ {x : List HProp}, A ∈ x → Ent (all x) R := fun h => (Ent.all h).trans hE
  refine Con.of' tt_ok Try.func17 rfl (by decide) [.agg (wv s a c), .c (.rs ab b.length cb)] [] [] rfl rfl trivial (by repeat' (first | exact trivial | rfl | apply And.intro)) rfl ?_
  conv => whnf
  intro b3
  conv => whnf
  intro b6
  conv => whnf
  refine Cond.neI (fun h => ?_) (fun h => ?_)
  · have e : s.lay b = (s, s.e) := by unfold WS.lay; rw [if_neg h]
    rw [e]
    conv => whnf
    refine Draw.greedy (by kernel_rfl) tt_ok [0, 1, 2, 3, 4] [(2, wv s a c, 28)] [A] (by kernel_rfl) (fun k c h => k c (by simp at h; simp [h])) (Sub.parts [2] [0] ⟨rfl, rfl⟩ ?_)
    conv => whnf
    refine Sub.parts [2] [0] ⟨rfl, rfl⟩ ?_
    conv => whnf
    refine Ret.grp [] [] ?_
    conv => whnf
    exact Ret.mk' (a, c, all []) [] [0, 0] (hw.ent (Ent.all (by simp))) rfl (by repeat' (first | exact trivial | rfl | apply And.intro)) (by repeat' (first | exact trivial | rfl | apply And.intro)) ⟨rfl, rfl⟩
  conv => whnf
  refine CallOb.by' [] [] (dlay_c _ R R' (hA (by simp)) ((Ent.all (by simp)).trans hE') s a c hw h ab cb b hb hl hbl) rfl ⟨rfl, rfl, rfl, fun x2 hx2 => ⟨rfl, ?_⟩⟩
  conv => whnf
  exact Ret.mk' x2 [] [0, 0] hx2 rfl (by repeat' (first | exact trivial | rfl | apply And.intro)) (by repeat' (first | exact trivial | rfl | apply And.intro)) ⟨rfl, rfl⟩

theorem dfill_c (A R : HProp) (hE : Ent A R) (s : WS) (a : Option Addr) (c : Nat) (hw : Bts R a c s.l) (to : Int) (hl : s.l.length ≤ 1000000) (hr : s.room ≤ 65536) :
    Con Try.prog 19 [.agg (wv s a c), .c (.int .i64 to)] [] [] A (fun y : RX => Bts (all [y.2.2, R]) y.1 y.2.1 (s.fill to).1.l)
      (fun y => .tup [.agg (wv (s.fill to).1 y.1 y.2.1), .c (.int .i64 (s.fill to).2)]) (fun _ => []) (fun y => [y.2.2]) := by
  have hA : ∀ {x : List HProp}, A ∈ x → Ent (all x) R := fun h => (Ent.all h).trans hE
  refine Con.of' tt_ok Try.func19 rfl (by decide) [.agg (wv s a c), .c (.int .i64 to)] [] [] rfl rfl trivial (by repeat' (first | exact trivial | rfl | apply And.intro)) rfl ?_
  conv => whnf
  intro b3
  conv => whnf
  intro b6
  conv => whnf
  refine Cond.neI (fun h => ?_) (fun h => ?_)
  · have e : s.fill to = (s, s.e) := by unfold WS.fill WS.fail WS.lay; rw [if_neg h, if_neg h, if_neg h]; split <;> (try split) <;> rfl
    rw [e]
    conv => whnf
    refine Draw.greedy (by kernel_rfl) tt_ok [0, 1, 2, 3, 4] [(2, wv s a c, 28)] [A] (by kernel_rfl) (fun k c h => k c (by simp at h; simp [h])) (Sub.parts [2] [0] ⟨rfl, rfl⟩ ?_)
    conv => whnf
    refine Sub.parts [2] [0] ⟨rfl, rfl⟩ ?_
    conv => whnf
    refine Ret.grp [] [] ?_
    conv => whnf
    exact Ret.mk' (a, c, all []) [] [0, 0] (hw.ent (Ent.all (by simp))) rfl (by repeat' (first | exact trivial | rfl | apply And.intro)) (by repeat' (first | exact trivial | rfl | apply And.intro)) ⟨rfl, rfl⟩
  conv => whnf
  refine Cond.dec (fun h2 => ?_) (fun h2 => ?_)
  · have e : s.fill to = ({ s with e := 2 }, 2) := by unfold WS.fill WS.fail; rw [if_pos (by omega), if_pos h]
    rw [e]
    conv => whnf
    refine CallOb.pu (dfail_c _ s a c 2) rfl ?_
    conv => whnf
    refine Ret.grp [] [] ?_
    conv => whnf
    exact Ret.mk' (a, c, all []) [] [0, 0] (hw.ent (Ent.all (by simp))) rfl (by repeat' (first | exact trivial | rfl | apply And.intro)) (by repeat' (first | exact trivial | rfl | apply And.intro)) ⟨rfl, rfl⟩
  conv => whnf
  refine Cond.dec (fun h3 => ?_) (fun h3 => ?_)
  · have e : s.fill to = ({ s with e := 8 }, 8) := by unfold WS.fill WS.fail; rw [if_neg (by omega), if_pos h3, if_pos h]
    rw [e]
    conv => whnf
    refine CallOb.pu (dfail_c _ s a c 8) rfl ?_
    conv => whnf
    refine Ret.grp [] [] ?_
    conv => whnf
    exact Ret.mk' (a, c, all []) [] [0, 0] (hw.ent (Ent.all (by simp))) rfl (by repeat' (first | exact trivial | rfl | apply And.intro)) (by repeat' (first | exact trivial | rfl | apply And.intro)) ⟨rfl, rfl⟩
  have e : s.fill to = s.lay (List.replicate (to - s.l.length).toNat 0) := by unfold WS.fill; rw [if_neg (by omega), if_neg h3]
  obtain ⟨z, hz⟩ : ∃ k : Nat, to - s.l.length = k := ⟨(to - s.l.length).toNat, by omega⟩
  rw [hz, Int.toNat_natCast] at e
  rw [e]
  conv => whnf
  refine Draw.greedy (by kernel_rfl) tt_ok (List.range 12) [(2, wv s a c, 28)] [A] (by kernel_rfl) (fun k c h => k c (by simp at h; simp [h])) (Sub.parts [2] [0] ⟨rfl, rfl⟩ ?_)
  conv => whnf
  refine Ar.i64 (by omega) ?_
  rw [hz]
  conv => whnf
  refine ⟨⟨by omega, by omega, by omega, by simp; omega⟩, ?_⟩
  intro b38
  refine Sub.parts [2] [0] ⟨rfl, rfl⟩ ?_
  conv => whnf
  have ez : u8s (List.replicate z 0) = List.replicate z (.int .u8 0) := by simp [u8s, u8]
  have hB : Rd (blk b38 (.cells (List.replicate z (Value.int .u8 0) ++ []).toArray 5)) (some (radr (b38, 0))) (u8s (List.replicate z 0)) := by
    rw [ez]; exact rd_many
  refine CallOb.by' [] [] (dlay_c _ R _ (hA (by simp)) (Ent.all List.mem_cons_self) s a c hw h (some (radr (b38, 0))) z (List.replicate z 0) hB hl (by simp; omega)) (by rw [List.length_replicate]; rfl) ⟨rfl, rfl, rfl, fun x2 hx2 => ⟨rfl, ?_⟩⟩
  conv => whnf
  refine Sub.parts [2] [1] ⟨rfl, rfl⟩ ?_
  conv => whnf
  refine Sub.parts [2] [1] ⟨rfl, rfl⟩ ?_
  conv => whnf
  exact Ret.mk' x2 [] [0, 0] hx2 rfl (by repeat' (first | exact trivial | rfl | apply And.intro)) (by repeat' (first | exact trivial | rfl | apply And.intro)) ⟨rfl, rfl⟩

/-! The reader. -/
theorem dtakenum_c (A R : HProp) (hE : Ent A R) (s : RS) (a : Option Addr) (c : Nat) (hw : Bts R a c s.l) (size : Int) (hl : s.l.length ≤ 1000000) :
    Con Try.prog 23 [.agg (rv s a c), .c (.int .i64 size)] [] [] A (fun y : Option Addr × Nat => Bts R y.1 y.2 (s.num size).1.l)
      (fun y => .tup [.agg (rv (s.num size).1 y.1 y.2), .c (.int .u64 (s.num size).2.1), .c (.int .i64 (s.num size).2.2)]) (fun _ => []) (fun y => []) := by
  have hA : ∀ {x : List HProp}, A ∈ x → Ent (all x) R := fun h => (Ent.all h).trans hE
  have hcap := hw.2.1
  refine Con.of' tt_ok Try.func23 rfl (by decide) [.agg (rv s a c), .c (.int .i64 size)] [] [] rfl rfl trivial (by repeat' (first | exact trivial | rfl | apply And.intro)) rfl ?_
  conv => whnf
  intro b2
  conv => whnf
  intro b4
  conv => whnf
  refine Cond.neI (fun h => ?_) (fun h => ?_)
  · have e : s.num size = (s, 0, s.e) := by unfold RS.num RS.fail RS.take; rw [if_neg h, if_neg h]; split <;> rfl
    rw [e]
    conv => whnf
    refine Draw.greedy (by kernel_rfl) tt_ok [0, 1, 2, 3, 4, 5] [(2, rv s a c, 46)] [A] (by kernel_rfl) (fun k c h => k c (by simp at h; simp [h])) (Sub.parts [2] [0] ⟨rfl, rfl⟩ ?_)
    conv => whnf
    refine Sub.parts [2] [0] ⟨rfl, rfl⟩ ?_
    conv => whnf
    exact Ret.mk' (a, c) [] [0] hw rfl (by repeat' (first | exact trivial | rfl | apply And.intro)) (by repeat' (first | exact trivial | rfl | apply And.intro)) ⟨rfl, rfl⟩
  have bad : ∀ (h : size < 1 ∨ size > 8), s.num size = ({ s with e := 2 }, 0, 2) := fun h' => by unfold RS.num RS.fail; rw [if_pos h', if_pos h]
  conv => whnf
  refine Cond.dec (fun h1 => ?_) (fun h1 => ?_)
  · rw [bad (.inl h1)]
    conv => whnf
    exact Ret.mk' (a, c) [] [0] hw rfl (by repeat' (first | exact trivial | rfl | apply And.intro)) (by repeat' (first | exact trivial | rfl | apply And.intro)) ⟨rfl, rfl⟩
  conv => whnf
  refine Cond.dec (fun h2 => ?_) (fun h2 => ?_)
  · rw [bad (.inr h2)]
    conv => whnf
    exact Ret.mk' (a, c) [] [0] hw rfl (by repeat' (first | exact trivial | rfl | apply And.intro)) (by repeat' (first | exact trivial | rfl | apply And.intro)) ⟨rfl, rfl⟩
  have e : s.num size = ((s.take size.toNat).1, big (s.take size.toNat).2.1, (s.take size.toNat).2.2) := if_neg (by omega)
  obtain ⟨k, rfl⟩ : ∃ k : Nat, size = k := ⟨size.toNat, by omega⟩
  rw [Int.toNat_natCast] at e
  conv => whnf
  refine Cond.dec (fun h3 => ?_) (fun h3 => ?_)
  · have e2 : s.take k = ({ s with e := 4 }, [], 4) := by unfold RS.take; rw [if_pos h, if_pos (by omega)]
    rw [e, e2]
    conv => whnf
    exact Ret.mk' (a, c) [] [0] hw rfl (by repeat' (first | exact trivial | rfl | apply And.intro)) (by repeat' (first | exact trivial | rfl | apply And.intro)) ⟨rfl, rfl⟩
  have e2 : s.take k = ({ s with l := s.l.drop k }, s.l.take k, 0) := by unfold RS.take; rw [if_pos h, if_neg (by omega)]
  rw [e, e2]
  conv => whnf
  refine LoopOb.mk' (σ := Nat) (fun i => [(1, .c (.int .i64 k)), (2, .c (.ptr 2 0)), (4, .c (.ptr 4 0)), (7, .c (.int .u64 (big (s.l.take i)))), (8, .c (.int .i64 i))])
    (fun _ => ⟨[(4, b4), (2, b2)], [(4, [.one (.rs none 0 0), .one (.int .i64 0)], 46), (2, rv s a c, 46)], [A]⟩) (fun i => i ≤ k) (fun i => k - i) 0 (Nat.zero_le _)
    (Wk.mk' [4, 2] [0] ⟨⟨rfl, trivial⟩, ⟨rfl, (by repeat' (first | exact trivial | rfl | apply And.intro))⟩, ⟨rfl, (by repeat' (first | exact trivial | rfl | apply And.intro))⟩, ⟨rfl, trivial⟩, ⟨rfl, trivial⟩, trivial⟩ (by repeat' (first | exact trivial | rfl | apply And.intro)) ⟨rfl, rfl⟩) ?_
  intro i hi
  conv => whnf
  refine Cond.dec (fun h => ?_) (fun h => ?_)
  · have hi' : i < s.l.length := by omega
    have hr := hw.1.ent hE
    have hb := big_lt (s.l.take i) 7 (by simp; omega)
    conv => whnf
    refine Ar.u64 (by omega) ?_
    conv => whnf
    refine idx (A := A) i (by simp) hr hi' rfl fun p hp => ?_
    subst hp
    conv => whnf
    refine ldb (A := A) i (by simp) hr hi' rfl rfl (by simp) ?_
    conv => whnf
    rw [gd_eq hi']
    have hc256 := u8_lt s.l[i]
    refine Ar.u64 (by omega) ?_
    conv => whnf
    refine Ar.u64 (by omega) ?_
    conv => whnf
    refine Ar.i64 (by omega) ?_
    conv => whnf
    refine ⟨i + 1, by omega, by omega, Wk.mk' [4, 2] [0] ⟨⟨rfl, trivial⟩, ⟨rfl, (by repeat' (first | exact trivial | rfl | apply And.intro))⟩, ⟨rfl, (by repeat' (first | exact trivial | rfl | apply And.intro))⟩, ⟨?_, trivial⟩, ⟨rfl, trivial⟩, trivial⟩ (by repeat' (first | exact trivial | rfl | apply And.intro)) ⟨rfl, rfl⟩⟩
    show Value.int .u64 (big (s.l.take i) * 256 + (s.l[i].toNat : Int)) = Value.int .u64 _
    rw [big_take s.l i hi']
  · have hi' : i = k := by omega
    subst hi'
    conv => whnf
    refine ⟨by omega, ?_⟩
    conv => whnf
    refine Ret.mk' (cutA a c i 1, c - i) [] [0] (hw.drop i (by omega)) ?_ (by repeat' (first | exact trivial | rfl | apply And.intro)) (by repeat' (first | exact trivial | rfl | apply And.intro)) ⟨rfl, rfl⟩
    simp [tupOf, SV.den, SA.den, SC.den, dens, Seg.den, ofValue, h]

theorem dtakebytes_c (A R : HProp) (hE : Ent A R) (s : RS) (a : Option Addr) (c : Nat) (hw : Bts R a c s.l) (n : Int) (hl : s.l.length ≤ 1000000) :
    Con Try.prog 25 [.agg (rv s a c), .c (.int .i64 n)] [] [] A (fun y : (Option Addr × Nat) × Option Addr × Nat => Bts R y.1.1 y.1.2 (s.bytes n).1.l ∧ Bts R y.2.1 y.2.2 (s.bytes n).2.1)
      (fun y => .tup [.agg (rv (s.bytes n).1 y.1.1 y.1.2), .c (.rs y.2.1 (s.bytes n).2.1.length y.2.2), .c (.int .i64 (s.bytes n).2.2)]) (fun _ => []) (fun y => []) := by
  have hA : ∀ {x : List HProp}, A ∈ x → Ent (all x) R := fun h => (Ent.all h).trans hE
  have hcap := hw.2.1
  have nil : Bts R none 0 [] := ⟨rd_nil, Nat.le_refl _, fun _ => rfl⟩
  refine Con.of' tt_ok Try.func25 rfl (by decide) [.agg (rv s a c), .c (.int .i64 n)] [] [] rfl rfl trivial (by repeat' (first | exact trivial | rfl | apply And.intro)) rfl ?_
  conv => whnf
  intro b2
  conv => whnf
  intro b4
  conv => whnf
  refine Cond.neI (fun h => ?_) (fun h => ?_)
  · have e : s.bytes n = (s, [], s.e) := by unfold RS.bytes RS.fail RS.take; rw [if_neg h, if_neg h]; split <;> rfl
    rw [e]
    conv => whnf
    refine Draw.greedy (by kernel_rfl) tt_ok [0, 1, 2, 3, 4, 5] [(2, rv s a c, 46)] [A] (by kernel_rfl) (fun k c h => k c (by simp at h; simp [h])) (Sub.parts [2] [0] ⟨rfl, rfl⟩ ?_)
    conv => whnf
    refine Sub.parts [2] [0] ⟨rfl, rfl⟩ ?_
    conv => whnf
    exact Ret.mk' ((a, c), (none, 0)) [] [0] ⟨hw, nil⟩ rfl (by repeat' (first | exact trivial | rfl | apply And.intro)) (by repeat' (first | exact trivial | rfl | apply And.intro)) ⟨rfl, rfl⟩
  conv => whnf
  refine Cond.dec (fun h1 => ?_) (fun h1 => ?_)
  · rw [show s.bytes n = ({ s with e := 2 }, [], 2) by unfold RS.bytes RS.fail; rw [if_pos h1, if_pos h]]
    conv => whnf
    exact Ret.mk' ((a, c), (none, 0)) [] [0] ⟨hw, nil⟩ rfl (by repeat' (first | exact trivial | rfl | apply And.intro)) (by repeat' (first | exact trivial | rfl | apply And.intro)) ⟨rfl, rfl⟩
  have e : s.bytes n = s.take n.toNat := if_neg h1
  obtain ⟨k, rfl⟩ : ∃ k : Nat, n = k := ⟨n.toNat, by omega⟩
  rw [Int.toNat_natCast] at e
  conv => whnf
  refine Cond.dec (fun h3 => ?_) (fun h3 => ?_)
  · have e2 : s.take k = ({ s with e := 4 }, [], 4) := by unfold RS.take; rw [if_pos h, if_pos (by omega)]
    rw [e, e2]
    conv => whnf
    exact Ret.mk' ((a, c), (none, 0)) [] [0] ⟨hw, nil⟩ rfl (by repeat' (first | exact trivial | rfl | apply And.intro)) (by repeat' (first | exact trivial | rfl | apply And.intro)) ⟨rfl, rfl⟩
  have e2 : s.take k = ({ s with l := s.l.drop k }, s.l.take k, 0) := by unfold RS.take; rw [if_pos h, if_neg (by omega)]
  rw [e, e2]
  conv => whnf
  refine ⟨by omega, ?_⟩
  conv => whnf
  refine ⟨by omega, ?_⟩
  conv => whnf
  refine Ret.mk' ((cutA a c k 1, c - k), (cutA a c 0 1, c)) [] [0] ⟨hw.drop k (by omega), by have := hw.sub 0 k (by omega); rw [List.drop_zero] at this; exact this⟩ ?_ (by repeat' (first | exact trivial | rfl | apply And.intro)) (by repeat' (first | exact trivial | rfl | apply And.intro)) ⟨rfl, rfl⟩
  have ek : min k s.l.length = k := by omega
  simp [tupOf, SV.den, SA.den, SC.den, dens, Seg.den, ofValue, h, ek]

theorem dleft_c (A : HProp) (s : RS) (a : Option Addr) (c : Nat) : Pu Try.prog 27 [.agg (rv s a c)] A (.c (.int .i64 s.left)) := by
  refine Con.of' tt_ok Try.func27 rfl (by decide) [.agg (rv s a c)] [] [] rfl rfl trivial (by repeat' (first | exact trivial | rfl | apply And.intro)) rfl ?_
  conv => whnf
  intro b2
  conv => whnf
  refine Cond.neI (fun h => ?_) (fun h => ?_)
  · rw [show s.left = 0 from if_neg h]
    conv => whnf
    exact Ret.mk' () [] [0] trivial rfl (by repeat' (first | exact trivial | rfl | apply And.intro)) (by repeat' (first | exact trivial | rfl | apply And.intro)) ⟨rfl, rfl⟩
  · rw [show s.left = s.l.length from if_pos h]
    conv => whnf
    exact Ret.mk' () [] [0] trivial rfl (by repeat' (first | exact trivial | rfl | apply And.intro)) (by repeat' (first | exact trivial | rfl | apply And.intro)) ⟨rfl, rfl⟩

theorem ddone_c (A R : HProp) (hE : Ent A R) (s : RS) (a : Option Addr) (c : Nat) (hw : Bts R a c s.l) (hl : s.l.length ≤ 1000000) : Pu Try.prog 29 [.agg (rv s a c)] A (.c (.bool s.done)) := by
  refine Con.of' tt_ok Try.func29 rfl (by decide) [.agg (rv s a c)] [] [] rfl rfl trivial (by repeat' (first | exact trivial | rfl | apply And.intro)) rfl ?_
  conv => whnf
  intro b1
  conv => whnf
  refine LoopOb.mk' (σ := Nat) (fun i => [(1, .c (.ptr 1 0)), (3, .c (.int .i64 i))])
    (fun _ => ⟨[(1, b1)], [(1, rv s a c, 46)], [A]⟩) (fun i => i ≤ s.l.length ∧ (s.l.take i).any (· != 0) = false) (fun i => s.l.length - i) 0 ⟨Nat.zero_le _, rfl⟩
    (Wk.mk' [1] [0] ⟨⟨rfl, (by repeat' (first | exact trivial | rfl | apply And.intro))⟩, ⟨rfl, trivial⟩, trivial⟩ (by repeat' (first | exact trivial | rfl | apply And.intro)) ⟨rfl, rfl⟩) ?_
  rintro i ⟨hi, hall⟩
  conv => whnf
  refine Cond.dec (fun h => ?_) (fun h => ?_)
  · have hi' : i < s.l.length := by omega
    have hr := hw.1.ent hE
    conv => whnf
    refine idx (A := A) i (by simp) hr hi' rfl fun p hp => ?_
    subst hp
    conv => whnf
    refine ldb (A := A) i (by simp) hr hi' rfl rfl (by simp) ?_
    conv => whnf
    rw [gd_eq hi']
    refine Cond.neI (fun hc => ?_) (fun hc => ?_)
    · conv => whnf
      have e : s.done = false := by
        unfold RS.done
        rw [Bool.and_eq_false_iff]
        right
        rw [List.any_eq_true.2 ⟨_, List.getElem_mem hi', ?_⟩]
        · rfl
        · rw [bne_iff_ne]; intro e; rw [e] at hc; exact hc rfl
      rw [e]
      exact Ret.mk' () [] [0] trivial rfl (by repeat' (first | exact trivial | rfl | apply And.intro)) (by repeat' (first | exact trivial | rfl | apply And.intro)) ⟨rfl, rfl⟩
    · conv => whnf
      refine Ar.i64 (by omega) ?_
      conv => whnf
      refine ⟨i + 1, ⟨hi', ?_⟩, by omega, Wk.mk' [1] [0] ⟨⟨rfl, (by repeat' (first | exact trivial | rfl | apply And.intro))⟩, ⟨rfl, trivial⟩, trivial⟩ (by repeat' (first | exact trivial | rfl | apply And.intro)) ⟨rfl, rfl⟩⟩
      have e0 : s.l[i] = 0 := UInt8.toNat_inj.1 (by simpa using hc)
      rw [List.take_succ_eq_append_getElem hi', List.any_append, hall, e0]; rfl
  · have hi' : i = s.l.length := by omega
    subst hi'
    rw [List.take_length] at hall
    conv => whnf
    refine Ret.mk' () [] [0] trivial ?_ (by repeat' (first | exact trivial | rfl | apply And.intro)) (by repeat' (first | exact trivial | rfl | apply And.intro)) ⟨rfl, rfl⟩
    simp [tupOf, SA.sv, ofValue, SV.den, SC.den, RS.done, hall]
    exact Bool.beq_eq_decide_eq _ _
end Go.Proofs.Ythmopeddbpoakaa
