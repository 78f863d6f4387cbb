/- The document's hash. -/
import Derived.Test.YtiimeklgjoclpaaDoorHd
namespace Go.Proofs.YtiimeklgjoclpaaDoor
open Go.Sx
set_option maxRecDepth 100000
set_option pp.deepTerms false
set_option pp.maxSteps 300
set_option linter.unusedSimpArgs false
set_option linter.unusedVariables false

theorem turn_c (A : HProp) (x : UInt32) (n : Nat) (hn : 1 ≤ n ∧ n ≤ 31) : Pu Tryd.prog 71 [.c (.int .u32 (x.toNat : Int)), .c (.int .i64 (n : Int))] A (.c (.int .u32 ((rotl x (32 - n)).toNat : Int))) := by
  refine Con.of' tt_ok Tryd.func71 rfl (by decide) [.c (.int .u32 (x.toNat : Int)), .c (.int .i64 (n : Int))] [] [] rfl rfl trivial (by repeat' (first | exact trivial | rfl | apply And.intro)) rfl ?_
  conv => whnf
  refine Ar.u64 (by omega) ?_
  conv => whnf
  refine ⟨by omega, ?_⟩
  have e1 : min (n : Int).toNat IntKind.u32.bits = n := by simp only [IntKind.bits]; omega
  rw [e1]
  refine Ar.i64 (by omega) ?_
  conv => whnf
  refine Ar.u64 (by omega) ?_
  conv => whnf
  refine ⟨by omega, ?_⟩
  have e2 : min ((32 : Int) - n).toNat IntKind.u32.bits = 32 - n := by simp only [IntKind.bits]; omega
  rw [e2]
  refine Ar.wshl (.base x) (32 - n) (by omega) ?_
  conv => whnf
  refine Ret.mk' () [] [0] trivial ?_ (by repeat' (first | exact trivial | rfl | apply And.intro)) (by repeat' (first | exact trivial | rfl | apply And.intro)) ⟨rfl, rfl⟩
  have := (Wd.or (Wd.shr (.base x) n (by omega)) (.base (x <<< UInt32.ofNat (32 - n)))).h
  show Value.int .u32 _ = Value.int .u32 _
  rw [this]
  congr 3
  unfold rotl
  rw [UInt32.or_comm, show 32 - (32 - n) = n by omega]

theorem constants_c (A : HProp) : FW Tryd.prog 70 [] A 116 kW := by
  refine Con.of' tt_ok Tryd.func70 rfl (by decide) [] [] [] rfl rfl trivial (by repeat' (first | exact trivial | rfl | apply And.intro)) rfl ?_
  conv => whnf
  intro b
  conv => whnf
  refine Ret.own 1 64 64 1 ⟨_, _, rfl, ⟨rfl, Nat.le_refl _⟩, (by repeat' (first | exact trivial | rfl | apply And.intro)), ?_⟩
  exact Ret.mk' (some ⟨b, 0, none⟩, 64) [] [0, 0] ⟨Nat.le_refl _, fun h => by cases h⟩ rfl (by repeat' (first | exact trivial | rfl | apply And.intro)) (by repeat' (first | exact trivial | rfl | apply And.intro)) ⟨rfl, rfl⟩
theorem first_c (A : HProp) : FW Tryd.prog 65 [] A 116 h0W := by
  refine Con.of' tt_ok Tryd.func65 rfl (by decide) [] [] [] rfl rfl trivial (by repeat' (first | exact trivial | rfl | apply And.intro)) rfl ?_
  conv => whnf
  intro b
  conv => whnf
  refine Ret.own 1 8 8 1 ⟨_, _, rfl, ⟨rfl, Nat.le_refl _⟩, (by repeat' (first | exact trivial | rfl | apply And.intro)), ?_⟩
  exact Ret.mk' (some ⟨b, 0, none⟩, 8) [] [0, 0] ⟨Nat.le_refl _, fun h => by cases h⟩ rfl (by repeat' (first | exact trivial | rfl | apply And.intro)) (by repeat' (first | exact trivial | rfl | apply And.intro)) ⟨rfl, rfl⟩

/-- What stands behind a message, so far. -/
def padM (b : List UInt8) (k : Nat) : List UInt8 := b ++ 128 :: List.replicate k 0
theorem padM_len (b : List UInt8) (k : Nat) : (padM b k).length = b.length + 1 + k := by simp [padM]; omega
theorem padM_succ (b : List UInt8) (k : Nat) : padM b (k + 1) = padM b k ++ [0] := by simp [padM, List.replicate_succ']
theorem padded_c (A R : HProp) (hE : Ent A R) (a : Option Addr) (cap : Nat) (b : List UInt8) (hb : Bts R a cap b) (hn : b.length ≤ 1073741824) :
    FB Tryd.prog 64 [.c (.rs a b.length cap)] A 5 (b ++ padB b.length) := by
  refine Con.of' tt_ok Tryd.func64 rfl (by decide) [.c (.rs a b.length cap)] [] [] rfl rfl trivial (by repeat' (first | exact trivial | rfl | apply And.intro)) rfl ?_
  conv => whnf
  intro b6
  conv => whnf
  refine With.own (i := 6) (n := 0) (cap := 0) (size := 1) ⟨_, _, rfl, ⟨rfl, Nat.le_refl _⟩, ?_⟩
  refine appb (l := []) (m := b) (.refl _) (Src.rs (A := A) (by simp) (hb.1.ent hE)) rfl rfl ⟨rfl, by decide, by decide⟩ (by simp; omega) 34 (.inr rfl) ?_
  intro a1 c1 hc1
  rw [List.nil_append] at hc1 ⊢
  conv => whnf
  intro b10
  conv => whnf
  refine appb (l := b) (m := [128]) (.refl _) (by exact Src.u8 128 rfl rfl) rfl rfl ⟨rfl, by decide, by decide⟩ (by simp; omega) 34 (.inr rfl) ?_
  intro a2 c2 hc2
  conv => whnf
  refine LoopOb.mk' (σ := Nat × Option Addr × Nat) (fun s => [(0, .c (.rs a b.length cap)), (3, .c (.rs s.2.1 (padM b s.1).length s.2.2))]) (fun s => ⟨[], [], [Own s.2.1 s.2.2 5 1 (u8s (padM b s.1)), A]⟩)
    (fun s => s.1 ≤ zer b.length ∧ Fc s.2.1 s.2.2 (padM b s.1)) (fun s => zer b.length - s.1) (0, a2, c2) ⟨Nat.zero_le _, hc2⟩ (Wk.mk' [] [0, 0] (by repeat' (first | exact trivial | rfl | apply And.intro)) (by repeat' (first | exact trivial | rfl | apply And.intro)) ⟨rfl, rfl⟩) ?_
  rintro ⟨k, a3, c3⟩ ⟨hk, hc3⟩
  dsimp only at hk hc3 ⊢
  have hlen := padM_len b k
  conv => whnf
  refine ⟨by decide, ?_⟩
  have htm : ((padM b k).length : Int).tmod 64 = (((padM b k).length % 64 : Nat) : Int) := rfl
  rw [htm]
  refine Cond.neI (fun h => ?_) (fun h => ?_)
  · conv => whnf
    intro b17
    conv => whnf
    refine appb (l := padM b k) (m := [0]) (.refl _) (by exact Src.u8 0 rfl rfl) rfl rfl ⟨rfl, by decide, by decide⟩ (by simp only [zer] at hk; rw [hlen]; simp; omega) 34 (.inr rfl) ?_
    intro a4 c4 hc4
    rw [← padM_succ] at hc4 ⊢
    conv => whnf
    refine ⟨(k + 1, a4, c4), ⟨?_, hc4⟩, ?_, Wk.mk' [] [0, 0] (by repeat' (first | exact trivial | rfl | apply And.intro)) (by repeat' (first | exact trivial | rfl | apply And.intro)) ⟨rfl, rfl⟩⟩
    · dsimp only; simp only [zer] at hk ⊢; rw [hlen] at h; omega
    · dsimp only; simp only [zer] at hk ⊢; rw [hlen] at h; omega
  have hk' : k = zer b.length := by
    rw [hlen] at h
    simp only [zer] at hk ⊢; omega
  conv => whnf
  refine Ar.u64 (by omega) ?_
  conv => whnf
  refine Ar.u64 (by omega) ?_
  conv => whnf
  have e0 : b ++ padB b.length = padM b k ++ be8 ((b.length : Int) * 8) 8 := by rw [hk']; simp [padB, padM]
  rw [e0]
  refine LoopOb.mk' (σ := Nat × List UInt8 × Option Addr × Nat) (fun s => [(0, .c (.rs a b.length cap)), (3, .c (.rs s.2.2.1 (padM b k ++ s.2.1).length s.2.2.2)), (4, .c (.int .u64 ((b.length : Int) * 8))), (5, .c (.int .i64 ((s.1 : Int) - 1)))]) (fun s => ⟨[], [], [Own s.2.2.1 s.2.2.2 5 1 (u8s (padM b k ++ s.2.1)), A]⟩)
    (fun s => s.1 ≤ 8 ∧ s.2.1 ++ be8 ((b.length : Int) * 8) s.1 = be8 ((b.length : Int) * 8) 8 ∧ Fc s.2.2.1 s.2.2.2 (padM b k ++ s.2.1)) (fun s => s.1) (8, [], a3, c3) ⟨Nat.le_refl _, rfl, by simpa using hc3⟩ ?_ ?_
  · refine Wk.mk' [] [0, 0] ⟨⟨rfl, trivial⟩, ⟨?_, trivial⟩, ⟨rfl, trivial⟩, ⟨rfl, trivial⟩, trivial⟩ (by repeat' (first | exact trivial | rfl | apply And.intro)) ⟨rfl, ?_⟩
    · show Value.slice _ _ _ = Value.slice _ _ _; rw [List.append_nil]
    · rw [List.append_nil]
  rintro ⟨j, l, a5, c5⟩ ⟨hj, hl, hc5⟩
  dsimp only at hj hl hc5 ⊢
  have hll : l.length + j = 8 := by
    have := congrArg List.length hl
    rwa [List.length_append, be8_len, be8_len] at this
  conv => whnf
  refine Cond.dec (fun h => ?_) (fun h => ?_)
  · obtain ⟨j, rfl⟩ : ∃ i, j = i + 1 := ⟨j - 1, by omega⟩
    conv => whnf
    refine Ar.i64 (by omega) ?_
    conv => whnf
    refine Ar.u64 (by omega) ?_
    conv => whnf
    refine ⟨by omega, ?_⟩
    refine Ar.wr ?_
    conv => whnf
    intro b34
    conv => whnf
    have e8 : min (8 * (((j + 1 : Nat) : Int) - 1)).toNat IntKind.u64.bits = 8 * j := by simp [IntKind.bits]; omega
    refine appb (l := padM b k ++ l) (m := [by8 (((b.length : Int) * 8).fdiv (2 ^ (8 * j)))]) (.refl _) (by exact Src.u8 _ (by rw [by8_wrap, ← e8]) rfl) rfl rfl ⟨rfl, by decide, by decide⟩ (by simp only [zer] at hk; rw [List.length_append, hlen]; simp; omega) 34 (.inr rfl) ?_
    intro a6 c6 hc6
    rw [List.append_assoc] at hc6 ⊢
    conv => whnf
    refine Ar.i64 (by omega) ?_
    conv => whnf
    refine ⟨(j, l ++ [by8 (((b.length : Int) * 8).fdiv (2 ^ (8 * j)))], a6, c6), ⟨by dsimp only; omega, by rw [← hl]; simp [be8], hc6⟩, by dsimp only; omega, Wk.mk' [] [0, 0] ⟨⟨rfl, trivial⟩, ⟨rfl, trivial⟩, ⟨rfl, trivial⟩, ⟨?_, trivial⟩, trivial⟩ (by repeat' (first | exact trivial | rfl | apply And.intro)) ⟨rfl, rfl⟩⟩
    show Value.int .i64 _ = Value.int .i64 _
    congr 1; dsimp only; omega
  have hj0 : j = 0 := by omega
  subst hj0
  simp only [be8, List.append_nil] at hl
  subst hl
  conv => whnf
  exact Ret.mk' (a5, c5) [] [0, 0] hc5 rfl (by repeat' (first | exact trivial | rfl | apply And.intro)) (by repeat' (first | exact trivial | rfl | apply And.intro)) ⟨rfl, rfl⟩

theorem gd_drop (b : List UInt8) (k i : Nat) : gd (b.drop k) i = gd b (k + i) := by simp [gd, List.getElem?_drop]
theorem wordB_drop (b : List UInt8) (k : Nat) : wordB (b.drop k) = (UInt8.ofNat (gd b k)).toUInt32 <<< 24 ||| (UInt8.ofNat (gd b (k + 1))).toUInt32 <<< 16 ||| (UInt8.ofNat (gd b (k + 2))).toUInt32 <<< 8 ||| (UInt8.ofNat (gd b (k + 3))).toUInt32 := by
  simp only [wordB, gd_drop, Nat.add_zero]
abbrev RowW (a : Option Addr) (c : Nat) (l : List UInt32) : HProp := Own a c 116 1 (w32s l)
theorem rsch_c (A R : HProp) (hE : Ent A R) (a : Option Addr) (cap : Nat) (b : List UInt8) (hb : Bts R a cap b) (hl : b.length = 64) :
    FW Tryd.prog 69 [.c (.rs a b.length cap)] A 116 (sch b 64) := by
  refine Con.of' tt_ok Tryd.func69 rfl (by decide) [.c (.rs a b.length cap)] [] [] rfl rfl trivial (by repeat' (first | exact trivial | rfl | apply And.intro)) rfl ?_
  conv => whnf
  refine LoopOb.mk' (σ := Nat × Option Addr × Nat) (fun s => [(0, .c (.rs a b.length cap)), (3, .c (.rs s.2.1 (sch b s.1).length s.2.2)), (4, .c (.int .i64 s.1))]) (fun s => ⟨[], [], [RowW s.2.1 s.2.2 (sch b s.1), A]⟩)
    (fun s => s.1 ≤ 16 ∧ Fc s.2.1 s.2.2 (sch b s.1)) (fun s => 16 - s.1) (0, none, 0) ⟨Nat.zero_le _, Fc.nil⟩ ?_ ?_
  · refine Wk.own0 116 1 ?_
    exact Wk.mk' [] [0, 0] (by repeat' (first | exact trivial | rfl | apply And.intro)) (by repeat' (first | exact trivial | rfl | apply And.intro)) ⟨rfl, rfl⟩
  rintro ⟨t, at1, ct⟩ ⟨ht, hct⟩
  dsimp only at ht hct ⊢
  conv => whnf
  refine Cond.dec (fun h => ?_) (fun h => ?_)
  · have hr := hb.1.ent hE
    conv => whnf
    refine Draw.till (by kernel_rfl) tt_ok (Tr.of (List.range 37) .nil) 35 (by kernel_rfl) ?_
    conv => whnf
    refine Ar.i64 (by omega) ?_
    conv => whnf
    refine idx (A := A) (4 * t) (by simp) hr (by omega) (by omega) fun p hp => ?_
    rw [hp] at hr ⊢
    conv => whnf
    refine ldb (A := A) (4 * t) (by simp) hr (by omega) rfl rfl (by show _ + (4 * (t : Int)).toNat * 1 = _; omega) ?_
    conv => whnf
    refine Ar.w8 (gd8 b (4 * t)) ?_
    conv => whnf
    refine ⟨by decide, ?_⟩
    refine Ar.wshl (.base _) 24 (by decide) ?_
    conv => whnf
    refine Ar.i64 (by omega) ?_
    conv => whnf
    refine Ar.i64 (by omega) ?_
    conv => whnf
    refine ⟨by omega, PtrOb.at ?_⟩
    conv => whnf
    refine ldb (A := A) (4 * t + 1) (by simp) hr (by omega) rfl rfl (by show _ + (4 * (t : Int) + 1).toNat * 1 = _; omega) ?_
    conv => whnf
    refine Ar.w8 (gd8 b (4 * t + 1)) ?_
    conv => whnf
    refine ⟨by decide, ?_⟩
    refine Ar.wshl (.base _) 16 (by decide) ?_
    conv => whnf
    refine Ar.i64 (by omega) ?_
    conv => whnf
    refine Ar.i64 (by omega) ?_
    conv => whnf
    refine ⟨by omega, PtrOb.at ?_⟩
    conv => whnf
    refine ldb (A := A) (4 * t + 2) (by simp) hr (by omega) rfl rfl (by show _ + (4 * (t : Int) + 2).toNat * 1 = _; omega) ?_
    conv => whnf
    refine Ar.w8 (gd8 b (4 * t + 2)) ?_
    conv => whnf
    refine ⟨by decide, ?_⟩
    refine Ar.wshl (.base _) 8 (by decide) ?_
    conv => whnf
    refine Ar.i64 (by omega) ?_
    conv => whnf
    refine Ar.i64 (by omega) ?_
    conv => whnf
    refine ⟨by omega, PtrOb.at ?_⟩
    conv => whnf
    refine ldb (A := A) (4 * t + 3) (by simp) hr (by omega) rfl rfl (by show _ + (4 * (t : Int) + 3).toNat * 1 = _; omega) ?_
    conv => whnf
    refine Ar.w8 (gd8 b (4 * t + 3)) ?_
    conv => whnf
    intro b48
    conv => whnf
    refine Sub.parts [] [0, 0] ⟨rfl, rfl⟩ ?_
    conv => whnf
    have ew : schNext b (sch b t) = (UInt8.ofNat (gd b (4 * t))).toUInt32 <<< 24 ||| (UInt8.ofNat (gd b (4 * t + 1))).toUInt32 <<< 16 ||| (UInt8.ofNat (gd b (4 * t + 2))).toUInt32 <<< 8 ||| (UInt8.ofNat (gd b (4 * t + 3))).toUInt32 := by
      unfold schNext; rw [sch_len, if_pos (by omega), wordB_drop]
    refine appw (l := sch b t) (m := [schNext b (sch b t)]) (.refl _) (by exact Src.w32 _ (by rw [ew]; exact (Wd.or (Wd.or (Wd.or (.base _) (.base _)) (.base _)) (.base _)).h) rfl) rfl rfl ⟨rfl, by decide, by decide⟩ (by rw [sch_len]; simp; omega) 123 (.inr rfl) ?_
    intro a4 c4 hc4
    conv => whnf
    refine Ar.i64 (by omega) ?_
    conv => whnf
    exact ⟨(t + 1, a4, c4), ⟨by dsimp only; omega, hc4⟩, by dsimp only; omega, Wk.mk' [] [0, 0] ⟨⟨rfl, trivial⟩, ⟨rfl, trivial⟩, ⟨rfl, trivial⟩, trivial⟩ (by repeat' (first | exact trivial | rfl | apply And.intro)) ⟨rfl, rfl⟩⟩
  have ht' : t = 16 := by omega
  subst ht'
  conv => whnf
  refine LoopOb.mk' (σ := Nat × Option Addr × Nat) (fun s => [(0, .c (.rs a b.length cap)), (3, .c (.rs s.2.1 (sch b s.1).length s.2.2)), (5, .c (.int .i64 s.1))]) (fun s => ⟨[], [], [RowW s.2.1 s.2.2 (sch b s.1), A]⟩)
    (fun s => (16 ≤ s.1 ∧ s.1 ≤ 64) ∧ Fc s.2.1 s.2.2 (sch b s.1)) (fun s => 64 - s.1) (16, at1, ct) ⟨⟨Nat.le_refl _, by dsimp only; omega⟩, hct⟩ (Wk.mk' [] [0, 0] (by repeat' (first | exact trivial | rfl | apply And.intro)) (by repeat' (first | exact trivial | rfl | apply And.intro)) ⟨rfl, rfl⟩) ?_
  rintro ⟨t, at2, ct2⟩ ⟨ht2, hct2⟩
  dsimp only at ht2 hct2 ⊢
  conv => whnf
  refine Cond.dec (fun h => ?_) (fun h => ?_)
  · have hr : Rd (RowW at2 ct2 (sch b t)) at2 (w32s (sch b t)) := Own.rd
    have hsl := sch_len b t
    generalize ew : sch b t = w at hr hsl hct2 ⊢
    have en : schNext b w = sg1 (wg w (t - 2)) + wg w (t - 7) + sg0 (wg w (t - 15)) + wg w (t - 16) := by unfold schNext; rw [hsl, if_neg (by omega)]
    conv => whnf
    refine Draw.till (by kernel_rfl) tt_ok (Tr.of (List.range 12) .nil) 1000000 (by kernel_rfl) ?_
    conv => whnf
    refine Ar.i64 (by omega) ?_
    conv => whnf
    refine idxw (A := RowW at2 ct2 w) (t - 15) (by simp) hr (by omega) (by omega) fun p hp => ?_
    subst hp
    conv => whnf
    refine ldw (A := RowW (some (radr p)) ct2 w) (t - 15) (by simp) hr (by omega) rfl rfl (by show _ + ((t : Int) - 15).toNat * 1 = _; omega) ?_
    conv => whnf
    refine Ar.i64 (by omega) ?_
    conv => whnf
    refine ⟨by omega, PtrOb.at ?_⟩
    conv => whnf
    refine ldw (A := RowW (some (radr p)) ct2 w) (t - 2) (by simp) hr (by omega) rfl rfl (by show _ + ((t : Int) - 2).toNat * 1 = _; omega) ?_
    conv => whnf
    refine CallOb.pu (turn_c _ (wg w (t - 15)) 7 (by decide)) rfl ?_
    conv => whnf
    refine CallOb.pu (turn_c _ (wg w (t - 15)) 18 (by decide)) rfl ?_
    conv => whnf
    refine ⟨by decide, ?_⟩
    conv => whnf
    refine CallOb.pu (turn_c _ (wg w (t - 2)) 17 (by decide)) rfl ?_
    conv => whnf
    refine CallOb.pu (turn_c _ (wg w (t - 2)) 19 (by decide)) rfl ?_
    conv => whnf
    refine ⟨by decide, ?_⟩
    conv => whnf
    refine Draw.till (by kernel_rfl) tt_ok (Tr.of (List.range 19) .nil) 17 (by kernel_rfl) ?_
    conv => whnf
    refine Ar.i64 (by omega) ?_
    conv => whnf
    refine ⟨by omega, PtrOb.at ?_⟩
    conv => whnf
    refine ldw (A := RowW (some (radr p)) ct2 w) (t - 7) (by simp) hr (by omega) rfl rfl (by show _ + ((t : Int) - 7).toNat * 1 = _; omega) ?_
    conv => whnf
    refine Ar.wadd (x := sg1 (wg w (t - 2))) (.xor (.xor (.base _) (.base _)) (.shr (.base _) 10 (by decide))) (.base _) ?_
    conv => whnf
    refine Ar.wadd (y := sg0 (wg w (t - 15))) (.base _) (.xor (.xor (.base _) (.base _)) (.shr (.base _) 3 (by decide))) ?_
    conv => whnf
    refine Ar.i64 (by omega) ?_
    conv => whnf
    refine ⟨by omega, PtrOb.at ?_⟩
    conv => whnf
    refine ldw (A := RowW (some (radr p)) ct2 w) (t - 16) (by simp) hr (by omega) rfl rfl (by show _ + ((t : Int) - 16).toNat * 1 = _; omega) ?_
    conv => whnf
    refine Ar.wadd (.base _) (.base _) ?_
    conv => whnf
    intro b96
    conv => whnf
    refine Sub.parts [] [0, 0] ⟨rfl, rfl⟩ ?_
    conv => whnf
    refine appw (l := w) (m := [schNext b w]) (.refl _) (by exact Src.w32 _ (by rw [en]) rfl) rfl rfl ⟨rfl, by decide, by decide⟩ (by rw [hsl]; simp; omega) 123 (.inr rfl) ?_
    intro a4 c4 hc4
    conv => whnf
    refine Ar.i64 (by omega) ?_
    conv => whnf
    subst ew
    exact ⟨(t + 1, a4, c4), ⟨by dsimp only; omega, hc4⟩, by dsimp only; omega, Wk.mk' [] [0, 0] (by repeat' (first | exact trivial | rfl | apply And.intro)) (by repeat' (first | exact trivial | rfl | apply And.intro)) ⟨rfl, rfl⟩⟩
  have ht' : t = 64 := by omega
  subst ht'
  conv => whnf
  exact Ret.mk' (at2, ct2) [] [0, 0] hct2 rfl (by repeat' (first | exact trivial | rfl | apply And.intro)) (by repeat' (first | exact trivial | rfl | apply And.intro)) ⟨rfl, rfl⟩
end Go.Proofs.YtiimeklgjoclpaaDoor
