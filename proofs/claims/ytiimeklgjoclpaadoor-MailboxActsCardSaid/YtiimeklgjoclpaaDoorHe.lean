/- A tag's first half; whether bytes are alike. -/
import Derived.Test.YtiimeklgjoclpaaDoorHd
namespace Go.Proofs.YtiimeklgjoclpaaDoor
open Go.Sx
set_option maxRecDepth 100000
set_option pp.deepTerms false
set_option pp.maxSteps 300
set_option linter.unusedSimpArgs false
set_option linter.unusedVariables false

theorem short_c (A : HProp) (k : List UInt8) (hk : k.length = 32) : Pu Tryd.prog 35 [.agg [.many 32 (u8s k)]] A (.agg [.many 16 (u8s (k.take 16))]) := by
  have hk32 := many_ok hk
  refine Con.of' tt_ok Tryd.func35 rfl (by decide) [.agg [.many 32 (u8s k)]] [] [] rfl rfl trivial ⟨⟨hk32 _, trivial⟩, trivial⟩ rfl ?_
  conv => whnf
  intro b1
  conv => whnf
  intro b2
  conv => whnf
  refine ⟨by decide, ?_⟩
  conv => whnf
  refine ⟨by decide, ?_⟩
  conv => whnf
  refine Ret.mk' () [] [0] trivial ?_ ⟨many_ok (by rw [List.length_take]; omega) _, trivial⟩ (by repeat' (first | exact trivial | rfl | apply And.intro)) ⟨rfl, rfl⟩
  rw [u8s_take]; rfl
/-- Whether all bytes are alike, told by one number. -/
def eqD (a b : List UInt8) : Nat → UInt8
  | 0 => 0
  | i + 1 => eqD a b i ||| (UInt8.ofNat (gd a i) ^^^ UInt8.ofNat (gd b i))
theorem orb (a b : UInt8) : ibits .or .u8 (a.toNat : Int) (b.toNat : Int) = ((a ||| b).toNat : Int) := by
  have e : ∀ x : UInt8, BitVec.ofInt 8 (x.toNat : Int) = x.toBitVec := fun x => by
    rw [BitVec.ofInt_natCast]; exact BitVec.ofNat_toNat _ _ |>.trans (by simp)
  show IntKind.u8.wrap (((BitVec.ofInt 8 (a.toNat : Int)) ||| (BitVec.ofInt 8 (b.toNat : Int))).toNat : Int) = _
  rw [e, e]
  have : (a.toBitVec ||| b.toBitVec).toNat = (a ||| b).toNat := rfl
  rw [this]
  have := (a ||| b).toNat_lt
  exact IntWalk.u8_in _ (by omega)
theorem or_zero8 (a b : UInt8) : a ||| b = 0 ↔ a = 0 ∧ b = 0 := by
  constructor
  · intro h
    have h' : a.toNat ||| b.toNat = 0 := by rw [← UInt8.toNat_or, h]; rfl
    have : ∀ x y : Nat, x ||| y = 0 → x = 0 := fun x y h => Nat.eq_of_testBit_eq fun i => by
      have := congrArg (Nat.testBit · i) h
      simp at this
      simp [this.1]
    exact ⟨UInt8.toNat_inj.1 (this _ _ h'), UInt8.toNat_inj.1 (this _ _ (by rw [Nat.or_comm]; exact h'))⟩
  · rintro ⟨rfl, rfl⟩; rfl
theorem xor_zero8 (a b : UInt8) : a ^^^ b = 0 ↔ a = b := by
  constructor
  · intro h
    have : a ^^^ b ^^^ b = 0 ^^^ b := by rw [h]
    rwa [UInt8.xor_assoc, UInt8.xor_self, UInt8.xor_zero, UInt8.zero_xor] at this
  · rintro rfl; exact UInt8.xor_self
theorem eqD_zero (a b : List UInt8) (ha : a.length = b.length) : ∀ i, i ≤ a.length → (eqD a b i = 0 ↔ a.take i = b.take i)
  | 0, _ => by simp [eqD]
  | i + 1, h => by
    have ih := eqD_zero a b ha i (by omega)
    show eqD a b i ||| _ = 0 ↔ _
    rw [or_zero8, ih, xor_zero8, List.take_succ_eq_append_getElem (by omega), List.take_succ_eq_append_getElem (by omega), gd_eq (by omega), gd_eq (by omega)]
    simp only [UInt8.ofNat_toNat]
    constructor
    · rintro ⟨h1, h2⟩; rw [h1, h2]
    · intro h3
      have := List.append_inj h3 (by simp; omega)
      exact ⟨this.1, by simpa using this.2⟩
theorem equal_c (A R R' : HProp) (hE : Ent A R) (hE' : Ent A R') (a : Option Addr) (cap : Nat) (l : List UInt8) (hb : Bts R a cap l) (a' : Option Addr) (cap' : Nat) (m : List UInt8) (hb' : Bts R' a' cap' m) (hl : l.length ≤ 1000000000) :
    Pu Tryd.prog 28 [.c (.rs a l.length cap), .c (.rs a' m.length cap')] A (.c (.bool (decide (l = m)))) := by
  refine Con.of' tt_ok Tryd.func28 rfl (by decide) [.c (.rs a l.length cap), .c (.rs a' m.length cap')] [] [] rfl rfl trivial (by repeat' (first | exact trivial | rfl | apply And.intro)) rfl ?_
  conv => whnf
  refine Cond.neI (fun h => ?_) (fun h => ?_)
  · conv => whnf
    refine Ret.mk' () [] [0] trivial ?_ (by repeat' (first | exact trivial | rfl | apply And.intro)) (by repeat' (first | exact trivial | rfl | apply And.intro)) ⟨rfl, rfl⟩
    rw [decide_eq_false (fun e => h (by rw [e]))]; rfl
  have h : l.length = m.length := by omega
  have hr := hb.1.ent hE
  have hr' := hb'.1.ent hE'
  conv => whnf
  refine LoopOb.mk' (σ := Nat) (fun i => [(0, .c (.rs a l.length cap)), (1, .c (.rs a' m.length cap')), (5, .c (.int .u8 ((eqD l m i).toNat : Int))), (13, .c (.int .i64 l.length)), (14, .c (.int .i64 i))])
    (fun i => ⟨[], [], [A]⟩) (fun i => i ≤ l.length) (fun i => l.length - i) 0 (Nat.zero_le _)
    (Wk.mk' [] [0] (by repeat' (first | exact trivial | rfl | apply And.intro)) trivial ⟨rfl, rfl⟩) ?_
  intro i hi
  conv => whnf
  refine Cond.dec (fun h1 => ?_) (fun h1 => ?_)
  · conv => whnf
    refine Draw.quiet (by kernel_rfl) tt_ok (List.range 12) (by kernel_rfl) ?_
    conv => whnf
    refine idx (A := A) i (by simp) hr (by omega) rfl fun p hp => ?_
    subst hp
    conv => whnf
    refine ldb (A := A) i (by simp) hr (by omega) rfl rfl (by show _ + (i : Int).toNat * 1 = _ + i; omega) ?_
    conv => whnf
    refine idx (A := A) i (by simp) hr' (by omega) rfl fun p' hp' => ?_
    subst hp'
    conv => whnf
    refine ldb (A := A) i (by simp) hr' (by omega) rfl rfl (by show _ + (i : Int).toNat * 1 = _ + i; omega) ?_
    conv => whnf
    refine Ar.i64 (by omega) ?_
    conv => whnf
    refine ⟨i + 1, by omega, by omega, Wk.mk' [] [0] ⟨⟨rfl, trivial⟩, ⟨rfl, trivial⟩, ⟨?_, trivial⟩, ⟨rfl, trivial⟩, ⟨rfl, trivial⟩, trivial⟩ trivial ⟨rfl, rfl⟩⟩
    show Value.int .u8 (ibits .or .u8 _ (ibits .xor .u8 (gd l i : Int) (gd m i : Int))) = Value.int .u8 _
    rw [gd8, gd8 m, xorb, orb]; rfl
  have hi' : i = l.length := by omega
  subst hi'
  conv => whnf
  refine Ret.mk' () [] [0] trivial ?_ (by repeat' (first | exact trivial | rfl | apply And.intro)) (by repeat' (first | exact trivial | rfl | apply And.intro)) ⟨rfl, rfl⟩
  show Value.bool (((eqD l m l.length).toNat : Int) == 0) = Value.bool _
  have hz := eqD_zero l m h l.length (Nat.le_refl _)
  rw [List.take_length, List.take_of_length_le (by omega)] at hz
  congr 1
  by_cases e : l = m
  · rw [decide_eq_true e, hz.2 e]; rfl
  · rw [decide_eq_false e]
    have h0 : eqD l m l.length ≠ 0 := fun h => e (hz.1 h)
    have : (eqD l m l.length).toNat ≠ 0 := fun h => h0 (UInt8.toNat_inj.1 h)
    simp; omega
end Go.Proofs.YtiimeklgjoclpaaDoor
