/- Bytes that are laid down: the program's writer. -/
import Derived.Test.YtiimeklgjoclpaaTt
namespace Go.Proofs.Ytiimeklgjoclpaa
open Go.Sx
set_option maxRecDepth 100000
set_option pp.deepTerms false
set_option pp.maxSteps 300
set_option linter.unusedSimpArgs false
set_option linter.unusedVariables false

theorem clone_c (A R : HProp) (hE : Ent A R) (a : Option Addr) (cap : Nat) (l : List UInt8) (hl : Bts R a cap l) (hs : l.length ≤ 1000000) :
    Con Try.prog 42 [.c (.rs a l.length cap)] [] [] A (fun x : Option Addr × Nat => l.length ≤ x.2 ∧ (x.1 = none → l = [])) (fun x => .c (.rs x.1 l.length x.2)) (fun _ => []) (fun x => [Own x.1 x.2 5 1 (u8s l)]) := by
  refine Con.of' tt_ok Try.func42 rfl (by decide) [.c (.rs a l.length cap)] [] [] rfl rfl trivial (by repeat' (first | exact trivial | rfl | apply And.intro)) rfl ?_
  conv => whnf
  refine Cond.mk (fun h => ?_) (fun h => ?_)
  · conv => whnf
    have h0 : l = [] := hl.2.2 (by simpa using h)
    subst h0
    refine Ret.own0 5 1 ?_
    exact Ret.mk' (none, 0) [] [0, 0] ⟨Nat.le_refl _, fun _ => rfl⟩ rfl (by repeat' (first | exact trivial | rfl | apply And.intro)) trivial ⟨rfl, rfl⟩
  · conv => whnf
    intro b
    conv => whnf
    refine With.own (i := 5) (n := 0) (cap := 0) (size := 1) ⟨_, _, rfl, ⟨rfl, Nat.le_refl _⟩, ?_⟩
    refine append_own (a := some ⟨b, 0, none⟩) (n := 0) (cap := 0) (xs := []) (k := l.length) (ys := u8s l) (src := .c (.rs a l.length cap)) (.refl _) rfl (by simp [u8s]) (Src.rs (A := A) (by simp) (hl.1.ent hE)) (u8s_one l) (by simp; omega) (by omega) (by decide) 23 (.inr rfl) ?_
    intro a' cap' hc hn
    conv => whnf
    simp only [Nat.zero_add, List.nil_append] at hc hn ⊢
    exact Ret.mk' (a', cap') [] [0, 0] ⟨hc, fun e => List.eq_nil_of_length_eq_zero (hn e)⟩ rfl (by repeat' (first | exact trivial | rfl | apply And.intro)) trivial ⟨rfl, rfl⟩

/-- A writer: the first error, the bytes, the room. -/
structure WS where
  e : Int
  l : List UInt8
  room : Int
def WS.fail (s : WS) (k : Int) : WS × Int := if s.e = 0 then ({ s with e := k }, k) else (s, s.e)
def WS.lay (s : WS) (b : List UInt8) : WS × Int := if s.e = 0 then if (b.length : Int) > s.room - s.l.length then ({ s with e := 8 }, 8) else ({ s with l := s.l ++ b }, 0) else (s, s.e)
def fitsN (n : Int) (size : Int) : Bool := decide (1 ≤ size) && decide (size ≤ 8) && decide (n < 256 ^ size.toNat)
/-- A number's lowest bytes, the highest one first. -/
def beb (n : Int) : Nat → List UInt8
  | 0 => []
  | k + 1 => by8 (n.fdiv (2 ^ (8 * k))) :: beb n k
theorem beb_len (n : Int) (k : Nat) : (beb n k).length = k := by induction k with
  | zero => rfl
  | succ k ih => simp [beb, ih]
def WS.num (s : WS) (n size : Int) : WS × Int := if fitsN n size then s.lay (beb n size.toNat) else s.fail 2
def WS.fill (s : WS) (to : Int) : WS × Int := if to < s.l.length then s.fail 2 else if to > s.room then s.fail 8 else s.lay (List.replicate (to - s.l.length).toNat 0)
def WS.all (s : WS) : List UInt8 × Int := if s.e = 0 then (s.l, 0) else ([], s.e)

abbrev wc (g : Nat) (m : SC) (s : WS) (a : Option Addr) (cap : Nat) : Cel := (g, [.one m, .one (.int .i64 s.e), .one (.rs a s.l.length cap), .one (.int .i64 s.room)], 114)
abbrev wo (s : WS) (a : Option Addr) (cap : Nat) : HProp := Own a cap 5 1 (u8s s.l)
abbrev wk (s : WS) (x : Option Addr × Nat) : Prop := (s.l.length ≤ x.2 ∧ (x.1 = none → s.l = [])) ∧ (s.l.length : Int) ≤ s.room ∧ s.room ≤ 65536
/-- A writer that a call made. -/
abbrev wq (g : Nat) (m : SC) (s : WS) (x : Option Addr × Nat) : List Cel := [wc g m s x.1 x.2]
abbrev wr (s : WS) (x : Option Addr × Nat) : List HProp := [wo s x.1 x.2]
abbrev Wr (g : Nat) (s : WS) : HProp := Box (wk s) (wq g .tt s) (wr s)

theorem newWriter_c (A : HProp) (room : Int) (h : 0 ≤ room ∧ room ≤ 65536) : Con Try.prog 28 [.c (.int .i64 room)] [] [] A (fun _ : Nat => True) (fun g => .c (.rp g 0)) (fun _ => []) (fun g => [Wr g ⟨0, [], room⟩]) := by
  refine Con.of' tt_ok Try.func28 rfl (by decide) [.c (.int .i64 room)] [] [] rfl rfl trivial (by repeat' (first | exact trivial | rfl | apply And.intro)) rfl ?_
  conv => whnf
  refine Cond.dec (fun h1 => absurd h1 (by omega)) (fun _ => ?_)
  conv => whnf
  refine Cond.dec (fun h1 => absurd h1 (by omega)) (fun _ => ?_)
  conv => whnf
  intro b
  conv => whnf
  refine Ret.own0 5 1 ?_
  conv => whnf
  refine Ret.box (k := wk ⟨0, [], room⟩) (Q := wq b .tt ⟨0, [], room⟩) (R := wr ⟨0, [], room⟩) [12] [0] (none, 0) ⟨⟨Nat.le_refl _, fun _ => rfl⟩, h.1, h.2⟩ ⟨⟨rfl, rfl⟩, ?_⟩
  exact Ret.mk' b [] [0, 0] trivial rfl trivial (by repeat' (first | exact trivial | rfl | apply And.intro)) ⟨rfl, rfl⟩
theorem newWriter_n (A : HProp) (room : Int) (h : room < 0 ∨ room > 65536) : Pu Try.prog 28 [.c (.int .i64 room)] A (.c (.raw (.pointer none))) := by
  refine Con.of' tt_ok Try.func28 rfl (by decide) [.c (.int .i64 room)] [] [] rfl rfl trivial (by repeat' (first | exact trivial | rfl | apply And.intro)) rfl ?_
  conv => whnf
  refine Cond.dec (fun h1 => ?_) (fun _ => ?_)
  · conv => whnf
    exact Ret.mk' () [] [0] trivial rfl (by repeat' (first | exact trivial | rfl | apply And.intro)) (by repeat' (first | exact trivial | rfl | apply And.intro)) ⟨rfl, rfl⟩
  conv => whnf
  refine Cond.dec (fun h1 => ?_) (fun h1 => absurd h (by omega))
  conv => whnf
  exact Ret.mk' () [] [0] trivial rfl (by repeat' (first | exact trivial | rfl | apply And.intro)) (by repeat' (first | exact trivial | rfl | apply And.intro)) ⟨rfl, rfl⟩

theorem fits_c (A : HProp) (n size : Int) (hn : 0 ≤ n ∧ n < 18446744073709551616) : Pu Try.prog 54 [.c (.int .u64 n), .c (.int .i64 size)] A (.c (.bool (fitsN n size))) := by
  refine Con.of' tt_ok Try.func54 rfl (by decide) [.c (.int .u64 n), .c (.int .i64 size)] [] [] rfl rfl trivial (by repeat' (first | exact trivial | rfl | apply And.intro)) rfl ?_
  conv => whnf
  refine Cond.dec (fun h1 => ?_) (fun h1 => ?_)
  · conv => whnf
    refine Cond.dec (fun h2 => ?_) (fun h2 => ?_)
    · conv => whnf
      refine Cond.eqI (fun h3 => ?_) (fun h3 => ?_)
      · conv => whnf
        refine Ret.mk' () [] [0] trivial ?_ (by repeat' (first | exact trivial | rfl | apply And.intro)) (by repeat' (first | exact trivial | rfl | apply And.intro)) ⟨rfl, rfl⟩
        subst h3
        simp [tupOf, SA.sv, ofValue, SV.den, SC.den, fitsN]
        omega
      · conv => whnf
        refine Ar.i64 (by omega) ?_
        conv => whnf
        obtain ⟨k, rfl⟩ : ∃ k : Nat, size = k := ⟨size.toNat, by omega⟩
        have hk : k ≤ 7 := by omega
        refine ⟨by omega, ?_⟩
        have e1 : (256 : Int) ^ k ≤ 256 ^ 7 := by exact_mod_cast (Nat.pow_le_pow_right (by decide) hk : 256 ^ k ≤ 256 ^ 7)
        have e2 : (2 : Int) ^ (min (8 * (k : Int)).toNat IntKind.u64.bits) = 256 ^ k := by
          have : min (8 * (k : Int)).toNat IntKind.u64.bits = 8 * k := by simp [IntKind.bits]; omega
          rw [this, Int.pow_mul]; rfl
        rw [e2]
        refine Ar.u64 (by have : (0 : Int) < 256 ^ k := Int.pow_pos (by decide)
                          omega) ?_
        conv => whnf
        refine Ret.mk' () [] [0] trivial ?_ (by repeat' (first | exact trivial | rfl | apply And.intro)) (by repeat' (first | exact trivial | rfl | apply And.intro)) ⟨rfl, rfl⟩
        simp [tupOf, SA.sv, ofValue, SV.den, SC.den, fitsN]
        omega
    · conv => whnf
      refine Ret.mk' () [] [0] trivial ?_ (by repeat' (first | exact trivial | rfl | apply And.intro)) (by repeat' (first | exact trivial | rfl | apply And.intro)) ⟨rfl, rfl⟩
      simp [tupOf, SA.sv, ofValue, SV.den, SC.den, fitsN]
      omega
  · conv => whnf
    refine Ret.mk' () [] [0] trivial ?_ (by repeat' (first | exact trivial | rfl | apply And.intro)) (by repeat' (first | exact trivial | rfl | apply And.intro)) ⟨rfl, rfl⟩
    simp [tupOf, SA.sv, ofValue, SV.den, SC.den, fitsN]
    omega

abbrev B1 (g : Nat) : Names := [(1000, g)]
theorem wgood_c (A : HProp) (g : Nat) (s : WS) (a : Option Addr) (cap : Nat) : Con Try.prog 53 [.c (.rp g 0)] [wc g .tt s a cap] [] A (fun _ : Unit => True) (fun _ => .c .tt) (fun _ => [wc g .tt s a cap]) (fun _ => []) := by
  refine Con.of' tt_ok Try.func53 rfl (by decide) [.c (.ptr 1000 0)] (B1 g) [(1000, (wc 0 .tt s a cap).2)] rfl rfl (by repeat' (first | exact trivial | rfl | apply And.intro)) (by repeat' (first | exact trivial | rfl | apply And.intro)) rfl ?_
  conv => whnf
  exact Ret.mk' () [1000] [0] trivial rfl (by repeat' (first | exact trivial | rfl | apply And.intro)) (by repeat' (first | exact trivial | rfl | apply And.intro)) ⟨rfl, rfl⟩
theorem wgood_u (A : HProp) (g : Nat) (s : WS) (a : Option Addr) (cap : Nat) : Con Try.prog 53 [.c (.rp g 0)] [wc g .ff s a cap] [] A (fun _ : Unit => True) (fun _ => .c .ff) (fun _ => [wc g .ff s a cap]) (fun _ => []) := by
  refine Con.of' tt_ok Try.func53 rfl (by decide) [.c (.ptr 1000 0)] (B1 g) [(1000, (wc 0 .ff s a cap).2)] rfl rfl (by repeat' (first | exact trivial | rfl | apply And.intro)) (by repeat' (first | exact trivial | rfl | apply And.intro)) rfl ?_
  conv => whnf
  exact Ret.mk' () [1000] [0] trivial rfl (by repeat' (first | exact trivial | rfl | apply And.intro)) (by repeat' (first | exact trivial | rfl | apply And.intro)) ⟨rfl, rfl⟩
theorem wgood_n (A : HProp) : Pu Try.prog 53 [.c (.raw (.pointer none))] A (.c .ff) := by
  refine Con.of' tt_ok Try.func53 rfl (by decide) [.c (.raw (.pointer none))] [] [] rfl rfl (by repeat' (first | exact trivial | rfl | apply And.intro)) (by repeat' (first | exact trivial | rfl | apply And.intro)) rfl ?_
  conv => whnf
  exact Ret.mk' () [] [0] trivial rfl (by repeat' (first | exact trivial | rfl | apply And.intro)) (by repeat' (first | exact trivial | rfl | apply And.intro)) ⟨rfl, rfl⟩
theorem wfails_c (A : HProp) (g : Nat) (s : WS) (a : Option Addr) (cap : Nat) (k : Int) : Con Try.prog 55 [.c (.rp g 0), .c (.int .i64 k)] [wc g .tt s a cap] [] A (fun _ : Unit => True) (fun _ => .c (.int .i64 (s.fail k).2)) (fun _ => [wc g .tt (s.fail k).1 a cap]) (fun _ => []) := by
  refine Con.of' tt_ok Try.func55 rfl (by decide) [.c (.ptr 1000 0), .c (.int .i64 k)] (B1 g) [(1000, (wc 0 .tt s a cap).2)] rfl rfl (by repeat' (first | exact trivial | rfl | apply And.intro)) (by repeat' (first | exact trivial | rfl | apply And.intro)) rfl ?_
  conv => whnf
  refine Cond.eqI (fun h => ?_) (fun h => ?_)
  · rw [show s.fail k = ({ s with e := k }, k) from if_pos h]
    conv => whnf
    exact Ret.mk' () [1000] [0] trivial rfl (by repeat' (first | exact trivial | rfl | apply And.intro)) (by repeat' (first | exact trivial | rfl | apply And.intro)) ⟨rfl, rfl⟩
  · rw [show s.fail k = (s, s.e) from if_neg h]
    conv => whnf
    exact Ret.mk' () [1000] [0] trivial rfl (by repeat' (first | exact trivial | rfl | apply And.intro)) (by repeat' (first | exact trivial | rfl | apply And.intro)) ⟨rfl, rfl⟩

theorem wlay_c (A R : HProp) (hE : Ent A R) (g : Nat) (s : WS) (x : Option Addr × Nat) (hk : wk s x) (ab : Option Addr) (cb : Nat) (b : List UInt8) (hb : Rd R ab (u8s b)) (hbl : b.length ≤ 1000000) :
    Con Try.prog 56 [.c (.rp g 0), .c (.rs ab b.length cb)] (wq g .tt s x) (wr s x) A (fun t : (Option Addr × Nat) × Unit => wk (s.lay b).1 t.1 ∧ True) (fun _ => .c (.int .i64 (s.lay b).2)) (fun t => wq g .tt (s.lay b).1 t.1) (fun t => wr (s.lay b).1 t.1 ++ []) := by
  obtain ⟨a, cap⟩ := x
  obtain ⟨⟨k1, k2⟩, k3, k4⟩ := hk
  dsimp only at k1 k2
  refine Con.of' tt_ok Try.func56 rfl (by decide) [.c (.ptr 1000 0), .c (.rs ab b.length cb)] (B1 g) [(1000, (wc 0 .tt s a cap).2)] rfl rfl (by repeat' (first | exact trivial | rfl | apply And.intro)) (by repeat' (first | exact trivial | rfl | apply And.intro)) rfl ?_
  conv => whnf
  refine Draw.quiet (by kernel_rfl) tt_ok (List.range 21) (by kernel_rfl) ?_
  conv => whnf
  refine Cond.eqI (fun h => ?_) (fun h => ?_)
  · conv => whnf
    refine Ar.i64 (by omega) ?_
    conv => whnf
    refine Cond.dec (fun h2 => ?_) (fun h2 => ?_)
    · have e : s.fail 8 = s.lay b := by unfold WS.fail WS.lay; rw [if_pos h, if_pos h, if_pos h2]
      conv => whnf
      refine CallOb.by' [1000] [] (wfails_c _ g s a cap 8) rfl ⟨rfl, rfl, rfl, fun x1 hx1 => ⟨rfl, ?_⟩⟩
      rw [e]
      conv => whnf
      have el : (s.lay b).1 = { s with e := 8 } := by unfold WS.lay; rw [if_pos h, if_pos h2]
      refine Ret.mk' ((a, cap), ()) [1000] [0, 0] ⟨?_, trivial⟩ rfl (by repeat' (first | exact trivial | rfl | apply And.intro)) (by repeat' (first | exact trivial | rfl | apply And.intro)) ⟨rfl, ?_⟩
      · rw [el]; exact ⟨⟨k1, k2⟩, k3, k4⟩
      · rw [el]; rfl
    · have e : s.lay b = ({ s with l := s.l ++ b }, 0) := by unfold WS.lay; rw [if_pos h, if_neg h2]
      rw [e]
      conv => whnf
      refine Cond.eqI (fun _ => ?_) (fun h' => absurd h h')
      conv => whnf
      refine append_bytes (a := a) (n := s.l.length) (cap := cap) (l := s.l) (k := b.length) (m := b) (src := .c (.rs ab b.length cb)) (.refl _) rfl rfl (Src.rs (A := A) (by simp) (hb.ent hE)) ⟨rfl, rfl⟩ (by omega) 23 (.inr rfl) ?_
      intro a' c' hc hn
      conv => whnf
      have el : (s.l ++ b).length = s.l.length + b.length := List.length_append
      refine Ret.mk' ((a', c'), ()) [1000] [0, 0] ⟨⟨⟨by dsimp only; omega, fun hz => List.eq_nil_of_length_eq_zero (by dsimp only; rw [el]; exact hn hz)⟩, by dsimp only; omega, k4⟩, trivial⟩ ?_ (by repeat' (first | exact trivial | rfl | apply And.intro)) (by repeat' (first | exact trivial | rfl | apply And.intro)) ⟨?_, rfl⟩
      · show Value.int .i64 s.e = Value.int .i64 0
        rw [h]
      · simp [Chunk.p, Cel.p, bl, dens, Seg.den, SC.den]
  · have e : s.lay b = (s, s.e) := by unfold WS.lay; rw [if_neg h]
    rw [e]
    conv => whnf
    refine Cond.eqI (fun h' => absurd h' h) (fun _ => ?_)
    conv => whnf
    exact Ret.mk' ((a, cap), ()) [1000] [0, 0] ⟨⟨⟨k1, k2⟩, k3, k4⟩, trivial⟩ rfl (by repeat' (first | exact trivial | rfl | apply And.intro)) (by repeat' (first | exact trivial | rfl | apply And.intro)) ⟨rfl, rfl⟩
end Go.Proofs.Ytiimeklgjoclpaa
