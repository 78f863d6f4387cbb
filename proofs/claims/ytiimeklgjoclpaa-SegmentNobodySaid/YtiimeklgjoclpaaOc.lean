/- Bytes that are taken: the program's reader. -/
import Derived.Test.YtiimeklgjoclpaaOb
namespace Go.Proofs.Ytiimeklgjoclpaa
open Go.Sx
set_option maxRecDepth 100000
set_option pp.deepTerms false
set_option pp.maxSteps 300
set_option linter.unusedSimpArgs false
set_option linter.unusedVariables false

theorem big_nil : big [] = 0 := rfl
/-- Where the first byte stands that is so. -/
def idxI (q : UInt8 → Bool) (l : List UInt8) : Int := match l.findIdx? q with | some i => i | none => -1
theorem indexFunc_c (A R : HProp) (hE : Ent A R) (F : Nat) (q : UInt8 → Bool) (hF : ∀ A c, Pu Try.prog F [.c (.int .u8 (c.toNat : Int))] A (.c (.bool (q c)))) (a : Option Addr) (cap : Nat) (l : List UInt8) (hl : Bts R a cap l) (hs : l.length ≤ 1000000) :
    Pu Try.prog 66 [.c (.rs a l.length cap), .c (.raw (.func (.func F) #[] #[]))] A (.c (.int .i64 (idxI q l))) := by
  refine Con.of' tt_ok Try.func66 rfl (by decide) [.c (.rs a l.length cap), .c (.raw (.func (.func F) #[] #[]))] [] [] rfl rfl trivial (by repeat' (first | exact trivial | rfl | apply And.intro)) rfl ?_
  conv => whnf
  refine LoopOb.mk' (σ := Nat) (fun i => [(0, .c (.rs a l.length cap)), (1, .c (.raw (.func (.func F) #[] #[]))), (7, .c (.int .i64 l.length)), (8, .c (.int .i64 i))])
    (fun _ => ⟨[], [], [A]⟩) (fun i => i ≤ l.length ∧ ∀ c ∈ l.take i, q c = false) (fun i => l.length - i) 0 ⟨Nat.zero_le _, by simp⟩ (Wk.mk' [] [0] ⟨⟨rfl, trivial⟩, ⟨rfl, rfl⟩, ⟨rfl, trivial⟩, ⟨rfl, trivial⟩, trivial⟩ (by repeat' (first | exact trivial | rfl | apply And.intro)) ⟨rfl, rfl⟩) ?_
  rintro i ⟨hi, hall⟩
  conv => whnf
  refine Cond.dec (fun h => ?_) (fun h => ?_)
  · have hi' : i < l.length := by omega
    have hr := hl.1.ent hE
    conv => whnf
    refine idx (A := A) i (by simp) hr hi' rfl fun p hp => ?_
    subst hp
    conv => whnf
    refine ldb (A := A) i (by simp) hr hi' rfl rfl (by simp) ?_
    conv => whnf
    rw [gd_eq hi']
    refine CallOb.pu (hF _ l[i]) rfl ?_
    conv => whnf
    refine Cond.mk (fun hq => ?_) (fun hq => ?_)
    · conv => whnf
      have e : idxI q l = i := by
        unfold idxI
        have : l.findIdx? q = some i := by
          rw [List.findIdx?_eq_some_iff_getElem]
          refine ⟨hi', hq, fun j hj => ?_⟩
          have := hall l[j] (List.mem_take_iff_getElem.2 ⟨j, by omega, rfl⟩)
          simp [this]
        rw [this]
      rw [e]
      exact Ret.mk' () [] [0] trivial rfl (by repeat' (first | exact trivial | rfl | apply And.intro)) trivial ⟨rfl, rfl⟩
    · conv => whnf
      refine Ar.i64 (by omega) ?_
      conv => whnf
      refine ⟨i + 1, ⟨hi', fun c hc => ?_⟩, by omega, Wk.mk' [] [0] ⟨⟨rfl, trivial⟩, ⟨rfl, rfl⟩, ⟨rfl, trivial⟩, ⟨rfl, trivial⟩, trivial⟩ (by repeat' (first | exact trivial | rfl | apply And.intro)) ⟨rfl, rfl⟩⟩
      rw [List.take_succ_eq_append_getElem hi'] at hc
      rcases List.mem_append.1 hc with hc | hc
      · exact hall c hc
      · simp at hc; subst hc; exact hq
  · have hi' : i = l.length := by omega
    subst hi'
    rw [List.take_length] at hall
    conv => whnf
    have e : idxI q l = -1 := by
      unfold idxI
      have : l.findIdx? q = none := by rw [List.findIdx?_eq_none_iff]; exact hall
      rw [this]
    rw [e]
    exact Ret.mk' () [] [0] trivial rfl (by repeat' (first | exact trivial | rfl | apply And.intro)) trivial ⟨rfl, rfl⟩
theorem idxI_any (q : UInt8 → Bool) (l : List UInt8) : decide (idxI q l ≥ 0) = l.any q := by
  unfold idxI
  cases h : l.findIdx? q with
  | none => rw [List.findIdx?_eq_none_iff] at h; rw [List.any_eq_false.2 (by simpa using h)]; rfl
  | some i =>
    obtain ⟨hi, hq, _⟩ := List.findIdx?_eq_some_iff_getElem.1 h
    rw [List.any_eq_true.2 ⟨_, List.getElem_mem hi, hq⟩]; simp
theorem containsFunc_c (A R : HProp) (hE : Ent A R) (F : Nat) (q : UInt8 → Bool) (hF : ∀ A c, Pu Try.prog F [.c (.int .u8 (c.toNat : Int))] A (.c (.bool (q c)))) (a : Option Addr) (cap : Nat) (l : List UInt8) (hl : Bts R a cap l) (hs : l.length ≤ 1000000) :
    Pu Try.prog 59 [.c (.rs a l.length cap), .c (.raw (.func (.func F) #[] #[]))] A (.c (.bool (l.any q))) := by
  refine Con.of' tt_ok Try.func59 rfl (by decide) [.c (.rs a l.length cap), .c (.raw (.func (.func F) #[] #[]))] [] [] rfl rfl trivial (by repeat' (first | exact trivial | rfl | apply And.intro)) rfl ?_
  conv => whnf
  refine CallOb.pu (indexFunc_c _ R ((Ent.all (by simp)).trans hE) F q hF a cap l hl hs) rfl ?_
  conv => whnf
  exact Ret.mk' () [] [0] trivial (by rw [← idxI_any]; rfl) (by repeat' (first | exact trivial | rfl | apply And.intro)) trivial ⟨rfl, rfl⟩

/-- A reader: the first error, the bytes that are left. -/
structure RS where
  e : Int
  l : List UInt8
def RS.fail (s : RS) (k : Int) : RS × Int := if s.e = 0 then ({ s with e := k }, k) else (s, s.e)
def RS.take (s : RS) (n : Nat) : RS × List UInt8 × Int := if s.e = 0 then if n > s.l.length then ({ s with e := 4 }, [], 4) else ({ s with l := s.l.drop n }, s.l.take n, 0) else (s, [], s.e)
def RS.num (s : RS) (size : Int) : RS × Int × Int := if size < 1 ∨ size > 8 then ((s.fail 2).1, 0, (s.fail 2).2) else ((s.take size.toNat).1, big (s.take size.toNat).2.1, (s.take size.toNat).2.2)
def RS.bytes (s : RS) (n : Int) : RS × List UInt8 × Int := if n < 0 then ((s.fail 2).1, [], (s.fail 2).2) else s.take n.toNat
def RS.left (s : RS) : Int := if s.e = 0 then s.l.length else 0
def RS.done (s : RS) : Bool := decide (s.e = 0) && !s.l.any (· != 0)

abbrev RX := Option Addr × Nat × HProp
abbrev rc (g : Nat) (m : SC) (s : RS) (a : Option Addr) (cap : Nat) : Cel := (g, [.one m, .one (.int .i64 s.e), .one (.rs a s.l.length cap)], 119)
abbrev rk (s : RS) (x : RX) : Prop := Bts x.2.2 x.1 x.2.1 s.l ∧ s.l.length ≤ 65536
abbrev rq (g : Nat) (m : SC) (s : RS) (x : RX) : List Cel := [rc g m s x.1 x.2.1]
abbrev rr (x : RX) : List HProp := [x.2.2]
/-- A reader that a call made. -/
abbrev Rr (g : Nat) (s : RS) : HProp := Box (rk s) (rq g .tt s) rr

theorem newReader_c (A R : HProp) (hE : Ent A R) (a : Option Addr) (cap : Nat) (l : List UInt8) (hl : Bts R a cap l) (h : l.length ≤ 65536) :
    Con Try.prog 34 [.c (.rs a l.length cap)] [] [] A (fun _ : Nat => True) (fun g => .c (.rp g 0)) (fun _ => []) (fun g => [Rr g ⟨0, l⟩]) := by
  refine Con.of' tt_ok Try.func34 rfl (by decide) [.c (.rs a l.length cap)] [] [] rfl rfl trivial (by repeat' (first | exact trivial | rfl | apply And.intro)) rfl ?_
  conv => whnf
  refine Cond.dec (fun h1 => absurd h1 (by omega)) (fun _ => ?_)
  conv => whnf
  refine CallOb.by' [] [] (clone_c _ R ((Ent.all (by simp)).trans hE) a cap l hl (by omega)) rfl ⟨rfl, rfl, rfl, fun x1 hx1 => ⟨rfl, ?_⟩⟩
  conv => whnf
  intro b
  conv => whnf
  refine Ret.box (k := rk ⟨0, l⟩) (Q := rq b .tt ⟨0, l⟩) (R := rr) [10] [0] (x1.1, x1.2, Own x1.1 x1.2 5 1 (u8s l)) ⟨⟨Own.rd, hx1⟩, h⟩ ⟨⟨rfl, rfl⟩, ?_⟩
  exact Ret.mk' b [] [0, 0] trivial rfl trivial (by repeat' (first | exact trivial | rfl | apply And.intro)) ⟨rfl, rfl⟩
theorem newReader_n (A : HProp) (a : Option Addr) (cap len : Nat) (h : len > 65536) : Pu Try.prog 34 [.c (.rs a len cap)] A (.c (.raw (.pointer none))) := by
  refine Con.of' tt_ok Try.func34 rfl (by decide) [.c (.rs a len cap)] [] [] rfl rfl trivial (by repeat' (first | exact trivial | rfl | apply And.intro)) rfl ?_
  conv => whnf
  refine Cond.dec (fun h1 => ?_) (fun h1 => absurd h1 (by omega))
  conv => whnf
  exact Ret.mk' () [] [0] trivial rfl (by repeat' (first | exact trivial | rfl | apply And.intro)) (by repeat' (first | exact trivial | rfl | apply And.intro)) ⟨rfl, rfl⟩

theorem rgood_c (A : HProp) (g : Nat) (s : RS) (a : Option Addr) (cap : Nat) : Con Try.prog 57 [.c (.rp g 0)] [rc g .tt s a cap] [] A (fun _ : Unit => True) (fun _ => .c .tt) (fun _ => [rc g .tt s a cap]) (fun _ => []) := by
  refine Con.of' tt_ok Try.func57 rfl (by decide) [.c (.ptr 1000 0)] (B1 g) [(1000, (rc 0 .tt s a cap).2)] rfl rfl (by repeat' (first | exact trivial | rfl | apply And.intro)) (by repeat' (first | exact trivial | rfl | apply And.intro)) rfl ?_
  conv => whnf
  exact Ret.mk' () [1000] [0] trivial rfl (by repeat' (first | exact trivial | rfl | apply And.intro)) (by repeat' (first | exact trivial | rfl | apply And.intro)) ⟨rfl, rfl⟩
theorem rgood_u (A : HProp) (g : Nat) (s : RS) (a : Option Addr) (cap : Nat) : Con Try.prog 57 [.c (.rp g 0)] [rc g .ff s a cap] [] A (fun _ : Unit => True) (fun _ => .c .ff) (fun _ => [rc g .ff s a cap]) (fun _ => []) := by
  refine Con.of' tt_ok Try.func57 rfl (by decide) [.c (.ptr 1000 0)] (B1 g) [(1000, (rc 0 .ff s a cap).2)] rfl rfl (by repeat' (first | exact trivial | rfl | apply And.intro)) (by repeat' (first | exact trivial | rfl | apply And.intro)) rfl ?_
  conv => whnf
  exact Ret.mk' () [1000] [0] trivial rfl (by repeat' (first | exact trivial | rfl | apply And.intro)) (by repeat' (first | exact trivial | rfl | apply And.intro)) ⟨rfl, rfl⟩
theorem rgood_n (A : HProp) : Pu Try.prog 57 [.c (.raw (.pointer none))] A (.c .ff) := by
  refine Con.of' tt_ok Try.func57 rfl (by decide) [.c (.raw (.pointer none))] [] [] rfl rfl (by repeat' (first | exact trivial | rfl | apply And.intro)) (by repeat' (first | exact trivial | rfl | apply And.intro)) rfl ?_
  conv => whnf
  exact Ret.mk' () [] [0] trivial rfl (by repeat' (first | exact trivial | rfl | apply And.intro)) (by repeat' (first | exact trivial | rfl | apply And.intro)) ⟨rfl, rfl⟩
theorem rfails_c (A : HProp) (g : Nat) (s : RS) (a : Option Addr) (cap : Nat) (k : Int) : Con Try.prog 55 [.c (.rp g 0), .c (.int .i64 k)] [rc g .tt s a cap] [] A (fun _ : Unit => True) (fun _ => .c (.int .i64 (s.fail k).2)) (fun _ => [rc g .tt (s.fail k).1 a cap]) (fun _ => []) := by
  refine Con.of' tt_ok Try.func55 rfl (by decide) [.c (.ptr 1000 0), .c (.int .i64 k)] (B1 g) [(1000, (rc 0 .tt s a cap).2)] rfl rfl (by repeat' (first | exact trivial | rfl | apply And.intro)) (by repeat' (first | exact trivial | rfl | apply And.intro)) rfl ?_
  conv => whnf
  refine Cond.eqI (fun h => ?_) (fun h => ?_)
  · rw [show s.fail k = ({ s with e := k }, k) from if_pos h]
    conv => whnf
    exact Ret.mk' () [1000] [0] trivial rfl (by repeat' (first | exact trivial | rfl | apply And.intro)) (by repeat' (first | exact trivial | rfl | apply And.intro)) ⟨rfl, rfl⟩
  · rw [show s.fail k = (s, s.e) from if_neg h]
    conv => whnf
    exact Ret.mk' () [1000] [0] trivial rfl (by repeat' (first | exact trivial | rfl | apply And.intro)) (by repeat' (first | exact trivial | rfl | apply And.intro)) ⟨rfl, rfl⟩
theorem rfail_l (s : RS) (k : Int) : (s.fail k).1.l = s.l := by unfold RS.fail; split <;> rfl
theorem rk_fail {s : RS} {x : RX} (h : rk s x) (k : Int) : rk (s.fail k).1 x := by
  unfold rk at *; rw [rfail_l]; exact h

theorem rtake_c (A : HProp) (g : Nat) (s : RS) (x : RX) (hk : rk s x) (n : Nat) :
    Con Try.prog 58 [.c (.rp g 0), .c (.int .i64 n)] (rq g .tt s x) (rr x) A
      (fun t : RX × Option Addr × Nat => rk (s.take n).1 t.1 ∧ (s.take n).2.1.length ≤ t.2.2 ∧ (t.2.1 = none → (s.take n).2.1 = []))
      (fun t => .tup [.c (.rs t.2.1 (s.take n).2.1.length t.2.2), .c (.int .i64 (s.take n).2.2)]) (fun t => rq g .tt (s.take n).1 t.1) (fun t => rr t.1 ++ [Own t.2.1 t.2.2 5 1 (u8s (s.take n).2.1)]) := by
  obtain ⟨a, cap, Z⟩ := x
  obtain ⟨hb, hl⟩ := hk
  dsimp only at hb
  refine Con.of' tt_ok Try.func58 rfl (by decide) [.c (.ptr 1000 0), .c (.int .i64 n)] (B1 g) [(1000, (rc 0 .tt s a cap).2)] rfl rfl (by repeat' (first | exact trivial | rfl | apply And.intro)) (by repeat' (first | exact trivial | rfl | apply And.intro)) rfl ?_
  conv => whnf
  refine Cond.eqI (fun h => ?_) (fun h => ?_)
  · conv => whnf
    refine Cond.dec (fun h2 => ?_) (fun h2 => ?_)
    · have e : s.take n = ((s.fail 4).1, [], (s.fail 4).2) := by unfold RS.take RS.fail; rw [if_pos h, if_pos (by omega), if_pos h]
      conv => whnf
      refine CallOb.by' [1000] [] (rfails_c _ g s a cap 4) rfl ⟨rfl, rfl, rfl, fun x1 hx1 => ⟨rfl, ?_⟩⟩
      rw [e]
      conv => whnf
      refine Ret.own0 5 1 ?_
      exact Ret.mk' ((a, cap, Z), none, 0) [1000] [1, 0, 0] ⟨rk_fail ⟨hb, hl⟩ 4, Nat.le_refl _, fun _ => rfl⟩ rfl (by repeat' (first | exact trivial | rfl | apply And.intro)) (by repeat' (first | exact trivial | rfl | apply And.intro)) ⟨rfl, rfl⟩
    · have e : s.take n = ({ s with l := s.l.drop n }, s.l.take n, 0) := by unfold RS.take; rw [if_pos h, if_neg (by omega)]
      rw [e]
      conv => whnf
      refine Cond.neI (fun h' => absurd h h') (fun _ => ?_)
      have hcap := hb.2.1
      have el : (s.l.take n).length = n := by simp; omega
      conv => whnf
      refine ⟨by omega, ?_⟩
      refine CallOb.by' [] [] (clone_c _ Z (Ent.all (by simp [M.props])) (cutA a cap 0 1) cap (s.l.take n) (hb.sub 0 n (by omega)) (by omega)) (by rw [el]; rfl) ⟨rfl, rfl, rfl, fun x1 hx1 => ⟨rfl, ?_⟩⟩
      conv => whnf
      refine ⟨by omega, ?_⟩
      conv => whnf
      refine Ret.mk' ((cutA a cap n 1, cap - n, Z), x1) [1000] [1, 0, 0] ⟨⟨hb.drop n (by omega), by simp; omega⟩, hx1⟩ rfl (by repeat' (first | exact trivial | rfl | apply And.intro)) (by repeat' (first | exact trivial | rfl | apply And.intro)) ⟨?_, rfl⟩
      simp [Chunk.p, Cel.p, bl, dens, Seg.den, SC.den]
  · have e : s.take n = (s, [], s.e) := by unfold RS.take; rw [if_neg h]
    rw [e]
    conv => whnf
    refine Cond.neI (fun _ => ?_) (fun h' => absurd h' h)
    conv => whnf
    refine Draw.quiet (by kernel_rfl) tt_ok [5, 0, 1, 2, 3, 4, 6] (by kernel_rfl) ?_
    conv => whnf
    refine Ret.own0 5 1 ?_
    exact Ret.mk' ((a, cap, Z), none, 0) [1000] [1, 0, 0] ⟨⟨hb, hl⟩, Nat.le_refl _, fun _ => rfl⟩ rfl (by repeat' (first | exact trivial | rfl | apply And.intro)) (by repeat' (first | exact trivial | rfl | apply And.intro)) ⟨rfl, rfl⟩

theorem rbytes_c (A : HProp) (g : Nat) (s : RS) (n : Int) :
    Con Try.prog 36 [.c (.rp g 0), .c (.int .i64 n)] [] [Rr g s] A (fun t : Option Addr × Nat => (s.bytes n).2.1.length ≤ t.2 ∧ (t.1 = none → (s.bytes n).2.1 = []))
      (fun t => .tup [.c (.rs t.1 (s.bytes n).2.1.length t.2), .c (.int .i64 (s.bytes n).2.2)]) (fun _ => []) (fun t => [Rr g (s.bytes n).1, Own t.1 t.2 5 1 (u8s (s.bytes n).2.1)]) := by
  refine Con.box (Runs.of Try.func36 rfl (by decide)) ?_
  rintro ⟨a, cap, Z⟩ hk
  refine Con.of' tt_ok Try.func36 rfl (by decide) [.c (.ptr 1000 0), .c (.int .i64 n)] (B1 g) [(1000, (rc 0 .tt s a cap).2)] rfl rfl (by repeat' (first | exact trivial | rfl | apply And.intro)) (by repeat' (first | exact trivial | rfl | apply And.intro)) rfl ?_
  conv => whnf
  refine CallOb.by' [1000] [] (rgood_c _ g s a cap) rfl ⟨rfl, rfl, rfl, fun _ _ => ⟨rfl, ?_⟩⟩
  conv => whnf
  refine Cond.dec (fun h => ?_) (fun h => ?_)
  · rw [show s.bytes n = ((s.fail 2).1, [], (s.fail 2).2) from if_pos h]
    conv => whnf
    refine CallOb.by' [1000] [] (rfails_c _ g s a cap 2) rfl ⟨rfl, rfl, rfl, fun x1 hx1 => ⟨rfl, ?_⟩⟩
    conv => whnf
    refine Ret.own0 5 1 ?_
    exact Ret.mk' ((a, cap, Z), none, 0) [1000] [1, 0, 0] ⟨rk_fail hk 2, Nat.le_refl _, fun _ => rfl⟩ rfl (by repeat' (first | exact trivial | rfl | apply And.intro)) (by repeat' (first | exact trivial | rfl | apply And.intro)) ⟨rfl, rfl⟩
  · rw [show s.bytes n = s.take n.toNat from if_neg h]
    obtain ⟨k, rfl⟩ : ∃ k : Nat, n = k := ⟨n.toNat, by omega⟩
    rw [Int.toNat_natCast]
    conv => whnf
    refine CallOb.by' [1000] [0] (rtake_c _ g s (a, cap, Z) hk k) rfl ⟨rfl, rfl, rfl, fun x1 hx1 => ⟨rfl, ?_⟩⟩
    conv => whnf
    exact Ret.mk' x1 [1000] [0, 0, 0] hx1 rfl (by repeat' (first | exact trivial | rfl | apply And.intro)) (by repeat' (first | exact trivial | rfl | apply And.intro)) ⟨rfl, rfl⟩

theorem rnum_c (A : HProp) (g : Nat) (s : RS) (size : Int) :
    Con Try.prog 35 [.c (.rp g 0), .c (.int .i64 size)] [] [Rr g s] A (fun _ : Unit => True)
      (fun _ => .tup [.c (.int .u64 (s.num size).2.1), .c (.int .i64 (s.num size).2.2)]) (fun _ => []) (fun _ => [Rr g (s.num size).1]) := by
  refine Con.box (Runs.of Try.func35 rfl (by decide)) ?_
  rintro ⟨a, cap, Z⟩ hk
  refine Con.of' tt_ok Try.func35 rfl (by decide) [.c (.ptr 1000 0), .c (.int .i64 size)] (B1 g) [(1000, (rc 0 .tt s a cap).2)] rfl rfl (by repeat' (first | exact trivial | rfl | apply And.intro)) (by repeat' (first | exact trivial | rfl | apply And.intro)) rfl ?_
  conv => whnf
  refine CallOb.by' [1000] [] (rgood_c _ g s a cap) rfl ⟨rfl, rfl, rfl, fun _ _ => ⟨rfl, ?_⟩⟩
  have bad : ∀ (h : size < 1 ∨ size > 8), s.num size = ((s.fail 2).1, 0, (s.fail 2).2) := fun h => if_pos h
  conv => whnf
  refine Cond.dec (fun h => ?_) (fun h => ?_)
  · rw [bad (.inl h)]
    conv => whnf
    refine CallOb.by' [1000] [] (rfails_c _ g s a cap 2) rfl ⟨rfl, rfl, rfl, fun x1 hx1 => ⟨rfl, ?_⟩⟩
    conv => whnf
    exact Ret.mk' ((a, cap, Z), ()) [1000] [0, 0] ⟨rk_fail hk 2, trivial⟩ rfl (by repeat' (first | exact trivial | rfl | apply And.intro)) (by repeat' (first | exact trivial | rfl | apply And.intro)) ⟨rfl, rfl⟩
  conv => whnf
  refine Cond.dec (fun h2 => ?_) (fun h2 => ?_)
  · rw [bad (.inr h2)]
    conv => whnf
    refine CallOb.by' [1000] [] (rfails_c _ g s a cap 2) rfl ⟨rfl, rfl, rfl, fun x1 hx1 => ⟨rfl, ?_⟩⟩
    conv => whnf
    exact Ret.mk' ((a, cap, Z), ()) [1000] [0, 0] ⟨rk_fail hk 2, trivial⟩ rfl (by repeat' (first | exact trivial | rfl | apply And.intro)) (by repeat' (first | exact trivial | rfl | apply And.intro)) ⟨rfl, rfl⟩
  rw [show s.num size = ((s.take size.toNat).1, big (s.take size.toNat).2.1, (s.take size.toNat).2.2) from if_neg (by omega)]
  obtain ⟨k, rfl⟩ : ∃ k : Nat, size = k := ⟨size.toNat, by omega⟩
  rw [Int.toNat_natCast]
  conv => whnf
  have hlen : (s.take k).2.1.length ≤ 8 := by unfold RS.take; split <;> (try split) <;> simp <;> omega
  refine CallOb.by' [1000] [0] (rtake_c _ g s (a, cap, Z) hk k) rfl ⟨rfl, rfl, rfl, fun x1 hx1 => ⟨rfl, ?_⟩⟩
  obtain ⟨xr, a2, c2⟩ := x1
  obtain ⟨hx1, hx2⟩ := hx1
  dsimp only at hx1 hx2 ⊢
  generalize s.take k = t at hx1 hx2 hlen ⊢
  obtain ⟨t1, l, te⟩ := t
  dsimp only at hx1 hx2 hlen ⊢
  conv => whnf
  refine LoopOb.mk' (σ := Nat) (fun i => [(7, .c (.int .i64 te)), (8, .c (.int .u64 (big (l.take i)))), (30, .c (.rs a2 l.length c2)), (31, .c (.int .i64 l.length)), (32, .c (.int .i64 i))])
    (fun _ => ⟨B1 g, [(1000, (rc 0 .tt t1 xr.1 xr.2.1).2)], [xr.2.2, Own a2 c2 5 1 (u8s l), A]⟩) (fun i => i ≤ l.length) (fun i => l.length - i) 0 (Nat.zero_le _)
    (Wk.mk' [1000] [0, 0, 0] ⟨⟨rfl, trivial⟩, ⟨rfl, trivial⟩, ⟨rfl, trivial⟩, ⟨rfl, trivial⟩, ⟨rfl, trivial⟩, trivial⟩ (by repeat' (first | exact trivial | rfl | apply And.intro)) ⟨rfl, rfl⟩) ?_
  intro i hi
  conv => whnf
  refine Cond.dec (fun h => ?_) (fun h => ?_)
  · have hi' : i < l.length := by omega
    conv => whnf
    refine idx (A := Own a2 c2 5 1 (u8s l)) i (by simp) Own.rd hi' rfl fun p hp => ?_
    subst hp
    conv => whnf
    refine ldb (A := Own (some (radr p)) c2 5 1 (u8s l)) i (by simp) Own.rd hi' rfl rfl (by simp) ?_
    conv => whnf
    rw [gd_eq hi']
    have hb := big_lt (l.take i) 7 (by simp; omega)
    have hc256 := u8_lt l[i]
    refine ⟨by omega, Ar.to (big (l.take i) * 256) rfl ?_⟩
    refine Ar.u64 (by omega) ?_
    conv => whnf
    refine Ar.u64 (by omega) ?_
    conv => whnf
    refine Ar.i64 (by omega) ?_
    conv => whnf
    refine ⟨i + 1, hi', by omega, Wk.mk' [1000] [0, 0, 0] ⟨⟨rfl, trivial⟩, ⟨?_, trivial⟩, ⟨rfl, trivial⟩, ⟨rfl, trivial⟩, ⟨rfl, trivial⟩, trivial⟩ (by repeat' (first | exact trivial | rfl | apply And.intro)) ⟨rfl, rfl⟩⟩
    show Value.int .u64 (ibits .or .u64 (big (l.take i) * 256) (l[i].toNat : Int)) = Value.int .u64 _
    rw [big_take l i hi', or_byte64 hb.1 (by omega) hc256.1 hc256.2]
  · have hi' : i = l.length := by omega
    subst hi'
    rw [List.take_length]
    conv => whnf
    exact Ret.mk' (xr, ()) [1000] [0, 1] ⟨hx1, trivial⟩ rfl (by repeat' (first | exact trivial | rfl | apply And.intro)) (by repeat' (first | exact trivial | rfl | apply And.intro)) ⟨rfl, rfl⟩

theorem done1_c (A : HProp) (c : UInt8) : Pu Try.prog 60 [.c (.int .u8 (c.toNat : Int))] A (.c (.bool (c != 0))) := by
  refine Con.of' tt_ok Try.func60 rfl (by decide) [.c (.int .u8 (c.toNat : Int))] [] [] rfl rfl (by repeat' (first | exact trivial | rfl | apply And.intro)) (by repeat' (first | exact trivial | rfl | apply And.intro)) rfl ?_
  conv => whnf
  refine Ret.mk' () [] [0] trivial ?_ (by repeat' (first | exact trivial | rfl | apply And.intro)) trivial ⟨rfl, rfl⟩
  have : ((c.toNat : Int) != 0) = (c != 0) := by
    by_cases h : c = 0
    · subst h; rfl
    · have : c.toNat ≠ 0 := fun e => h (UInt8.toNat_inj.1 e)
      rw [bne_iff_ne.2 h, bne_iff_ne.2 (by omega)]
  simp [tupOf, SA.sv, ofValue, SV.den, SC.den, this]
theorem rdone_c (A : HProp) (g : Nat) (s : RS) :
    Con Try.prog 37 [.c (.rp g 0)] [] [Rr g s] A (fun _ : Unit => True) (fun _ => .c (.bool s.done)) (fun _ => []) (fun _ => [Rr g s]) := by
  refine Con.box (Runs.of Try.func37 rfl (by decide)) ?_
  rintro ⟨a, cap, Z⟩ hk
  refine Con.of' tt_ok Try.func37 rfl (by decide) [.c (.ptr 1000 0)] (B1 g) [(1000, (rc 0 .tt s a cap).2)] rfl rfl (by repeat' (first | exact trivial | rfl | apply And.intro)) (by repeat' (first | exact trivial | rfl | apply And.intro)) rfl ?_
  conv => whnf
  refine CallOb.by' [1000] [] (rgood_c _ g s a cap) rfl ⟨rfl, rfl, rfl, fun _ _ => ⟨rfl, ?_⟩⟩
  conv => whnf
  refine Cond.eqI (fun h => ?_) (fun h => ?_)
  · conv => whnf
    refine CallOb.pu (containsFunc_c _ Z (Ent.all (by simp [M.props])) 60 (· != 0) done1_c a cap s.l hk.1 (by have := hk.2; omega)) rfl ?_
    conv => whnf
    exact Ret.mk' ((a, cap, Z), ()) [1000] [0, 0] ⟨hk, trivial⟩ (by simp [tupOf, SA.sv, ofValue, SV.den, SC.den, RS.done, h]) (by repeat' (first | exact trivial | rfl | apply And.intro)) (by repeat' (first | exact trivial | rfl | apply And.intro)) ⟨rfl, rfl⟩
  · conv => whnf
    exact Ret.mk' ((a, cap, Z), ()) [1000] [0, 0] ⟨hk, trivial⟩ (by simp [tupOf, SA.sv, ofValue, SV.den, SC.den, RS.done, h]) (by repeat' (first | exact trivial | rfl | apply And.intro)) (by repeat' (first | exact trivial | rfl | apply And.intro)) ⟨rfl, rfl⟩
end Go.Proofs.Ytiimeklgjoclpaa
