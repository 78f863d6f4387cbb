/- Pieces out of rooms: the program's answer. -/
import Derived.Test.YtiimeklgjoclpaaGc
import Derived.Test.YtiimeklgjoclpaaCc
namespace Go.Proofs.Ytiimeklgjoclpaa
open Go.Sx
set_option maxRecDepth 100000
set_option pp.deepTerms false
set_option pp.maxSteps 300
set_option linter.unusedSimpArgs false
set_option linter.unusedVariables false

theorem rnum_ok (l : List UInt8) (k : Nat) (h : 1 ≤ k ∧ k ≤ 8) (hl : k ≤ l.length) : (⟨0, l⟩ : RS).num k = (⟨0, l.drop k⟩, big (l.take k), 0) := by
  unfold RS.num RS.take
  rw [if_neg (by omega), if_pos rfl, Int.toNat_natCast, if_neg (by dsimp only; omega)]
/-- The number of k bytes at a place. -/
def nb (b : List UInt8) (i k : Nat) : Int := big ((b.drop i).take k)
theorem nb1 (b : List UInt8) (i : Nat) : 0 ≤ nb b i 1 ∧ nb b i 1 < 256 := by
  have := big_lt ((b.drop i).take 1) 1 (by rw [List.length_take]; omega)
  simpa [nb] using this
theorem nb4 (b : List UInt8) (i : Nat) : 0 ≤ nb b i 4 ∧ nb b i 4 ≤ 4294967295 := by
  have := big_lt ((b.drop i).take 4) 4 (by rw [List.length_take]; omega)
  unfold nb; omega
def pcOf (b : List UInt8) : Pc := ⟨nb b 0 1, nb b 1 1, nb b 4 4, nb b 2 1, nb b 3 1, (b.drop 10).take (nb b 8 1).toNat, if nb b 9 1 = 1 then (b.drop (10 + (nb b 8 1).toNat)).take 241 else []⟩
/-- What lies behind. -/
def restOf (b : List UInt8) : List UInt8 := b.drop (10 + (nb b 8 1).toNat + if nb b 9 1 = 1 then 241 else 0)
def decP (b : List UInt8) : Pc × Int := if b.length = 512 ∧ nb b 9 1 ≤ 1 ∧ (restOf b).any (· != 0) = false ∧ (pcOf b).may = true then (pcOf b, 0) else (pc0, 5)
def sel (c : Bool) (v : Int) : Int := match c with | true => v | false => 0
abbrev segJ (b : List UInt8) (j : Nat) : List Seg := [.one (.int .i64 (sel (Nat.blt 0 j) (nb b 0 1))), .one (.int .i64 (sel (Nat.blt 1 j) (nb b 1 1))), .one (.int .u32 0), .one (.int .i64 (sel (Nat.blt 2 j) (nb b 2 1))),
  .one (.int .i64 (sel (Nat.blt 3 j) (nb b 3 1))), .one (.rs none 0 0), .one (.rs none 0 0)]
abbrev own2 (c : Pc) (t : AC × AC) : List HProp := [Own t.1.1 t.1.2 5 1 (u8s c.b), Own t.2.1 t.2.2 5 1 (u8s c.s)]

theorem sdecode_c (A R : HProp) (hE : Ent A R) (x : AC) (b : List UInt8) (hb : Bts R x.1 x.2 b) :
    Con Try.prog 14 [.c (.rs x.1 b.length x.2)] [] [] A (fun t : AC × AC => Fc t.1.1 t.1.2 (decP b).1.b ∧ Fc t.2.1 t.2.2 (decP b).1.s) (fun t => .tup [.agg ((decP b).1.sg t.1 t.2), .c (.int .i64 (decP b).2)]) (fun _ => []) (own2 (decP b).1) := by
  refine Con.of' tt_ok Try.func14 rfl (by decide) [.c (.rs x.1 b.length x.2)] [] [] rfl rfl trivial (by repeat' (first | exact trivial | rfl | exact hk _ | apply And.intro)) rfl ?_
  conv => whnf
  intro b2
  conv => whnf
  have bad : ∀ {B : Names} {H : List Chunk} {F : List HProp}, okH B H → True := fun _ => trivial
  refine Cond.neI (fun hl => ?_) (fun hl => ?_)
  · have e : decP b = (pc0, 5) := if_neg (fun h => hl (by rw [h.1]; rfl))
    rw [e]
    conv => whnf
    refine Ret.own0 5 1 ?_
    refine Ret.own0 5 1 ?_
    exact Ret.mk' ((none, 0), (none, 0)) [] [0, 0, 0] ⟨.nil, .nil⟩ rfl (by repeat' (first | exact trivial | rfl | apply And.intro)) trivial ⟨rfl, rfl⟩
  have hl : b.length = 512 := by omega
  conv => whnf
  refine CallOb.by' [] [] (newReader_c _ _ ((Ent.all (by simp)).trans hE) x.1 x.2 b hb (by omega)) rfl ⟨rfl, rfl, rfl, fun g _ => ⟨rfl, ?_⟩⟩
  conv => whnf
  intro b5
  conv => whnf
  intro b26
  conv => whnf
  have hp : ∀ _ : Nat, okH [(26, b26), (5, b5), (2, b2)] [(26, [.one (.ptr 5 0), .one (.ptr 5 1), .one (.ptr 5 3), .one (.ptr 5 4)], 85), (5, segJ b 0, 31), (2, segJ b 0, 31)] := fun _ => (by repeat' (first | exact trivial | rfl | exact hk _ | apply And.intro))
  refine LoopOb.mk' (σ := Nat) (fun j => [(2, .c (.ptr 2 0)), (4, .c (.rp g 0)), (5, .c (.ptr 5 0)), (26, .c (.slc 26 0 4 4)), (27, .c (.int .i64 4)), (28, .c (.int .i64 j))])
    (fun j => ⟨[(26, b26), (5, b5), (2, b2)], [(26, [.one (.ptr 5 0), .one (.ptr 5 1), .one (.ptr 5 3), .one (.ptr 5 4)], 85), (5, segJ b j, 31), (2, segJ b 0, 31)], [Rr g ⟨0, b.drop j⟩, A]⟩) (fun j => j ≤ 4) (fun j => 4 - j) 0 (Nat.zero_le _)
    (Wk.mk' [26, 5, 2] [0, 0] ⟨⟨rfl, (by repeat' (first | exact trivial | rfl | apply And.intro))⟩, ⟨rfl, (by repeat' (first | exact trivial | rfl | apply And.intro))⟩, ⟨rfl, (by repeat' (first | exact trivial | rfl | apply And.intro))⟩, ⟨rfl, (by repeat' (first | exact trivial | rfl | apply And.intro))⟩, ⟨rfl, trivial⟩, ⟨rfl, trivial⟩, trivial⟩ (hp 0) ⟨rfl, rfl⟩) ?_
  intro j hj
  have hcase : j = 0 ∨ j = 1 ∨ j = 2 ∨ j = 3 ∨ j = 4 := by omega
  rcases hcase with rfl | rfl | rfl | rfl | rfl
  · conv => whnf
    refine Cond.dec (fun h => ?_) (fun h => absurd (by decide) h)
    conv => whnf
    refine ⟨by decide, ?_⟩
    conv => whnf
    have n1 := rnum_ok (b.drop 0) 1 (by omega) (by rw [List.length_drop]; omega)
    have q1 := nb1 b 0
    refine CallOb.by' [] [0] (rnum_c _ g ⟨0, b.drop 0⟩ 1) rfl ⟨rfl, rfl, rfl, fun _ _ => ⟨rfl, ?_⟩⟩
    rw [show ((1 : Int)) = ((1 : Nat) : Int) from rfl, n1, List.drop_drop]
    conv => whnf
    refine Ar.i64 (by show _ ≤ nb b 0 1 ∧ nb b 0 1 ≤ _; omega) ?_
    conv => whnf
    refine Ar.i64 (by decide) ?_
    conv => whnf
    refine ⟨1, by omega, by omega, Wk.mk' [26, 5, 2] [0, 0] ⟨⟨rfl, (by repeat' (first | exact trivial | rfl | apply And.intro))⟩, ⟨rfl, (by repeat' (first | exact trivial | rfl | apply And.intro))⟩, ⟨rfl, (by repeat' (first | exact trivial | rfl | apply And.intro))⟩, ⟨rfl, (by repeat' (first | exact trivial | rfl | apply And.intro))⟩, ⟨rfl, trivial⟩, ⟨rfl, trivial⟩, trivial⟩ (hp 0) ⟨rfl, rfl⟩⟩
  · conv => whnf
    refine Cond.dec (fun h => ?_) (fun h => absurd (by decide) h)
    conv => whnf
    refine ⟨by decide, ?_⟩
    conv => whnf
    have n1 := rnum_ok (b.drop 1) 1 (by omega) (by rw [List.length_drop]; omega)
    have q1 := nb1 b 1
    refine CallOb.by' [] [0] (rnum_c _ g ⟨0, b.drop 1⟩ 1) rfl ⟨rfl, rfl, rfl, fun _ _ => ⟨rfl, ?_⟩⟩
    rw [show ((1 : Int)) = ((1 : Nat) : Int) from rfl, n1, List.drop_drop]
    conv => whnf
    refine Ar.i64 (by show _ ≤ nb b 1 1 ∧ nb b 1 1 ≤ _; omega) ?_
    conv => whnf
    refine Ar.i64 (by decide) ?_
    conv => whnf
    refine ⟨2, by omega, by omega, Wk.mk' [26, 5, 2] [0, 0] ⟨⟨rfl, (by repeat' (first | exact trivial | rfl | apply And.intro))⟩, ⟨rfl, (by repeat' (first | exact trivial | rfl | apply And.intro))⟩, ⟨rfl, (by repeat' (first | exact trivial | rfl | apply And.intro))⟩, ⟨rfl, (by repeat' (first | exact trivial | rfl | apply And.intro))⟩, ⟨rfl, trivial⟩, ⟨rfl, trivial⟩, trivial⟩ (hp 0) ⟨rfl, rfl⟩⟩
  · conv => whnf
    refine Cond.dec (fun h => ?_) (fun h => absurd (by decide) h)
    conv => whnf
    refine ⟨by decide, ?_⟩
    conv => whnf
    have n1 := rnum_ok (b.drop 2) 1 (by omega) (by rw [List.length_drop]; omega)
    have q1 := nb1 b 2
    refine CallOb.by' [] [0] (rnum_c _ g ⟨0, b.drop 2⟩ 1) rfl ⟨rfl, rfl, rfl, fun _ _ => ⟨rfl, ?_⟩⟩
    rw [show ((1 : Int)) = ((1 : Nat) : Int) from rfl, n1, List.drop_drop]
    conv => whnf
    refine Ar.i64 (by show _ ≤ nb b 2 1 ∧ nb b 2 1 ≤ _; omega) ?_
    conv => whnf
    refine Ar.i64 (by decide) ?_
    conv => whnf
    refine ⟨3, by omega, by omega, Wk.mk' [26, 5, 2] [0, 0] ⟨⟨rfl, (by repeat' (first | exact trivial | rfl | apply And.intro))⟩, ⟨rfl, (by repeat' (first | exact trivial | rfl | apply And.intro))⟩, ⟨rfl, (by repeat' (first | exact trivial | rfl | apply And.intro))⟩, ⟨rfl, (by repeat' (first | exact trivial | rfl | apply And.intro))⟩, ⟨rfl, trivial⟩, ⟨rfl, trivial⟩, trivial⟩ (hp 0) ⟨rfl, rfl⟩⟩
  · conv => whnf
    refine Cond.dec (fun h => ?_) (fun h => absurd (by decide) h)
    conv => whnf
    refine ⟨by decide, ?_⟩
    conv => whnf
    have n1 := rnum_ok (b.drop 3) 1 (by omega) (by rw [List.length_drop]; omega)
    have q1 := nb1 b 3
    refine CallOb.by' [] [0] (rnum_c _ g ⟨0, b.drop 3⟩ 1) rfl ⟨rfl, rfl, rfl, fun _ _ => ⟨rfl, ?_⟩⟩
    rw [show ((1 : Int)) = ((1 : Nat) : Int) from rfl, n1, List.drop_drop]
    conv => whnf
    refine Ar.i64 (by show _ ≤ nb b 3 1 ∧ nb b 3 1 ≤ _; omega) ?_
    conv => whnf
    refine Ar.i64 (by decide) ?_
    conv => whnf
    refine ⟨4, by omega, by omega, Wk.mk' [26, 5, 2] [0, 0] ⟨⟨rfl, (by repeat' (first | exact trivial | rfl | apply And.intro))⟩, ⟨rfl, (by repeat' (first | exact trivial | rfl | apply And.intro))⟩, ⟨rfl, (by repeat' (first | exact trivial | rfl | apply And.intro))⟩, ⟨rfl, (by repeat' (first | exact trivial | rfl | apply And.intro))⟩, ⟨rfl, trivial⟩, ⟨rfl, trivial⟩, trivial⟩ (hp 0) ⟨rfl, rfl⟩⟩
  conv => whnf
  refine Cond.dec (fun h => absurd h (by decide)) (fun h => ?_)
  conv => whnf
  have n4 := rnum_ok (b.drop 4) 4 (by omega) (by rw [List.length_drop]; omega)
  have q4 := nb4 b 4
  refine CallOb.by' [] [0] (rnum_c _ g ⟨0, b.drop 4⟩ 4) rfl ⟨rfl, rfl, rfl, fun _ _ => ⟨rfl, ?_⟩⟩
  rw [show ((4 : Int)) = ((4 : Nat) : Int) from rfl, n4, List.drop_drop]
  conv => whnf
  have n8 := rnum_ok (b.drop 8) 1 (by omega) (by rw [List.length_drop]; omega)
  have q8 := nb1 b 8
  refine CallOb.by' [] [0] (rnum_c _ g ⟨0, b.drop 8⟩ 1) rfl ⟨rfl, rfl, rfl, fun _ _ => ⟨rfl, ?_⟩⟩
  rw [show ((1 : Int)) = ((1 : Nat) : Int) from rfl, n8, List.drop_drop]
  conv => whnf
  have n9 := rnum_ok (b.drop 9) 1 (by omega) (by rw [List.length_drop]; omega)
  have q9 := nb1 b 9
  refine CallOb.by' [] [0] (rnum_c _ g ⟨0, b.drop 9⟩ 1) rfl ⟨rfl, rfl, rfl, fun _ _ => ⟨rfl, ?_⟩⟩
  rw [show ((1 : Int)) = ((1 : Nat) : Int) from rfl, n9, List.drop_drop]
  conv => whnf
  refine Ar.u32 (by show 0 ≤ nb b 4 4 ∧ nb b 4 4 ≤ 4294967295; exact q4) ?_
  conv => whnf
  refine Ar.i64 (by show _ ≤ nb b 8 1 ∧ nb b 8 1 ≤ _; omega) ?_
  conv => whnf
  obtain ⟨k, hk⟩ : ∃ k : Nat, nb b 8 1 = k := ⟨(nb b 8 1).toNat, by omega⟩
  have e8 : big (List.take 1 (List.drop 8 b)) = (k : Int) := hk
  have e9 : big (List.take 1 (List.drop 9 b)) = nb b 9 1 := rfl
  have e4 : big (List.take 4 (List.drop 4 b)) = nb b 4 4 := rfl
  dsimp only
  rw [e8]
  have n10 := rbytes_ok (b.drop 10) k (by rw [List.length_drop]; omega)
  refine CallOb.by' [] [0] (rbytes_c _ g ⟨0, b.drop 10⟩ k) rfl ⟨rfl, rfl, rfl, fun x5 hx5 => ⟨rfl, ?_⟩⟩
  rw [n10] at hx5 ⊢
  rw [List.drop_drop]
  have hbk : ((b.drop 10).take k).length = k := by rw [List.length_take, List.length_drop]; omega
  conv => whnf
  have esel : ∀ v, sel true v = v := fun _ => rfl
  have epc : ∀ s, pcOf b = ⟨nb b 0 1, nb b 1 1, nb b 4 4, nb b 2 1, nb b 3 1, (b.drop 10).take k, s⟩ ↔ (if nb b 9 1 = 1 then (b.drop (10 + k)).take 241 else []) = s := by
    intro s
    unfold pcOf
    rw [hk, Int.toNat_natCast, Pc.mk.injEq]
    simp
  refine Cond.eqI (fun h1 => ?_) (fun h1 => ?_)
  · conv => whnf
    have n11 := rbytes_ok (b.drop (10 + k)) 241 (by rw [List.length_drop]; omega)
    refine CallOb.by' [] [0] (rbytes_c _ g ⟨0, b.drop (10 + k)⟩ 241) rfl ⟨rfl, rfl, rfl, fun x6 hx6 => ⟨rfl, ?_⟩⟩
    rw [show (241 : Int) = ((241 : Nat) : Int) from rfl, n11] at hx6 ⊢
    rw [List.drop_drop]
    conv => whnf
    refine Cond.dec (fun h => absurd (show nb b 9 1 > 1 from h) (by have : nb b 9 1 = 1 := h1; omega)) (fun h => ?_)
    have h9 : nb b 9 1 = 1 := h1
    have er : restOf b = b.drop (10 + k + 241) := by unfold restOf; rw [hk, Int.toNat_natCast, if_pos h9]
    have hs : pcOf b = ⟨nb b 0 1, nb b 1 1, nb b 4 4, nb b 2 1, nb b 3 1, (b.drop 10).take k, (b.drop (10 + k)).take 241⟩ := (epc _).2 (if_pos h9)
    have hle : nb b 9 1 ≤ 1 := by omega
    conv => whnf
    refine CallOb.by' [] [0] (rdone_c _ g ⟨0, (b.drop (10 + k + 241))⟩) rfl ⟨rfl, rfl, rfl, fun _ _ => ⟨rfl, ?_⟩⟩
    have edn : (⟨0, (b.drop (10 + k + 241))⟩ : RS).done = !((b.drop (10 + k + 241))).any (· != 0) := by unfold RS.done; rw [decide_eq_true rfl, Bool.true_and]
    rw [edn]
    conv => whnf
    refine Cond.not (Cond.not (Cond.mk (fun hz => ?_) (fun hz => ?_)))
    · have e : decP b = (pc0, 5) := if_neg (fun h => by rw [er, hz] at h; cases h.2.2.1)
      rw [e]
      conv => whnf
      refine Ret.own0 5 1 ?_
      refine Ret.own0 5 1 ?_
      exact Ret.mk' ((none, 0), (none, 0)) [] [0, 0, 3] ⟨.nil, .nil⟩ rfl (by repeat' (first | exact trivial | rfl | apply And.intro)) trivial ⟨rfl, rfl⟩
    conv => whnf
    refine CallOb.pu (smay_c _ ⟨nb b 0 1, nb b 1 1, nb b 4 4, nb b 2 1, nb b 3 1, (b.drop 10).take k, ((b.drop (10 + k)).take 241)⟩ x5 x6) rfl ?_
    conv => whnf
    refine Cond.not (Cond.mk (fun hm => ?_) (fun hm => ?_))
    · have e : decP b = (⟨nb b 0 1, nb b 1 1, nb b 4 4, nb b 2 1, nb b 3 1, (b.drop 10).take k, ((b.drop (10 + k)).take 241)⟩, 0) := by
        unfold decP; rw [hs, er, if_pos ⟨hl, hle, hz, hm⟩]
      rw [e]
      conv => whnf
      skip
      exact Ret.mk' (x5, x6) [] [2, 1, 1] ⟨hx5, hx6⟩ rfl (by repeat' (first | exact trivial | rfl | apply And.intro)) trivial ⟨rfl, rfl⟩
    · have e : decP b = (pc0, 5) := if_neg (fun h => by rw [hs, hm] at h; cases h.2.2.2)
      rw [e]
      conv => whnf
      refine Ret.own0 5 1 ?_
      refine Ret.own0 5 1 ?_
      exact Ret.mk' ((none, 0), (none, 0)) [] [0, 0, 3] ⟨.nil, .nil⟩ rfl (by repeat' (first | exact trivial | rfl | apply And.intro)) trivial ⟨rfl, rfl⟩
  · conv => whnf
    by_cases h2 : nb b 9 1 > 1
    · refine Cond.dec (fun h => ?_) (fun h => absurd (show nb b 9 1 > 1 from h2) h)
      have e : decP b = (pc0, 5) := if_neg (fun h => by have := h.2.1; omega)
      rw [e]
      conv => whnf
      refine Ret.own0 5 1 ?_
      refine Ret.own0 5 1 ?_
      exact Ret.mk' ((none, 0), (none, 0)) [] [0, 0, 2] ⟨.nil, .nil⟩ rfl (by repeat' (first | exact trivial | rfl | apply And.intro)) trivial ⟨rfl, rfl⟩
    refine Cond.dec (fun h => absurd (show nb b 9 1 > 1 from h) h2) (fun h => ?_)
    have h9 : ¬ nb b 9 1 = 1 := h1
    have er : restOf b = b.drop (10 + k) := by unfold restOf; rw [hk, Int.toNat_natCast, if_neg h9]; rfl
    have hs : pcOf b = ⟨nb b 0 1, nb b 1 1, nb b 4 4, nb b 2 1, nb b 3 1, (b.drop 10).take k, []⟩ := (epc _).2 (if_neg h9)
    have hle : nb b 9 1 ≤ 1 := by omega
    conv => whnf
    refine CallOb.by' [] [0] (rdone_c _ g ⟨0, (b.drop (10 + k))⟩) rfl ⟨rfl, rfl, rfl, fun _ _ => ⟨rfl, ?_⟩⟩
    have edn : (⟨0, (b.drop (10 + k))⟩ : RS).done = !((b.drop (10 + k))).any (· != 0) := by unfold RS.done; rw [decide_eq_true rfl, Bool.true_and]
    rw [edn]
    conv => whnf
    refine Cond.not (Cond.not (Cond.mk (fun hz => ?_) (fun hz => ?_)))
    · have e : decP b = (pc0, 5) := if_neg (fun h => by rw [er, hz] at h; cases h.2.2.1)
      rw [e]
      conv => whnf
      refine Ret.own0 5 1 ?_
      refine Ret.own0 5 1 ?_
      exact Ret.mk' ((none, 0), (none, 0)) [] [0, 0, 2] ⟨.nil, .nil⟩ rfl (by repeat' (first | exact trivial | rfl | apply And.intro)) trivial ⟨rfl, rfl⟩
    conv => whnf
    refine CallOb.pu (smay_c _ ⟨nb b 0 1, nb b 1 1, nb b 4 4, nb b 2 1, nb b 3 1, (b.drop 10).take k, []⟩ x5 ((none, 0) : AC)) rfl ?_
    conv => whnf
    refine Cond.not (Cond.mk (fun hm => ?_) (fun hm => ?_))
    · have e : decP b = (⟨nb b 0 1, nb b 1 1, nb b 4 4, nb b 2 1, nb b 3 1, (b.drop 10).take k, []⟩, 0) := by
        unfold decP; rw [hs, er, if_pos ⟨hl, hle, hz, hm⟩]
      rw [e]
      conv => whnf
      refine Ret.own0 5 1 ?_
      exact Ret.mk' (x5, ((none, 0) : AC)) [] [2, 0, 1] ⟨hx5, .nil⟩ rfl (by repeat' (first | exact trivial | rfl | apply And.intro)) trivial ⟨rfl, rfl⟩
    · have e : decP b = (pc0, 5) := if_neg (fun h => by rw [hs, hm] at h; cases h.2.2.2)
      rw [e]
      conv => whnf
      refine Ret.own0 5 1 ?_
      refine Ret.own0 5 1 ?_
      exact Ret.mk' ((none, 0), (none, 0)) [] [0, 0, 2] ⟨.nil, .nil⟩ rfl (by repeat' (first | exact trivial | rfl | apply And.intro)) trivial ⟨rfl, rfl⟩
end Go.Proofs.Ytiimeklgjoclpaa
