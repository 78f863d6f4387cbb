/- Pieces: the program's room of one. -/
import Derived.Test.YtiimeklgjoclpaaGa
import Derived.Test.YtiimeklgjoclpaaCb
namespace Go.Proofs.Ytiimeklgjoclpaa
open Go.Sx
set_option maxRecDepth 100000
set_option pp.deepTerms false
set_option pp.maxSteps 300
set_option linter.unusedSimpArgs false
set_option linter.unusedVariables false

def Pc.ks (c : Pc) : List Int := [c.k, c.u, c.i, c.t]
def bebs (l : List Int) : List UInt8 := l.flatMap (beb · 1)
def Pc.body (c : Pc) : List UInt8 := bebs c.ks ++ beb c.n 4 ++ beb c.b.length 1 ++ beb (min (c.s.length : Int) 1) 1 ++ c.b ++ c.s
def Pc.room (c : Pc) : List UInt8 := c.body ++ List.replicate (512 - c.body.length) 0
/-- Numbers as Go's kinds take them. -/
structure Pc.wf (c : Pc) : Prop where
  k : -9223372036854775808 ≤ c.k ∧ c.k ≤ 9223372036854775807
  u : -9223372036854775808 ≤ c.u ∧ c.u ≤ 9223372036854775807
  n : 0 ≤ c.n ∧ c.n ≤ 4294967295
  i : -9223372036854775808 ≤ c.i ∧ c.i ≤ 9223372036854775807
  t : -9223372036854775808 ≤ c.t ∧ c.t ≤ 9223372036854775807
theorem Pc.may_le {c : Pc} (h : c.may = true) : (1 ≤ c.k ∧ c.k ≤ 3) ∧ (0 ≤ c.u ∧ c.u < 8) ∧ (0 ≤ c.i ∧ c.i ≤ 8) ∧ (0 ≤ c.t ∧ c.t ≤ 8) ∧ c.b.length ≤ 240 ∧ (c.s.length = 0 ∨ c.s.length = 241) := by
  unfold Pc.may Pc.user Pc.placed Pc.bare at h
  repeat' split at h
  all_goals simp [-List.length_eq_zero_iff] at h
  all_goals omega
theorem bebs_len (l : List Int) : (bebs l).length = l.length := by
  induction l with
  | nil => rfl
  | cons x r ih => simp only [bebs, List.flatMap_cons, List.length_append, beb_len, List.length_cons] at *; omega
theorem Pc.body_len (c : Pc) : c.body.length = 10 + c.b.length + c.s.length := by
  simp only [Pc.body, List.length_append, bebs_len, beb_len, Pc.ks, List.length_cons, List.length_nil]
theorem Pc.room_len {c : Pc} (h : c.may = true) : c.room.length = 512 := by
  have := Pc.may_le h
  have := c.body_len
  simp only [Pc.room, List.length_append, List.length_replicate]; omega
def Pc.enc (c : Pc) : List UInt8 × Int := if c.may then (c.room, 0) else ([], 2)
theorem fits4 {n : Int} (h : 0 ≤ n ∧ n ≤ 4294967295) : fitsN n (4 : Nat) = true := by simp [fitsN]; omega
theorem bebs_take (l : List Int) (j : Nat) (h : j < l.length) : bebs (l.take (j + 1)) = bebs (l.take j) ++ beb l[j] 1 := by
  rw [List.take_succ_eq_append_getElem h]; simp only [bebs, List.flatMap_append, List.flatMap_cons, List.flatMap_nil, List.append_nil]

theorem sencode_c (A R R' : HProp) (hE : Ent A R) (hE' : Ent A R') (c : Pc) (x y : AC) (hw : c.wf) (hb : Bts R x.1 x.2 c.b) (hs : Bts R' y.1 y.2 c.s) :
    Con Try.prog 11 [.agg (c.sg x y)] [] [] A (fun t : AC => Fc t.1 t.2 c.enc.1) (fun t => .tup [.c (.rs t.1 c.enc.1.length t.2), .c (.int .i64 c.enc.2)]) (fun _ => []) (fun t => [Own t.1 t.2 5 1 (u8s c.enc.1)]) := by
  refine Con.of' tt_ok Try.func11 rfl (by decide) [.agg (c.sg x y)] [] [] rfl rfl trivial (by repeat' (first | exact trivial | rfl | exact hk _ | apply And.intro)) rfl ?_
  conv => whnf
  intro b1
  conv => whnf
  refine CallOb.pu (smay_c _ c x y) rfl ?_
  conv => whnf
  refine Cond.not (Cond.mk (fun hm => ?_) (fun hm => ?_))
  case refine_2 =>
    have e : c.enc = ([], 2) := by unfold Pc.enc; rw [hm]; rfl
    rw [e]
    conv => whnf
    refine Ret.own0 5 1 ?_
    exact Ret.mk' (none, 0) [] [0, 0] .nil rfl (by repeat' (first | exact trivial | rfl | apply And.intro)) trivial ⟨rfl, rfl⟩
  have e : c.enc = (c.room, 0) := by unfold Pc.enc; rw [hm]; rfl
  have hle := Pc.may_le hm
  have hn := hw.n
  have hrl := Pc.room_len hm
  rw [e]
  conv => whnf
  refine CallOb.by' [] [] (newWriter_c _ 512 (by decide)) rfl ⟨rfl, rfl, rfl, fun g _ => ⟨rfl, ?_⟩⟩
  conv => whnf
  intro b2
  conv => whnf
  have hks : ∀ j (h : j < c.ks.length), 0 ≤ c.ks[j] ∧ c.ks[j] < 256 := by
    intro j h
    match j, h with
    | 0, _ => show 0 ≤ c.k ∧ c.k < 256; omega
    | 1, _ => show 0 ≤ c.u ∧ c.u < 256; omega
    | 2, _ => show 0 ≤ c.i ∧ c.i < 256; omega
    | 3, _ => show 0 ≤ c.t ∧ c.t < 256; omega
    | j + 4, h => exact absurd h (by simp [Pc.ks])
  have hkl : (c.ks.map (Value.int .i64)).length = 4 := rfl
  have hok : ∀ _ : Nat, okH [(19, b2), (1, b1)] [(19, [.many 4 (c.ks.map (Value.int .i64))], 3), (1, c.sg x y, 31)] := fun _ => by
    refine ⟨⟨trivial, ⟨rfl, fun v hv => ?_⟩, trivial⟩, ⟨trivial, (by repeat' (first | exact trivial | rfl | exact hk _ | apply And.intro))⟩, trivial⟩
    obtain ⟨z, _, rfl⟩ := List.mem_map.1 hv; rfl
  refine LoopOb.mk' (σ := Nat) (fun j => [(1, .c (.ptr 1 0)), (4, .c (.rp g 0)), (19, .c (.slc 19 0 4 4)), (20, .c (.int .i64 4)), (21, .c (.int .i64 j))])
    (fun j => ⟨[(19, b2), (1, b1)], [(19, [.many 4 (c.ks.map (Value.int .i64))], 3), (1, c.sg x y, 31)], [Wr g ⟨0, bebs (c.ks.take j), 512⟩, A]⟩) (fun j => j ≤ 4) (fun j => 4 - j) 0 (Nat.zero_le _)
    (Wk.mk' [19, 1] [0, 0] ⟨⟨rfl, (by repeat' (first | exact trivial | rfl | apply And.intro))⟩, ⟨rfl, (by repeat' (first | exact trivial | rfl | apply And.intro))⟩, ⟨rfl, (by repeat' (first | exact trivial | rfl | apply And.intro))⟩, ⟨rfl, trivial⟩, ⟨rfl, trivial⟩, trivial⟩ (hok 0) ⟨rfl, rfl⟩) ?_
  intro j hj
  conv => whnf
  refine Cond.dec (fun h => ?_) (fun h => ?_)
  · have hj' : j < c.ks.length := by show j < 4; omega
    have hkj := hks j hj'
    conv => whnf
    refine ⟨by omega, ?_⟩
    conv => whnf
    refine ⟨⟨.int .i64 c.ks[j], ?_, trivial, ?_⟩⟩
    · show (c.ks.map (Value.int .i64))[(j : Int).toNat * 1]? = _
      simp [List.getElem?_eq_getElem hj']; rfl
    conv => whnf
    refine Ar.u64 (by omega) ?_
    conv => whnf
    refine CallOb.by' [] [0] (wnum_c _ g ⟨0, bebs (c.ks.take j), 512⟩ c.ks[j] 1 (by omega)) rfl ⟨rfl, rfl, rfl, fun _ _ => ⟨rfl, ?_⟩⟩
    have e1 : (⟨0, bebs (c.ks.take j), 512⟩ : WS).num c.ks[j] 1 = (⟨0, bebs (c.ks.take (j + 1)), 512⟩, 0) := by
      have h1 := num_ok (s := ⟨0, bebs (c.ks.take j), 512⟩) (k := 1) (n := c.ks[j]) rfl (fits1 hkj) (by dsimp only; rw [bebs_len, List.length_take]; omega)
      rw [bebs_take _ _ hj']; exact h1
    rw [e1]
    conv => whnf
    refine Ar.i64 (by omega) ?_
    conv => whnf
    refine ⟨j + 1, by omega, by omega, Wk.mk' [19, 1] [0, 0] ⟨⟨rfl, (by repeat' (first | exact trivial | rfl | apply And.intro))⟩, ⟨rfl, (by repeat' (first | exact trivial | rfl | apply And.intro))⟩, ⟨rfl, (by repeat' (first | exact trivial | rfl | apply And.intro))⟩, ⟨rfl, trivial⟩, ⟨rfl, trivial⟩, trivial⟩ (hok 0) ⟨rfl, rfl⟩⟩
  have hj4 : j = 4 := by omega
  subst hj4
  have l4 : (bebs (c.ks.take 4)).length = 4 := by rw [bebs_len]; rfl
  conv => whnf
  refine Ar.u64 (by omega) ?_
  conv => whnf
  refine CallOb.by' [] [0] (wnum_c _ g ⟨0, bebs (c.ks.take 4), 512⟩ c.n 4 (by omega)) rfl ⟨rfl, rfl, rfl, fun _ _ => ⟨rfl, ?_⟩⟩
  have e2 : (⟨0, bebs (c.ks.take 4), 512⟩ : WS).num c.n 4 = (⟨0, bebs c.ks ++ beb c.n 4, 512⟩, 0) := num_ok (s := ⟨0, bebs (c.ks.take 4), 512⟩) (k := 4) rfl (fits4 hw.n) (by dsimp only; omega)
  rw [e2]
  conv => whnf
  refine Ar.u64 (by omega) ?_
  conv => whnf
  refine CallOb.by' [] [0] (wnum_c _ g ⟨0, bebs c.ks ++ beb c.n 4, 512⟩ c.b.length 1 (by omega)) rfl ⟨rfl, rfl, rfl, fun _ _ => ⟨rfl, ?_⟩⟩
  have e3 : (⟨0, bebs c.ks ++ beb c.n 4, 512⟩ : WS).num c.b.length 1 = (⟨0, bebs c.ks ++ beb c.n 4 ++ beb c.b.length 1, 512⟩, 0) := num_ok (s := ⟨0, bebs c.ks ++ beb c.n 4, 512⟩) (k := 1) rfl (fits1 (by omega)) (by simp only [List.length_append, beb_len, bebs_len, Pc.ks, List.length_cons, List.length_nil]; decide)
  rw [e3]
  conv => whnf
  refine Ar.u64 (by omega) ?_
  conv => whnf
  refine CallOb.by' [] [0] (wnum_c _ g ⟨0, bebs c.ks ++ beb c.n 4 ++ beb c.b.length 1, 512⟩ (min (c.s.length : Int) 1) 1 (by omega)) rfl ⟨rfl, rfl, rfl, fun _ _ => ⟨rfl, ?_⟩⟩
  have e4 : (⟨0, bebs c.ks ++ beb c.n 4 ++ beb c.b.length 1, 512⟩ : WS).num (min (c.s.length : Int) 1) 1 = (⟨0, bebs c.ks ++ beb c.n 4 ++ beb c.b.length 1 ++ beb (min (c.s.length : Int) 1) 1, 512⟩, 0) := num_ok (s := ⟨0, bebs c.ks ++ beb c.n 4 ++ beb c.b.length 1, 512⟩) (k := 1) rfl (fits1 (by omega)) (by simp only [List.length_append, beb_len, bebs_len, Pc.ks, List.length_cons, List.length_nil]; decide)
  rw [e4]
  conv => whnf
  refine CallOb.by' [] [0] (wbytes_c _ _ ((Ent.all (by simp)).trans hE) g ⟨0, bebs c.ks ++ beb c.n 4 ++ beb c.b.length 1 ++ beb (min (c.s.length : Int) 1) 1, 512⟩ x.1 x.2 c.b hb.1 (by omega)) rfl ⟨rfl, rfl, rfl, fun _ _ => ⟨rfl, ?_⟩⟩
  have e5 : (⟨0, bebs c.ks ++ beb c.n 4 ++ beb c.b.length 1 ++ beb (min (c.s.length : Int) 1) 1, 512⟩ : WS).lay c.b = (⟨0, bebs c.ks ++ beb c.n 4 ++ beb c.b.length 1 ++ beb (min (c.s.length : Int) 1) 1 ++ c.b, 512⟩, 0) :=
    lay_ok (s := ⟨0, bebs c.ks ++ beb c.n 4 ++ beb c.b.length 1 ++ beb (min (c.s.length : Int) 1) 1, 512⟩) rfl (by simp only [List.length_append, beb_len, bebs_len, Pc.ks, List.length_cons, List.length_nil]; omega)
  rw [e5]
  conv => whnf
  refine CallOb.by' [] [0] (wbytes_c _ _ ((Ent.all (by simp)).trans hE') g ⟨0, bebs c.ks ++ beb c.n 4 ++ beb c.b.length 1 ++ beb (min (c.s.length : Int) 1) 1 ++ c.b, 512⟩ y.1 y.2 c.s hs.1 (by omega)) rfl ⟨rfl, rfl, rfl, fun _ _ => ⟨rfl, ?_⟩⟩
  have e6 : (⟨0, bebs c.ks ++ beb c.n 4 ++ beb c.b.length 1 ++ beb (min (c.s.length : Int) 1) 1 ++ c.b, 512⟩ : WS).lay c.s = (⟨0, c.body, 512⟩, 0) :=
    lay_ok (s := ⟨0, bebs c.ks ++ beb c.n 4 ++ beb c.b.length 1 ++ beb (min (c.s.length : Int) 1) 1 ++ c.b, 512⟩) rfl (by simp only [List.length_append, beb_len, bebs_len, Pc.ks, List.length_cons, List.length_nil]; omega)
  rw [e6]
  have hbl := c.body_len
  conv => whnf
  refine CallOb.by' [] [0] (wfill_c _ g ⟨0, c.body, 512⟩ 512) rfl ⟨rfl, rfl, rfl, fun _ _ => ⟨rfl, ?_⟩⟩
  have e7 : (⟨0, c.body, 512⟩ : WS).fill 512 = (⟨0, c.room, 512⟩, 0) := by
    unfold WS.fill
    rw [if_neg (by dsimp only; omega), if_neg (by show ¬ (512 : Int) > 512; decide), lay_ok rfl (by dsimp only; rw [List.length_replicate]; omega)]
    dsimp only [Pc.room]
    rw [show ((512 : Int) - (c.body.length : Int)).toNat = 512 - c.body.length by omega]
  rw [e7]
  conv => whnf
  refine CallOb.by' [] [0] (wall_c _ g ⟨0, c.room, 512⟩) rfl ⟨rfl, rfl, rfl, fun x1 hx1 => ⟨rfl, ?_⟩⟩
  rw [show (⟨0, c.room, 512⟩ : WS).all = (c.room, 0) from rfl] at hx1 ⊢
  conv => whnf
  exact Ret.mk' x1 [] [1, 1] hx1 rfl (by repeat' (first | exact trivial | rfl | apply And.intro)) trivial ⟨rfl, rfl⟩
end Go.Proofs.Ytiimeklgjoclpaa
