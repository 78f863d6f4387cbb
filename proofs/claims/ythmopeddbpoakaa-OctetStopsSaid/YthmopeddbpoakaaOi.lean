/- The laws OctetNobody and OctetStops, walked. -/
import Derived.Test.YthmopeddbpoakaaOh
namespace Go.Proofs.Ythmopeddbpoakaa
open Go.Sx
set_option maxRecDepth 100000
set_option pp.deepTerms false
set_option pp.maxSteps 300
set_option linter.unusedSimpArgs false
set_option linter.unusedVariables false

theorem nobody_c (W : World) (x : Act) (ta : Option Addr) (tc : Nat) : LawC Try.prog 6 [.agg (x.sg ta tc)] W := by
  refine Con.of' tt_ok Try.func6 rfl (by decide) [.agg (x.sg ta tc)] [] [] rfl rfl trivial (by repeat' (first | exact trivial | rfl | apply And.intro)) rfl ?_
  conv => whnf
  intro b1
  conv => whnf
  refine CallOb.pu (alive7_c _) rfl ?_
  conv => whnf
  refine Cond.mk (fun h => by cases h) (fun _ => ?_)
  conv => whnf
  intro b16
  conv => whnf
  intro b17
  conv => whnf
  refine LoopOb.mk' (σ := Nat) (fun i => [(1, .c (.ptr 1 0)), (17, .c (.slc 17 0 2 2)), (18, .c (.int .i64 2)), (19, .c (.int .i64 i))])
    (fun i => ⟨[(17, b17), (16, b16), (1, b1)], [(17, [.one (.raw (.pointer none)), .one (.ptr 16 0)], 24), (1, x.sg ta tc, 31)], [Wu b16, old W]⟩) (fun i => i = 0 ∨ i = 1 ∨ i = 2) (fun i => 2 - i) 0 (.inl rfl) ?_ ?_
  · refine Wk.box (k := fun _ : Unit => True) (Q := fun _ => [wc b16 .ff w0 none 0]) (R := fun _ => []) [16] [] () trivial ⟨⟨rfl, rfl⟩, ?_⟩
    exact Wk.mk' [17, 1] [0, 0] ⟨⟨rfl, (by repeat' (first | exact trivial | rfl | apply And.intro))⟩, ⟨rfl, (by repeat' (first | exact trivial | rfl | apply And.intro))⟩, ⟨rfl, trivial⟩, ⟨rfl, trivial⟩, trivial⟩ (by repeat' (first | exact trivial | rfl | apply And.intro)) ⟨rfl, rfl⟩
  rintro i (rfl | rfl | rfl)
  · conv => whnf
    refine Cond.dec (fun _ => ?_) (fun h => absurd (by decide) h)
    conv => whnf
    refine ⟨by decide, ?_⟩
    conv => whnf
    refine CallOb.pu (wall_n _) rfl ?_
    conv => whnf
    refine CallOb.pu (wnum_n _ x.n x.z) rfl ?_
    conv => whnf
    refine Cond.neI (fun h => absurd rfl h) (fun _ => ?_)
    conv => whnf
    refine CallOb.pu (wbytes_n _ none 0 0) rfl ?_
    conv => whnf
    refine Cond.neI (fun h => absurd rfl h) (fun _ => ?_)
    conv => whnf
    refine CallOb.pu (wfill_n _ x.z) rfl ?_
    conv => whnf
    refine Cond.neI (fun h => absurd rfl h) (fun _ => ?_)
    conv => whnf
    refine Cond.neI (fun h => absurd rfl h) (fun _ => ?_)
    conv => whnf
    refine Cond.neI (fun h => absurd rfl h) (fun _ => ?_)
    conv => whnf
    refine Ar.i64 (by decide) ?_
    conv => whnf
    exact ⟨1, .inr (.inl rfl), by decide, Wk.mk' [17, 1] [0, 0] ⟨⟨rfl, (by repeat' (first | exact trivial | rfl | apply And.intro))⟩, ⟨rfl, (by repeat' (first | exact trivial | rfl | apply And.intro))⟩, ⟨rfl, trivial⟩, ⟨rfl, trivial⟩, trivial⟩ (by repeat' (first | exact trivial | rfl | apply And.intro)) ⟨rfl, rfl⟩⟩
  · conv => whnf
    refine Cond.dec (fun _ => ?_) (fun h => absurd (by decide) h)
    conv => whnf
    refine ⟨by decide, ?_⟩
    conv => whnf
    refine CallOb.by' [] [0] (wall_u _ b16) rfl ⟨rfl, rfl, rfl, fun _ _ => ⟨rfl, ?_⟩⟩
    conv => whnf
    refine CallOb.by' [] [0] (wnum_u _ b16 x.n x.z) rfl ⟨rfl, rfl, rfl, fun _ _ => ⟨rfl, ?_⟩⟩
    conv => whnf
    refine Cond.neI (fun h => absurd rfl h) (fun _ => ?_)
    conv => whnf
    refine CallOb.by' [] [0] (wbytes_u _ b16 none 0 0) rfl ⟨rfl, rfl, rfl, fun _ _ => ⟨rfl, ?_⟩⟩
    conv => whnf
    refine Cond.neI (fun h => absurd rfl h) (fun _ => ?_)
    conv => whnf
    refine CallOb.by' [] [0] (wfill_u _ b16 x.z) rfl ⟨rfl, rfl, rfl, fun _ _ => ⟨rfl, ?_⟩⟩
    conv => whnf
    refine Cond.neI (fun h => absurd rfl h) (fun _ => ?_)
    conv => whnf
    refine Cond.neI (fun h => absurd rfl h) (fun _ => ?_)
    conv => whnf
    refine Cond.neI (fun h => absurd rfl h) (fun _ => ?_)
    conv => whnf
    refine Ar.i64 (by decide) ?_
    conv => whnf
    exact ⟨2, .inr (.inr rfl), by decide, Wk.mk' [17, 1] [0, 0] ⟨⟨rfl, (by repeat' (first | exact trivial | rfl | apply And.intro))⟩, ⟨rfl, (by repeat' (first | exact trivial | rfl | apply And.intro))⟩, ⟨rfl, trivial⟩, ⟨rfl, trivial⟩, trivial⟩ (by repeat' (first | exact trivial | rfl | apply And.intro)) ⟨rfl, rfl⟩⟩
  conv => whnf
  refine Cond.dec (fun h => absurd h (by decide)) (fun _ => ?_)
  conv => whnf
  intro b58
  conv => whnf
  intro b59
  conv => whnf
  refine LoopOb.mk' (σ := Nat) (fun i => [(1, .c (.ptr 1 0)), (59, .c (.slc 59 0 2 2)), (60, .c (.int .i64 2)), (61, .c (.int .i64 i))])
    (fun i => ⟨[(59, b59), (58, b58), (1, b1)], [(59, [.one (.raw (.pointer none)), .one (.ptr 58 0)], 43), (1, x.sg ta tc, 31)], [Ru b58, old W]⟩) (fun i => i = 0 ∨ i = 1 ∨ i = 2) (fun i => 2 - i) 0 (.inl rfl) ?_ ?_
  · refine Wk.box (k := fun _ : Unit => True) (Q := fun _ => [rc b58 .ff r0 none 0]) (R := fun _ => []) [58] [] () trivial ⟨⟨rfl, rfl⟩, ?_⟩
    exact Wk.mk' [59, 1] [0, 1] ⟨⟨rfl, (by repeat' (first | exact trivial | rfl | apply And.intro))⟩, ⟨rfl, (by repeat' (first | exact trivial | rfl | apply And.intro))⟩, ⟨rfl, trivial⟩, ⟨rfl, trivial⟩, trivial⟩ (by repeat' (first | exact trivial | rfl | apply And.intro)) ⟨rfl, rfl⟩
  rintro i (rfl | rfl | rfl)
  · conv => whnf
    refine Cond.dec (fun _ => ?_) (fun h => absurd (by decide) h)
    conv => whnf
    refine ⟨by decide, ?_⟩
    conv => whnf
    refine CallOb.pu (rnum_n _ x.z) rfl ?_
    conv => whnf
    refine CallOb.pu (rbytes_n _ x.z) rfl ?_
    conv => whnf
    refine Cond.neI (fun h => absurd rfl h) (fun _ => ?_)
    conv => whnf
    refine Cond.neI (fun h => absurd rfl h) (fun _ => ?_)
    conv => whnf
    refine Cond.neI (fun h => absurd rfl h) (fun _ => ?_)
    conv => whnf
    refine Cond.neI (fun h => absurd rfl h) (fun _ => ?_)
    conv => whnf
    refine CallOb.pu (rleft_n _) rfl ?_
    conv => whnf
    refine Cond.neI (fun h => absurd rfl h) (fun _ => ?_)
    conv => whnf
    refine CallOb.pu (rdone_n _) rfl ?_
    conv => whnf
    refine Ar.i64 (by decide) ?_
    conv => whnf
    exact ⟨1, .inr (.inl rfl), by decide, Wk.mk' [59, 1] [0, 0] ⟨⟨rfl, (by repeat' (first | exact trivial | rfl | apply And.intro))⟩, ⟨rfl, (by repeat' (first | exact trivial | rfl | apply And.intro))⟩, ⟨rfl, trivial⟩, ⟨rfl, trivial⟩, trivial⟩ (by repeat' (first | exact trivial | rfl | apply And.intro)) ⟨rfl, rfl⟩⟩
  · conv => whnf
    refine Cond.dec (fun _ => ?_) (fun h => absurd (by decide) h)
    conv => whnf
    refine ⟨by decide, ?_⟩
    conv => whnf
    refine CallOb.by' [] [0] (rnum_u _ b58 x.z) rfl ⟨rfl, rfl, rfl, fun _ _ => ⟨rfl, ?_⟩⟩
    conv => whnf
    refine CallOb.by' [] [0] (rbytes_u _ b58 x.z) rfl ⟨rfl, rfl, rfl, fun _ _ => ⟨rfl, ?_⟩⟩
    conv => whnf
    refine Cond.neI (fun h => absurd rfl h) (fun _ => ?_)
    conv => whnf
    refine Cond.neI (fun h => absurd rfl h) (fun _ => ?_)
    conv => whnf
    refine Cond.neI (fun h => absurd rfl h) (fun _ => ?_)
    conv => whnf
    refine Cond.neI (fun h => absurd rfl h) (fun _ => ?_)
    conv => whnf
    refine CallOb.by' [] [0] (rleft_u _ b58) rfl ⟨rfl, rfl, rfl, fun _ _ => ⟨rfl, ?_⟩⟩
    conv => whnf
    refine Cond.neI (fun h => absurd rfl h) (fun _ => ?_)
    conv => whnf
    refine CallOb.by' [] [0] (rdone_u _ b58) rfl ⟨rfl, rfl, rfl, fun _ _ => ⟨rfl, ?_⟩⟩
    conv => whnf
    refine Ar.i64 (by decide) ?_
    conv => whnf
    exact ⟨2, .inr (.inr rfl), by decide, Wk.mk' [59, 1] [0, 0] ⟨⟨rfl, (by repeat' (first | exact trivial | rfl | apply And.intro))⟩, ⟨rfl, (by repeat' (first | exact trivial | rfl | apply And.intro))⟩, ⟨rfl, trivial⟩, ⟨rfl, trivial⟩, trivial⟩ (by repeat' (first | exact trivial | rfl | apply And.intro)) ⟨rfl, rfl⟩⟩
  conv => whnf
  refine Cond.dec (fun h => absurd h (by decide)) (fun _ => ?_)
  conv => whnf
  refine ⟨by decide, ?_⟩
  intro b104
  conv => whnf
  refine CallOb.pu (newReader_n _ (some (radr (b104, 0))) 65537 65537 (by decide)) rfl ?_
  conv => whnf
  exact Ret.mk' () [] [1] trivial rfl (by repeat' (first | exact trivial | rfl | apply And.intro)) (by repeat' (first | exact trivial | rfl | apply And.intro)) ⟨rfl, rfl⟩

theorem fail_bad {s : WS} (k : Int) (h : s.e ≠ 0) : s.fail k = (s, s.e) := if_neg h
theorem lay_bad {s : WS} (b : List UInt8) (h : s.e ≠ 0) : s.lay b = (s, s.e) := if_neg h
theorem num_bad {s : WS} (n z : Int) (h : s.e ≠ 0) : s.num n z = (s, s.e) := by
  unfold WS.num; rw [lay_bad _ h, fail_bad _ h]; split <;> rfl
theorem fill_bad {s : WS} (n : Int) (h : s.e ≠ 0) : s.fill n = (s, s.e) := by
  unfold WS.fill; rw [lay_bad _ h, fail_bad _ h, fail_bad _ h]; split <;> (try split) <;> rfl
theorem all_bad {s : WS} (h : s.e ≠ 0) : s.all = ([], s.e) := if_neg h
theorem num_err (s : WS) (n z : Int) : (s.num n z).2 = (s.num n z).1.e := by
  unfold WS.num WS.lay WS.fail
  repeat' split
  all_goals simp_all
theorem rbytes_err (s : RS) (n : Int) : (s.bytes n).2.2 = (s.bytes n).1.e := by
  unfold RS.bytes RS.take RS.fail
  repeat' split
  all_goals simp_all
theorem rnum_bad {s : RS} (z : Int) (h : s.e ≠ 0) : s.num z = (s, 0, s.e) := by
  unfold RS.num RS.take RS.fail; rw [if_neg h, if_neg h]; split <;> rfl

theorem stops_c (W : World) (x y : Act) (ta tb : Option Addr) (tc td : Nat) (hx : Bts (old W) ta tc x.b) (kx : x.ok) (ky : y.ok) (a : Option Addr) (c : Nat) (b : List UInt8) (hb : Bts (old W) a c b) :
    LawC Try.prog 7 [.agg (x.sg ta tc), .agg (y.sg tb td), .c (.rs a b.length c)] W := by
  refine Con.of' tt_ok Try.func7 rfl (by decide) [.agg (x.sg ta tc), .agg (y.sg tb td), .c (.rs a b.length c)] [] [] rfl rfl trivial (by repeat' (first | exact trivial | rfl | apply And.intro)) rfl ?_
  conv => whnf
  intro b3
  conv => whnf
  intro b4
  conv => whnf
  refine CallOb.pu (alive7_c _) rfl ?_
  conv => whnf
  refine Cond.mk (fun h => by cases h) (fun _ => ?_)
  conv => whnf
  refine Cond.dec (fun _ => ?_) (fun h1 => ?_)
  · conv => whnf
    exact Ret.mk' () [] [0] trivial rfl (by repeat' (first | exact trivial | rfl | apply And.intro)) (by repeat' (first | exact trivial | rfl | apply And.intro)) ⟨rfl, rfl⟩
  conv => whnf
  refine Cond.dec (fun _ => ?_) (fun h2 => ?_)
  · conv => whnf
    exact Ret.mk' () [] [0] trivial rfl (by repeat' (first | exact trivial | rfl | apply And.intro)) (by repeat' (first | exact trivial | rfl | apply And.intro)) ⟨rfl, rfl⟩
  conv => whnf
  refine Cond.dec (fun _ => ?_) (fun h3 => ?_)
  · conv => whnf
    exact Ret.mk' () [] [0] trivial rfl (by repeat' (first | exact trivial | rfl | apply And.intro)) (by repeat' (first | exact trivial | rfl | apply And.intro)) ⟨rfl, rfl⟩
  conv => whnf
  refine CallOb.by' [] [] (newWriter_c _ 4 (by decide)) rfl ⟨rfl, rfl, rfl, fun g _ => ⟨rfl, ?_⟩⟩
  conv => whnf
  refine CallOb.by' [] [] (newReader_c _ (old W) (Ent.all (by first | (simp; done) | (simp [M.props]; done) | (simp [M.props]; first | (left; rfl) | (right; left; rfl) | (right; right; left; rfl) | (right; right; right; left; rfl) | (right; right; right; right; left; rfl)))) a c b hb (by omega)) rfl ⟨rfl, rfl, rfl, fun g2 _ => ⟨rfl, ?_⟩⟩
  conv => whnf
  refine CallOb.by' [] [1] (wnum_c _ g ⟨0, [], 4⟩ x.n x.z kx.2.1) rfl ⟨rfl, rfl, rfl, fun _ _ => ⟨rfl, ?_⟩⟩
  have e1 := num_err ⟨0, [], 4⟩ x.n x.z
  generalize (⟨0, [], 4⟩ : WS).num x.n x.z = s1 at e1 ⊢
  obtain ⟨s1, e⟩ := s1
  dsimp only at e1 ⊢
  subst e1
  conv => whnf
  refine CallOb.by' [] [0] (wnum_c _ g s1 y.n y.z ky.2.1) rfl ⟨rfl, rfl, rfl, fun _ _ => ⟨rfl, ?_⟩⟩
  conv => whnf
  refine CallOb.by' [] [0] (wall_c _ g (s1.num y.n y.z).1) rfl ⟨rfl, rfl, rfl, fun z1 hz1 => ⟨rfl, ?_⟩⟩
  conv => whnf
  refine Cond.neI (fun he => ?_) (fun he => ?_)
  · rw [num_bad _ _ he, all_bad he] at hz1 ⊢
    conv => whnf
    refine Cond.neI (fun h => absurd rfl h) (fun _ => ?_)
    conv => whnf
    refine Cond.neI (fun h => absurd rfl h) (fun _ => ?_)
    conv => whnf
    refine CallOb.by' [] [0] (wbytes_c _ (old W) (Ent.all (by first | (simp; done) | (simp [M.props]; done) | (simp [M.props]; first | (left; rfl) | (right; left; rfl) | (right; right; left; rfl) | (right; right; right; left; rfl) | (right; right; right; right; left; rfl)))) g s1 ta tc x.b hx.1 (by omega)) rfl ⟨rfl, rfl, rfl, fun _ _ => ⟨rfl, ?_⟩⟩
    rw [lay_bad _ he]
    conv => whnf
    refine Cond.neI (fun h => absurd rfl h) (fun _ => ?_)
    conv => whnf
    refine CallOb.by' [] [0] (wfill_c _ g s1 y.z) rfl ⟨rfl, rfl, rfl, fun _ _ => ⟨rfl, ?_⟩⟩
    rw [fill_bad _ he]
    conv => whnf
    refine Cond.neI (fun h => absurd rfl h) (fun _ => ?_)
    conv => whnf
    refine Cond.neI (fun h => absurd rfl h) (fun _ => ?_)
    conv => whnf
    refine CallOb.by' [] [2] (rbytes_c _ g2 ⟨0, b⟩ x.z) rfl ⟨rfl, rfl, rfl, fun z2 hz2 => ⟨rfl, ?_⟩⟩
    have e2 := rbytes_err ⟨0, b⟩ x.z
    generalize (⟨0, b⟩ : RS).bytes x.z = r1 at e2 hz2 ⊢
    obtain ⟨r1, v, f⟩ := r1
    dsimp only at e2 hz2 ⊢
    subst e2
    conv => whnf
    refine CallOb.by' [] [0] (rnum_c _ g2 r1 y.z) rfl ⟨rfl, rfl, rfl, fun _ _ => ⟨rfl, ?_⟩⟩
    conv => whnf
    refine Cond.eqI (fun hf => ?_) (fun hf => ?_)
    · conv => whnf
      exact Ret.mk' () [] [4] trivial rfl (by repeat' (first | exact trivial | rfl | apply And.intro)) (by repeat' (first | exact trivial | rfl | apply And.intro)) ⟨rfl, rfl⟩
    · rw [rnum_bad _ hf]
      conv => whnf
      refine Cond.eqI (fun _ => ?_) (fun h => absurd rfl h)
      conv => whnf
      refine Cond.eqI (fun _ => ?_) (fun h => absurd rfl h)
      conv => whnf
      refine CallOb.by' [] [0] (rleft_c _ g2 r1) rfl ⟨rfl, rfl, rfl, fun _ _ => ⟨rfl, ?_⟩⟩
      rw [show r1.left = 0 from if_neg hf]
      conv => whnf
      refine Cond.eqI (fun _ => ?_) (fun h => absurd rfl h)
      conv => whnf
      refine CallOb.by' [] [0] (rdone_c _ g2 r1) rfl ⟨rfl, rfl, rfl, fun _ _ => ⟨rfl, ?_⟩⟩
      rw [show r1.done = false by unfold RS.done; rw [decide_eq_false hf]; rfl]
      conv => whnf
      exact Ret.mk' () [] [4] trivial rfl (by repeat' (first | exact trivial | rfl | apply And.intro)) (by repeat' (first | exact trivial | rfl | apply And.intro)) ⟨rfl, rfl⟩
  · conv => whnf
    refine CallOb.by' [] [2] (rbytes_c _ g2 ⟨0, b⟩ x.z) rfl ⟨rfl, rfl, rfl, fun z2 hz2 => ⟨rfl, ?_⟩⟩
    have e2 := rbytes_err ⟨0, b⟩ x.z
    generalize (⟨0, b⟩ : RS).bytes x.z = r1 at e2 hz2 ⊢
    obtain ⟨r1, v, f⟩ := r1
    dsimp only at e2 hz2 ⊢
    subst e2
    conv => whnf
    refine CallOb.by' [] [0] (rnum_c _ g2 r1 y.z) rfl ⟨rfl, rfl, rfl, fun _ _ => ⟨rfl, ?_⟩⟩
    conv => whnf
    refine Cond.eqI (fun hf => ?_) (fun hf => ?_)
    · conv => whnf
      exact Ret.mk' () [] [4] trivial rfl (by repeat' (first | exact trivial | rfl | apply And.intro)) (by repeat' (first | exact trivial | rfl | apply And.intro)) ⟨rfl, rfl⟩
    · rw [rnum_bad _ hf]
      conv => whnf
      refine Cond.eqI (fun _ => ?_) (fun h => absurd rfl h)
      conv => whnf
      refine Cond.eqI (fun _ => ?_) (fun h => absurd rfl h)
      conv => whnf
      refine CallOb.by' [] [0] (rleft_c _ g2 r1) rfl ⟨rfl, rfl, rfl, fun _ _ => ⟨rfl, ?_⟩⟩
      rw [show r1.left = 0 from if_neg hf]
      conv => whnf
      refine Cond.eqI (fun _ => ?_) (fun h => absurd rfl h)
      conv => whnf
      refine CallOb.by' [] [0] (rdone_c _ g2 r1) rfl ⟨rfl, rfl, rfl, fun _ _ => ⟨rfl, ?_⟩⟩
      rw [show r1.done = false by unfold RS.done; rw [decide_eq_false hf]; rfl]
      conv => whnf
      exact Ret.mk' () [] [4] trivial rfl (by repeat' (first | exact trivial | rfl | apply And.intro)) (by repeat' (first | exact trivial | rfl | apply And.intro)) ⟨rfl, rfl⟩
end Go.Proofs.Ythmopeddbpoakaa
