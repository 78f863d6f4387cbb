/- Answers that the document fixes; the law OctetWrites, walked. -/
import Derived.Test.YthmopeddbpoakaaOd
namespace Go.Proofs.Ythmopeddbpoakaa
open Go.Sx
set_option maxRecDepth 100000
set_option pp.deepTerms false
set_option pp.maxSteps 300
set_option linter.unusedSimpArgs false
set_option linter.unusedVariables false

theorem alive7_c (A : HProp) : Pu Try.prog 12 [] A (.c (.bool true)) := by
  refine Con.of' tt_ok Try.func12 rfl (by decide) [] [] [] rfl rfl trivial (by repeat' (first | exact trivial | rfl | apply And.intro)) rfl ?_
  conv => whnf
  refine CallOb.by' [] [] (newWriter_c _ 4 (by decide)) rfl ⟨rfl, rfl, rfl, fun g _ => ⟨rfl, ?_⟩⟩
  conv => whnf
  refine CallOb.by' [] [0] (wnum_c _ g ⟨0, [], 4⟩ 258 2 (by decide)) rfl ⟨rfl, rfl, rfl, fun _ _ => ⟨rfl, ?_⟩⟩
  rw [show (⟨0, [], 4⟩ : WS).num 258 2 = (⟨0, [1, 2], 4⟩, 0) from rfl]
  conv => whnf
  refine Cond.neI (fun h => absurd rfl h) (fun _ => ?_)
  conv => whnf
  intro b17
  conv => whnf
  have hB : Rd (blk b17 (.cells (u8s [7]).toArray 5)) (some (radr (b17, 0))) (u8s [7]) := rd_list
  refine CallOb.by' [] [0] (wbytes_c _ _ (Ent.all List.mem_cons_self) g ⟨0, [1, 2], 4⟩ (some (radr (b17, 0))) 1 [7] hB (by decide)) rfl ⟨rfl, rfl, rfl, fun _ _ => ⟨rfl, ?_⟩⟩
  rw [show (⟨0, [1, 2], 4⟩ : WS).lay [7] = (⟨0, [1, 2, 7], 4⟩, 0) from rfl]
  conv => whnf
  refine Cond.neI (fun h => absurd rfl h) (fun _ => ?_)
  conv => whnf
  refine CallOb.by' [] [0] (wfill_c _ g ⟨0, [1, 2, 7], 4⟩ 4) rfl ⟨rfl, rfl, rfl, fun _ _ => ⟨rfl, ?_⟩⟩
  rw [show (⟨0, [1, 2, 7], 4⟩ : WS).fill 4 = (⟨0, [1, 2, 7, 0], 4⟩, 0) from rfl]
  conv => whnf
  refine Cond.neI (fun h => absurd rfl h) (fun _ => ?_)
  conv => whnf
  refine CallOb.by' [] [0] (wall_c _ g ⟨0, [1, 2, 7, 0], 4⟩) rfl ⟨rfl, rfl, rfl, fun x1 hx1 => ⟨rfl, ?_⟩⟩
  conv => whnf
  refine CallOb.by' [] [] (newReader_c _ (Own x1.1 x1.2 5 1 (u8s [1, 2, 7, 0])) (Ent.all (by first | (simp; done) | (simp [M.props]; done) | (simp [M.props]; first | (left; rfl) | (right; left; rfl) | (right; right; left; rfl) | (right; right; right; left; rfl) | (right; right; right; right; left; rfl)))) x1.1 x1.2 [1, 2, 7, 0] ⟨Own.rd, hx1⟩ (by decide)) rfl ⟨rfl, rfl, rfl, fun g2 _ => ⟨rfl, ?_⟩⟩
  conv => whnf
  refine Cond.neI (fun h => absurd rfl h) (fun _ => ?_)
  conv => whnf
  refine Cond.neI (fun h => absurd rfl h) (fun _ => ?_)
  conv => whnf
  refine CallOb.by' [] [0] (rnum_c _ g2 ⟨0, [1, 2, 7, 0]⟩ 2) rfl ⟨rfl, rfl, rfl, fun _ _ => ⟨rfl, ?_⟩⟩
  rw [show (⟨0, [1, 2, 7, 0]⟩ : RS).num 2 = (⟨0, [7, 0]⟩, 258, 0) from rfl]
  conv => whnf
  refine Cond.eqI (fun _ => ?_) (fun h => absurd rfl h)
  conv => whnf
  refine Cond.eqI (fun _ => ?_) (fun h => absurd rfl h)
  conv => whnf
  refine CallOb.by' [] [0] (rleft_c _ g2 ⟨0, [7, 0]⟩) rfl ⟨rfl, rfl, rfl, fun _ _ => ⟨rfl, ?_⟩⟩
  conv => whnf
  refine Cond.eqI (fun _ => ?_) (fun h => absurd rfl h)
  conv => whnf
  refine CallOb.by' [] [0] (rdone_c _ g2 ⟨0, [7, 0]⟩) rfl ⟨rfl, rfl, rfl, fun _ _ => ⟨rfl, ?_⟩⟩
  conv => whnf
  exact Ret.mk' () [] [3] trivial rfl (by repeat' (first | exact trivial | rfl | apply And.intro)) (by repeat' (first | exact trivial | rfl | apply And.intro)) ⟨rfl, rfl⟩

/-- A call that is drawn. -/
structure Act where
  k : Int
  n : Int
  z : Int
  b : List UInt8
def Act.ok (x : Act) : Prop := (0 ≤ x.k ∧ x.k ≤ 255) ∧ (0 ≤ x.n ∧ x.n < 18446744073709551616) ∧ -9223372036854775808 ≤ x.z ∧ x.z ≤ 9223372036854775807
abbrev Act.sg (x : Act) (ta : Option Addr) (tc : Nat) : List Seg := [.one (.int .u8 x.k), .one (.int .u64 x.n), .one (.int .i64 x.z), .one (.rs ta x.b.length tc)]
def ActE (R : HProp) (x : Act) (cs : List Value) : Prop := ∃ ta tc, cs = [.int .u8 x.k, .int .u64 x.n, .int .i64 x.z, .slice ta x.b.length tc] ∧ Bts R ta tc x.b ∧ x.ok
theorem ldact {P : Program} {t : Nat} {x : TyX} {b off : Nat} {m : M} {f : SV → Prop} {A R Q : HProp} {p : Nat × Nat} {l : List Act} (i : Nat) (hA : A ∈ m.F) (hE : Ent A R) (hrow : Row R (some (radr p)) 4 (ActE Q) l) (hi : i < l.length)
    (hx : x.k.agg = true) (hn : x.size = 4) (hb : b = p.1) (ho : off = p.2 + i * 4) (h : ∀ ta tc, Bts Q ta tc (l[i]).b → (l[i]).ok → f (.agg ((l[i]).sg ta tc))) : With (Ty P t x) (LdOb P t ⟨b, off, none⟩ m f) := by
  refine ldrow (n := 3) i hA hE hrow hi hx hn hb ho fun cs hc => ?_
  obtain ⟨ta, tc, rfl, h1, h2⟩ := hc
  exact ⟨_, rfl, (by repeat' (first | exact trivial | rfl | apply And.intro)), rfl, h ta tc h1 h2⟩

theorem lay_le {s : WS} (b : List UInt8) (h : (s.l.length : Int) ≤ s.room) : ((s.lay b).1.l.length : Int) ≤ (s.lay b).1.room ∧ (s.lay b).1.room = s.room := by
  unfold WS.lay; split <;> (try split) <;> simp_all <;> omega
theorem fail_le {s : WS} (k : Int) (h : (s.l.length : Int) ≤ s.room) : ((s.fail k).1.l.length : Int) ≤ (s.fail k).1.room ∧ (s.fail k).1.room = s.room := by
  unfold WS.fail; split <;> simp_all
theorem num_le {s : WS} (n size : Int) (h : (s.l.length : Int) ≤ s.room) : ((s.num n size).1.l.length : Int) ≤ (s.num n size).1.room ∧ (s.num n size).1.room = s.room := by
  unfold WS.num; split
  · exact lay_le _ h
  · exact fail_le _ h
theorem fill_le {s : WS} (to : Int) (h : (s.l.length : Int) ≤ s.room) : ((s.fill to).1.l.length : Int) ≤ (s.fill to).1.room ∧ (s.fill to).1.room = s.room := by
  unfold WS.fill; split
  · exact fail_le _ h
  · split
    · exact fail_le _ h
    · exact lay_le _ h

structure WL where
  i : Nat
  s : WS
  a : Option Addr
  c : Nat
  Z : HProp

theorem tmod3 (k : Int) (h : 0 ≤ k ∧ k ≤ 255) : k.tmod 3 = 0 ∨ k.tmod 3 = 1 ∨ k.tmod 3 = 2 := by
  rw [Int.tmod_eq_emod_of_nonneg h.1]; omega
theorem writes_c (W : World) (room : Int) (a0 : Option Addr) (c0 : Nat) (l : List Act) (hrow : Row (old W) a0 4 (ActE (old W)) l) : LawC Try.prog 3 [.c (.int .i64 room), .c (.rs a0 l.length c0)] W := by
  refine Con.of' tt_ok Try.func3 rfl (by decide) [.c (.int .i64 room), .c (.rs a0 l.length c0)] [] [] rfl rfl trivial (by repeat' (first | exact trivial | rfl | apply And.intro)) rfl ?_
  conv => whnf
  refine CallOb.pu (alive7_c _) rfl ?_
  conv => whnf
  refine Cond.mk (fun h => by cases h) (fun _ => ?_)
  conv => whnf
  by_cases hr : 0 ≤ room ∧ room ≤ 65536
  case neg =>
    refine CallOb.pu (newWriter_n _ room (by omega)) rfl ?_
    conv => whnf
    refine Cond.dec (fun h1 => ?_) (fun h1 => ?_)
    · conv => whnf
      refine Cond.fne (Cond.dec (fun h2 => absurd ⟨h1, h2⟩ hr) (fun _ => ?_))
      conv => whnf
      intro b6
      conv => whnf
      refine LoopOb.mk' (σ := Unit) (fun _ => [(5, .c (.raw (.pointer none)))]) (fun _ => ⟨[], [], [old W]⟩) (fun _ => True) (fun _ => 0) () trivial (Wk.mk' [] [0] ⟨⟨rfl, rfl⟩, trivial⟩ (by repeat' (first | exact trivial | rfl | apply And.intro)) ⟨rfl, rfl⟩) ?_
      intro _ _
      conv => whnf
      exact Ret.mk' () [] [0] trivial rfl (by repeat' (first | exact trivial | rfl | apply And.intro)) (by repeat' (first | exact trivial | rfl | apply And.intro)) ⟨rfl, rfl⟩
    · conv => whnf
      refine Cond.mk (fun h => by cases h) (fun _ => ?_)
      conv => whnf
      intro b6
      conv => whnf
      refine LoopOb.mk' (σ := Unit) (fun _ => [(5, .c (.raw (.pointer none)))]) (fun _ => ⟨[], [], [old W]⟩) (fun _ => True) (fun _ => 0) () trivial (Wk.mk' [] [0] ⟨⟨rfl, rfl⟩, trivial⟩ (by repeat' (first | exact trivial | rfl | apply And.intro)) ⟨rfl, rfl⟩) ?_
      intro _ _
      conv => whnf
      exact Ret.mk' () [] [0] trivial rfl (by repeat' (first | exact trivial | rfl | apply And.intro)) (by repeat' (first | exact trivial | rfl | apply And.intro)) ⟨rfl, rfl⟩
  refine CallOb.by' [] [] (newWriter_c _ room hr) rfl ⟨rfl, rfl, rfl, fun g _ => ⟨rfl, ?_⟩⟩
  conv => whnf
  refine Cond.dec (fun _ => ?_) (fun h => absurd hr.1 h)
  conv => whnf
  refine Cond.tne (Cond.dec (fun _ => ?_) (fun h => absurd hr.2 h))
  conv => whnf
  intro b6
  conv => whnf
  refine LoopOb.mk' (σ := WL) (fun s => [(0, .c (.int .i64 room)), (1, .c (.rs a0 l.length c0)), (5, .c (.rp g 0)), (6, .c (.ptr 6 0)), (7, .c (.int .i64 s.i))])
    (fun s => ⟨[(6, b6)], [(6, wv s.s s.a s.c, 28)], [Wr g s.s, s.Z, old W]⟩) (fun s => s.i ≤ l.length ∧ ((s.s.l.length : Int) ≤ s.s.room ∧ s.s.room = room) ∧ Bts s.Z s.a s.c s.s.l) (fun s => l.length - s.i)
    ⟨0, ⟨0, [], room⟩, none, 0, all []⟩ ⟨Nat.zero_le _, ⟨hr.1, rfl⟩, rd_nil, Nat.le_refl _, fun _ => rfl⟩ ?_ ?_
  · refine Wk.grp [] [] ?_
    exact Wk.mk' [6] [1, 0, 0] ⟨⟨rfl, trivial⟩, ⟨rfl, trivial⟩, ⟨rfl, trivial⟩, ⟨rfl, (by repeat' (first | exact trivial | rfl | apply And.intro))⟩, ⟨rfl, trivial⟩, trivial⟩ (by repeat' (first | exact trivial | rfl | apply And.intro)) ⟨rfl, rfl⟩
  rintro ⟨i, s, a, c, Z⟩ ⟨hi, ⟨hle, hroom⟩, hZ⟩
  dsimp only at hi hle hroom hZ ⊢
  conv => whnf
  have stop : ∀ X : Prop, X → X := fun _ h => h
  refine Cond.dec (fun h => ?_) (fun h => ?_)
  case refine_2 =>
    conv => whnf
    exact Ret.mk' () [] [2] trivial rfl (by repeat' (first | exact trivial | rfl | apply And.intro)) (by repeat' (first | exact trivial | rfl | apply And.intro)) ⟨rfl, rfl⟩
  conv => whnf
  refine Cond.dec (fun h60 => ?_) (fun h60 => ?_)
  case refine_2 =>
    conv => whnf
    exact Ret.mk' () [] [2] trivial rfl (by repeat' (first | exact trivial | rfl | apply And.intro)) (by repeat' (first | exact trivial | rfl | apply And.intro)) ⟨rfl, rfl⟩
  have hi' : i < l.length := by omega
  conv => whnf
  refine ⟨by omega, ?_⟩
  refine row_ptr (A := old W) (by simp) (Ent.refl _) hrow (by omega) fun p hp => ?_
  subst hp
  conv => whnf
  refine ldact (A := old W) i (by simp) (Ent.refl _) hrow hi' rfl rfl rfl (by simp) fun ta tc ht hx => ?_
  generalize l[i] = x at ht hx ⊢
  obtain ⟨xk, xn, xz, xb⟩ := x
  obtain ⟨hxk, hxn, hxz⟩ := hx
  dsimp only at ht hxk hxn hxz ⊢
  conv => whnf
  intro b8
  conv => whnf
  refine Cond.dec (fun hb => ?_) (fun hb => ?_)
  · conv => whnf
    refine Ar.i64 (by omega) ?_
    conv => whnf
    exact ⟨⟨i + 1, s, a, c, Z⟩, ⟨by dsimp only; omega, ⟨hle, hroom⟩, hZ⟩, by dsimp only; omega, Wk.mk' [6] [0, 0, 0] ⟨⟨rfl, trivial⟩, ⟨rfl, trivial⟩, ⟨rfl, trivial⟩, ⟨rfl, (by repeat' (first | exact trivial | rfl | apply And.intro))⟩, ⟨rfl, trivial⟩, trivial⟩ (by repeat' (first | exact trivial | rfl | apply And.intro)) ⟨rfl, rfl⟩⟩
  conv => whnf
  refine ⟨by decide, ?_⟩
  have fin : ∀ s' : WS, s'.room = s.room → s'.room = room := fun _ e => e.trans hroom
  refine Cond.eqI (fun h2 => ?_) (fun h2 => ?_)
  · conv => whnf
    refine Cond.dec (fun h3 => ?_) (fun h3 => ?_)
    · conv => whnf
      refine Cond.dec (fun h4 => ?_) (fun h4 => ?_)
      · conv => whnf
        refine Ar.i64 (by omega) ?_
        conv => whnf
        exact ⟨⟨i + 1, s, a, c, Z⟩, ⟨by dsimp only; omega, ⟨hle, hroom⟩, hZ⟩, by dsimp only; omega, Wk.mk' [6] [0, 0, 0] ⟨⟨rfl, trivial⟩, ⟨rfl, trivial⟩, ⟨rfl, trivial⟩, ⟨rfl, (by repeat' (first | exact trivial | rfl | apply And.intro))⟩, ⟨rfl, trivial⟩, trivial⟩ (by repeat' (first | exact trivial | rfl | apply And.intro)) ⟨rfl, rfl⟩⟩
      · conv => whnf
        refine ⟨by decide, ?_⟩
        refine Cond.eqI (fun h5 => absurd (h2.symm.trans h5) (by decide)) (fun _ => ?_)
        conv => whnf
        refine Cond.eqI (fun h5 => absurd (h2.symm.trans h5) (by decide)) (fun _ => ?_)
        conv => whnf
        refine CallOb.by' [] [0] (wfill_c _ g s xz) rfl ⟨rfl, rfl, rfl, fun _ _ => ⟨rfl, ?_⟩⟩
        conv => whnf
        refine CallOb.grp [] [0, 1] (CallOb.by' [] [] (dfill_c _ Z (Ent.all (by first | (simp; done) | (simp [M.props]; done) | (simp [M.props]; first | (left; rfl) | (right; left; rfl) | (right; right; left; rfl) | (right; right; right; left; rfl) | (right; right; right; right; left; rfl)))) s a c hZ xz (by omega) (by omega)) rfl ⟨rfl, rfl, rfl, fun x1 hx1 => ⟨rfl, ?_⟩⟩)
        have hle2 := fill_le xz hle
        generalize hs' : s.fill xz = s' at hx1 hle2 ⊢
        obtain ⟨s', f⟩ := s'
        obtain ⟨y1, y2, y3⟩ := x1
        dsimp only at hx1 hle2 ⊢
        conv => whnf
        refine CallOb.by' [] [1] (wall_c _ g s') rfl ⟨rfl, rfl, rfl, fun x2 hx2 => ⟨rfl, ?_⟩⟩
        conv => whnf
        have hB := hx1.1
        refine Cond.neI (fun he => ?_) (fun he => ?_)
        · have e : s'.all = ([], s'.e) := if_neg he
          rw [e] at hx2 ⊢
          conv => whnf
          refine Cond.neI (fun h => absurd rfl h) (fun _ => ?_)
          conv => whnf
          refine conv_str (x := .c (.rs x2.1 ([] : List UInt8).length x2.2)) Try.underlying26 Try.underlying5 Try.underlying9 (Src.rs (A := Own x2.1 x2.2 5 1 (u8s [])) (by simp) Own.rd) rfl (fun s h => by cases h) ?_
          conv => whnf
          refine conv_str (l := []) (k := 0) (x := .c (.rs none 0 0)) Try.underlying26 Try.underlying5 Try.underlying9 Src.nil rfl (fun s h => by cases h) ?_
          conv => whnf
          refine Cond.mk (fun h => by simp at h) (fun _ => ?_)
          conv => whnf
          refine Cond.neI (fun h => absurd rfl h) (fun _ => ?_)
          conv => whnf
          refine Ar.i64 (by omega) ?_
          conv => whnf
          exact ⟨⟨i + 1, s', y1, y2, all [y3, Z]⟩, ⟨by dsimp only; omega, ⟨hle2.1, hle2.2.trans hroom⟩, hx1⟩, by dsimp only; omega, Wk.mk' [6] [0, 1, 1] ⟨⟨rfl, trivial⟩, ⟨rfl, trivial⟩, ⟨rfl, trivial⟩, ⟨rfl, (by repeat' (first | exact trivial | rfl | apply And.intro))⟩, ⟨rfl, trivial⟩, trivial⟩ (by repeat' (first | exact trivial | rfl | apply And.intro)) ⟨rfl, rfl⟩⟩
        · have e : s'.all = (s'.l, 0) := if_pos he
          rw [e] at hx2 ⊢
          conv => whnf
          refine Cond.neI (fun h => absurd rfl h) (fun _ => ?_)
          conv => whnf
          refine conv_str (x := .c (.rs x2.1 s'.l.length x2.2)) Try.underlying26 Try.underlying5 Try.underlying9 (Src.rs (A := Own x2.1 x2.2 5 1 (u8s s'.l)) (by simp) Own.rd) rfl (fun s h => by cases h) ?_
          conv => whnf
          refine conv_str (x := .c (.rs y1 s'.l.length y2)) Try.underlying26 Try.underlying5 Try.underlying9 (Src.rs (A := all [y3, Z]) (by simp) hB) rfl (fun s h => by cases h) ?_
          conv => whnf
          refine Cond.mk (fun h => by simp at h) (fun _ => ?_)
          conv => whnf
          refine Cond.neI (fun h => absurd he.symm h) (fun _ => ?_)
          conv => whnf
          refine Ar.i64 (by omega) ?_
          conv => whnf
          exact ⟨⟨i + 1, s', y1, y2, all [y3, Z]⟩, ⟨by dsimp only; omega, ⟨hle2.1, hle2.2.trans hroom⟩, hx1⟩, by dsimp only; omega, Wk.mk' [6] [0, 1, 1] ⟨⟨rfl, trivial⟩, ⟨rfl, trivial⟩, ⟨rfl, trivial⟩, ⟨rfl, (by repeat' (first | exact trivial | rfl | apply And.intro))⟩, ⟨rfl, trivial⟩, trivial⟩ (by repeat' (first | exact trivial | rfl | apply And.intro)) ⟨rfl, rfl⟩⟩
    · conv => whnf
      refine ⟨by decide, ?_⟩
      refine Cond.eqI (fun h5 => absurd (h2.symm.trans h5) (by decide)) (fun _ => ?_)
      conv => whnf
      refine Cond.eqI (fun h5 => absurd (h2.symm.trans h5) (by decide)) (fun _ => ?_)
      conv => whnf
      refine CallOb.by' [] [0] (wfill_c _ g s xz) rfl ⟨rfl, rfl, rfl, fun _ _ => ⟨rfl, ?_⟩⟩
      conv => whnf
      refine CallOb.grp [] [0, 1] (CallOb.by' [] [] (dfill_c _ Z (Ent.all (by first | (simp; done) | (simp [M.props]; done) | (simp [M.props]; first | (left; rfl) | (right; left; rfl) | (right; right; left; rfl) | (right; right; right; left; rfl) | (right; right; right; right; left; rfl)))) s a c hZ xz (by omega) (by omega)) rfl ⟨rfl, rfl, rfl, fun x1 hx1 => ⟨rfl, ?_⟩⟩)
      have hle2 := fill_le xz hle
      generalize hs' : s.fill xz = s' at hx1 hle2 ⊢
      obtain ⟨s', f⟩ := s'
      obtain ⟨y1, y2, y3⟩ := x1
      dsimp only at hx1 hle2 ⊢
      conv => whnf
      refine CallOb.by' [] [1] (wall_c _ g s') rfl ⟨rfl, rfl, rfl, fun x2 hx2 => ⟨rfl, ?_⟩⟩
      conv => whnf
      have hB := hx1.1
      refine Cond.neI (fun he => ?_) (fun he => ?_)
      · have e : s'.all = ([], s'.e) := if_neg he
        rw [e] at hx2 ⊢
        conv => whnf
        refine Cond.neI (fun h => absurd rfl h) (fun _ => ?_)
        conv => whnf
        refine conv_str (x := .c (.rs x2.1 ([] : List UInt8).length x2.2)) Try.underlying26 Try.underlying5 Try.underlying9 (Src.rs (A := Own x2.1 x2.2 5 1 (u8s [])) (by simp) Own.rd) rfl (fun s h => by cases h) ?_
        conv => whnf
        refine conv_str (l := []) (k := 0) (x := .c (.rs none 0 0)) Try.underlying26 Try.underlying5 Try.underlying9 Src.nil rfl (fun s h => by cases h) ?_
        conv => whnf
        refine Cond.mk (fun h => by simp at h) (fun _ => ?_)
        conv => whnf
        refine Cond.neI (fun h => absurd rfl h) (fun _ => ?_)
        conv => whnf
        refine Ar.i64 (by omega) ?_
        conv => whnf
        exact ⟨⟨i + 1, s', y1, y2, all [y3, Z]⟩, ⟨by dsimp only; omega, ⟨hle2.1, hle2.2.trans hroom⟩, hx1⟩, by dsimp only; omega, Wk.mk' [6] [0, 1, 1] ⟨⟨rfl, trivial⟩, ⟨rfl, trivial⟩, ⟨rfl, trivial⟩, ⟨rfl, (by repeat' (first | exact trivial | rfl | apply And.intro))⟩, ⟨rfl, trivial⟩, trivial⟩ (by repeat' (first | exact trivial | rfl | apply And.intro)) ⟨rfl, rfl⟩⟩
      · have e : s'.all = (s'.l, 0) := if_pos he
        rw [e] at hx2 ⊢
        conv => whnf
        refine Cond.neI (fun h => absurd rfl h) (fun _ => ?_)
        conv => whnf
        refine conv_str (x := .c (.rs x2.1 s'.l.length x2.2)) Try.underlying26 Try.underlying5 Try.underlying9 (Src.rs (A := Own x2.1 x2.2 5 1 (u8s s'.l)) (by simp) Own.rd) rfl (fun s h => by cases h) ?_
        conv => whnf
        refine conv_str (x := .c (.rs y1 s'.l.length y2)) Try.underlying26 Try.underlying5 Try.underlying9 (Src.rs (A := all [y3, Z]) (by simp) hB) rfl (fun s h => by cases h) ?_
        conv => whnf
        refine Cond.mk (fun h => by simp at h) (fun _ => ?_)
        conv => whnf
        refine Cond.neI (fun h => absurd he.symm h) (fun _ => ?_)
        conv => whnf
        refine Ar.i64 (by omega) ?_
        conv => whnf
        exact ⟨⟨i + 1, s', y1, y2, all [y3, Z]⟩, ⟨by dsimp only; omega, ⟨hle2.1, hle2.2.trans hroom⟩, hx1⟩, by dsimp only; omega, Wk.mk' [6] [0, 1, 1] ⟨⟨rfl, trivial⟩, ⟨rfl, trivial⟩, ⟨rfl, trivial⟩, ⟨rfl, (by repeat' (first | exact trivial | rfl | apply And.intro))⟩, ⟨rfl, trivial⟩, trivial⟩ (by repeat' (first | exact trivial | rfl | apply And.intro)) ⟨rfl, rfl⟩⟩
  · conv => whnf
    refine ⟨by decide, ?_⟩
    refine Cond.eqI (fun h5 => ?_) (fun h5 => ?_)
    · conv => whnf
      refine CallOb.by' [] [0] (wnum_c _ g s xn xz hxn) rfl ⟨rfl, rfl, rfl, fun _ _ => ⟨rfl, ?_⟩⟩
      conv => whnf
      refine CallOb.grp [] [0, 1] (CallOb.by' [] [] (dnum_c _ Z (Ent.all (by first | (simp; done) | (simp [M.props]; done) | (simp [M.props]; first | (left; rfl) | (right; left; rfl) | (right; right; left; rfl) | (right; right; right; left; rfl) | (right; right; right; right; left; rfl)))) s a c hZ xn xz hxn (by omega)) rfl ⟨rfl, rfl, rfl, fun x1 hx1 => ⟨rfl, ?_⟩⟩)
      have hle2 := num_le xn xz hle
      generalize hs' : s.num xn xz = s' at hx1 hle2 ⊢
      obtain ⟨s', f⟩ := s'
      obtain ⟨y1, y2, y3⟩ := x1
      dsimp only at hx1 hle2 ⊢
      conv => whnf
      refine CallOb.by' [] [1] (wall_c _ g s') rfl ⟨rfl, rfl, rfl, fun x2 hx2 => ⟨rfl, ?_⟩⟩
      conv => whnf
      have hB := hx1.1
      refine Cond.neI (fun he => ?_) (fun he => ?_)
      · have e : s'.all = ([], s'.e) := if_neg he
        rw [e] at hx2 ⊢
        conv => whnf
        refine Cond.neI (fun h => absurd rfl h) (fun _ => ?_)
        conv => whnf
        refine conv_str (x := .c (.rs x2.1 ([] : List UInt8).length x2.2)) Try.underlying26 Try.underlying5 Try.underlying9 (Src.rs (A := Own x2.1 x2.2 5 1 (u8s [])) (by simp) Own.rd) rfl (fun s h => by cases h) ?_
        conv => whnf
        refine conv_str (l := []) (k := 0) (x := .c (.rs none 0 0)) Try.underlying26 Try.underlying5 Try.underlying9 Src.nil rfl (fun s h => by cases h) ?_
        conv => whnf
        refine Cond.mk (fun h => by simp at h) (fun _ => ?_)
        conv => whnf
        refine Cond.neI (fun h => absurd rfl h) (fun _ => ?_)
        conv => whnf
        refine Ar.i64 (by omega) ?_
        conv => whnf
        exact ⟨⟨i + 1, s', y1, y2, all [y3, Z]⟩, ⟨by dsimp only; omega, ⟨hle2.1, hle2.2.trans hroom⟩, hx1⟩, by dsimp only; omega, Wk.mk' [6] [0, 1, 1] ⟨⟨rfl, trivial⟩, ⟨rfl, trivial⟩, ⟨rfl, trivial⟩, ⟨rfl, (by repeat' (first | exact trivial | rfl | apply And.intro))⟩, ⟨rfl, trivial⟩, trivial⟩ (by repeat' (first | exact trivial | rfl | apply And.intro)) ⟨rfl, rfl⟩⟩
      · have e : s'.all = (s'.l, 0) := if_pos he
        rw [e] at hx2 ⊢
        conv => whnf
        refine Cond.neI (fun h => absurd rfl h) (fun _ => ?_)
        conv => whnf
        refine conv_str (x := .c (.rs x2.1 s'.l.length x2.2)) Try.underlying26 Try.underlying5 Try.underlying9 (Src.rs (A := Own x2.1 x2.2 5 1 (u8s s'.l)) (by simp) Own.rd) rfl (fun s h => by cases h) ?_
        conv => whnf
        refine conv_str (x := .c (.rs y1 s'.l.length y2)) Try.underlying26 Try.underlying5 Try.underlying9 (Src.rs (A := all [y3, Z]) (by simp) hB) rfl (fun s h => by cases h) ?_
        conv => whnf
        refine Cond.mk (fun h => by simp at h) (fun _ => ?_)
        conv => whnf
        refine Cond.neI (fun h => absurd he.symm h) (fun _ => ?_)
        conv => whnf
        refine Ar.i64 (by omega) ?_
        conv => whnf
        exact ⟨⟨i + 1, s', y1, y2, all [y3, Z]⟩, ⟨by dsimp only; omega, ⟨hle2.1, hle2.2.trans hroom⟩, hx1⟩, by dsimp only; omega, Wk.mk' [6] [0, 1, 1] ⟨⟨rfl, trivial⟩, ⟨rfl, trivial⟩, ⟨rfl, trivial⟩, ⟨rfl, (by repeat' (first | exact trivial | rfl | apply And.intro))⟩, ⟨rfl, trivial⟩, trivial⟩ (by repeat' (first | exact trivial | rfl | apply And.intro)) ⟨rfl, rfl⟩⟩
    · conv => whnf
      refine Cond.eqI (fun h6 => ?_) (fun h6 => ?_)
      · conv => whnf
        refine CallOb.by' [] [0] (wbytes_c _ (old W) (Ent.all (by first | (simp; done) | (simp [M.props]; done) | (simp [M.props]; first | (left; rfl) | (right; left; rfl) | (right; right; left; rfl) | (right; right; right; left; rfl) | (right; right; right; right; left; rfl)))) g s ta tc xb ht.1 (by dsimp only at hb; omega)) rfl ⟨rfl, rfl, rfl, fun _ _ => ⟨rfl, ?_⟩⟩
        conv => whnf
        refine CallOb.grp [] [0, 1] (CallOb.by' [] [] (dbytes_c _ Z (old W) (Ent.all (by first | (simp; done) | (simp [M.props]; done) | (simp [M.props]; first | (left; rfl) | (right; left; rfl) | (right; right; left; rfl) | (right; right; right; left; rfl) | (right; right; right; right; left; rfl)))) (Ent.all (by first | (simp; done) | (simp [M.props]; done) | (simp [M.props]; first | (left; rfl) | (right; left; rfl) | (right; right; left; rfl) | (right; right; right; left; rfl) | (right; right; right; right; left; rfl)))) s a c hZ ta tc xb ht.1 (by omega) (by dsimp only at hb; omega)) rfl ⟨rfl, rfl, rfl, fun x1 hx1 => ⟨rfl, ?_⟩⟩)
        have hle2 := lay_le xb hle
        generalize hs' : s.lay xb = s' at hx1 hle2 ⊢
        obtain ⟨s', f⟩ := s'
        obtain ⟨y1, y2, y3⟩ := x1
        dsimp only at hx1 hle2 ⊢
        conv => whnf
        refine CallOb.by' [] [1] (wall_c _ g s') rfl ⟨rfl, rfl, rfl, fun x2 hx2 => ⟨rfl, ?_⟩⟩
        conv => whnf
        have hB := hx1.1
        refine Cond.neI (fun he => ?_) (fun he => ?_)
        · have e : s'.all = ([], s'.e) := if_neg he
          rw [e] at hx2 ⊢
          conv => whnf
          refine Cond.neI (fun h => absurd rfl h) (fun _ => ?_)
          conv => whnf
          refine conv_str (x := .c (.rs x2.1 ([] : List UInt8).length x2.2)) Try.underlying26 Try.underlying5 Try.underlying9 (Src.rs (A := Own x2.1 x2.2 5 1 (u8s [])) (by simp) Own.rd) rfl (fun s h => by cases h) ?_
          conv => whnf
          refine conv_str (l := []) (k := 0) (x := .c (.rs none 0 0)) Try.underlying26 Try.underlying5 Try.underlying9 Src.nil rfl (fun s h => by cases h) ?_
          conv => whnf
          refine Cond.mk (fun h => by simp at h) (fun _ => ?_)
          conv => whnf
          refine Cond.neI (fun h => absurd rfl h) (fun _ => ?_)
          conv => whnf
          refine Ar.i64 (by omega) ?_
          conv => whnf
          exact ⟨⟨i + 1, s', y1, y2, all [y3, Z]⟩, ⟨by dsimp only; omega, ⟨hle2.1, hle2.2.trans hroom⟩, hx1⟩, by dsimp only; omega, Wk.mk' [6] [0, 1, 1] ⟨⟨rfl, trivial⟩, ⟨rfl, trivial⟩, ⟨rfl, trivial⟩, ⟨rfl, (by repeat' (first | exact trivial | rfl | apply And.intro))⟩, ⟨rfl, trivial⟩, trivial⟩ (by repeat' (first | exact trivial | rfl | apply And.intro)) ⟨rfl, rfl⟩⟩
        · have e : s'.all = (s'.l, 0) := if_pos he
          rw [e] at hx2 ⊢
          conv => whnf
          refine Cond.neI (fun h => absurd rfl h) (fun _ => ?_)
          conv => whnf
          refine conv_str (x := .c (.rs x2.1 s'.l.length x2.2)) Try.underlying26 Try.underlying5 Try.underlying9 (Src.rs (A := Own x2.1 x2.2 5 1 (u8s s'.l)) (by simp) Own.rd) rfl (fun s h => by cases h) ?_
          conv => whnf
          refine conv_str (x := .c (.rs y1 s'.l.length y2)) Try.underlying26 Try.underlying5 Try.underlying9 (Src.rs (A := all [y3, Z]) (by simp) hB) rfl (fun s h => by cases h) ?_
          conv => whnf
          refine Cond.mk (fun h => by simp at h) (fun _ => ?_)
          conv => whnf
          refine Cond.neI (fun h => absurd he.symm h) (fun _ => ?_)
          conv => whnf
          refine Ar.i64 (by omega) ?_
          conv => whnf
          exact ⟨⟨i + 1, s', y1, y2, all [y3, Z]⟩, ⟨by dsimp only; omega, ⟨hle2.1, hle2.2.trans hroom⟩, hx1⟩, by dsimp only; omega, Wk.mk' [6] [0, 1, 1] ⟨⟨rfl, trivial⟩, ⟨rfl, trivial⟩, ⟨rfl, trivial⟩, ⟨rfl, (by repeat' (first | exact trivial | rfl | apply And.intro))⟩, ⟨rfl, trivial⟩, trivial⟩ (by repeat' (first | exact trivial | rfl | apply And.intro)) ⟨rfl, rfl⟩⟩
      · exfalso
        have := tmod3 xk hxk
        dsimp only at h2 h5 h6
        omega
end Go.Proofs.Ythmopeddbpoakaa
