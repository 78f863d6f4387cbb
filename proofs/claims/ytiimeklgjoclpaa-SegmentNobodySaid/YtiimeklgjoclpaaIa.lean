/- Segment: SegmentTakes walked. -/
import Derived.Test.YtiimeklgjoclpaaGz
namespace Go.Proofs.Ytiimeklgjoclpaa
open Go.Sx
set_option maxRecDepth 100000
set_option pp.deepTerms false
set_option pp.maxSteps 300
set_option linter.unusedSimpArgs false
set_option linter.unusedVariables false

structure Act where
  k : Int
  now : Int
  p : Pc
abbrev Act.sg (t : Act) (x y : AC) : List Seg := [.one (.int .u8 t.k), .one (.int .i64 t.now), .one (.int .i64 t.p.k), .one (.int .i64 t.p.u), .one (.int .u32 t.p.n), .one (.int .i64 t.p.i), .one (.int .i64 t.p.t), .one (.rs x.1 t.p.b.length x.2), .one (.rs y.1 t.p.s.length y.2)]
def ActR (Q : HProp) (t : Act) (cs : List Value) : Prop := ∃ x y : AC, cs = dens [] (t.sg x y) ∧ Bts Q x.1 x.2 t.p.b ∧ Bts Q y.1 y.2 t.p.s ∧ t.p.wf ∧ 0 ≤ t.k ∧ t.k ≤ 255
structure TkS where
  i : Nat
  l : List Mg
  L : List Ms
  a : Option Addr
  c : Nat
  R : HProp
theorem take_le {room now : Int} {c : Pc} {L : List Ms} (h : (L.length : Int) ≤ room) : ((takeD room now c L).1.length : Int) ≤ room := by
  unfold takeD
  split
  · split
    · split
      · exact h
      · unfold finD putD
        dsimp only
        split
        · exact h
        · rw [List.length_append, List.length_singleton]; omega
    · split
      · exact h
      · split
        · exact h
        · split
          · exact h
          · unfold finD putD
            dsimp only
            split
            · rw [List.length_eraseIdx]; split <;> omega
            · rw [List.length_set]; exact h
  · exact h
theorem assoc_seps {X Y Q : HProp} {m : List HProp} {h : Hp} (s : seps (X :: all [Y, Q] :: m) h) : seps (all [all [X, Y], Q] :: m) h := by
  have s1 : seps ([Y, Q] ++ (X :: m)) h := seps_all.1 (seps_perm (List.Perm.swap _ _ _) s)
  have s2 : seps ([X, Y] ++ (Q :: m)) h := seps_perm (List.perm_middle (l₁ := [Y, Q])) s1
  exact (seps_all (l := [all [X, Y], Q]) (m := m)).2 (seps_all.2 s2)
theorem takes_c (W : World) (size : Int) (a0 : Option Addr) (c0 : Nat) (acts : List Act) (hacts : Row (old W) a0 9 (ActR (old W)) acts) :
    LawC Try.prog 7 [.c (.int .i64 size), .c (.rs a0 acts.length c0)] W := by
  refine Con.of' tt_ok Try.func7 rfl (by decide) [.c (.int .i64 size), .c (.rs a0 acts.length c0)] [] [] rfl rfl trivial (by repeat' (first | exact trivial | rfl | exact hk _ | apply And.intro)) rfl ?_
  conv => whnf
  refine CallOb.pu (alive_c _) rfl ?_
  conv => whnf
  by_cases hs : 1 ≤ size ∧ size ≤ 64
  case neg =>
    refine CallOb.pu (newTable_n _ size (by omega)) rfl ?_
    conv => whnf
    refine Cond.dec (fun h1 => ?_) (fun h1 => ?_)
    · conv => whnf
      refine Cond.fne (Cond.dec (fun h2 => absurd ⟨h1, h2⟩ hs) (fun h2 => ?_))
      conv => whnf
      intro b6
      conv => whnf
      refine LoopOb.mk' (σ := Unit) (fun _ => [(1, .c (.rs a0 acts.length c0)), (5, .c (.raw (.pointer none))), (7, .c (.int .i64 0))]) (fun _ => ⟨[(6, b6)], [(6, tv none 0 0 size, 60)], [old W]⟩) (fun _ => True) (fun _ => 0) () trivial (Wk.mk' [6] [0] ⟨⟨rfl, (by repeat' (first | exact trivial | rfl | apply And.intro))⟩, ⟨rfl, (by repeat' (first | exact trivial | rfl | apply And.intro))⟩, ⟨rfl, (by repeat' (first | exact trivial | rfl | apply And.intro))⟩, trivial⟩ (by repeat' (first | exact trivial | rfl | apply And.intro)) ⟨rfl, rfl⟩) ?_
      intro _ _
      conv => whnf
      exact Ret.mk' () [] [0] trivial rfl (by repeat' (first | exact trivial | rfl | apply And.intro)) (by repeat' (first | exact trivial | rfl | apply And.intro)) ⟨rfl, rfl⟩
    conv => whnf
    refine Cond.mk (fun h => by cases h) (fun _ => ?_)
    conv => whnf
    intro b6
    conv => whnf
    refine LoopOb.mk' (σ := Unit) (fun _ => [(1, .c (.rs a0 acts.length c0)), (5, .c (.raw (.pointer none))), (7, .c (.int .i64 0))]) (fun _ => ⟨[(6, b6)], [(6, tv none 0 0 size, 60)], [old W]⟩) (fun _ => True) (fun _ => 0) () trivial (Wk.mk' [6] [0] ⟨⟨rfl, (by repeat' (first | exact trivial | rfl | apply And.intro))⟩, ⟨rfl, (by repeat' (first | exact trivial | rfl | apply And.intro))⟩, ⟨rfl, (by repeat' (first | exact trivial | rfl | apply And.intro))⟩, trivial⟩ (by repeat' (first | exact trivial | rfl | apply And.intro)) ⟨rfl, rfl⟩) ?_
    intro _ _
    conv => whnf
    exact Ret.mk' () [] [0] trivial rfl (by repeat' (first | exact trivial | rfl | apply And.intro)) (by repeat' (first | exact trivial | rfl | apply And.intro)) ⟨rfl, rfl⟩
  refine CallOb.new (newTable_c _ size hs) rfl fun g _ => ?_
  conv => whnf
  refine Cond.dec (fun _ => ?_) (fun h => absurd hs.1 h)
  conv => whnf
  refine Cond.tne (Cond.dec (fun _ => ?_) (fun h => absurd hs.2 h))
  conv => whnf
  intro b6
  conv => whnf
  refine LoopOb.mk' (σ := TkS) (fun s => [(0, .c (.int .i64 size)), (1, .c (.rs a0 acts.length c0)), (5, .c (.rp g 0)), (6, .c (.ptr 6 0)), (7, .c (.int .i64 s.i))])
    (fun s => ⟨[(6, b6)], [(6, tv s.a s.L.length s.c size, 60)], [Tb g size s.l, all [s.R, old W]]⟩)
    (fun s => s.i ≤ 60 ∧ goods s.l ∧ (s.l.length : Int) ≤ size ∧ s.l.map Mg.ab = s.L.map abM ∧ (∀ m ∈ s.L, m.inv) ∧ Rm (all [s.R, old W]) s.a s.L) (fun s => 60 - s.i) ⟨0, [], [], none, 0, all []⟩ ?_ ?_ ?_
  · exact ⟨Nat.zero_le _, fun _ h => (by cases h), by simp; omega, rfl, fun _ h => (by cases h), ⟨[], fun h _ => .inl rfl, rfl, fun c h => by simp at h, fun i x c h => by simp at h⟩⟩
  · refine Wk.turn (F' := [Tb g size [], all [all [], old W]]) (fun h s => ?_) (Wk.mk' [6] [0, 0] ⟨⟨rfl, (by repeat' (first | exact trivial | rfl | apply And.intro))⟩, ⟨rfl, (by repeat' (first | exact trivial | rfl | apply And.intro))⟩, ⟨rfl, (by repeat' (first | exact trivial | rfl | apply And.intro))⟩, ⟨rfl, (by repeat' (first | exact trivial | rfl | apply And.intro))⟩, ⟨rfl, (by repeat' (first | exact trivial | rfl | apply And.intro))⟩, trivial⟩ (by repeat' (first | exact trivial | rfl | apply And.intro)) ⟨rfl, rfl⟩)
    have s1 : seps [old W, Tb g size []] h := seps_pick [1, 0] rfl s
    have s2 : seps [all [all [], old W], Tb g size []] h := (seps_all (l := [all [], old W]) (m := [Tb g size []])).2 (seps_all0 s1)
    exact seps_pick [1, 0] rfl s2
  rintro ⟨i, l, L, a, c, R⟩ ⟨hi, hg, hle, hab, hinv, hr⟩
  dsimp only at hi hg hle hab hinv hr ⊢
  have hLl : L.length = l.length := by rw [← List.length_map (f := abM), ← hab, List.length_map]
  conv => whnf
  refine Cond.dec (fun h1 => ?_) (fun h1 => ?_)
  case refine_2 =>
    conv => whnf
    refine Ret.turn (F' := [R, old W, Tb g size l]) (fun h s => (seps_all (l := [R, old W]) (m := [Tb g size l])).1 (seps_pick [1, 0] rfl s)) ?_
    exact Ret.mk' () [] [1] trivial rfl (by repeat' (first | exact trivial | rfl | apply And.intro)) (by repeat' (first | exact trivial | rfl | apply And.intro)) ⟨rfl, rfl⟩
  conv => whnf
  refine Cond.dec (fun h2 => ?_) (fun h2 => ?_)
  case refine_2 =>
    conv => whnf
    refine Ret.turn (F' := [R, old W, Tb g size l]) (fun h s => (seps_all (l := [R, old W]) (m := [Tb g size l])).1 (seps_pick [1, 0] rfl s)) ?_
    exact Ret.mk' () [] [1] trivial rfl (by repeat' (first | exact trivial | rfl | apply And.intro)) (by repeat' (first | exact trivial | rfl | apply And.intro)) ⟨rfl, rfl⟩
  have hi' : i < acts.length := by omega
  have hE : Ent (all [R, old W]) (old W) := Ent.at 1 rfl
  conv => whnf
  refine ⟨by omega, row_ptr (n := 8) (A := all [R, old W]) (by simp) hE hacts (by omega) fun p hp => ?_⟩
  have hrq : Row (old W) (some (radr p)) 9 (ActR (old W)) acts := by rw [← hp]; exact hacts
  conv => whnf
  refine ldrow (n := 8) i (A := all [R, old W]) (by simp) hE hrq hi' rfl rfl rfl rfl fun cs hcs => ?_
  obtain ⟨t, ht⟩ : ∃ t, t = acts[i] := ⟨_, rfl⟩
  rw [← ht] at hcs
  obtain ⟨x, y, rfl, hx, hy, hw, hk0, hk1⟩ := hcs
  refine ⟨t.sg x y, rfl, (by repeat' (first | exact trivial | rfl | exact hk _ | apply And.intro)), rfl, ?_⟩
  conv => whnf
  intro b8
  conv => whnf
  refine CallOb.pu (sfits_c _ t.p x y) rfl ?_
  conv => whnf
  refine Cond.not (Cond.mk (fun hf => ?_) (fun hf => ?_))
  case refine_2 =>
    conv => whnf
    refine Ar.i64 (by omega) ?_
    conv => whnf
    exact ⟨⟨i + 1, l, L, a, c, R⟩, ⟨by dsimp only; omega, hg, hle, hab, hinv, hr⟩, by dsimp only; omega, Wk.mk' [6] [0, 0] ⟨⟨rfl, (by repeat' (first | exact trivial | rfl | apply And.intro))⟩, ⟨rfl, (by repeat' (first | exact trivial | rfl | apply And.intro))⟩, ⟨rfl, (by repeat' (first | exact trivial | rfl | apply And.intro))⟩, ⟨rfl, (by repeat' (first | exact trivial | rfl | apply And.intro))⟩, ⟨rfl, (by repeat' (first | exact trivial | rfl | apply And.intro))⟩, trivial⟩ (by repeat' (first | exact trivial | rfl | apply And.intro)) ⟨rfl, rfl⟩⟩
  conv => whnf
  refine ⟨by decide, ?_⟩
  conv => whnf
  refine Cond.eqI (fun h4 => ?_) (fun h4 => ?_)
  · conv => whnf
    refine CallOb.new (dexpire_c _ (all [R, old W]) (Ent.at 3 rfl) a c L size t.now hr (by omega)) rfl fun t1 ht1 => ?_
    obtain ⟨a1, c1, R1⟩ := t1
    dsimp only at ht1 ⊢
    conv => whnf
    intro b9
    conv => whnf
    refine CallOb.by' [] [1] (sexpire_c _ g size t.now (by omega) l (by omega)) rfl ⟨rfl, rfl, rfl, fun _ _ => ⟨rfl, ?_⟩⟩
    have hxl : (exM t.now l).length = (expD t.now L).length := by
      have := congrArg List.length (exp_same (now := t.now) hab)
      simpa [List.length_map] using this
    have hx1 : (exM t.now l).length ≤ l.length := by rw [hxl, ← hLl]; exact expD_le
    conv => whnf
    refine Cond.neI (fun h => absurd (by rw [hLl, hxl]) h) (fun _ => ?_)
    conv => whnf
    have hll := hxl
    have hg2 := exM_good (now := t.now) hg
    have hle2 : ((exM t.now l).length : Int) ≤ size := by omega
    have hab2 := exp_same (now := t.now) hab
    have hinv2 := expD_inv (now := t.now) hinv
    have hr5 := ht1
    refine Draw.part (by kernel_rfl) tt_ok (Tr.of [0, 2, 3, 4, 1, 5, 6, 7, 9, 8, 10, 11] .nil) 1000000 _ [] (by kernel_rfl) (fun k => k) (Sub.parts [9, 8, 6] [] ⟨rfl, rfl⟩ ?_)
    conv => whnf
    refine CallOb.by' [] [0] (tlen_c _ g size hs.1 (exM t.now l)) rfl ⟨rfl, rfl, rfl, fun _ _ => ⟨rfl, ?_⟩⟩
    conv => whnf
    refine Sub.parts [9, 8, 6] [] ⟨rfl, rfl⟩ ?_
    conv => whnf
    refine Cond.neI (fun h => absurd (by rw [hll]) h) (fun _ => ?_)
    conv => whnf
    refine CallOb.by' [] [0] (tlen_c _ g size hs.1 (exM t.now l)) rfl ⟨rfl, rfl, rfl, fun _ _ => ⟨rfl, ?_⟩⟩
    conv => whnf
    refine Sub.parts [9, 8, 6] [] ⟨rfl, rfl⟩ ?_
    conv => whnf
    refine Cond.dec (fun h => absurd hle2 (by omega)) (fun _ => ?_)
    conv => whnf
    refine Ar.i64 (by omega) ?_
    conv => whnf
    refine ⟨⟨i + 1, exM t.now l, expD t.now L, a1, c1, all [R1, R]⟩, ⟨by dsimp only; omega, hg2, hle2, hab2, hinv2, hr5.ent Ent.assoc⟩, by dsimp only; omega, ?_⟩
    refine Wk.turn (fun h s => assoc_seps (seps_pick [1, 2, 0] rfl s)) ?_
    exact Wk.mk' [6] [1, 0] ⟨⟨rfl, (by repeat' (first | exact trivial | rfl | apply And.intro))⟩, ⟨rfl, (by repeat' (first | exact trivial | rfl | apply And.intro))⟩, ⟨rfl, (by repeat' (first | exact trivial | rfl | apply And.intro))⟩, ⟨rfl, (by repeat' (first | exact trivial | rfl | apply And.intro))⟩, ⟨rfl, (by repeat' (first | exact trivial | rfl | apply And.intro))⟩, trivial⟩ (by repeat' (first | exact trivial | rfl | apply And.intro)) ⟨rfl, rfl⟩
  conv => whnf
  refine Draw.part (by kernel_rfl) tt_ok (Tr.up 14) 1000000 _ [all [R, old W]] (by kernel_rfl) (fun k => k) (Sub.parts [8, 6] [1] ⟨rfl, rfl⟩ ?_)
  conv => whnf
  refine CallOb.pu (stheirs_c _ t.p x y) rfl ?_
  conv => whnf
  refine Sub.parts [8, 6] [1] ⟨rfl, rfl⟩ ?_
  conv => whnf
  have hsame := take_same (room := size) (now := t.now) hinv hw
  rw [← hab] at hsame
  refine CallOb.by' [] [0] (take_k _ (old W) ((Ent.at 2 rfl).trans (Ent.at 1 rfl)) g size t.now hs l hg hle t.p x y hw hx rfl hsame.1) rfl ⟨rfl, rfl, rfl, fun t1 ht1 => ⟨rfl, ?_⟩⟩
  obtain ⟨l1, o1⟩ := t1
  obtain ⟨g1, e1, ho1⟩ := ht1
  dsimp only at g1 e1 ho1 ⊢
  conv => whnf
  refine Sub.parts [8, 6] [2] ⟨rfl, rfl⟩ ?_
  conv => whnf
  refine CallOb.new (dtake_c _ (all [R, old W]) (Ent.at 4 rfl) a c L size t.now t.p x y hw (hx.ent (Ent.at 1 rfl)) (hy.ent (Ent.at 1 rfl)) hr hinv (by omega)) rfl fun t2 ht2 => ?_
  obtain ⟨⟨a2, c2, R2⟩, o2⟩ := t2
  obtain ⟨hr2, ho2⟩ := ht2
  dsimp only at hr2 ho2 ⊢
  have hl12 : l1.length = (takeD size t.now t.p L).1.length := by
    have := congrArg List.length e1
    simpa [List.length_map] using this
  generalize htk : takeD size t.now t.p L = T at *
  obtain ⟨L1, out, ok, er⟩ := T
  dsimp only at *
  conv => whnf
  intro b14
  conv => whnf
  refine conv_str (l := out) (k := (out).length) (x := .c (.rs o1.1 (out).length o1.2)) Try.underlying23 Try.underlying5 Try.underlying9 (Src.rs (A := Own o1.1 o1.2 5 1 (u8s out)) (by exact List.mem_of_getElem? (i := 3) rfl) (Own.rd)) rfl (fun s h => by cases h) ?_
  conv => whnf
  refine conv_str (l := out) (k := (out).length) (x := .c (.rs o2.1 (out).length o2.2)) Try.underlying23 Try.underlying5 Try.underlying9 (Src.rs (A := Own o2.1 o2.2 5 1 (u8s out)) (by exact List.mem_of_getElem? (i := 1) rfl) (Own.rd)) rfl (fun s h => by cases h) ?_
  conv => whnf
  refine Cond.not (Cond.str (fun _ => ?_) (fun h => absurd rfl h))
  conv => whnf
  refine Cond.mk (fun h => absurd h (by simp)) (fun _ => ?_)
  conv => whnf
  refine Cond.neI (fun h => absurd rfl h) (fun _ => ?_)
  conv => whnf
  have hll := hl12
  have hg2 := g1
  have hle2 : (l1.length : Int) ≤ size := by
    have := take_le (room := size) (now := t.now) (c := t.p) (L := L) (by omega)
    rw [htk] at this; dsimp only at this
    omega
  have hab2 := e1
  have hinv2 := hsame.2
  have hr5 := hr2
  refine Draw.part (by kernel_rfl) tt_ok (Tr.of [0, 2, 3, 4, 1, 5, 6, 7, 9, 8, 10, 11] .nil) 1000000 _ [] (by kernel_rfl) (fun k => k) (Sub.parts [14, 8, 6] [] ⟨rfl, rfl⟩ ?_)
  conv => whnf
  refine CallOb.by' [] [2] (tlen_c _ g size hs.1 (l1)) rfl ⟨rfl, rfl, rfl, fun _ _ => ⟨rfl, ?_⟩⟩
  conv => whnf
  refine Sub.parts [14, 8, 6] [] ⟨rfl, rfl⟩ ?_
  conv => whnf
  refine Cond.neI (fun h => absurd (by rw [hll]) h) (fun _ => ?_)
  conv => whnf
  refine CallOb.by' [] [0] (tlen_c _ g size hs.1 (l1)) rfl ⟨rfl, rfl, rfl, fun _ _ => ⟨rfl, ?_⟩⟩
  conv => whnf
  refine Sub.parts [14, 8, 6] [] ⟨rfl, rfl⟩ ?_
  conv => whnf
  refine Cond.dec (fun h => absurd hle2 (by omega)) (fun _ => ?_)
  conv => whnf
  refine Ar.i64 (by omega) ?_
  conv => whnf
  refine ⟨⟨i + 1, l1, L1, a2, c2, all [R2, R]⟩, ⟨by dsimp only; omega, hg2, hle2, hab2, hinv2, hr5.ent Ent.assoc⟩, by dsimp only; omega, ?_⟩
  refine Wk.turn (fun h s => assoc_seps (seps_pick [1, 4, 0, 2, 3] rfl s)) ?_
  exact Wk.mk' [6] [1, 0] ⟨⟨rfl, (by repeat' (first | exact trivial | rfl | apply And.intro))⟩, ⟨rfl, (by repeat' (first | exact trivial | rfl | apply And.intro))⟩, ⟨rfl, (by repeat' (first | exact trivial | rfl | apply And.intro))⟩, ⟨rfl, (by repeat' (first | exact trivial | rfl | apply And.intro))⟩, ⟨rfl, (by repeat' (first | exact trivial | rfl | apply And.intro))⟩, trivial⟩ (by repeat' (first | exact trivial | rfl | apply And.intro)) ⟨rfl, rfl⟩
end Go.Proofs.Ytiimeklgjoclpaa
