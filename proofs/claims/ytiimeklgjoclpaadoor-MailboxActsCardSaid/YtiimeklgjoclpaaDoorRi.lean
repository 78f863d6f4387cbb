/- The document's boxes: what lay too long goes. -/
import Derived.Test.YtiimeklgjoclpaaDoorRh
namespace Go.Proofs.YtiimeklgjoclpaaDoor
open Go.Sx
set_option maxRecDepth 100000
set_option pp.deepTerms false
set_option pp.maxSteps 300
set_option linter.unusedSimpArgs false
set_option linter.unusedVariables false

theorem seps_nest {p : HProp} {M : List HProp} {h : Hp} (s : seps (p :: M) h) : seps [p, all M] h := seps_perm (.swap _ _ _) (seps_all.2 (seps_perm (List.perm_append_comm (l₁ := [p])) s))
theorem Ent.deep {X Y R Q : HProp} : Ent (all [all [all [X, Y], R], Q]) (all [X, all [Y, all [R, Q]]]) := Ent.seps fun h s => by
  have s1 : seps [X, Y, R, Q] h := seps_all.1 (seps_all.1 s)
  have s2 : seps [X, all [Y, R, Q]] h := seps_nest s1
  exact seps_perm (.swap _ _ _) (seps_imp (fun g t => seps_nest t) (seps_perm (.swap _ _ _) s2))
theorem seps_deep {X Y R A : HProp} {h : Hp} (s : seps [all [X, Y], all [R, A]] h) : seps [all [all [all [X, Y], R], A]] h := by
  have s1 : seps [X, Y, all [R, A]] h := seps_all.1 s
  have s2 : seps [R, A, X, Y] h := seps_all.1 (seps_perm (List.perm_append_comm (l₁ := [X, Y]) (l₂ := [all [R, A]])) s1)
  have s3 : seps [X, Y, R, A] h := seps_perm (List.perm_append_comm (l₁ := [R, A]) (l₂ := [X, Y])) s2
  have s4 : seps [all [X, Y], R, A] h := seps_all.2 s3
  have s5 : seps [all [all [X, Y], R], A] h := seps_all.2 s4
  exact (seps_all (l := [all [all [X, Y], R], A]) (m := [])).2 s5
theorem pair1 {R A Q : HProp} (hE : Ent A Q) : Ent (all [R, A]) (all [R, Q]) := Ent.pair [0, 0] ⟨rfl, trivial⟩ hE
abbrev RBx.young (now : Int) (x : RBx) : RBx := { x with l := x.l.filter fun e => decide (e.since > now - 256) }
def rolds (now : Int) : List RBx → Nat
  | [] => 0
  | x :: r => (x.l.length - (x.young now).l.length) + rolds now r
theorem rolds_le (now : Int) : ∀ (xs : List RBx), (∀ x ∈ xs, x.l.length ≤ 1000) → rolds now xs ≤ 1000 * xs.length
  | [], _ => by simp [rolds]
  | x :: r, h => by
    have := rolds_le now r fun y hy => h y (by simp [hy])
    have := h x (by simp)
    simp [rolds]; omega
theorem rw_len {Q : HProp} {a : Option Addr} {ls : List RBx} (h : Rw Q a ls) : ∀ x ∈ ls, x.l.length ≤ 1000 := by
  obtain ⟨css, h1, h2, h3, h4⟩ := h.h
  intro x hx
  obtain ⟨i, hi⟩ := List.getElem?_of_mem hx
  have hlt := (List.getElem?_eq_some_iff.1 hi).1
  obtain ⟨_, _, _, _, _, _, h5⟩ := h4 i x _ hi (List.getElem?_eq_getElem (by omega))
  exact h5
theorem rexpireArg_c (A : HProp) (a : Option Addr) (n cap : Nat) (most now : Int) (hn : ¬ (now ≥ 0 ∧ now ≤ 1099511627776)) : Pu Tryd.prog 18 [.agg (bv a n cap most), .c (.int .i64 now)] A (bse a n cap most 0) := by
  refine Con.of' tt_ok Tryd.func18 rfl (by decide) [.agg (bv a n cap most), .c (.int .i64 now)] [] [] rfl rfl trivial ⟨⟨trivial, trivial, trivial⟩, trivial, trivial⟩ rfl ?_
  conv => whnf
  intro b2
  conv => whnf
  intro b4
  conv => whnf
  refine CallOb.pu (rclock_c _ now) rfl ?_
  conv => whnf
  refine Cond.not (Cond.mk (fun h => absurd (by simpa using h) hn) (fun _ => ?_))
  conv => whnf
  exact Ret.mk' () [] [0] trivial rfl (by repeat' (first | exact trivial | rfl | apply And.intro)) (by repeat' (first | exact trivial | rfl | apply And.intro)) ⟨rfl, rfl⟩
structure XS where
  i : Nat
  n : Nat
  a : Option Addr
  c : Nat
  R : HProp
theorem mid_get {α : Type} {pre post : List α} {x : α} {i : Nat} (h : pre.length = i) : (pre ++ x :: post)[i]'(by simp; omega) = x := by subst h; simp
set_option maxHeartbeats 1000000 in
theorem rexpire_c (A Q : HProp) (hE : Ent A Q) (a : Option Addr) (cap : Nat) (ls : List RBx) (most now : Int) (hn : now ≥ 0 ∧ now ≤ 1099511627776) (hr : Rw Q a ls) (hl : ls.length ≤ 1000000) :
    Con Tryd.prog 18 [.agg (bv a ls.length cap most), .c (.int .i64 now)] [] [] A (fun t : Option Addr × Nat × HProp => Rw (all [t.2.2, Q]) t.1 (ls.map (RBx.young now))) (fun t => bse t.1 ls.length t.2.1 most (rolds now ls)) (fun _ => []) (fun t => [t.2.2]) := by
  have hmax := rolds_le now ls (rw_len hr)
  refine Con.of' tt_ok Tryd.func18 rfl (by decide) [.agg (bv a ls.length cap most), .c (.int .i64 now)] [] [] rfl rfl trivial ⟨⟨trivial, trivial, trivial⟩, trivial, trivial⟩ rfl ?_
  conv => whnf
  intro b2
  conv => whnf
  intro b4
  conv => whnf
  refine CallOb.pu (rclock_c _ now) rfl ?_
  conv => whnf
  refine Cond.not (Cond.mk (fun _ => ?_) (fun h => by rw [decide_eq_true hn.1, decide_eq_true hn.2] at h; cases h))
  conv => whnf
  refine LoopOb.mk' (σ := XS) (fun s => [(1, .c (.int .i64 now)), (2, .c (.ptr 2 0)), (4, .c (.ptr 4 0)), (6, .c (.int .i64 s.n)), (7, .c (.int .i64 s.i))])
    (fun s => ⟨[(4, b4), (2, b2)], [(4, bz, 54), (2, bv s.a ls.length s.c most, 54)], [all [s.R, A]]⟩)
    (fun s => s.i ≤ ls.length ∧ s.n + rolds now (ls.drop s.i) = rolds now ls ∧ Rw (all [s.R, Q]) s.a ((ls.take s.i).map (RBx.young now) ++ ls.drop s.i)) (fun s => ls.length - s.i) ⟨0, 0, a, cap, all []⟩ ⟨Nat.zero_le _, by simp, by simpa using hr.ent (Ent.at 1 rfl)⟩ ?_ ?_
  · refine Wk.turn (F' := [all [all [], A]]) (fun _ s => ?_) ?_
    · exact (seps_all (l := [all [], A]) (m := [])).2 ((seps_all (l := []) (m := [A])).2 s)
    · exact Wk.mk' [4, 2] [0] (by repeat' (first | exact trivial | rfl | apply And.intro)) (by repeat' (first | exact trivial | rfl | apply And.intro)) ⟨rfl, rfl⟩
  rintro ⟨i, n, a1, c1, R⟩ ⟨hi, hn1, hr1⟩
  dsimp only at hi hn1 hr1 ⊢
  have hE1 : Ent (all [R, A]) (all [R, Q]) := pair1 hE
  conv => whnf
  refine Cond.dec (fun h => ?_) (fun h => ?_)
  · have hi' : i < ls.length := by omega
    have hsp : ls.drop i = ls[i] :: ls.drop (i + 1) := List.drop_eq_getElem_cons hi'
    have hpl : ((ls.take i).map (RBx.young now)).length = i := by rw [List.length_map, List.length_take]; omega
    have htk : ls.take (i + 1) = ls.take i ++ [ls[i]] := List.take_succ_eq_append_getElem hi'
    generalize ls[i] = x at hsp htk
    rw [hsp] at hr1 hn1
    have hcl : ((ls.take i).map (RBx.young now) ++ x :: ls.drop (i + 1)).length = ls.length := by rw [List.length_append, List.length_cons, hpl, List.length_drop]; omega
    generalize hpre : (ls.take i).map (RBx.young now) = pre at hr1 hpl hcl
    generalize hpost : ls.drop (i + 1) = post at hr1 hcl hn1
    have hge := mid_get (x := x) (post := post) hpl
    conv => whnf
    refine ⟨by omega, row_ptr (n := 34) (A := all [R, A]) (by simp) hE1 hr1 (by omega) fun q hq => ?_⟩
    have hr2 : Rw (all [R, Q]) (some (radr q)) (pre ++ x :: post) := by rw [← hq]; exact hr1
    conv => whnf
    refine ldrow (n := 34) i (A := all [R, A]) (by simp) hE1 hr2 (by omega) rfl rfl rfl rfl fun cs hcs => ?_
    rw [hge] at hcs
    obtain ⟨ax, cx, rfl, hx1, hx2, hx3, hx4⟩ := hcs
    have hkx := RBx.okL hx3 ax cx
    refine ⟨x.sg ax cx, rfl, hkx _, rfl, ?_⟩
    conv => whnf
    intro b8
    conv => whnf
    refine LoopOb.mk' (σ := LS) (fun s => [(1, .c (.int .i64 now)), (2, .c (.ptr 2 0)), (4, .c (.ptr 4 0)), (6, .c (.int .i64 n)), (7, .c (.int .i64 i)), (8, .c (.ptr 8 0)), (9, .c (.rs s.a ((x.l.take s.k).filter fun e => decide (e.since > now - 256)).length s.c)), (10, .c (.int .i64 s.k))])
      (fun s => ⟨[(8, b8), (4, b4), (2, b2)], [(8, x.sg ax cx, 93), (4, bz, 54), (2, bv a1 ls.length c1 most, 54)], [Own s.a s.c 95 14 s.xs, all [R, A]]⟩)
      (fun s => s.k ≤ x.l.length ∧ OwnRow s.xs 14 (EnR (all [R, Q])) ((x.l.take s.k).filter fun e => decide (e.since > now - 256)) ∧ ((x.l.take s.k).filter fun e => decide (e.since > now - 256)).length ≤ s.c) (fun s => x.l.length - s.k) ⟨0, none, 0, []⟩ ⟨Nat.zero_le _, .nil, Nat.zero_le _⟩ ?_ ?_
    · refine Wk.own0 95 14 ?_
      exact Wk.mk' [8, 4, 2] [0, 0] (by repeat' (first | exact trivial | rfl | apply And.intro)) ⟨⟨trivial, hkx _⟩, (by repeat' (first | exact trivial | rfl | apply And.intro)), (by repeat' (first | exact trivial | rfl | apply And.intro)), trivial⟩ ⟨rfl, rfl⟩
    rintro ⟨k, a2, c2, xs⟩ ⟨hk, hxs, hc2⟩
    dsimp only at hk hxs hc2 ⊢
    have hfl : ((x.l.take k).filter fun e => decide (e.since > now - 256)).length ≤ k := Nat.le_trans (List.length_filter_le _ _) (by rw [List.length_take]; omega)
    generalize hL : (x.l.take k).filter (fun e => decide (e.since > now - 256)) = L at hxs hc2 hfl ⊢
    conv => whnf
    refine Cond.dec (fun h7 => ?_) (fun h7 => ?_)
    · have hk' : k < x.l.length := by omega
      have hft := filter_take_succ (fun e : REn => decide (e.since > now - 256)) hk'
      rw [hL] at hft
      conv => whnf
      refine ⟨by omega, row_ptr (n := 13) (A := all [R, A]) (by simp) hE1 hx1 (by omega) fun q1 hq1 => ?_⟩
      have hx1' : Re (all [R, Q]) (some (radr q1)) x.l := by rw [← hq1]; exact hx1
      conv => whnf
      refine ldcell (n := 13) k 1 (A := all [R, A]) (by simp) hE1 hx1' hk' (by decide) rfl rfl rfl fun cs hcs => ?_
      obtain ⟨ae, ce, rfl, he1, he2⟩ := hcs
      refine ⟨.int .i64 x.l[k].since, rfl, trivial, ?_⟩
      conv => whnf
      refine Ar.i64 (by omega) ?_
      conv => whnf
      refine Cond.dec (fun h8 => ?_) (fun h8 => ?_)
      · rw [if_pos (decide_eq_true h8)] at hft
        conv => whnf
        refine ⟨by omega, row_ptr (n := 13) (A := all [R, A]) (by simp) hE1 hx1 (by omega) fun q2 hq2 => ?_⟩
        have hx2' : Re (all [R, Q]) (some (radr q2)) x.l := by rw [← hq2]; exact hx1
        conv => whnf
        refine ldrow (n := 13) k (A := all [R, A]) (by simp) hE1 hx2' hk' rfl rfl rfl rfl fun cs hcs => ?_
        have hcs0 := hcs
        obtain ⟨ae2, ce2, rfl, he3, he4⟩ := hcs
        have hky := REn.okL he4 ae2 ce2
        generalize x.l[k] = e at hft hcs0 hky he3 he4 h8 ⊢
        refine ⟨e.sg ae2 ce2, rfl, hky _, rfl, ?_⟩
        conv => whnf
        intro b49
        conv => whnf
        refine append_own (a := a2) (n := L.length) (cap := c2) (xs := xs) (k := 1) (ys := dens [] (e.sg ae2 ce2)) (src := .c (.slc 49 0 1 1)) (F' := [all [R, A]]) (.refl _) (by rw [hxs.len]) (by rw [hcs0.len]; rfl) (by exact Src.slc (Exists.intro [] (List.append_nil _).symm)) (dens_one_cell (okL_spec (hky []))) (by show (L.length + 1 + (L.length + 1) / 4 + 192) * 72 ≤ _; omega) (by omega) (by decide) 55 (.inr rfl) ?_
        intro a3 c3 hc3 hn3
        conv => whnf
        refine Ar.i64 (by omega) ?_
        conv => whnf
        refine ⟨⟨k + 1, a3, c3, xs ++ dens [] (e.sg ae2 ce2)⟩, ⟨by dsimp only; omega, by dsimp only; rw [hft]; exact hxs.snoc (fun _ _ h => h) hcs0.len hcs0, by dsimp only; rw [hft, List.length_append]; exact hc3⟩, by dsimp only; omega, Wk.mk' [8, 4, 2] [0, 0] ⟨⟨rfl, trivial⟩, ⟨rfl, trivial⟩, ⟨rfl, trivial⟩, ⟨rfl, trivial⟩, ⟨rfl, trivial⟩, ⟨rfl, trivial⟩, ⟨?_, trivial⟩, ⟨rfl, trivial⟩, trivial⟩ ⟨⟨trivial, hkx _⟩, (by repeat' (first | exact trivial | rfl | apply And.intro)), (by repeat' (first | exact trivial | rfl | apply And.intro)), trivial⟩ ⟨rfl, rfl⟩⟩
        show Value.slice a3 _ c3 = Value.slice a3 _ c3
        rw [hft, List.length_append]; rfl
      · rw [if_neg (by simpa using h8), List.append_nil] at hft
        conv => whnf
        refine Ar.i64 (by omega) ?_
        conv => whnf
        refine ⟨⟨k + 1, a2, c2, xs⟩, ⟨by dsimp only; omega, by dsimp only; rw [hft]; exact hxs, by dsimp only; rw [hft]; exact hc2⟩, by dsimp only; omega, Wk.mk' [8, 4, 2] [0, 0] ⟨⟨rfl, trivial⟩, ⟨rfl, trivial⟩, ⟨rfl, trivial⟩, ⟨rfl, trivial⟩, ⟨rfl, trivial⟩, ⟨rfl, trivial⟩, ⟨?_, trivial⟩, ⟨rfl, trivial⟩, trivial⟩ ⟨⟨trivial, hkx _⟩, (by repeat' (first | exact trivial | rfl | apply And.intro)), (by repeat' (first | exact trivial | rfl | apply And.intro)), trivial⟩ ⟨rfl, rfl⟩⟩
        show Value.slice a2 _ c2 = Value.slice a2 _ c2
        rw [hft]
    have hk' : k = x.l.length := by omega
    subst hk'
    rw [List.take_length] at hL
    subst hL
    have hrow := ownRe (a := a2) (c := c2) (e := 95) hxs
    have hcnt : rolds now (x :: post) = (x.l.length - (x.young now).l.length) + rolds now post := rfl
    have hyl : (x.young now).l.length ≤ x.l.length := List.length_filter_le _ _
    conv => whnf
    refine Ar.i64 (by dsimp only at hyl hcnt; omega) ?_
    conv => whnf
    refine Ar.i64 (by dsimp only at hyl hcnt; omega) ?_
    conv => whnf
    have hQ2 : BxR (all [Own a2 c2 95 14 xs, all [R, Q]]) (x.young now) (dens [] ((x.young now).sg a2 c2)) := ⟨a2, c2, rfl, hrow, hc2, hx3, by omega⟩
    refine CallOb.new (rput_c _ (all [Own a2 c2 95 14 xs, all [R, Q]]) (by exact Ent.pair [3, 3] ⟨rfl, trivial⟩ hE1) a1 c1 (pre ++ x :: post) most (hr1.ent (Ent.at 1 rfl)) (by omega) i (by omega) (x.young now) a2 c2 hQ2) (by rw [hcl]; rfl) fun t ht => ?_
    obtain ⟨a3, c3, xs3⟩ := t
    have hfin := (ownRw (a := a3) (c := c3) (e := 93) ht.1).ent (Ent.deep (X := Own a3 c3 93 35 xs3) (Y := Own a2 c2 95 14 xs) (R := R) (Q := Q))
    have hset : (pre ++ x :: post).set i (x.young now) = pre ++ x.young now :: post := by rw [← hpl]; exact set_mid
    rw [hset] at hfin
    conv => whnf
    refine Ar.i64 (by omega) ?_
    conv => whnf
    refine ⟨⟨i + 1, n + (x.l.length - (x.young now).l.length), a3, c3, all [all [Own a3 c3 93 35 xs3, Own a2 c2 95 14 xs], R]⟩, ⟨by dsimp only; omega, by show n + (x.l.length - (x.young now).l.length) + rolds now (ls.drop (i + 1)) = _; rw [hpost]; omega, ?_⟩, by dsimp only; omega, ?_⟩
    · dsimp only
      rw [htk, List.map_append, hpre, hpost, List.append_assoc]; exact hfin
    · refine Wk.grp [] [0, 0] ?_
      refine Wk.turn (fun _ s => seps_deep s) ?_
      refine Wk.mk' [4, 2] [0] ⟨⟨rfl, trivial⟩, ⟨rfl, trivial⟩, ⟨rfl, trivial⟩, ⟨?_, trivial⟩, ⟨rfl, trivial⟩, trivial⟩ (by repeat' (first | exact trivial | rfl | apply And.intro)) ⟨?_, rfl⟩
      · show Value.int .i64 _ = Value.int .i64 _
        congr 1
        dsimp only at hyl ⊢
        omega
      · rw [hcl]; rfl
  have hi' : i = ls.length := by omega
  subst hi'
  rw [List.drop_length, List.append_nil, List.take_length] at hr1
  rw [List.drop_length] at hn1
  have hn2 : n = rolds now ls := hn1
  subst hn2
  conv => whnf
  refine Ret.turn (F' := [R, A]) (fun _ s => (seps_all (l := [R, A]) (m := [])).1 s) ?_
  exact Ret.mk' (a1, c1, R) [] [0, 0] hr1 rfl (by repeat' (first | exact trivial | rfl | apply And.intro)) (by repeat' (first | exact trivial | rfl | apply And.intro)) ⟨rfl, rfl⟩
end Go.Proofs.YtiimeklgjoclpaaDoor
