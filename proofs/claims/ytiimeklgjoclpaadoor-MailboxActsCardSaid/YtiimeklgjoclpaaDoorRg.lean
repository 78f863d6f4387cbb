/- The document's boxes: something is laid into one. -/
import Derived.Test.YtiimeklgjoclpaaDoorRf
namespace Go.Proofs.YtiimeklgjoclpaaDoor
open Go.Sx
set_option maxRecDepth 100000
set_option pp.deepTerms false
set_option pp.maxSteps 300
set_option linter.unusedSimpArgs false
set_option linter.unusedVariables false

theorem Ent.pair {L : List HProp} {X A Q : HProp} (is : List Nat) (h : pickF is L fun l _ => l = [X, A] ∧ True) (hE : Ent A Q) : Ent (Sx.all L) (Sx.all [X, Q]) :=
  (Ent.sub is h).trans (Ent.seps fun h s => by
    obtain ⟨g, k, d, hg, hk, hx, g2, k2, d2, hg2, hk2, ha, _⟩ := s
    obtain ⟨g3, hl, hq⟩ := hE g2 ha
    exact ⟨g, k, d, hg, hk, hx, g3, k2, d2.sub hl (.refl _), hl.trans hg2, hk2, hq, trivial⟩)
theorem set_mid {α : Type} {pre post : List α} {x y : α} : (pre ++ x :: post).set pre.length y = pre ++ y :: post := by simp
abbrev Re (Q : HProp) (a : Option Addr) (l : List REn) : Prop := Row Q a 14 (EnR Q) l
theorem Re.ent {Q Q' : HProp} (e : Ent Q' Q) {a : Option Addr} {l : List REn} (h : Re Q a l) : Re Q' a l := Row.ent h e fun _ _ => EnR.ent e
theorem ownRe {a : Option Addr} {c e : Nat} {xs : List Value} {Q : HProp} {l : List REn} (h : OwnRow xs 14 (EnR Q) l) : Re (all [Own a c e 14 xs, Q]) a l := by
  have h1 := h.row (R := all [Own a c e 14 xs, Q]) (a := a) (Rd.ent (Ent.at 0 rfl) Own.rd)
  exact h1.ent (Ent.refl _) fun _ _ => EnR.ent (Ent.at 1 rfl)
theorem re_own {Q : HProp} {a : Option Addr} {l : List REn} (h : Re Q a l) : ∃ xs, Rd Q a xs ∧ OwnRow xs 14 (EnR Q) l ∧ ∀ v ∈ xs, v.oneCell' = true := by
  obtain ⟨css, h1, h2, h3, h4⟩ := h.h
  refine ⟨css.flatten, h1, ⟨css, rfl, h2, h3, h4⟩, fun v hv => ?_⟩
  obtain ⟨c, hc, hv⟩ := List.mem_flatten.1 hv
  obtain ⟨i, hi⟩ := List.getElem?_of_mem hc
  have hlt := (List.getElem?_eq_some_iff.1 hi).1
  obtain ⟨a1, c1, rfl, _, hk⟩ := h4 i _ c (List.getElem?_eq_getElem (by omega)) hi
  exact dens_one_cell (okL_spec (REn.okL hk a1 c1 [])) v hv
theorem rputArg_c (A : HProp) (a : Option Addr) (n cap : Nat) (most now : Int) (c : Cmd) (hc : c.id.length = 8) (ab : Option Addr) (cb : Nat) (b : List UInt8) (hp : ¬ putOk now c b) :
    Pu Tryd.prog 20 [.agg (bv a n cap most), .c (.int .i64 now), .agg c.sg, .c (.rs ab b.length cb)] A (bse a n cap most 2) := by
  have hk8 := many_ok hc
  refine Con.of' tt_ok Tryd.func20 rfl (by decide) [.agg (bv a n cap most), .c (.int .i64 now), .agg c.sg, .c (.rs ab b.length cb)] [] [] rfl rfl trivial ⟨⟨trivial, trivial, trivial⟩, trivial, ⟨trivial, trivial, trivial, hk8 _, trivial⟩, trivial, trivial⟩ rfl ?_
  conv => whnf
  intro b4
  conv => whnf
  intro b6
  conv => whnf
  intro b8
  conv => whnf
  refine CallOb.pu (rclock_c _ now) rfl ?_
  conv => whnf
  refine Cond.not (Cond.mk (fun h1 => ?_) (fun h1 => ?_))
  case refine_2 =>
    conv => whnf
    exact Ret.mk' () [] [0] trivial rfl (by repeat' (first | exact trivial | rfl | apply And.intro)) (by repeat' (first | exact trivial | rfl | apply And.intro)) ⟨rfl, rfl⟩
  have h1' : now ≥ 0 ∧ now ≤ 1099511627776 := by simpa using h1
  conv => whnf
  refine CallOb.pu (rmay_c _ c hc) rfl ?_
  conv => whnf
  refine Cond.not (Cond.mk (fun h2 => ?_) (fun h2 => ?_))
  case refine_2 =>
    conv => whnf
    exact Ret.mk' () [] [0] trivial rfl (by repeat' (first | exact trivial | rfl | apply And.intro)) (by repeat' (first | exact trivial | rfl | apply And.intro)) ⟨rfl, rfl⟩
  conv => whnf
  refine Cond.neI (fun h3 => ?_) (fun h3 => ?_)
  · conv => whnf
    refine Cond.neI (fun h4 => ?_) (fun h4 => ?_)
    · conv => whnf
      exact Ret.mk' () [] [0] trivial rfl (by repeat' (first | exact trivial | rfl | apply And.intro)) (by repeat' (first | exact trivial | rfl | apply And.intro)) ⟨rfl, rfl⟩
    conv => whnf
    refine Cond.dec (fun h5 => ?_) (fun h5 => absurd ⟨h1', h2, .inr h4, by omega⟩ hp)
    conv => whnf
    exact Ret.mk' () [] [0] trivial rfl (by repeat' (first | exact trivial | rfl | apply And.intro)) (by repeat' (first | exact trivial | rfl | apply And.intro)) ⟨rfl, rfl⟩
  conv => whnf
  refine Cond.dec (fun h5 => ?_) (fun h5 => absurd ⟨h1', h2, .inl h3, by omega⟩ hp)
  conv => whnf
  exact Ret.mk' () [] [0] trivial rfl (by repeat' (first | exact trivial | rfl | apply And.intro)) (by repeat' (first | exact trivial | rfl | apply And.intro)) ⟨rfl, rfl⟩
theorem rputNone_c (A Q : HProp) (hE : Ent A Q) (a : Option Addr) (cap : Nat) (ls : List RBx) (most now : Int) (c : Cmd) (hc : c.id.length = 8) (ab : Option Addr) (cb : Nat) (b : List UInt8) (hp : putOk now c b) (hr : Rw Q a ls) (hl : ls.length ≤ 1000000) (hx : ∀ x ∈ ls, x.u ≠ c.n) :
    Pu Tryd.prog 20 [.agg (bv a ls.length cap most), .c (.int .i64 now), .agg c.sg, .c (.rs ab b.length cb)] A (bse a ls.length cap most 9) := by
  have hk8 := many_ok hc
  refine Con.of' tt_ok Tryd.func20 rfl (by decide) [.agg (bv a ls.length cap most), .c (.int .i64 now), .agg c.sg, .c (.rs ab b.length cb)] [] [] rfl rfl trivial ⟨⟨trivial, trivial, trivial⟩, trivial, ⟨trivial, trivial, trivial, hk8 _, trivial⟩, trivial, trivial⟩ rfl ?_
  conv => whnf
  intro b4
  conv => whnf
  intro b6
  conv => whnf
  intro b8
  conv => whnf
  refine CallOb.pu (rclock_c _ now) rfl ?_
  conv => whnf
  refine Cond.not (Cond.mk (fun _ => ?_) (fun h => by rw [decide_eq_true hp.1.1, decide_eq_true hp.1.2] at h; cases h))
  conv => whnf
  refine CallOb.pu (rmay_c _ c hc) rfl ?_
  conv => whnf
  refine Cond.not (Cond.mk (fun _ => ?_) (fun h => by rw [hp.2.1] at h; cases h))
  conv => whnf
  refine Cond.neI (fun h3 => ?_) (fun h3 => ?_)
  · conv => whnf
    refine Cond.neI (fun h4 => absurd hp.2.2.1 (by omega)) (fun h4 => ?_)
    conv => whnf
    refine Cond.dec (fun h => by exfalso; have := hp.2.2.2; omega) (fun _ => ?_)
    conv => whnf
    refine CallOb.pu (rfind_c _ Q ((Ent.all (by first | (simp; done) | (simp [M.props]; done) | (simp [M.props]; first | (left; rfl) | (right; left; rfl) | (right; right; left; rfl) | (right; right; right; left; rfl) | (right; right; right; right; left; rfl)) | exact (.head _ : List.Mem _ _) | exact (.tail _ (.head _) : List.Mem _ _) | exact (.tail _ (.tail _ (.head _)) : List.Mem _ _) | exact (.tail _ (.tail _ (.tail _ (.head _))) : List.Mem _ _) | exact (.tail _ (.tail _ (.tail _ (.tail _ (.head _)))) : List.Mem _ _) | exact (.tail _ (.tail _ (.tail _ (.tail _ (.tail _ (.head _))))) : List.Mem _ _) | exact (.tail _ (.tail _ (.tail _ (.tail _ (.tail _ (.tail _ (.head _)))))) : List.Mem _ _) | exact (.tail _ (.tail _ (.tail _ (.tail _ (.tail _ (.tail _ (.tail _ (.head _))))))) : List.Mem _ _) | exact (.tail _ (.tail _ (.tail _ (.tail _ (.tail _ (.tail _ (.tail _ (.tail _ (.head _)))))))) : List.Mem _ _))).trans hE) a cap ls most c.n hr hl) rfl ?_
    rw [fnd_none hx]
    conv => whnf
    refine Cond.dec (fun _ => ?_) (fun h => absurd (by decide) h)
    conv => whnf
    exact Ret.mk' () [] [0] trivial rfl (by repeat' (first | exact trivial | rfl | apply And.intro)) (by repeat' (first | exact trivial | rfl | apply And.intro)) ⟨rfl, rfl⟩
  · conv => whnf
    refine Cond.dec (fun h => by exfalso; have := hp.2.2.2; omega) (fun _ => ?_)
    conv => whnf
    refine CallOb.pu (rfind_c _ Q ((Ent.all (by first | (simp; done) | (simp [M.props]; done) | (simp [M.props]; first | (left; rfl) | (right; left; rfl) | (right; right; left; rfl) | (right; right; right; left; rfl) | (right; right; right; right; left; rfl)) | exact (.head _ : List.Mem _ _) | exact (.tail _ (.head _) : List.Mem _ _) | exact (.tail _ (.tail _ (.head _)) : List.Mem _ _) | exact (.tail _ (.tail _ (.tail _ (.head _))) : List.Mem _ _) | exact (.tail _ (.tail _ (.tail _ (.tail _ (.head _)))) : List.Mem _ _) | exact (.tail _ (.tail _ (.tail _ (.tail _ (.tail _ (.head _))))) : List.Mem _ _) | exact (.tail _ (.tail _ (.tail _ (.tail _ (.tail _ (.tail _ (.head _)))))) : List.Mem _ _) | exact (.tail _ (.tail _ (.tail _ (.tail _ (.tail _ (.tail _ (.tail _ (.head _))))))) : List.Mem _ _) | exact (.tail _ (.tail _ (.tail _ (.tail _ (.tail _ (.tail _ (.tail _ (.tail _ (.head _)))))))) : List.Mem _ _))).trans hE) a cap ls most c.n hr hl) rfl ?_
    rw [fnd_none hx]
    conv => whnf
    refine Cond.dec (fun _ => ?_) (fun h => absurd (by decide) h)
    conv => whnf
    exact Ret.mk' () [] [0] trivial rfl (by repeat' (first | exact trivial | rfl | apply And.intro)) (by repeat' (first | exact trivial | rfl | apply And.intro)) ⟨rfl, rfl⟩
theorem rputFull_c (A Q : HProp) (hE : Ent A Q) (a : Option Addr) (cap : Nat) (pre post : List RBx) (x : RBx) (most now : Int) (c : Cmd) (hc : c.id.length = 8) (ab : Option Addr) (cb : Nat) (b : List UInt8) (hp : putOk now c b) (hr : Rw Q a (pre ++ x :: post)) (hl : (pre ++ x :: post).length ≤ 1000000) (hx : x.u = c.n) (hpre : ∀ y ∈ pre, y.u ≠ c.n) (hroom : most ≤ x.l.length) :
    Pu Tryd.prog 20 [.agg (bv a (pre ++ x :: post).length cap most), .c (.int .i64 now), .agg c.sg, .c (.rs ab b.length cb)] A (bse a (pre ++ x :: post).length cap most 8) := by
  have hk8 := many_ok hc
  refine Con.of' tt_ok Tryd.func20 rfl (by decide) [.agg (bv a (pre ++ x :: post).length cap most), .c (.int .i64 now), .agg c.sg, .c (.rs ab b.length cb)] [] [] rfl rfl trivial ⟨⟨trivial, trivial, trivial⟩, trivial, ⟨trivial, trivial, trivial, hk8 _, trivial⟩, trivial, trivial⟩ rfl ?_
  conv => whnf
  intro b4
  conv => whnf
  intro b6
  conv => whnf
  intro b8
  conv => whnf
  refine CallOb.pu (rclock_c _ now) rfl ?_
  conv => whnf
  refine Cond.not (Cond.mk (fun _ => ?_) (fun h => by rw [decide_eq_true hp.1.1, decide_eq_true hp.1.2] at h; cases h))
  conv => whnf
  refine CallOb.pu (rmay_c _ c hc) rfl ?_
  conv => whnf
  refine Cond.not (Cond.mk (fun _ => ?_) (fun h => by rw [hp.2.1] at h; cases h))
  conv => whnf
  refine Cond.neI (fun h3 => ?_) (fun h3 => ?_)
  · conv => whnf
    refine Cond.neI (fun h4 => absurd hp.2.2.1 (by omega)) (fun h4 => ?_)
    conv => whnf
    refine Cond.dec (fun h => by exfalso; have := hp.2.2.2; omega) (fun _ => ?_)
    conv => whnf
    refine CallOb.pu (rfind_c _ Q ((Ent.all (by first | (simp; done) | (simp [M.props]; done) | (simp [M.props]; first | (left; rfl) | (right; left; rfl) | (right; right; left; rfl) | (right; right; right; left; rfl) | (right; right; right; right; left; rfl)) | exact (.head _ : List.Mem _ _) | exact (.tail _ (.head _) : List.Mem _ _) | exact (.tail _ (.tail _ (.head _)) : List.Mem _ _) | exact (.tail _ (.tail _ (.tail _ (.head _))) : List.Mem _ _) | exact (.tail _ (.tail _ (.tail _ (.tail _ (.head _)))) : List.Mem _ _) | exact (.tail _ (.tail _ (.tail _ (.tail _ (.tail _ (.head _))))) : List.Mem _ _) | exact (.tail _ (.tail _ (.tail _ (.tail _ (.tail _ (.tail _ (.head _)))))) : List.Mem _ _) | exact (.tail _ (.tail _ (.tail _ (.tail _ (.tail _ (.tail _ (.tail _ (.head _))))))) : List.Mem _ _) | exact (.tail _ (.tail _ (.tail _ (.tail _ (.tail _ (.tail _ (.tail _ (.tail _ (.head _)))))))) : List.Mem _ _))).trans hE) a cap (pre ++ x :: post) most c.n hr hl) rfl ?_
    rw [fnd_at hx hpre]
    conv => whnf
    have hpl : pre.length < (pre ++ x :: post).length := by simp
    have hge : (pre ++ x :: post)[pre.length]'hpl = x := by simp
    refine Cond.dec (fun h => absurd h (by omega)) (fun _ => ?_)
    conv => whnf
    refine ⟨by omega, row_ptr (n := 34) (A := A) (by simp) hE hr (by omega) fun p hq => ?_⟩
    have hr2 : Rw Q (some (radr p)) (pre ++ x :: post) := by rw [← hq]; exact hr
    conv => whnf
    refine ldrow (n := 34) pre.length (A := A) (by simp) hE hr2 hpl rfl rfl rfl rfl fun cs hcs => ?_
    rw [hge] at hcs
    have hcs0 := hcs
    obtain ⟨ax, cx, rfl, hx1, hx2, hx3, hx4⟩ := hcs
    have hkx := RBx.okL hx3 ax cx
    refine ⟨x.sg ax cx, rfl, hkx _, rfl, ?_⟩
    conv => whnf
    intro b11
    conv => whnf
    refine Cond.dec (fun _ => ?_) (fun h => by exfalso; omega)
    conv => whnf
    exact Ret.mk' () [] [0] trivial rfl (by repeat' (first | exact trivial | rfl | apply And.intro)) (by repeat' (first | exact trivial | rfl | apply And.intro)) ⟨rfl, rfl⟩
  · conv => whnf
    refine Cond.dec (fun h => by exfalso; have := hp.2.2.2; omega) (fun _ => ?_)
    conv => whnf
    refine CallOb.pu (rfind_c _ Q ((Ent.all (by first | (simp; done) | (simp [M.props]; done) | (simp [M.props]; first | (left; rfl) | (right; left; rfl) | (right; right; left; rfl) | (right; right; right; left; rfl) | (right; right; right; right; left; rfl)) | exact (.head _ : List.Mem _ _) | exact (.tail _ (.head _) : List.Mem _ _) | exact (.tail _ (.tail _ (.head _)) : List.Mem _ _) | exact (.tail _ (.tail _ (.tail _ (.head _))) : List.Mem _ _) | exact (.tail _ (.tail _ (.tail _ (.tail _ (.head _)))) : List.Mem _ _) | exact (.tail _ (.tail _ (.tail _ (.tail _ (.tail _ (.head _))))) : List.Mem _ _) | exact (.tail _ (.tail _ (.tail _ (.tail _ (.tail _ (.tail _ (.head _)))))) : List.Mem _ _) | exact (.tail _ (.tail _ (.tail _ (.tail _ (.tail _ (.tail _ (.tail _ (.head _))))))) : List.Mem _ _) | exact (.tail _ (.tail _ (.tail _ (.tail _ (.tail _ (.tail _ (.tail _ (.tail _ (.head _)))))))) : List.Mem _ _))).trans hE) a cap (pre ++ x :: post) most c.n hr hl) rfl ?_
    rw [fnd_at hx hpre]
    conv => whnf
    have hpl : pre.length < (pre ++ x :: post).length := by simp
    have hge : (pre ++ x :: post)[pre.length]'hpl = x := by simp
    refine Cond.dec (fun h => absurd h (by omega)) (fun _ => ?_)
    conv => whnf
    refine ⟨by omega, row_ptr (n := 34) (A := A) (by simp) hE hr (by omega) fun p hq => ?_⟩
    have hr2 : Rw Q (some (radr p)) (pre ++ x :: post) := by rw [← hq]; exact hr
    conv => whnf
    refine ldrow (n := 34) pre.length (A := A) (by simp) hE hr2 hpl rfl rfl rfl rfl fun cs hcs => ?_
    rw [hge] at hcs
    have hcs0 := hcs
    obtain ⟨ax, cx, rfl, hx1, hx2, hx3, hx4⟩ := hcs
    have hkx := RBx.okL hx3 ax cx
    refine ⟨x.sg ax cx, rfl, hkx _, rfl, ?_⟩
    conv => whnf
    intro b11
    conv => whnf
    refine Cond.dec (fun _ => ?_) (fun h => by exfalso; omega)
    conv => whnf
    exact Ret.mk' () [] [0] trivial rfl (by repeat' (first | exact trivial | rfl | apply And.intro)) (by repeat' (first | exact trivial | rfl | apply And.intro)) ⟨rfl, rfl⟩
/-- A box with one entry more. -/
abbrev RBx.put (x : RBx) (now : Int) (c : Cmd) (b : List UInt8) : RBx := { x with l := x.l ++ [⟨x.next, now, c, b⟩], next := x.next + 1 }
theorem rput1_c (A Q : HProp) (hE : Ent A Q) (a : Option Addr) (cap : Nat) (pre post : List RBx) (x : RBx) (most now : Int) (c : Cmd) (hc : c.id.length = 8) (ab : Option Addr) (cb : Nat) (b : List UInt8) (hb : Rd Q ab (u8s b)) (hp : putOk now c b) (hr : Rw Q a (pre ++ x :: post)) (hl : (pre ++ x :: post).length ≤ 1000000) (hx : x.u = c.n) (hpre : ∀ y ∈ pre, y.u ≠ c.n) (hroom : x.l.length < most)
    (hnx : 0 ≤ x.next ∧ x.next ≤ 1000000) (hxl : x.l.length < 1000) :
    Con Tryd.prog 20 [.agg (bv a (pre ++ x :: post).length cap most), .c (.int .i64 now), .agg c.sg, .c (.rs ab b.length cb)] [] [] A (fun t : Option Addr × Nat × HProp => Rw (all [t.2.2, Q]) t.1 (pre ++ x.put now c b :: post)) (fun t => bse t.1 (pre ++ x :: post).length t.2.1 most 0) (fun _ => []) (fun t => [t.2.2]) := by
  have hk8 := many_ok hc
  refine Con.of' tt_ok Tryd.func20 rfl (by decide) [.agg (bv a (pre ++ x :: post).length cap most), .c (.int .i64 now), .agg c.sg, .c (.rs ab b.length cb)] [] [] rfl rfl trivial ⟨⟨trivial, trivial, trivial⟩, trivial, ⟨trivial, trivial, trivial, hk8 _, trivial⟩, trivial, trivial⟩ rfl ?_
  conv => whnf
  intro b4
  conv => whnf
  intro b6
  conv => whnf
  intro b8
  conv => whnf
  refine CallOb.pu (rclock_c _ now) rfl ?_
  conv => whnf
  refine Cond.not (Cond.mk (fun _ => ?_) (fun h => by rw [decide_eq_true hp.1.1, decide_eq_true hp.1.2] at h; cases h))
  conv => whnf
  refine CallOb.pu (rmay_c _ c hc) rfl ?_
  conv => whnf
  refine Cond.not (Cond.mk (fun _ => ?_) (fun h => by rw [hp.2.1] at h; cases h))
  conv => whnf
  refine Cond.neI (fun h3 => ?_) (fun h3 => ?_)
  · conv => whnf
    refine Cond.neI (fun h4 => absurd hp.2.2.1 (by omega)) (fun h4 => ?_)
    conv => whnf
    refine Cond.dec (fun h => by exfalso; have := hp.2.2.2; omega) (fun _ => ?_)
    conv => whnf
    refine CallOb.pu (rfind_c _ Q ((Ent.all (by first | (simp; done) | (simp [M.props]; done) | (simp [M.props]; first | (left; rfl) | (right; left; rfl) | (right; right; left; rfl) | (right; right; right; left; rfl) | (right; right; right; right; left; rfl)) | exact (.head _ : List.Mem _ _) | exact (.tail _ (.head _) : List.Mem _ _) | exact (.tail _ (.tail _ (.head _)) : List.Mem _ _) | exact (.tail _ (.tail _ (.tail _ (.head _))) : List.Mem _ _) | exact (.tail _ (.tail _ (.tail _ (.tail _ (.head _)))) : List.Mem _ _) | exact (.tail _ (.tail _ (.tail _ (.tail _ (.tail _ (.head _))))) : List.Mem _ _) | exact (.tail _ (.tail _ (.tail _ (.tail _ (.tail _ (.tail _ (.head _)))))) : List.Mem _ _) | exact (.tail _ (.tail _ (.tail _ (.tail _ (.tail _ (.tail _ (.tail _ (.head _))))))) : List.Mem _ _) | exact (.tail _ (.tail _ (.tail _ (.tail _ (.tail _ (.tail _ (.tail _ (.tail _ (.head _)))))))) : List.Mem _ _))).trans hE) a cap (pre ++ x :: post) most c.n hr hl) rfl ?_
    rw [fnd_at hx hpre]
    conv => whnf
    have hpl : pre.length < (pre ++ x :: post).length := by simp
    have hge : (pre ++ x :: post)[pre.length]'hpl = x := by simp
    refine Cond.dec (fun h => absurd h (by omega)) (fun _ => ?_)
    conv => whnf
    refine ⟨by omega, row_ptr (n := 34) (A := A) (by simp) hE hr (by omega) fun p hq => ?_⟩
    have hr2 : Rw Q (some (radr p)) (pre ++ x :: post) := by rw [← hq]; exact hr
    conv => whnf
    refine ldrow (n := 34) pre.length (A := A) (by simp) hE hr2 hpl rfl rfl rfl rfl fun cs hcs => ?_
    rw [hge] at hcs
    have hcs0 := hcs
    obtain ⟨ax, cx, rfl, hx1, hx2, hx3, hx4⟩ := hcs
    have hkx := RBx.okL hx3 ax cx
    refine ⟨x.sg ax cx, rfl, hkx _, rfl, ?_⟩
    conv => whnf
    intro b11
    conv => whnf
    refine Cond.dec (fun h => by exfalso; omega) (fun _ => ?_)
    obtain ⟨es, hes1, hes2, hes3⟩ := re_own hx1
    conv => whnf
    intro b56
    conv => whnf
    refine With.own (i := 56) (n := 0) (cap := 0) (size := 14) ⟨_, _, rfl, ⟨rfl, Nat.le_refl _⟩, ?_⟩
    refine append_own (a := some ⟨b56, 0, none⟩) (n := 0) (cap := 0) (xs := []) (k := x.l.length) (ys := es) (src := .c (.rs ax x.l.length cx)) (F' := [A]) (.refl _) rfl (hes2.len) (Src.rs (A := A) (by simp) (hes1.ent hE)) hes3 (by show (0 + x.l.length + (0 + x.l.length) / 4 + 192) * 72 ≤ _; omega) (by omega) (by decide) 55 (.inr rfl) ?_
    intro a1 c1 hc1 hn1
    rw [Nat.zero_add, List.nil_append] at *
    conv => whnf
    intro b67
    conv => whnf
    have hen : EnR Q ⟨x.next, now, c, b⟩ (dens [] (REn.sg ⟨x.next, now, c, b⟩ ab cb)) := ⟨ab, cb, rfl, hb, hc⟩
    refine append_own (a := a1) (n := x.l.length) (cap := c1) (xs := es) (k := 1) (ys := dens [] (REn.sg ⟨x.next, now, c, b⟩ ab cb)) (src := .c (.slc 67 0 1 1)) (F' := [A]) (.refl _) (hes2.len) (by rw [hen.len]; rfl) (by exact Src.slc (Exists.intro [] (List.append_nil _).symm)) (dens_one_cell (okL_spec (REn.okL (e := ⟨x.next, now, c, b⟩) hc ab cb [])))
      (by show (x.l.length + 1 + (x.l.length + 1) / 4 + 192) * 72 ≤ _; omega) (by omega) (by decide) 55 (.inr rfl) ?_
    intro a2 c2 hc2 hn2
    have hrow := hes2.snoc (fun _ _ h => h) hen.len hen
    generalize es ++ dens [] (REn.sg ⟨x.next, now, c, b⟩ ab cb) = es2 at hrow ⊢
    conv => whnf
    refine Ar.i64 (by omega) ?_
    conv => whnf
    have hQ2 : BxR (all [Own a2 c2 95 14 es2, Q]) (x.put now c b) (dens [] ((x.put now c b).sg a2 c2)) := ⟨a2, c2, rfl, ownRe hrow, by show (x.l ++ [_]).length ≤ c2; rw [List.length_append]; exact hc2, hx3, by show (x.l ++ [_]).length ≤ 1000; rw [List.length_append]; simp; omega⟩
    have hln : (x.put now c b).l.length = x.l.length + 1 := by show (x.l ++ [_]).length = _; rw [List.length_append]; rfl
    refine CallOb.new (rput_c _ (all [Own a2 c2 95 14 es2, Q]) ?_ a cap (pre ++ x :: post) most (hr.ent (Ent.at 1 rfl)) hl pre.length hpl (x.put now c b) a2 c2 hQ2) ?_ fun t ht => ?_
    · exact Ent.pair [5, 5] ⟨rfl, trivial⟩ hE
    · show _ = [_, _, (SV.agg [.one (.int .i64 x.u), .one (.int .i64 (x.next + 1)), .many 32 (u8s x.key), .one (.rs a2 (x.put now c b).l.length c2)]).den []]
      rw [hln]; rfl
    obtain ⟨a3, c3, xs3⟩ := t
    have hfin := (ownRw (a := a3) (c := c3) (e := 93) ht.1).ent Ent.assoc
    rw [set_mid] at hfin
    conv => whnf
    refine Ret.grp [] [0, 0] ?_
    conv => whnf
    exact Ret.mk' (a3, c3, _) [] [0, 0] hfin rfl (by repeat' (first | exact trivial | rfl | apply And.intro)) (by repeat' (first | exact trivial | rfl | apply And.intro)) ⟨rfl, rfl⟩
  · conv => whnf
    refine Cond.dec (fun h => by exfalso; have := hp.2.2.2; omega) (fun _ => ?_)
    conv => whnf
    refine CallOb.pu (rfind_c _ Q ((Ent.all (by first | (simp; done) | (simp [M.props]; done) | (simp [M.props]; first | (left; rfl) | (right; left; rfl) | (right; right; left; rfl) | (right; right; right; left; rfl) | (right; right; right; right; left; rfl)) | exact (.head _ : List.Mem _ _) | exact (.tail _ (.head _) : List.Mem _ _) | exact (.tail _ (.tail _ (.head _)) : List.Mem _ _) | exact (.tail _ (.tail _ (.tail _ (.head _))) : List.Mem _ _) | exact (.tail _ (.tail _ (.tail _ (.tail _ (.head _)))) : List.Mem _ _) | exact (.tail _ (.tail _ (.tail _ (.tail _ (.tail _ (.head _))))) : List.Mem _ _) | exact (.tail _ (.tail _ (.tail _ (.tail _ (.tail _ (.tail _ (.head _)))))) : List.Mem _ _) | exact (.tail _ (.tail _ (.tail _ (.tail _ (.tail _ (.tail _ (.tail _ (.head _))))))) : List.Mem _ _) | exact (.tail _ (.tail _ (.tail _ (.tail _ (.tail _ (.tail _ (.tail _ (.tail _ (.head _)))))))) : List.Mem _ _))).trans hE) a cap (pre ++ x :: post) most c.n hr hl) rfl ?_
    rw [fnd_at hx hpre]
    conv => whnf
    have hpl : pre.length < (pre ++ x :: post).length := by simp
    have hge : (pre ++ x :: post)[pre.length]'hpl = x := by simp
    refine Cond.dec (fun h => absurd h (by omega)) (fun _ => ?_)
    conv => whnf
    refine ⟨by omega, row_ptr (n := 34) (A := A) (by simp) hE hr (by omega) fun p hq => ?_⟩
    have hr2 : Rw Q (some (radr p)) (pre ++ x :: post) := by rw [← hq]; exact hr
    conv => whnf
    refine ldrow (n := 34) pre.length (A := A) (by simp) hE hr2 hpl rfl rfl rfl rfl fun cs hcs => ?_
    rw [hge] at hcs
    have hcs0 := hcs
    obtain ⟨ax, cx, rfl, hx1, hx2, hx3, hx4⟩ := hcs
    have hkx := RBx.okL hx3 ax cx
    refine ⟨x.sg ax cx, rfl, hkx _, rfl, ?_⟩
    conv => whnf
    intro b11
    conv => whnf
    refine Cond.dec (fun h => by exfalso; omega) (fun _ => ?_)
    obtain ⟨es, hes1, hes2, hes3⟩ := re_own hx1
    conv => whnf
    intro b56
    conv => whnf
    refine With.own (i := 56) (n := 0) (cap := 0) (size := 14) ⟨_, _, rfl, ⟨rfl, Nat.le_refl _⟩, ?_⟩
    refine append_own (a := some ⟨b56, 0, none⟩) (n := 0) (cap := 0) (xs := []) (k := x.l.length) (ys := es) (src := .c (.rs ax x.l.length cx)) (F' := [A]) (.refl _) rfl (hes2.len) (Src.rs (A := A) (by simp) (hes1.ent hE)) hes3 (by show (0 + x.l.length + (0 + x.l.length) / 4 + 192) * 72 ≤ _; omega) (by omega) (by decide) 55 (.inr rfl) ?_
    intro a1 c1 hc1 hn1
    rw [Nat.zero_add, List.nil_append] at *
    conv => whnf
    intro b67
    conv => whnf
    have hen : EnR Q ⟨x.next, now, c, b⟩ (dens [] (REn.sg ⟨x.next, now, c, b⟩ ab cb)) := ⟨ab, cb, rfl, hb, hc⟩
    refine append_own (a := a1) (n := x.l.length) (cap := c1) (xs := es) (k := 1) (ys := dens [] (REn.sg ⟨x.next, now, c, b⟩ ab cb)) (src := .c (.slc 67 0 1 1)) (F' := [A]) (.refl _) (hes2.len) (by rw [hen.len]; rfl) (by exact Src.slc (Exists.intro [] (List.append_nil _).symm)) (dens_one_cell (okL_spec (REn.okL (e := ⟨x.next, now, c, b⟩) hc ab cb [])))
      (by show (x.l.length + 1 + (x.l.length + 1) / 4 + 192) * 72 ≤ _; omega) (by omega) (by decide) 55 (.inr rfl) ?_
    intro a2 c2 hc2 hn2
    have hrow := hes2.snoc (fun _ _ h => h) hen.len hen
    generalize es ++ dens [] (REn.sg ⟨x.next, now, c, b⟩ ab cb) = es2 at hrow ⊢
    conv => whnf
    refine Ar.i64 (by omega) ?_
    conv => whnf
    have hQ2 : BxR (all [Own a2 c2 95 14 es2, Q]) (x.put now c b) (dens [] ((x.put now c b).sg a2 c2)) := ⟨a2, c2, rfl, ownRe hrow, by show (x.l ++ [_]).length ≤ c2; rw [List.length_append]; exact hc2, hx3, by show (x.l ++ [_]).length ≤ 1000; rw [List.length_append]; simp; omega⟩
    have hln : (x.put now c b).l.length = x.l.length + 1 := by show (x.l ++ [_]).length = _; rw [List.length_append]; rfl
    refine CallOb.new (rput_c _ (all [Own a2 c2 95 14 es2, Q]) ?_ a cap (pre ++ x :: post) most (hr.ent (Ent.at 1 rfl)) hl pre.length hpl (x.put now c b) a2 c2 hQ2) ?_ fun t ht => ?_
    · exact Ent.pair [5, 5] ⟨rfl, trivial⟩ hE
    · show _ = [_, _, (SV.agg [.one (.int .i64 x.u), .one (.int .i64 (x.next + 1)), .many 32 (u8s x.key), .one (.rs a2 (x.put now c b).l.length c2)]).den []]
      rw [hln]; rfl
    obtain ⟨a3, c3, xs3⟩ := t
    have hfin := (ownRw (a := a3) (c := c3) (e := 93) ht.1).ent Ent.assoc
    rw [set_mid] at hfin
    conv => whnf
    refine Ret.grp [] [0, 0] ?_
    conv => whnf
    exact Ret.mk' (a3, c3, _) [] [0, 0] hfin rfl (by repeat' (first | exact trivial | rfl | apply And.intro)) (by repeat' (first | exact trivial | rfl | apply And.intro)) ⟨rfl, rfl⟩
end Go.Proofs.YtiimeklgjoclpaaDoor
