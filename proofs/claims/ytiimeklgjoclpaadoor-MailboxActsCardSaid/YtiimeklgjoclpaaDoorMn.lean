/- Boxes: the same entries; how many lie in a box, by both. -/
import Derived.Test.YtiimeklgjoclpaaDoorRi
import Derived.Test.YtiimeklgjoclpaaDoorMk
namespace Go.Proofs.YtiimeklgjoclpaaDoor
open Go.Sx
set_option maxRecDepth 100000
set_option pp.deepTerms false
set_option pp.maxSteps 300
set_option linter.unusedSimpArgs false
set_option linter.unusedVariables false

def cmdSh : Sh := .pair (.int .i64) (.pair (.int .i64) (.pair (.int .i64) (.pair (.barr 8) .unit)))
def Cmd.ok (c : Cmd) : Prop := ((Lit.int .i64 c.k).wf = true ∧ (Lit.int .i64 c.n).wf = true ∧ (Lit.int .i64 c.d).wf = true) ∧ c.id.length = 8
theorem to64 {n : Int} (h : -9223372036854775808 ≤ n ∧ n ≤ 9223372036854775807) : (Lit.int .i64 n).wf = true := by
  simpa [Lit.wf, IntKind.min, IntKind.max, IntKind.signed, IntKind.bits] using h
theorem may_ok {c : Cmd} (h : c.may = true) (hi : c.id.length = 8) : c.ok := by
  have := Cmd.may_le h
  exact ⟨⟨to64 (by omega), to64 (by omega), to64 (by omega)⟩, hi⟩
theorem cmd_good {c : Cmd} (h : c.ok) (R : HProp) : Go.Sx.Good R cmdSh (c.k, c.n, c.d, c.id, ()) (dens [] c.sg) :=
  ⟨_, _, rfl, ⟨rfl, h.1.1⟩, _, _, rfl, ⟨rfl, h.1.2.1⟩, _, _, rfl, ⟨rfl, h.1.2.2⟩, _, _, rfl, ⟨h.2, rfl⟩, rfl⟩
theorem fitsCmd : Fits Tryd.prog cmdSh 33 = true := by simp only [Fits, FitsFs, cmdSh, Tryd.underlying33, Tryd.underlying3, Tryd.underlying31, Tryd.underlying5]; kernel_rfl
theorem keyCmd : Tryd.prog.keyTypeAt 9 33 = true := by kernel_rfl
theorem grdCmd : Tryd.prog.eqGuardType Tryd.prog.depth 33 = false := by kernel_rfl
theorem eq_cmd1 {c : Cmd} {xs ys : List Value} {f : Bool → Prop} (hc : c.ok) (ex : xs = dens [] c.sg) (ey : ys = dens [] c.sg) (h : f true) : EqAgg Tryd.prog 33 xs ys f := by
  subst ex ey
  refine eq_agg (s := cmdSh) (R := fun _ => True) (R' := fun _ => True) ⟨_, _, .inl rfl⟩ rfl fitsCmd keyCmd (by decide) grdCmd (cmd_good hc _) (cmd_good hc _) fun b hb => ?_
  rw [hb.2 rfl]; exact h
theorem ours_c (A : HProp) (c : Cmd) (h : c.id.length = 8) : Pu Tryd.prog 40 [.agg c.sg] A (.agg c.sg) := by
  have hk := many_ok h
  refine Con.of' tt_ok Tryd.func40 rfl (by decide) [.agg c.sg] [] [] rfl rfl trivial (by repeat' (first | exact trivial | rfl | exact hk _ | apply And.intro)) rfl ?_
  conv => whnf
  intro b1
  conv => whnf
  intro b2
  conv => whnf
  exact Ret.mk' () [] [0] trivial rfl (by repeat' (first | exact trivial | rfl | exact hk _ | apply And.intro)) (by repeat' (first | exact trivial | rfl | apply And.intro)) ⟨rfl, rfl⟩
/-- Some cells of a struct of a row, as one value. -/
theorem ldsub {P : Program} {α : Type} {E : α → List Value → Prop} {n : Nat} {t : Nat} {x : TyX} {b off : Nat} {m : M} {f : SV → Prop} {A R : HProp} {p : Nat × Nat} {l : List α} (i j s : Nat) (hA : A ∈ m.F) (hE : Ent A R) (hrow : Row R (some (radr p)) (n + 1) E l) (hi : i < l.length) (hj : j + s ≤ n + 1) (hs : 0 < s)
    (hx : x.k.agg = true) (hn : x.size = s) (hb : b = p.1) (ho : off = p.2 + (i * (n + 1) + j)) (h : ∀ cs, E l[i] cs → ∃ segs, dens [] segs = (cs.drop j).take s ∧ okL [] segs ∧ segLen segs = s ∧ f (.agg segs)) : With (Ty P t x) (LdOb P t ⟨b, off, none⟩ m f) := by
  obtain ⟨xs, h1, h2, h3⟩ := hrow.at
  obtain ⟨segs, e1, k1, e2, hf⟩ := h _ (h3 i hi)
  have k2 := oks_nil (okL_spec k1) m.B
  refine lds (A := A) (i * (n + 1) + j) segs hx hA (h1.ent hE) hb ho ?_ ?_ (by omega) k2.1 hf
  · rw [hn, k2.2, e1, List.drop_take, List.take_take, List.drop_drop, Nat.min_eq_left (by omega)]
  · rw [segLen_dens k2.1, e2, hn]
def REn.ent (e : REn) : Int × Cmd × List UInt8 := (e.seq, e.c, e.b)
theorem same_c (A R1 R2 Q : HProp) (hE1 : Ent A R1) (hE2 : Ent A R2) (hE : Ent A Q) (ao : Option Addr) (co : Nat) (es : List En) (h1 : Rd R1 ao (rowE es)) (hok : ∀ y ∈ es, y.ok) (hck : ∀ y ∈ es, y.c.ok) (h2 : ∀ y ∈ es, Rd R2 y.a (u8s y.b))
    (ay : Option Addr) (cy : Nat) (ls : List REn) (h3 : Re Q ay ls) (heq : es.map En.ent = ls.map REn.ent) (hl : es.length ≤ 1000) :
    Pu Tryd.prog 15 [.c (.rs ao es.length co), .c (.rs ay ls.length cy)] A (.c .tt) := by
  have hll : es.length = ls.length := by have := congrArg List.length heq; simpa using this
  have hrow := rowE_row hok h1
  refine Con.of' tt_ok Tryd.func15 rfl (by decide) [.c (.rs ao es.length co), .c (.rs ay ls.length cy)] [] [] rfl rfl trivial (by repeat' (first | exact trivial | rfl | apply And.intro)) rfl ?_
  conv => whnf
  refine Cond.neI (fun h => absurd (by omega) h) (fun _ => ?_)
  conv => whnf
  refine LoopOb.mk' (σ := Nat) (fun k => [(1, .c (.rs ay ls.length cy)), (12, .c (.rs ao es.length co)), (13, .c (.int .i64 es.length)), (14, .c (.int .i64 k))]) (fun _ => ⟨[], [], [A]⟩) (fun k => k ≤ es.length) (fun k => es.length - k) 0 (Nat.zero_le _) (Wk.mk' [] [0] (by repeat' (first | exact trivial | rfl | apply And.intro)) (by repeat' (first | exact trivial | rfl | apply And.intro)) ⟨rfl, rfl⟩) ?_
  intro k hk
  conv => whnf
  refine Cond.dec (fun h => ?_) (fun h => ?_)
  · have hk' : k < es.length := by omega
    have hk2 : k < ls.length := by omega
    have hee : (es[k]).ent = (ls[k]).ent := by
      have := congrArg (fun l => l[k]?) heq
      simpa [hk', hk2] using this
    conv => whnf
    refine ⟨by omega, row_ptr (n := 12) (A := A) (by simp) hE1 hrow (by omega) fun q hq => ?_⟩
    have hrow' := hrow
    rw [hq] at hrow'
    conv => whnf
    refine ldrow (n := 12) k (A := A) (by simp) hE1 hrow' hk' rfl rfl rfl rfl fun cs hcs => ?_
    obtain ⟨rfl, hyo⟩ := hcs
    have hyc := hck _ (List.getElem_mem hk')
    have hyb := h2 _ (List.getElem_mem hk')
    generalize es[k] = y at hyo hyc hyb hee ⊢
    refine ⟨y.sg, rfl, En.okL hyo.id [], rfl, ?_⟩
    have hee1 : y.seq = (ls[k]).seq ∧ y.c = (ls[k]).c ∧ y.b = (ls[k]).b := ⟨congrArg (·.1) hee, congrArg (·.2.1) hee, congrArg (·.2.2) hee⟩
    conv => whnf
    intro b6
    conv => whnf
    refine Draw.till (by kernel_rfl) tt_ok (Tr.of [0, 1, 2, 3, 4, 5, 6, 7, 8, 9, 10, 12, 13, 14, 15, 16, 11, 17, 18, 19, 20, 21, 23, 24, 25, 26, 27] (.two 22 (.one 28 (.one 29 (.one 30 .nil))) 28 (.one 22 (.one 29 (.one 30 .nil))))) 1000000 (by kernel_rfl) ?_
    conv => whnf
    refine ⟨by omega, row_ptr (n := 13) (A := A) (by simp) hE h3 (by omega) fun q1 hq1 => ?_⟩
    have h3' : Re Q (some (radr q1)) ls := by rw [← hq1]; exact h3
    conv => whnf
    refine ldcell (n := 13) k 0 (A := A) (by simp) hE h3' hk2 (by decide) rfl rfl rfl fun cs hcs => ?_
    obtain ⟨ae, ce, rfl, he1, he2⟩ := hcs
    refine ⟨.int .i64 (ls[k]).seq, rfl, trivial, ?_⟩
    conv => whnf
    refine Cond.neI (fun h => absurd hee1.1 h) (fun _ => ?_)
    conv => whnf
    refine ⟨by omega, row_ptr (n := 13) (A := A) (by simp) hE h3 (by omega) fun q2 hq2 => ?_⟩
    have h3'' : Re Q (some (radr q2)) ls := by rw [← hq2]; exact h3
    conv => whnf
    refine ldsub (n := 13) k 2 11 (A := A) (by simp) hE h3'' hk2 (by decide) (by decide) rfl rfl rfl rfl fun cs hcs => ?_
    obtain ⟨ae2, ce2, rfl, he3, he4⟩ := hcs
    refine ⟨(ls[k]).c.sg, ?_, ⟨trivial, trivial, trivial, many_ok he4 _, trivial⟩, rfl, ?_⟩
    · have hk8 : (u8s (ls[k]).c.id).length = 8 := by rw [u8s_length, he4]
      show [_, _, _] ++ (u8s (ls[k]).c.id ++ []) = List.take 11 ([_, _, _] ++ (u8s (ls[k]).c.id ++ [_]))
      rw [List.take_append, List.take_append]
      simp [hk8, List.take_of_length_le]
    conv => whnf
    refine CallOb.pu (ours_c _ y.c hyo.id) rfl ?_
    conv => whnf
    refine Sub.whole ?_
    conv => whnf
    refine eq_cmd1 hyc rfl (by rw [hee1.2.1]; rfl) ?_
    conv => whnf
    refine Cond.not (Cond.mk (fun _ => ?_) (fun h => by cases h))
    conv => whnf
    refine ⟨by omega, row_ptr (n := 13) (A := A) (by simp) hE h3 (by omega) fun q3 hq3 => ?_⟩
    have h3f : Re Q (some (radr q3)) ls := by rw [← hq3]; exact h3
    conv => whnf
    refine ldcell (n := 13) k 13 (A := A) (by simp) hE h3f hk2 (by decide) rfl rfl rfl fun cs hcs => ?_
    obtain ⟨ae3, ce3, rfl, he5, he6⟩ := hcs
    refine ⟨.rs ae3 (ls[k]).b.length ce3, ?_, trivial, ?_⟩
    · have hk8 : (u8s (ls[k]).c.id).length = 8 := by rw [u8s_length, he6]
      show ([_, _, _, _, _] ++ (u8s (ls[k]).c.id ++ [_]))[13]? = _
      rw [List.getElem?_append_right (by simp), List.getElem?_append_right (by simp [hk8])]
      simp [hk8, SC.den]
    conv => whnf
    refine ⟨?_, ?_⟩
    · conv => whnf
      refine conv_str (l := y.b) (k := y.b.length) (x := .c (.rs y.a y.b.length y.cap)) Tryd.underlying34 Tryd.underlying5 Tryd.underlying9 (Src.rs (A := A) (by simp) (hyb.ent hE2)) rfl (fun s h => by cases h) ?_
      conv => whnf
      refine Sub.whole ?_
      conv => whnf
      refine conv_str (l := (ls[k]).b) (k := (ls[k]).b.length) (x := .c (.rs ae3 (ls[k]).b.length ce3)) Tryd.underlying34 Tryd.underlying5 Tryd.underlying9 (Src.rs (A := A) (by simp) (he5.ent hE)) rfl (fun s h => by cases h) ?_
      conv => whnf
      refine Sub.whole ?_
      conv => whnf
      refine Cond.not (Cond.str (fun _ => ?_) (fun h => absurd hee1.2.2 h))
      conv => whnf
      refine Ar.i64 (by omega) ?_
      conv => whnf
      exact ⟨k + 1, by omega, by omega, Wk.mk' [] [0] (by repeat' (first | exact trivial | rfl | apply And.intro)) (by repeat' (first | exact trivial | rfl | apply And.intro)) ⟨rfl, rfl⟩⟩
    · conv => whnf
      refine conv_str (l := (ls[k]).b) (k := (ls[k]).b.length) (x := .c (.rs ae3 (ls[k]).b.length ce3)) Tryd.underlying34 Tryd.underlying5 Tryd.underlying9 (Src.rs (A := A) (by simp) (he5.ent hE)) rfl (fun s h => by cases h) ?_
      conv => whnf
      refine Sub.whole ?_
      conv => whnf
      refine conv_str (l := y.b) (k := y.b.length) (x := .c (.rs y.a y.b.length y.cap)) Tryd.underlying34 Tryd.underlying5 Tryd.underlying9 (Src.rs (A := A) (by simp) (hyb.ent hE2)) rfl (fun s h => by cases h) ?_
      conv => whnf
      refine Sub.whole ?_
      conv => whnf
      refine Cond.not (Cond.str (fun _ => ?_) (fun h => absurd hee1.2.2 h))
      conv => whnf
      refine Ar.i64 (by omega) ?_
      conv => whnf
      exact ⟨k + 1, by omega, by omega, Wk.mk' [] [0] (by repeat' (first | exact trivial | rfl | apply And.intro)) (by repeat' (first | exact trivial | rfl | apply And.intro)) ⟨rfl, rfl⟩⟩
  conv => whnf
  exact Ret.mk' () [] [0] trivial rfl (by repeat' (first | exact trivial | rfl | apply And.intro)) (by repeat' (first | exact trivial | rfl | apply And.intro)) ⟨rfl, rfl⟩
/-- What both say of boxes. -/
def Ly.ab (y : Ly) : REn := ⟨y.seq, y.since, y.c, y.b⟩
def Bx.ab (x : Bx) : RBx := ⟨x.u, x.next, x.key, x.l.map Ly.ab⟩
theorem cases_at (n : Int) : ∀ xs : List Bx, (∀ x ∈ xs, x.u ≠ n) ∨ ∃ pre x post, xs = pre ++ x :: post ∧ x.u = n ∧ ∀ y ∈ pre, y.u ≠ n
  | [] => .inl (by simp)
  | x :: r => by
    by_cases h : x.u = n
    · exact .inr ⟨[], x, r, rfl, h, by simp⟩
    · rcases cases_at n r with h1 | ⟨pre, y, post, rfl, h2, h3⟩
      · exact .inl (by simpa using ⟨h, h1⟩)
      · exact .inr ⟨x :: pre, y, post, rfl, h2, by simpa using ⟨h, h3⟩⟩
def lenB (n : Int) (xs : List Bx) : Nat := ((xs.find? fun x => decide (x.u = n)).map (·.l.length)).getD 0
theorem lenB_none {n : Int} {xs : List Bx} (h : ∀ x ∈ xs, x.u ≠ n) : lenB n xs = 0 := by
  have : xs.find? (fun x => decide (x.u = n)) = none := by rw [List.find?_eq_none]; simpa using h
  unfold lenB; rw [this]; rfl
theorem lenB_at {n : Int} {pre post : List Bx} {x : Bx} (hx : x.u = n) (h : ∀ y ∈ pre, y.u ≠ n) : lenB n (pre ++ x :: post) = x.l.length := by
  have h0 : pre.find? (fun x => decide (x.u = n)) = none := by rw [List.find?_eq_none]; simpa using h
  unfold lenB; rw [List.find?_append, h0]; simp [hx]
theorem len_any (A : HProp) (g : Nat) (room : Int) (xs : List Bx) (n : Int) : Rf A g room xs 13 [.c (.int .i64 n)] (.c (.int .i64 (lenB n xs))) := by
  rcases cases_at n xs with h | ⟨pre, x, post, rfl, h, hp⟩
  · rw [lenB_none h]; exact lenNone_b A g room xs n h
  · rw [lenB_at h hp]; exact len_b A g room pre post x n h hp
theorem ab_ne {n : Int} {xs : List Bx} (h : ∀ x ∈ xs, x.u ≠ n) : ∀ y ∈ xs.map Bx.ab, y.u ≠ n := by
  intro y hy
  obtain ⟨x, hx, rfl⟩ := List.mem_map.1 hy
  exact h x hx
theorem rlen_any (A Q : HProp) (hE : Ent A Q) (a : Option Addr) (cap : Nat) (xs : List Bx) (most n : Int) (hr : Rw Q a (xs.map Bx.ab)) (hl : xs.length ≤ 1000000) : Pu Tryd.prog 22 [.agg (bv a xs.length cap most), .c (.int .i64 n)] A (.c (.int .i64 (lenB n xs))) := by
  rcases cases_at n xs with h | ⟨pre, x, post, rfl, h, hp⟩
  · rw [lenB_none h]
    have := rlenNone_c A Q hE a cap (xs.map Bx.ab) most n hr (by simpa using hl) (ab_ne h)
    rwa [List.length_map] at this
  · rw [lenB_at h hp]
    have e : (pre ++ x :: post).map Bx.ab = pre.map Bx.ab ++ x.ab :: post.map Bx.ab := by simp
    rw [e] at hr
    have := rlenAt_c A Q hE a cap (pre.map Bx.ab) (post.map Bx.ab) x.ab most n hr (by simpa using hl) h (ab_ne hp)
    have e2 : (pre.map Bx.ab ++ x.ab :: post.map Bx.ab).length = (pre ++ x :: post).length := by simp
    rw [e2] at this
    have e3 : x.ab.l.length = x.l.length := List.length_map ..
    rwa [e3] at this
end Go.Proofs.YtiimeklgjoclpaaDoor
