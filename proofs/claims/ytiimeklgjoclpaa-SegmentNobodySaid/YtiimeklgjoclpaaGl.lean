/- Tables of messages: small functions; find. -/
import Derived.Test.YtiimeklgjoclpaaGk
import Derived.Test.YtiimeklgjoclpaaCb
namespace Go.Proofs.Ytiimeklgjoclpaa
open Go.Sx
set_option maxRecDepth 100000
set_option pp.deepTerms false
set_option pp.maxSteps 300
set_option linter.unusedSimpArgs false
set_option linter.unusedVariables false

abbrev Mg.sg (y : Mg) : List Seg := [.one (.int .i64 y.u), .one (.int .u32 y.n), .one (.int .i64 y.since), .one (.rs y.a.1 y.ss.length y.a.2), .one (.int .i64 y.left)]
def slP (s : Sl) : HProp := match s.b with
  | none => all []
  | some l => Own s.x.1 s.x.2 5 1 (u8s l)
abbrev Mg.cel (y : Mg) : Cel := (y.h, y.sg, 101)
def MgP (y : Mg) : HProp := all [Cel.p y.cel, Own y.a.1 y.a.2 23 1 (y.ss.map Sl.v), all (y.ss.map slP)]
abbrev tc (g : Nat) (room : Int) (l : List Mg) (a : AC) : Cel := (g, [.one (.int .i64 room), .one (.rs a.1 l.length a.2)], 71)
abbrev tr (l : List Mg) (a : AC) : List HProp := [Own a.1 a.2 97 1 (rowM l), all (l.map MgP)]
/-- A table. -/
abbrev Tb (g : Nat) (room : Int) (l : List Mg) : HProp := Box (fun a : AC => Fc a.1 a.2 l) (fun a => [tc g room l a]) (tr l)

theorem newTable_c (A : HProp) (size : Int) (h : 1 ≤ size ∧ size ≤ 64) : Con Try.prog 22 [.c (.int .i64 size)] [] [] A (fun _ : Nat => True) (fun g => .c (.rp g 0)) (fun _ => []) (fun g => [Tb g size []]) := by
  refine Con.of' tt_ok Try.func22 rfl (by decide) [.c (.int .i64 size)] [] [] rfl rfl trivial (by repeat' (first | exact trivial | rfl | apply And.intro)) rfl ?_
  conv => whnf
  refine Cond.dec (fun h1 => absurd h1 (by omega)) (fun h1 => ?_)
  conv => whnf
  refine Cond.dec (fun h2 => absurd h2 (by omega)) (fun h2 => ?_)
  conv => whnf
  intro b
  conv => whnf
  refine Ret.turn (F' := [Own none 0 97 1 (rowM []), all [], A]) (fun g s => seps_own0 (seps_all0 s)) ?_
  refine Ret.box (k := fun a : AC => Fc a.1 a.2 ([] : List Mg)) (Q := fun a : AC => [tc b size [] a]) (R := tr []) [11] [0, 0] ((none, 0) : AC) (.nil (α := Mg)) ⟨⟨rfl, rfl⟩, ?_⟩
  exact Ret.mk' b [] [0, 0] trivial rfl trivial (by repeat' (first | exact trivial | rfl | apply And.intro)) ⟨rfl, rfl⟩
theorem newTable_n (A : HProp) (size : Int) (h : size < 1 ∨ size > 64) : Pu Try.prog 22 [.c (.int .i64 size)] A (.c (.raw (.pointer none))) := by
  refine Con.of' tt_ok Try.func22 rfl (by decide) [.c (.int .i64 size)] [] [] rfl rfl trivial (by repeat' (first | exact trivial | rfl | apply And.intro)) rfl ?_
  conv => whnf
  repeat' first
    | (refine Cond.dec (fun h => ?_) (fun h => ?_) <;> (conv => whnf))
  all_goals first
    | exact Ret.mk' () [] [0] trivial rfl (by repeat' (first | exact trivial | rfl | apply And.intro)) (by repeat' (first | exact trivial | rfl | apply And.intro)) ⟨rfl, rfl⟩
    | (exfalso; omega)
theorem tgood_c (A : HProp) (g : Nat) (room : Int) (l : List Mg) (a : AC) : Con Try.prog 43 [.c (.rp g 0)] [tc g room l a] [] A (fun _ : Unit => True) (fun _ => .c (.bool (decide (room > 0)))) (fun _ => [tc g room l a]) (fun _ => []) := by
  refine Con.of' tt_ok Try.func43 rfl (by decide) [.c (.ptr 1000 0)] (B1 g) [(1000, (tc 0 room l a).2)] rfl rfl (by repeat' (first | exact trivial | rfl | apply And.intro)) (by repeat' (first | exact trivial | rfl | apply And.intro)) rfl ?_
  conv => whnf
  exact Ret.mk' () [1000] [0] trivial rfl (by repeat' (first | exact trivial | rfl | apply And.intro)) (by repeat' (first | exact trivial | rfl | apply And.intro)) ⟨rfl, rfl⟩
theorem tgood_n (A : HProp) : Pu Try.prog 43 [.c (.raw (.pointer none))] A (.c .ff) := by
  refine Con.of' tt_ok Try.func43 rfl (by decide) [.c (.raw (.pointer none))] [] [] rfl rfl trivial (by repeat' (first | exact trivial | rfl | apply And.intro)) rfl ?_
  conv => whnf
  exact Ret.mk' () [] [0] trivial rfl (by repeat' (first | exact trivial | rfl | apply And.intro)) (by repeat' (first | exact trivial | rfl | apply And.intro)) ⟨rfl, rfl⟩
theorem tlen_c (A : HProp) (g : Nat) (room : Int) (hr : 1 ≤ room) (l : List Mg) : Con Try.prog 24 [.c (.rp g 0)] [] [Tb g room l] A (fun _ : Unit => True) (fun _ => .c (.int .i64 l.length)) (fun _ => []) (fun _ => [Tb g room l]) := by
  refine Con.box (Runs.of Try.func24 rfl (by decide)) ?_
  rintro ⟨a, cap⟩ hk
  refine Con.of' tt_ok Try.func24 rfl (by decide) [.c (.ptr 1000 0)] (B1 g) [(1000, (tc 0 room l (a, cap)).2)] rfl rfl (by repeat' (first | exact trivial | rfl | apply And.intro)) (by repeat' (first | exact trivial | rfl | apply And.intro)) rfl ?_
  conv => whnf
  refine CallOb.by' [1000] [] (tgood_c _ g room l (a, cap)) rfl ⟨rfl, rfl, rfl, fun _ _ => ⟨rfl, ?_⟩⟩
  rw [decide_eq_true (show room > 0 by omega)]
  conv => whnf
  refine Cond.not (Cond.mk (fun h => ?_) (fun h => by cases h))
  conv => whnf
  exact Ret.mk' ((a, cap), ()) [1000] [0, 0, 0] ⟨hk, trivial⟩ rfl (by repeat' (first | exact trivial | rfl | apply And.intro)) (by repeat' (first | exact trivial | rfl | apply And.intro)) ⟨rfl, rfl⟩
/-! Names. -/
theorem wfi {n : Int} (h : -9223372036854775808 ≤ n ∧ n ≤ 9223372036854775807) : (Lit.int .i64 n).wf = true := by
  simpa [Lit.wf, IntKind.min, IntKind.max, IntKind.signed, IntKind.bits] using h
def nameSh : Sh := .pair (.int .i64) (.pair (.int .u32) .unit)
abbrev nmg (u n : Int) : List Seg := [.one (.int .i64 u), .one (.int .u32 n)]
def NmOk (u n : Int) : Prop := (-9223372036854775808 ≤ u ∧ u ≤ 9223372036854775807) ∧ 0 ≤ n ∧ n ≤ 4294967295
theorem nm_good {u n : Int} (h : NmOk u n) (R : HProp) : Go.Sx.Good R nameSh (u, n, ()) (dens [] (nmg u n)) :=
  ⟨_, _, rfl, ⟨rfl, wfi h.1⟩, _, _, rfl, ⟨rfl, by simpa [Lit.wf, IntKind.min, IntKind.max, IntKind.signed, IntKind.bits] using h.2⟩, rfl⟩
theorem fitsNm : Fits Try.prog nameSh 96 = true := by simp only [Fits, FitsFs, nameSh, Try.underlying96, Try.underlying3, Try.underlying22]; kernel_rfl
theorem keyNm : Try.prog.keyTypeAt 9 96 = true := by kernel_rfl
theorem grdNm : Try.prog.eqGuardType Try.prog.depth 96 = false := by kernel_rfl
theorem eq_nm {u n u' n' : Int} {xs ys : List Value} {f : Bool → Prop} (hc : NmOk u n) (hd : NmOk u' n') (ex : xs = dens [] (nmg u n)) (ey : ys = dens [] (nmg u' n')) (h : f (decide (u = u' ∧ n = n'))) : EqAgg Try.prog 96 xs ys f := by
  subst ex ey
  refine eq_agg (s := nameSh) (R := fun _ => True) (R' := fun _ => True) ⟨_, _, .inl rfl⟩ rfl fitsNm keyNm (by decide) grdNm (nm_good hc _) (nm_good hd _) fun b hb => ?_
  have : b = decide (u = u' ∧ n = n') := bool_iff (hb.trans ⟨fun e => ⟨congrArg (fun z : nameSh.T => z.1) e, congrArg (fun z : nameSh.T => z.2.1) e⟩, fun e => by rw [e.1, e.2]⟩)
  rw [this]; exact h
def nameQ (u n : Int) (y : Mg) : Bool := decide (y.u = u ∧ y.n = n)
def okMs (l : List Mg) : Prop := ∀ y ∈ l, NmOk y.u y.n
theorem ent_mg {A : HProp} {l : List Mg} (E : Ent A (all (l.map MgP))) {y : Mg} (hy : y ∈ l) : Ent A (MgP y) := E.trans (Ent.all (List.mem_map.2 ⟨y, hy, rfl⟩))
theorem rd_cel {A : HProp} {y : Mg} (E : Ent A (MgP y)) : Rd A (some (radr (y.h, 0))) (dens [] y.sg) :=
  Rd.ent (E.trans (Ent.at 0 rfl)) (by
    have := rd_many (b := y.h) (t := 101) (l := dens [] y.sg) (fz := (0, 0))
    rw [List.append_nil] at this; exact this)
theorem find1_c (A : HProp) (c : Nat) (u n : Int) (hn : NmOk u n) (l : List Mg) (hl : okMs l) (E1 : Ent A (Cel.p (c, nmg u n, 96))) (E2 : Ent A (all (l.map MgP))) : TellsM A 63 c (nameQ u n) l := by
  intro A' e y hy
  refine Con.of' tt_ok Try.func63 rfl (by decide) [.c (.rp y.h 0), .c (.rp c 0)] [] [] rfl rfl trivial (by repeat' (first | exact trivial | rfl | apply And.intro)) rfl ?_
  have r1 := rd_cel (ent_mg (e.trans E2) hy)
  have r2 : Rd A' (some (radr (c, 0))) (dens [] (nmg u n)) := Rd.ent (e.trans E1) (by
    have := rd_many (b := c) (t := 96) (l := dens [] (nmg u n)) (fz := (0, 0))
    rw [List.append_nil] at this; exact this)
  conv => whnf
  refine Draw.till (by kernel_rfl) tt_ok (Tr.of (List.range 7) .nil) 1000000 (by kernel_rfl) ?_
  conv => whnf
  refine lds (A := A') 0 (nmg y.u y.n) rfl (by simp) r1 rfl rfl rfl rfl (by decide) (by intro s hs; simp at hs; rcases hs with rfl | rfl <;> trivial) ?_
  conv => whnf
  refine lds (A := A') 0 (nmg u n) rfl (by simp) r2 rfl rfl rfl rfl (by decide) (by intro s hs; simp at hs; rcases hs with rfl | rfl <;> trivial) ?_
  conv => whnf
  refine eq_nm (hl y hy) hn rfl rfl ?_
  conv => whnf
  exact Ret.mk' () [] [0] trivial rfl (by repeat' (first | exact trivial | rfl | apply And.intro)) (by repeat' (first | exact trivial | rfl | apply And.intro)) ⟨rfl, rfl⟩
def fndM (u n : Int) (l : List Mg) : SV := match l.find? (nameQ u n) with | some y => .c (.rp y.h 0) | none => .c (.raw (.pointer none))
theorem sfind_c (A : HProp) (g : Nat) (room : Int) (u n : Int) (hn : NmOk u n) (l : List Mg) (hl : okMs l) (hs : l.length ≤ 1000000) (a : AC) :
    Con Try.prog 45 [.c (.rp g 0), .agg (nmg u n)] [tc g room l a] (tr l a) A (fun _ : Unit => True) (fun _ => fndM u n l) (fun _ => [tc g room l a]) (fun _ => tr l a) := by
  refine Con.of' tt_ok Try.func45 rfl (by decide) [.c (.ptr 1000 0), .agg (nmg u n)] (B1 g) [(1000, (tc 0 room l a).2)] rfl rfl (by repeat' (first | exact trivial | rfl | apply And.intro)) (by repeat' (first | exact trivial | rfl | exact hk _ | apply And.intro)) rfl ?_
  conv => whnf
  intro b3
  conv => whnf
  refine CallOb.pu (indexM_c _ (Own a.1 a.2 97 1 (rowM l)) (Ent.at 2 rfl) 63 b3 (nameQ u n) a.1 a.2 l (find1_c _ b3 u n hn l hl (Ent.at 0 rfl) (Ent.at 3 rfl)) Own.rd hs) rfl ?_
  conv => whnf
  cases hf : l.findIdx? (nameQ u n) with
  | none =>
    have e1 : idxM (nameQ u n) l = -1 := by unfold idxM; rw [hf]
    have e2 : fndM u n l = .c (.raw (.pointer none)) := by
      unfold fndM
      have : l.find? (nameQ u n) = none := by rw [List.find?_eq_none]; rw [List.findIdx?_eq_none_iff] at hf; intro y hy; simp [hf y hy]
      rw [this]
    rw [e1, e2]
    refine Cond.dec (fun h => ?_) (fun h => absurd (by decide) h)
    conv => whnf
    exact Ret.mk' () [1000] [0, 0, 0] trivial rfl (by repeat' (first | exact trivial | rfl | apply And.intro)) (by repeat' (first | exact trivial | rfl | apply And.intro)) ⟨rfl, rfl⟩
  | some i =>
    have e1 : idxM (nameQ u n) l = i := by unfold idxM; rw [hf]
    rw [List.findIdx?_eq_some_iff_getElem] at hf
    obtain ⟨hi, hq, hb⟩ := hf
    have e2 : fndM u n l = .c (.rp l[i].h 0) := by
      unfold fndM
      have : l.find? (nameQ u n) = some l[i] := by
        rw [List.find?_eq_some_iff_getElem]
        exact ⟨hq, i, hi, rfl, fun j hj => by simpa using hb j hj⟩
      rw [this]
    rw [e1, e2]
    refine Cond.dec (fun h => absurd h (by omega)) (fun h => ?_)
    conv => whnf
    refine ⟨by omega, PtrOb.rd (A := Own a.1 a.2 97 1 (rowM l)) (by simp) Own.rd (by rw [rowM_len]; omega) fun p hp => ?_⟩
    conv => whnf
    refine ldmg i (A := Own a.1 a.2 97 1 (rowM l)) (l := l) (by simp) (by rw [hp]; exact Own.rd) hi rfl rfl rfl ?_
    conv => whnf
    exact Ret.mk' () [1000] [0, 0, 0] trivial rfl (by repeat' (first | exact trivial | rfl | apply And.intro)) (by repeat' (first | exact trivial | rfl | apply And.intro)) ⟨rfl, rfl⟩
end Go.Proofs.Ytiimeklgjoclpaa
