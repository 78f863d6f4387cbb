/- The very same steps, in a row; answers that the document fixes. -/
import Derived.Test.YtbncidjnjkhpfaaSk
namespace Go.Proofs.Ytbncidjnjkhpfaa
open Go.Sx
set_option maxRecDepth 100000
set_option pp.deepTerms false
set_option pp.maxSteps 300
set_option linter.unusedSimpArgs false

theorem samel_c (A R Q R' Q' : HProp) (hE : Ent A R) (hQ : Ent A Q) (hE' : Ent A R') (hQ' : Ent A Q') (a : Option Addr) (cap : Nat) (l : List Stp) (hrow : Row R a 5 (StepE Q) l) (a' : Option Addr) (cap' : Nat) (m : List Stp) (hrow' : Row R' a' 5 (StepE Q') m) (hl : l.length ≤ 1000000) :
    Pu Try.prog 8 [.c (.rs a l.length cap), .c (.rs a' m.length cap')] A (.c (.bool (decide (l = m)))) := by
  refine Con.of' tt_ok Try.func8 rfl (by decide) [.c (.rs a l.length cap), .c (.rs a' m.length cap')] [] [] rfl rfl trivial (by repeat' (first | exact trivial | apply And.intro)) rfl ?_
  conv => whnf
  refine Cond.neI (fun h => ?_) (fun h => ?_)
  · conv => whnf
    have e : decide (l = m) = false := decide_eq_false fun e => h (by rw [e])
    exact Ret.mk' () [] [0] trivial (by rw [e]; rfl) (by repeat' (first | exact trivial | apply And.intro)) trivial ⟨rfl, rfl⟩
  have hlm : l.length = m.length := by omega
  conv => whnf
  refine LoopOb.mk' (σ := Nat) (fun i => [(0, .c (.rs a l.length cap)), (1, .c (.rs a' m.length cap')), (12, .c (.int .i64 l.length)), (13, .c (.int .i64 i))])
    (fun _ => ⟨[], [], [A]⟩) (fun i => i ≤ l.length ∧ l.take i = m.take i) (fun i => l.length - i) 0 ⟨Nat.zero_le _, rfl⟩ (Wk.mk' [] [0] ⟨⟨rfl, trivial⟩, ⟨rfl, trivial⟩, ⟨rfl, trivial⟩, ⟨rfl, trivial⟩, trivial⟩ (by repeat' (first | exact trivial | apply And.intro)) ⟨rfl, rfl⟩) ?_
  rintro i ⟨hi, htake⟩
  conv => whnf
  refine Cond.dec (fun h => ?_) (fun h => ?_)
  · have hi' : i < l.length := by omega
    have hj' : i < m.length := by omega
    conv => whnf
    refine Draw.quiet (by kernel_rfl) tt_ok [0, 1, 2, 3, 5, 6, 7, 8, 4, 9, 10] (by kernel_rfl) ?_
    conv => whnf
    refine ⟨by omega, ?_⟩
    refine row_ptr (A := A) (by simp) hE hrow (by omega) fun p hp => ?_
    subst hp
    conv => whnf
    refine ldstep (A := A) i (by simp) hE hrow hi' rfl rfl rfl (by simp) fun ta tc ht => ?_
    conv => whnf
    refine ⟨by omega, ?_⟩
    refine row_ptr (A := A) (by simp) hE' hrow' (by omega) fun p' hp' => ?_
    subst hp'
    conv => whnf
    refine ldstep (A := A) i (by simp) hE' hrow' hj' rfl rfl rfl (by simp) fun ta' tc' ht' => ?_
    have e1 : l.take (i + 1) = l.take i ++ [l[i]] := List.take_succ_eq_append_getElem hi'
    have e2 : m.take (i + 1) = m.take i ++ [m[i]] := List.take_succ_eq_append_getElem hj'
    have e3 : l = m → l[i] = m[i] := fun e => by simp [e]
    generalize l[i] = x at ht e1 e3 ⊢
    generalize m[i] = y at ht' e2 e3 ⊢
    conv => whnf
    refine CallOb.pu (ours_c _ x ta tc) rfl ?_
    conv => whnf
    refine Sub.whole ?_
    conv => whnf
    refine CallOb.pu (same_c _ x y ta ta' tc tc' (ht.1.ent ((Ent.all (by simp)).trans hQ)) (ht'.1.ent ((Ent.all (by simp)).trans hQ'))) rfl ?_
    conv => whnf
    refine Sub.whole ?_
    conv => whnf
    refine Cond.not (Cond.dec (fun hb => ?_) (fun hb => ?_))
    · conv => whnf
      refine Ar.i64 (by omega) ?_
      conv => whnf
      refine ⟨i + 1, ⟨hi', by rw [e1, e2, htake, hb]⟩, by omega, Wk.mk' [] [0] ⟨⟨rfl, trivial⟩, ⟨rfl, trivial⟩, ⟨rfl, trivial⟩, ⟨rfl, trivial⟩, trivial⟩ (by repeat' (first | exact trivial | apply And.intro)) ⟨rfl, rfl⟩⟩
    · conv => whnf
      have e : decide (l = m) = false := decide_eq_false fun e => hb (e3 e)
      exact Ret.mk' () [] [0] trivial (by rw [e]; rfl) (by repeat' (first | exact trivial | apply And.intro)) trivial ⟨rfl, rfl⟩
  · have hi' : i = l.length := by omega
    subst hi'
    rw [List.take_length, hlm, List.take_length] at htake
    conv => whnf
    have e : decide (l = m) = true := decide_eq_true htake
    exact Ret.mk' () [] [0] trivial (by rw [e]; rfl) (by repeat' (first | exact trivial | apply And.intro)) trivial ⟨rfl, rfl⟩

/-- One field of a step in a row. -/
def Stp.fld (s : Stp) : Nat → Int
  | 0 => s.k | 1 => s.a | 2 => s.b | _ => s.c
theorem ldfld {P : Program} {t : Nat} {x : TyX} {b off : Nat} {m : M} {f : SV → Prop} {A R Q : HProp} {p : Nat × Nat} {l : List Stp} (i j : Nat) (hA : A ∈ m.F) (hE : Ent A R) (hrow : Row R (some (radr p)) 5 (StepE Q) l) (hi : i < l.length) (hj : j < 4)
    (hx : x.k.agg = false) (hb : b = p.1) (ho : off = p.2 + (i * 5 + j)) (h : f (.c (.int .i64 ((l[i]).fld j)))) : With (Ty P t x) (LdOb P t ⟨b, off, none⟩ m f) := by
  obtain ⟨xs, h1, h2, h3⟩ := hrow.at
  obtain ⟨ta, tc, e, ht⟩ := h3 i hi
  refine ld (A := A) (i * 5 + j) (.int .i64 ((l[i]).fld j)) hx hA (h1.ent hE) hb ho ?_ trivial h
  have e2 := congrArg (fun z => z[j]?) e
  simp only [List.getElem?_take_of_lt (show j < 5 by omega), List.getElem?_drop] at e2
  rw [e2]
  match j, hj with
  | 0, _ => rfl
  | 1, _ => rfl
  | 2, _ => rfl
  | 3, _ => rfl
theorem ldtxt {P : Program} {t : Nat} {x : TyX} {b off : Nat} {m : M} {f : SV → Prop} {A R Q : HProp} {p : Nat × Nat} {l : List Stp} (i : Nat) (hA : A ∈ m.F) (hE : Ent A R) (hrow : Row R (some (radr p)) 5 (StepE Q) l) (hi : i < l.length)
    (hx : x.k.agg = false) (hb : b = p.1) (ho : off = p.2 + (i * 5 + 4)) (h : ∀ ta tc, Bts Q ta tc (l[i]).t → f (.c (.rs ta (l[i]).t.length tc))) : With (Ty P t x) (LdOb P t ⟨b, off, none⟩ m f) := by
  obtain ⟨xs, h1, h2, h3⟩ := hrow.at
  obtain ⟨ta, tc, e, ht⟩ := h3 i hi
  refine ld (A := A) (i * 5 + 4) (.rs ta (l[i]).t.length tc) hx hA (h1.ent hE) hb ho ?_ trivial (h ta tc ht)
  have e2 := congrArg (fun z => z[4]?) e
  simp only [List.getElem?_take_of_lt (show 4 < 5 by omega), List.getElem?_drop] at e2
  rw [e2]
  rfl

def bytes0 : List UInt8 := [1, 0, 1, 2, 104, 105, 6, 2, 0, 5, 1]
def steps0 : List Stp := [⟨1, 0, 1, 0, [104, 105]⟩, ⟨6, 0, 0, 0, []⟩, ⟨2, 0, 0, 0, []⟩]
theorem dec0 : decP bytes0 = steps0 := by decide
theorem enc0 : encP steps0 = ([1, 0, 1, 2, 104, 105, 6, 2, 0], 0) := by decide
theorem enc9 : encP [⟨9, 0, 0, 0, []⟩] = ([], 2) := by decide
theorem alive_c (A : HProp) : Pu Try.prog 7 [] A (.c (.bool true)) := by
  refine Con.of' tt_ok Try.func7 rfl (by decide) [] [] [] rfl rfl trivial (by repeat' (first | exact trivial | apply And.intro)) rfl ?_
  conv => whnf
  intro b6
  conv => whnf
  have C := fun A' hA' => decode_c A' (blk b6 (.cells (u8s bytes0).toArray 5)) hA' (some (radr (b6, 0))) 11 bytes0 ⟨Rd.blk rfl (fun j u h => by simpa using h), by decide, fun h => by cases h⟩ (by decide)
  simp only [dec0] at C
  refine CallOb.by' [] [] (C _ (Ent.all (by simp [M.props]; left; rfl))) rfl ⟨rfl, rfl, rfl, fun x1 hx1 => ⟨rfl, ?_⟩⟩
  obtain ⟨y1, y2, y3⟩ := x1
  dsimp only at hx1 ⊢
  conv => whnf
  have C2 := fun A' hA' => encode_c A' y3 y3 hA' hA' y1 y2 steps0 hx1 (by decide)
  simp only [enc0] at C2
  refine CallOb.by' [] [] (C2 _ (Ent.all (by simp))) rfl ⟨rfl, rfl, rfl, fun x2 hx2 => ⟨rfl, ?_⟩⟩
  conv => whnf
  intro b15
  conv => whnf
  have hrow9 : ∀ Q, Row (blk b15 (.cells [.int .i64 9, .int .i64 0, .int .i64 0, .int .i64 0, .slice none 0 0].toArray 33)) (some (radr (b15, 0))) 5 (StepE Q) [⟨9, 0, 0, 0, []⟩] := fun Q =>
    ⟨[[.int .i64 9, .int .i64 0, .int .i64 0, .int .i64 0, .slice none 0 0]], Rd.blk rfl (fun j u h => by simpa using h), rfl, by simp, fun i x c hx hc => by
      cases i with
      | zero => simp at hx hc; subst hx hc; exact ⟨none, 0, rfl, rd_nil, Nat.le_refl _, fun _ => rfl⟩
      | succ i => simp at hx⟩
  have C3 := fun A' hA' => encode_c A' _ A' hA' (Ent.refl _) _ 1 _ (hrow9 A') (by decide)
  simp only [enc9] at C3
  refine CallOb.by' [] [] (C3 _ (Ent.all (by simp [M.props]; left; rfl))) rfl ⟨rfl, rfl, rfl, fun x3 hx3 => ⟨rfl, ?_⟩⟩
  conv => whnf
  refine Cond.eqI (fun _ => ?_) (fun h => absurd rfl h)
  conv => whnf
  refine ⟨by decide, ?_⟩
  refine row_ptr (A := y3) (by simp) (Ent.refl _) hx1 (by decide) fun p hp => ?_
  subst hp
  conv => whnf
  refine ldfld (A := y3) 0 2 (by simp) (Ent.refl _) hx1 (by decide) (by decide) rfl rfl rfl ?_
  conv => whnf
  refine Cond.eqI (fun _ => ?_) (fun h => absurd rfl h)
  conv => whnf
  refine ⟨by decide, PtrOb.at ?_⟩
  conv => whnf
  refine ldtxt (A := y3) 0 (by simp) (Ent.refl _) hx1 (by decide) rfl rfl rfl fun ta tc ht => ?_
  conv => whnf
  refine conv_str (x := .c (.rs ta 2 tc)) Try.underlying22 Try.underlying5 Try.underlying9 (Src.rs (A := y3) (by simp) ht.1) rfl (fun s h => by cases h) ?_
  conv => whnf
  refine Cond.mk (fun _ => ?_) (fun h => absurd h (by rw [bs_toList, ba_toList]; decide))
  conv => whnf
  refine ⟨by decide, PtrOb.at ?_⟩
  conv => whnf
  refine ldfld (A := y3) 1 0 (by simp) (Ent.refl _) hx1 (by decide) (by decide) rfl rfl rfl ?_
  conv => whnf
  refine Cond.eqI (fun _ => ?_) (fun h => absurd rfl h)
  conv => whnf
  refine ⟨by decide, PtrOb.at ?_⟩
  conv => whnf
  refine ldfld (A := y3) 2 0 (by simp) (Ent.refl _) hx1 (by decide) (by decide) rfl rfl rfl ?_
  conv => whnf
  refine Cond.eqI (fun _ => ?_) (fun h => absurd rfl h)
  conv => whnf
  refine Cond.eqI (fun _ => ?_) (fun h => absurd rfl h)
  conv => whnf
  refine Cond.eqI (fun _ => ?_) (fun h => absurd rfl h)
  conv => whnf
  refine Cond.eqI (fun _ => ?_) (fun h => absurd rfl h)
  conv => whnf
  refine ⟨by decide, PtrOb.at ?_⟩
  conv => whnf
  refine ldstep (A := y3) 0 (by simp) (Ent.refl _) hx1 (by decide) rfl rfl rfl rfl fun ta' tc' ht' => ?_
  conv => whnf
  refine CallOb.pu (may_c _ _ ta' tc') rfl ?_
  conv => whnf
  exact Ret.mk' () [] [3] trivial rfl (by repeat' (first | exact trivial | apply And.intro)) trivial ⟨rfl, rfl⟩
end Go.Proofs.Ytbncidjnjkhpfaa
