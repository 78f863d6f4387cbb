/- Which steps may be said: the program's answer, the document's. -/
import Derived.Test.YtbncidjnjkhpfaaSg
namespace Go.Proofs.Ytbncidjnjkhpfaa
open Go.Sx
set_option maxRecDepth 100000
set_option pp.deepTerms false
set_option pp.maxSteps 300
set_option linter.unusedSimpArgs false

def mayP (s : Stp) : Bool := if s.k < 1 ∨ s.k > 8 then false else rm s.a (shp s.k).1 && rm s.b (shp s.k).2.1 && rm s.c (shp s.k).2.2.1 && rm s.t.length (shp s.k).2.2.2
theorem may_c (A : HProp) (s : Stp) (ta : Option Addr) (tc : Nat) : Pu Try.prog 13 [s.sv ta tc] A (.c (.bool (mayP s))) := by
  refine Con.of' tt_ok Try.func13 rfl (by decide) [s.sv ta tc] [] [] rfl rfl trivial (by repeat' (first | exact trivial | apply And.intro)) rfl ?_
  conv => whnf
  intro b1
  conv => whnf
  refine Cond.dec (fun h => ?_) (fun h => ?_)
  · conv => whnf
    have e : mayP s = false := by simp [mayP, h]
    exact Ret.mk' () [] [0] trivial (by rw [e]; rfl) (by repeat' (first | exact trivial | apply And.intro)) trivial ⟨rfl, rfl⟩
  conv => whnf
  refine Cond.dec (fun h8 => ?_) (fun h8 => ?_)
  · conv => whnf
    have e : mayP s = false := by simp [mayP, h8]
    exact Ret.mk' () [] [0] trivial (by rw [e]; rfl) (by repeat' (first | exact trivial | apply And.intro)) trivial ⟨rfl, rfl⟩
  have e : mayP s = (rm s.a (shp s.k).1 && rm s.b (shp s.k).2.1 && rm s.c (shp s.k).2.2.1 && rm s.t.length (shp s.k).2.2.2) := by unfold mayP; rw [if_neg (by omega)]
  rw [e]
  conv => whnf
  refine CallOb.pu (shape_c _ _) rfl ?_
  conv => whnf
  refine CallOb.pu (room_c _ _ _) rfl ?_
  conv => whnf
  refine Cond.mk (fun h1 => ?_) (fun h1 => ?_)
  · conv => whnf
    refine CallOb.pu (room_c _ _ _) rfl ?_
    conv => whnf
    refine Cond.mk (fun h2 => ?_) (fun h2 => ?_)
    · conv => whnf
      refine CallOb.pu (room_c _ _ _) rfl ?_
      conv => whnf
      refine Cond.mk (fun h3 => ?_) (fun h3 => ?_)
      · conv => whnf
        refine CallOb.pu (room_c _ _ _) rfl ?_
        conv => whnf
        refine Ret.mk' () [] [0] trivial ?_ (by repeat' (first | exact trivial | apply And.intro)) trivial ⟨rfl, rfl⟩
        rw [h1, h2, h3]; rfl
      · conv => whnf
        refine Ret.mk' () [] [0] trivial ?_ (by repeat' (first | exact trivial | apply And.intro)) trivial ⟨rfl, rfl⟩
        rw [h1, h2, h3]; rfl
    · conv => whnf
      refine Ret.mk' () [] [0] trivial ?_ (by repeat' (first | exact trivial | apply And.intro)) trivial ⟨rfl, rfl⟩
      rw [h1, h2]; rfl
  · conv => whnf
    refine Ret.mk' () [] [0] trivial ?_ (by repeat' (first | exact trivial | apply And.intro)) trivial ⟨rfl, rfl⟩
    rw [h1]; rfl

theorem row_ptr {m : M} {A R Q : HProp} {a : Option Addr} {l : List Stp} {f : Nat × Nat → Prop} (hA : A ∈ m.F) (hE : Ent A R) (hrow : Row R a 5 (StepE Q) l) (h0 : 0 < l.length) (h : ∀ p, a = some (radr p) → f p) : PtrOb a m f := by
  obtain ⟨xs, h1, h2, _⟩ := hrow.at
  exact PtrOb.rd hA (h1.ent hE) (by omega) h
theorem ldstep {P : Program} {t : Nat} {x : TyX} {b off : Nat} {m : M} {f : SV → Prop} {A R Q : HProp} {p : Nat × Nat} {l : List Stp} (i : Nat) (hA : A ∈ m.F) (hE : Ent A R) (hrow : Row R (some (radr p)) 5 (StepE Q) l) (hi : i < l.length)
    (hx : x.k.agg = true) (hn : x.size = 5) (hb : b = p.1) (ho : off = p.2 + i * 5) (h : ∀ ta tc, Bts Q ta tc (l[i]).t → f ((l[i]).sv ta tc)) : With (Ty P t x) (LdOb P t ⟨b, off, none⟩ m f) := by
  obtain ⟨xs, h1, h2, h3⟩ := hrow.at
  obtain ⟨ta, tc, e, ht⟩ := h3 i hi
  refine lds (A := A) (i * 5) [.one (.int .i64 l[i].k), .one (.int .i64 l[i].a), .one (.int .i64 l[i].b), .one (.int .i64 l[i].c), .one (.rs ta l[i].t.length tc)] hx hA (h1.ent hE) hb ho ?_ (by rw [hn]; rfl) (by omega) ?_ (h ta tc ht)
  · rw [hn, e]; rfl
  · intro s hs
    simp only [List.mem_cons, List.not_mem_nil, or_false] at hs
    rcases hs with rfl | rfl | rfl | rfl | rfl <;> trivial

theorem one_eq : ∀ (z : List Stp) (_ : z.length = 1) (_ : 0 < z.length) (s : Stp), (true && decide (z = [s])) = decide (z[0] = s)
  | [z], _, _, s => by simp

def mayR (s : Stp) : Bool := s.room && decide (decR (bytesR s) = [s])
theorem bytesR_len (s : Stp) : (bytesR s).length ≤ s.t.length + 5 := by
  unfold bytesR
  repeat' split
  all_goals simp <;> omega
theorem rmay_c (A R : HProp) (hE : Ent A R) (s : Stp) (ta : Option Addr) (tc : Nat) (ht : Bts R ta tc s.t) : Pu Try.prog 14 [s.sv ta tc] A (.c (.bool (mayR s))) := by
  refine Con.of' tt_ok Try.func14 rfl (by decide) [s.sv ta tc] [] [] rfl rfl trivial (by repeat' (first | exact trivial | apply And.intro)) rfl ?_
  have hA : ∀ {x : List HProp}, A ∈ x → Ent (all x) R := fun h => (Ent.all h).trans hE
  conv => whnf
  intro b1
  conv => whnf
  refine CallOb.pu (rroom_c _ s ta tc) rfl ?_
  conv => whnf
  refine Cond.not (Cond.mk (fun h => ?_) (fun h => ?_))
  · have hr := h
    simp only [Stp.room, Bool.and_eq_true, decide_eq_true_eq] at hr
    conv => whnf
    have hbl := bytesR_len s
    refine CallOb.by' [] [] (bytes_c _ R (hA (by simp)) s ta tc ht (by omega) (by omega)) rfl ⟨rfl, rfl, rfl, fun x1 hx1 => ⟨rfl, ?_⟩⟩
    conv => whnf
    refine CallOb.by' [] [] (rdecode_c _ x1.2.2 (Ent.all (by simp)) x1.1 x1.2.1 (bytesR s) hx1 (by omega)) rfl ⟨rfl, rfl, rfl, fun x2 hx2 => ⟨rfl, ?_⟩⟩
    conv => whnf
    refine Draw.quiet (by kernel_rfl) tt_ok (List.range 11) (by kernel_rfl) ?_
    conv => whnf
    refine Cond.eqI (fun h1 => ?_) (fun h1 => ?_)
    · conv => whnf
      refine ⟨by omega, ?_⟩
      refine row_ptr (A := x2.2.2) (by simp) (Ent.refl _) hx2 (by omega) fun p hp => ?_
      obtain ⟨y1, y2, y3⟩ := x2
      dsimp only at hp hx2
      subst hp
      conv => whnf
      refine ldstep (A := y3) 0 (by simp) (Ent.refl _) hx2 (by omega) rfl rfl rfl rfl fun ta' tc' ht' => ?_
      conv => whnf
      refine CallOb.pu (same_c _ _ s ta' ta tc' tc (ht'.1.ent (Ent.all (by simp))) (ht.1.ent (hA (by simp)))) rfl ?_
      conv => whnf
      refine Sub.whole ?_
      conv => whnf
      refine Ret.mk' () [] [2] trivial ?_ (by repeat' (first | exact trivial | apply And.intro)) trivial ⟨rfl, rfl⟩
      have e : mayR s = decide ((decR (bytesR s))[0] = s) := by
        unfold mayR
        rw [h]
        exact one_eq _ (by omega) _ s
      rw [e]
      rfl
    · conv => whnf
      refine Ret.mk' () [] [2] trivial ?_ (by repeat' (first | exact trivial | apply And.intro)) trivial ⟨rfl, rfl⟩
      have e : mayR s = false := by
        unfold mayR
        rw [Bool.and_eq_false_iff]
        right
        simp only [decide_eq_false_iff_not]
        intro e
        rw [e] at h1
        simp at h1
      rw [e]; rfl
  · conv => whnf
    refine Ret.mk' () [] [0] trivial ?_ (by repeat' (first | exact trivial | apply And.intro)) trivial ⟨rfl, rfl⟩
    have e : mayR s = false := by simp [mayR, h]
    rw [e]; rfl
end Go.Proofs.Ytbncidjnjkhpfaa
