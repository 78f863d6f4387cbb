/- The document's answer: the bytes of a step. -/
import Derived.Test.YtbncidjnjkhpfaaSf
namespace Go.Proofs.Ytbncidjnjkhpfaa
open Go.Sx
set_option maxRecDepth 100000
set_option pp.deepTerms false
set_option pp.maxSteps 300
set_option linter.unusedSimpArgs false

def bytesR (s : Stp) : List UInt8 :=
  by8 s.k :: (if s.k = 1 then [by8 s.a, by8 s.b, by8 s.t.length] ++ s.t else if s.k = 5 then [by8 s.a, by8 (s.b / 256), by8 (s.b % 256), by8 s.c] else if s.k = 6 then [] else [by8 s.a])

theorem bytes_c (A R : HProp) (hE : Ent A R) (s : Stp) (ta : Option Addr) (tc : Nat) (ht : Bts R ta tc s.t) (hs : s.t.length ≤ 1000000) (hb : 0 ≤ s.b ∧ s.b ≤ 65535) :
    Con Try.prog 25 [s.sv ta tc] [] [] A (fun x : Option Addr × Nat × HProp => Bts x.2.2 x.1 x.2.1 (bytesR s)) (fun x => .c (.rs x.1 (bytesR s).length x.2.1)) (fun _ => []) (fun x => [x.2.2]) := by
  refine Con.of' tt_ok Try.func25 rfl (by decide) [s.sv ta tc] [] [] rfl rfl trivial (by repeat' (first | exact trivial | apply And.intro)) rfl ?_
  have hA : ∀ {x : List HProp}, A ∈ x → Ent (all x) R := fun h => (Ent.all h).trans hE
  conv => whnf
  intro b1
  conv => whnf
  refine Ar.wr ?_
  conv => whnf
  intro b7
  conv => whnf
  refine Cond.eqI (fun h => ?_) (fun h => ?_)
  · conv => whnf
    have e : bytesR s = [by8 s.k] ++ [by8 s.a, by8 s.b, by8 s.t.length] ++ s.t := by simp [bytesR, h]
    refine Ar.wr ?_
    conv => whnf
    refine Ar.wr ?_
    conv => whnf
    refine Ar.wr ?_
    conv => whnf
    intro b23
    conv => whnf
    refine With.own (i := 7) (n := 1) (cap := 1) (size := 1) ⟨_, _, rfl, ⟨rfl, Nat.le_refl _⟩, ?_⟩
    refine append_bytes (a := some ⟨b7, 0, none⟩) (n := 1) (cap := 1) (l := [by8 s.k]) (k := 3) (m := [by8 s.a, by8 s.b, by8 s.t.length]) (src := .c (.slc 23 0 3 3)) (by simp only [u8s_by8, u8s_nil]; exact .refl _) rfl rfl
      (by simp only [u8s_by8, u8s_nil]; exact Src.slc (Exists.intro [] rfl)) ⟨rfl, rfl⟩ (by decide) 22 (.inr rfl) ?_
    intro a1 c1 hc1 hn1
    conv => whnf
    refine append_bytes (a := a1) (n := 4) (cap := c1) (l := [by8 s.k] ++ [by8 s.a, by8 s.b, by8 s.t.length]) (k := s.t.length) (m := s.t) (src := .c (.rs ta s.t.length tc)) (.refl _) rfl rfl (Src.rs (A := A) (by simp) (ht.1.ent hE)) ⟨rfl, rfl⟩ (by omega) 22 (.inr rfl) ?_
    intro a2 c2 hc2 hn2
    conv => whnf
    rw [e]
    have el : ([by8 s.k] ++ [by8 s.a, by8 s.b, by8 s.t.length] ++ s.t).length = 4 + s.t.length := by simp; omega
    refine Ret.mk' (a2, c2, Own a2 c2 5 1 (u8s ([by8 s.k] ++ [by8 s.a, by8 s.b, by8 s.t.length] ++ s.t))) [] [0, 0] ⟨Own.rd, by dsimp only; omega, fun h => absurd (hn2 h) (by omega)⟩ ?_ (by repeat' (first | exact trivial | apply And.intro)) (by repeat' (first | exact trivial | apply And.intro)) ⟨rfl, rfl⟩
    rw [el]; rfl
  · conv => whnf
    refine Cond.eqI (fun h5 => ?_) (fun h5 => ?_)
    · conv => whnf
      have e : bytesR s = [by8 s.k] ++ [by8 s.a, by8 (s.b.tdiv 256), by8 (s.b.tmod 256), by8 s.c] := by simp [bytesR, h5, Int.tdiv_eq_ediv_of_nonneg hb.1, Int.tmod_eq_emod_of_nonneg hb.1]
      refine Ar.wr ?_
      conv => whnf
      refine ⟨by decide, ?_⟩
      refine Ar.i64 (by rw [Int.tdiv_eq_ediv_of_nonneg hb.1]; omega) ?_
      conv => whnf
      refine Ar.wr ?_
      conv => whnf
      refine ⟨by decide, ?_⟩
      conv => whnf
      refine Ar.wr ?_
      conv => whnf
      refine Ar.wr ?_
      conv => whnf
      intro b46
      conv => whnf
      refine With.own (i := 7) (n := 1) (cap := 1) (size := 1) ⟨_, _, rfl, ⟨rfl, Nat.le_refl _⟩, ?_⟩
      refine append_bytes (a := some ⟨b7, 0, none⟩) (n := 1) (cap := 1) (l := [by8 s.k]) (k := 4) (m := [by8 s.a, by8 (s.b.tdiv 256), by8 (s.b.tmod 256), by8 s.c]) (src := .c (.slc 46 0 4 4)) (by simp only [u8s_by8, u8s_nil]; exact .refl _) rfl rfl
        (by simp only [u8s_by8, u8s_nil]; exact Src.slc (Exists.intro [] rfl)) ⟨rfl, rfl⟩ (by decide) 22 (.inr rfl) ?_
      intro a1 c1 hc1 hn1
      conv => whnf
      rw [e]
      exact Ret.mk' (a1, c1, Own a1 c1 5 1 (u8s ([by8 s.k] ++ [by8 s.a, by8 (s.b.tdiv 256), by8 (s.b.tmod 256), by8 s.c]))) [] [0, 0] ⟨Own.rd, hc1, fun h => absurd (hn1 h) (by decide)⟩ rfl (by repeat' (first | exact trivial | apply And.intro)) (by repeat' (first | exact trivial | apply And.intro)) ⟨rfl, rfl⟩
    · conv => whnf
      refine Cond.eqI (fun h6 => ?_) (fun h6 => ?_)
      · conv => whnf
        have e : bytesR s = [by8 s.k] := by simp [bytesR, h6]
        rw [e]
        refine Ret.grp [7] [] ?_
        conv => whnf
        refine Ret.mk' (some ⟨b7, 0, none⟩, 1, all [blk b7 (.cells (u8s [by8 s.k]).toArray 5)]) [] [0, 0] ⟨?_, Nat.le_refl _, fun h => by cases h⟩ rfl (by repeat' (first | exact trivial | apply And.intro)) (by repeat' (first | exact trivial | apply And.intro)) ⟨rfl, by simp only [u8s_by8, u8s_nil]; rfl⟩
        have hB : Rd (blk b7 (.cells (u8s [by8 s.k]).toArray 5)) (some (radr (b7, 0))) (u8s [by8 s.k]) := Rd.blk rfl (fun j u h => by simpa using h)
        exact hB.ent (Ent.all (by simp))
      · conv => whnf
        have e : bytesR s = [by8 s.k] ++ [by8 s.a] := by simp [bytesR, h, h5, h6]
        refine Ar.wr ?_
        conv => whnf
        intro b55
        conv => whnf
        refine With.own (i := 7) (n := 1) (cap := 1) (size := 1) ⟨_, _, rfl, ⟨rfl, Nat.le_refl _⟩, ?_⟩
        refine append_bytes (a := some ⟨b7, 0, none⟩) (n := 1) (cap := 1) (l := [by8 s.k]) (k := 1) (m := [by8 s.a]) (src := .c (.slc 55 0 1 1)) (by simp only [u8s_by8, u8s_nil]; exact .refl _) rfl rfl
          (by simp only [u8s_by8, u8s_nil]; exact Src.slc (Exists.intro [] rfl)) ⟨rfl, rfl⟩ (by decide) 22 (.inr rfl) ?_
        intro a1 c1 hc1 hn1
        conv => whnf
        rw [e]
        exact Ret.mk' (a1, c1, Own a1 c1 5 1 (u8s ([by8 s.k] ++ [by8 s.a]))) [] [0, 0] ⟨Own.rd, hc1, fun h => absurd (hn1 h) (by decide)⟩ rfl (by repeat' (first | exact trivial | apply And.intro)) (by repeat' (first | exact trivial | apply And.intro)) ⟨rfl, rfl⟩
end Go.Proofs.Ytbncidjnjkhpfaa
