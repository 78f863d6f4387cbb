/- The document's tables of messages, walked: whole, put. -/
import Derived.Test.YtiimeklgjoclpaaGv
namespace Go.Proofs.Ytiimeklgjoclpaa
open Go.Sx
set_option maxRecDepth 100000
set_option pp.deepTerms false
set_option pp.maxSteps 300
set_option linter.unusedSimpArgs false
set_option linter.unusedVariables false

theorem djoin_c (A R R' : HProp) (hE : Ent A R) (hE' : Ent A R') (a : Option Addr) (ca : Nat) (x : List UInt8) (hx : Rd R a (u8s x)) (hxl : x.length ≤ 2000000000) (b : Option Addr) (cb : Nat) (y : List UInt8) (hy : Rd R' b (u8s y)) (hyl : y.length ≤ 2000000000) :
    FB Try.prog 65 [.c (.rs a x.length ca), .c (.rs b y.length cb)] A 5 (x ++ y) := by
  refine Con.of' tt_ok Try.func65 rfl (by decide) [.c (.rs a x.length ca), .c (.rs b y.length cb)] [] [] rfl rfl trivial (by repeat' (first | exact trivial | rfl | apply And.intro)) rfl ?_
  conv => whnf
  intro b6
  conv => whnf
  refine With.own (i := 6) (n := 0) (cap := 0) (size := 1) ⟨_, _, rfl, ⟨rfl, Nat.le_refl _⟩, ?_⟩
  refine appb (l := []) (m := x) (.refl _) (Src.rs (A := A) (by simp) (hx.ent hE)) rfl rfl ⟨rfl, by decide, by decide⟩ (by simp; omega) 23 (.inr rfl) ?_
  intro a1 c1 hc1
  rw [List.nil_append] at hc1 ⊢
  conv => whnf
  refine appb (l := x) (m := y) (.refl _) (Src.rs (A := A) (by simp) (hy.ent hE')) rfl rfl ⟨rfl, by decide, by decide⟩ (by omega) 23 (.inr rfl) ?_
  intro a2 c2 hc2
  conv => whnf
  exact Ret.mk' (a2, c2) [] [0, 0] hc2 rfl (by repeat' (first | exact trivial | rfl | apply And.intro)) (by repeat' (first | exact trivial | rfl | apply And.intro)) ⟨rfl, rfl⟩
theorem at1_snoc (ps : List Pc) (q : Pc) (i : Nat) : at1 (ps ++ [q]) i = at1 ps i ++ if q.i = (i : Int) then q.b else [] := by
  unfold at1
  rw [List.filter_append, List.map_append, List.flatten_append]
  congr 1
  by_cases h : q.i = (i : Int)
  · rw [if_pos h, List.filter_cons_of_pos (by simpa using h)]; simp
  · rw [if_neg h, List.filter_cons_of_neg (by simpa using h)]; simp
theorem joinD_succ (ps : List Pc) (k : Nat) : joinD ps (k + 1) = joinD ps k ++ at1 ps k := by
  unfold joinD
  rw [List.range_succ, List.map_append, List.flatten_append]; simp
theorem at1_le {ps : List Pc} (h : ∀ p ∈ ps, p.b.length ≤ 240) (i : Nat) : (at1 ps i).length ≤ ps.length * 240 := by
  induction ps with
  | nil => simp [at1]
  | cons p r ih =>
    have h1 := ih fun q hq => h q (List.mem_cons_of_mem _ hq)
    have h2 := h p List.mem_cons_self
    unfold at1 at *
    by_cases hp : p.i = (i : Int)
    · rw [List.filter_cons_of_pos (by simpa using hp), List.map_cons, List.flatten_cons, List.length_append, List.length_cons]; omega
    · rw [List.filter_cons_of_neg (by simpa using hp), List.length_cons]; omega
theorem joinD_le {ps : List Pc} (h : ∀ p ∈ ps, p.b.length ≤ 240) (hl : ps.length ≤ 8) : ∀ k, (joinD ps k).length ≤ k * 1920
  | 0 => by simp [joinD]
  | k + 1 => by
    have := joinD_le h hl k
    have := at1_le h k
    rw [joinD_succ, List.length_append]; omega
structure WhS where
  i : Nat
  k : Nat
  a : Option Addr
  c : Nat
theorem dwhole_c (A Q : HProp) (hE : Ent A Q) (m : Ms) (a : Option Addr) (cap : Nat) (hr : Rp Q a m.ps) (hne : m.ps ≠ []) (hb : ∀ p ∈ m.ps, p.b.length ≤ 240) (hl : m.ps.length ≤ 8) :
    Con Try.prog 51 [.agg (m.sg a cap)] [] [] A (fun t : AC => Fc t.1 t.2 (wholeD m).1) (fun t => .tup [.c (.rs t.1 (wholeD m).1.length t.2), .c (.bool (wholeD m).2)]) (fun _ => []) (fun t => [Own t.1 t.2 5 1 (u8s (wholeD m).1)]) := by
  refine Con.of' tt_ok Try.func51 rfl (by decide) [.agg (m.sg a cap)] [] [] rfl rfl trivial (by repeat' (first | exact trivial | rfl | exact hk _ | apply And.intro)) rfl ?_
  have h0 : 0 < m.ps.length := List.length_pos_iff.2 hne
  have hh := hd_eq h0
  conv => whnf
  intro b1
  conv => whnf
  refine Draw.till (by kernel_rfl) tt_ok (Tr.of (List.range 9) .nil) 1000000 (by kernel_rfl) ?_
  conv => whnf
  refine ⟨by omega, row_ptr (n := 6) (A := A) (by simp) hE hr h0 fun q hq => ?_⟩
  have hrq : Rp Q (some (radr q)) m.ps := by rw [← hq]; exact hr
  conv => whnf
  refine ldcell (n := 6) 0 4 (A := A) (by simp) hE hrq h0 (by decide) rfl rfl rfl fun cs hcs => ?_
  obtain ⟨x1, y1, rfl, _, _⟩ := hcs
  refine ⟨.int .i64 (m.ps[0]).t, rfl, trivial, ?_⟩
  conv => whnf
  refine Cond.dec (fun h => ?_) (fun h => ?_)
  · have e : wholeD m = ([], false) := by unfold wholeD; rw [hh, if_pos h]
    rw [e]
    conv => whnf
    refine Ret.own0 5 1 ?_
    exact Ret.mk' (none, 0) [] [0, 0] Fc.nil rfl (by repeat' (first | exact trivial | rfl | apply And.intro)) (by repeat' (first | exact trivial | rfl | apply And.intro)) ⟨rfl, rfl⟩
  have e : wholeD m = (joinD m.ps m.ps.length, true) := by unfold wholeD; rw [hh, if_neg h]
  rw [e]
  conv => whnf
  refine LoopOb.mk' (σ := WhS) (fun s => [(1, .c (.ptr 1 0)), (4, .c (.rs s.a (joinD m.ps s.i).length s.c)), (5, .c (.int .i64 s.i))])
    (fun s => ⟨[(1, b1)], [(1, m.sg a cap, 106)], [Own s.a s.c 5 1 (u8s (joinD m.ps s.i)), A]⟩) (fun s => s.i ≤ m.ps.length ∧ Fc s.a s.c (joinD m.ps s.i)) (fun s => m.ps.length - s.i) ⟨0, 0, none, 0⟩ ⟨Nat.zero_le _, Fc.nil⟩ ?_ ?_
  · refine Wk.own0 5 1 ?_
    exact Wk.mk' [1] [0, 0] (by repeat' (first | exact trivial | rfl | apply And.intro)) (by repeat' (first | exact trivial | rfl | apply And.intro)) ⟨rfl, rfl⟩
  rintro ⟨i, k0, a1, c1⟩ ⟨hi, hc1⟩
  dsimp only at hi hc1 ⊢
  conv => whnf
  refine Cond.dec (fun h2 => ?_) (fun h2 => ?_)
  · have hi' : i < m.ps.length := by omega
    conv => whnf
    refine LoopOb.mk' (σ := WhS) (fun s => [(1, .c (.ptr 1 0)), (4, .c (.rs s.a (joinD m.ps i ++ at1 (m.ps.take s.k) i).length s.c)), (5, .c (.int .i64 i)), (6, .c (.int .i64 s.k))])
      (fun s => ⟨[(1, b1)], [(1, m.sg a cap, 106)], [Own s.a s.c 5 1 (u8s (joinD m.ps i ++ at1 (m.ps.take s.k) i)), A]⟩) (fun s => s.k ≤ m.ps.length ∧ Fc s.a s.c (joinD m.ps i ++ at1 (m.ps.take s.k) i)) (fun s => m.ps.length - s.k) ⟨0, 0, a1, c1⟩ ⟨Nat.zero_le _, by simpa [at1] using hc1⟩ ?_ ?_
    · have e0 : joinD m.ps i ++ at1 (m.ps.take 0) i = joinD m.ps i := by simp [at1]
      refine Wk.mk' [1] [0, 0] ⟨⟨rfl, trivial⟩, ⟨?_, trivial⟩, ⟨rfl, trivial⟩, ⟨rfl, trivial⟩, trivial⟩ (by repeat' (first | exact trivial | rfl | apply And.intro)) ⟨rfl, ?_⟩
      · rw [e0]; rfl
      · rw [e0]
    rintro ⟨i0, k, a2, c2⟩ ⟨hk, hc2⟩
    dsimp only at hk hc2 ⊢
    have l1 := joinD_le hb hl i
    have l2 : (at1 (m.ps.take k) i).length ≤ (m.ps.take k).length * 240 := at1_le (fun p hp => hb p (List.mem_of_mem_take hp)) i
    have l3 : (m.ps.take k).length ≤ 8 := by rw [List.length_take]; omega
    generalize hX : joinD m.ps i ++ at1 (m.ps.take k) i = X at hc2 ⊢
    have hXl : X.length ≤ 20000 := by rw [← hX, List.length_append]; omega
    conv => whnf
    refine Cond.dec (fun h3 => ?_) (fun h3 => ?_)
    · have hk' : k < m.ps.length := by omega
      have hsucc : joinD m.ps i ++ at1 (m.ps.take (k + 1)) i = X ++ if m.ps[k].i = (i : Int) then m.ps[k].b else [] := by
        rw [List.take_succ_eq_append_getElem hk', at1_snoc, ← List.append_assoc, hX]
      conv => whnf
      refine ⟨by omega, row_ptr (n := 6) (A := A) (by simp) hE hr h0 fun q2 hq2 => ?_⟩
      have hrq2 : Rp Q (some (radr q2)) m.ps := by rw [← hq2]; exact hr
      conv => whnf
      refine ldcell (n := 6) k 3 (A := A) (by simp) hE hrq2 hk' (by decide) rfl rfl rfl fun cs hcs => ?_
      obtain ⟨x2, y2, rfl, _, _⟩ := hcs
      refine ⟨.int .i64 (m.ps[k]).i, rfl, trivial, ?_⟩
      conv => whnf
      refine Cond.eqI (fun h4 => ?_) (fun h4 => ?_)
      · rw [if_pos h4] at hsucc
        conv => whnf
        refine ⟨by omega, row_ptr (n := 6) (A := A) (by simp) hE hr h0 fun q3 hq3 => ?_⟩
        have hrq3 : Rp Q (some (radr q3)) m.ps := by rw [← hq3]; exact hr
        conv => whnf
        refine ldcell (n := 6) k 5 (A := A) (by simp) hE hrq3 hk' (by decide) rfl rfl rfl fun cs hcs => ?_
        obtain ⟨x3, y3, rfl, hx3, _⟩ := hcs
        refine ⟨.rs x3.1 (m.ps[k]).b.length x3.2, rfl, trivial, ?_⟩
        conv => whnf
        have hbk := hb _ (List.getElem_mem hk')
        refine CallOb.fb (djoin_c _ (Own a2 c2 5 1 (u8s X)) Q (Ent.at 1 rfl) ((Ent.at 2 rfl).trans hE) a2 c2 X Own.rd (by omega) x3.1 x3.2 (m.ps[k]).b hx3.1 (by omega)) rfl fun a3 c3 hc3 => ?_
        conv => whnf
        refine Ar.i64 (by omega) ?_
        conv => whnf
        refine ⟨⟨0, k + 1, a3, c3⟩, ⟨by dsimp only; omega, by dsimp only; rw [hsucc]; exact hc3⟩, by dsimp only; omega, Wk.mk' [1] [0, 1] ⟨⟨rfl, trivial⟩, ⟨?_, trivial⟩, ⟨rfl, trivial⟩, ⟨rfl, trivial⟩, trivial⟩ (by repeat' (first | exact trivial | rfl | apply And.intro)) ⟨rfl, ?_⟩⟩
        · dsimp only; rw [hsucc]; rfl
        · dsimp only; rw [hsucc]
      · rw [if_neg h4, List.append_nil] at hsucc
        conv => whnf
        refine Ar.i64 (by omega) ?_
        conv => whnf
        refine ⟨⟨0, k + 1, a2, c2⟩, ⟨by dsimp only; omega, by dsimp only; rw [hsucc]; exact hc2⟩, by dsimp only; omega, Wk.mk' [1] [0, 0] ⟨⟨rfl, trivial⟩, ⟨?_, trivial⟩, ⟨rfl, trivial⟩, ⟨rfl, trivial⟩, trivial⟩ (by repeat' (first | exact trivial | rfl | apply And.intro)) ⟨rfl, ?_⟩⟩
        · dsimp only; rw [hsucc]; rfl
        · dsimp only; rw [hsucc]
    have hk' : k = m.ps.length := by omega
    subst hk'
    rw [List.take_length, ← joinD_succ] at hX
    subst hX
    conv => whnf
    refine Ar.i64 (by omega) ?_
    conv => whnf
    exact ⟨⟨i + 1, 0, a2, c2⟩, ⟨by dsimp only; omega, hc2⟩, by dsimp only; omega, Wk.mk' [1] [0, 0] ⟨⟨rfl, trivial⟩, ⟨rfl, trivial⟩, ⟨rfl, trivial⟩, trivial⟩ (by repeat' (first | exact trivial | rfl | apply And.intro)) ⟨rfl, rfl⟩⟩
  have hi' : i = m.ps.length := by omega
  subst hi'
  conv => whnf
  exact Ret.mk' (a1, c1) [] [0, 0] hc1 rfl (by repeat' (first | exact trivial | rfl | apply And.intro)) (by repeat' (first | exact trivial | rfl | apply And.intro)) ⟨rfl, rfl⟩
end Go.Proofs.Ytiimeklgjoclpaa
