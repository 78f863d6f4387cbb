/- Tables of messages: closures, expire. -/
import Derived.Test.YtiimeklgjoclpaaGl
namespace Go.Proofs.Ytiimeklgjoclpaa
open Go.Sx
set_option maxRecDepth 100000
set_option pp.deepTerms false
set_option pp.maxSteps 300
set_option linter.unusedSimpArgs false
set_option linter.unusedVariables false

theorem rd_one {A : HProp} {c T : Nat} {xs : List Value} (E : Ent A (blk c (.cells xs.toArray T))) : Rd A (some (radr (c, 0))) xs :=
  Rd.ent E (by
    have := rd_many (b := c) (t := T) (l := xs) (fz := (0, 0))
    rw [List.append_nil] at this; exact this)
theorem heap_ent {B : Names} {H : List Chunk} {F : List HProp} {A : HProp} {b : Nat} {o : Obj} (hA : A ∈ F) (E : Ent A (blk b o)) {w : World} (hs : sat (M.props ⟨B, H, F⟩) w) : w.heap[b]? = some o := by
  obtain ⟨h, hle, hp⟩ := sat_F (m := ⟨B, H, F⟩) hA hs
  obtain ⟨g, hg, hb⟩ := E h hp
  exact hle.out _ _ (hg.out _ _ hb)
theorem mg_info0 : (Try.prog.info? 101).map (·.size) = some 5 := by kernel_rfl
theorem mg_info : ∃ i, Try.prog.info? 101 = some i ∧ i.size ≠ 0 := by
  have h := mg_info0
  cases e : Try.prog.info? 101 with
  | none => rw [e] at h; cases h
  | some i => rw [e] at h; exact ⟨i, rfl, by simp at h; omega⟩
theorem take1_c (A : HProp) (c : Nat) (l : List Mg) (y0 : Mg) (h0 : y0 ∈ l) (E1 : Ent A (Cel.p (c, [.one (.rp y0.h 0)], 97))) (E2 : Ent A (all (l.map MgP))) :
    TellsM A 47 c (fun y => decide (y.h = y0.h)) l := by
  intro A' e y hy
  refine Con.of' tt_ok Try.func47 rfl (by decide) [.c (.rp y.h 0), .c (.rp c 0)] [] [] rfl rfl trivial (by repeat' (first | exact trivial | rfl | apply And.intro)) rfl ?_
  have r2 : Rd A' (some (radr (c, 0))) [ptr y0.h] := rd_one (e.trans E1)
  conv => whnf
  refine ld (A := A') 0 (.rp y0.h 0) rfl (by simp) r2 rfl rfl rfl trivial ?_
  conv => whnf
  obtain ⟨i, hi, hi0⟩ := mg_info
  refine ⟨decide (y.h = y0.h), ?_, fun km w hs => pe_cells Try.underlying97 hi hi0 (heap_ent (A := A') (by simp) ((ent_mg (e.trans E2) hy).trans (Ent.at 0 rfl)) hs) (heap_ent (A := A') (by simp) ((ent_mg (e.trans E2) h0).trans (Ent.at 0 rfl)) hs)⟩
  conv => whnf
  exact Ret.mk' () [] [0] trivial rfl (by repeat' (first | exact trivial | rfl | apply And.intro)) (by repeat' (first | exact trivial | rfl | apply And.intro)) ⟨rfl, rfl⟩
theorem expire1_c (A : HProp) (c : Nat) (now : Int) (hn : 0 ≤ now ∧ now ≤ 1099511627776) (l : List Mg) (E1 : Ent A (Cel.p (c, [.one (.int .i64 now)], 3))) (E2 : Ent A (all (l.map MgP))) :
    TellsM A 49 c (fun y => decide (y.since ≤ now - 128)) l := by
  intro A' e y hy
  refine Con.of' tt_ok Try.func49 rfl (by decide) [.c (.rp y.h 0), .c (.rp c 0)] [] [] rfl rfl trivial (by repeat' (first | exact trivial | rfl | apply And.intro)) rfl ?_
  have r1 := rd_cel (ent_mg (e.trans E2) hy)
  have r2 : Rd A' (some (radr (c, 0))) [.int .i64 now] := rd_one (e.trans E1)
  conv => whnf
  refine Draw.till (by kernel_rfl) tt_ok (Tr.of (List.range 8) .nil) 1000000 (by kernel_rfl) ?_
  conv => whnf
  refine ld (A := A') 2 (.int .i64 y.since) rfl (by simp) r1 rfl rfl rfl trivial ?_
  conv => whnf
  refine ld (A := A') 0 (.int .i64 now) rfl (by simp) r2 rfl rfl rfl trivial ?_
  conv => whnf
  refine Ar.i64 (by omega) ?_
  conv => whnf
  exact Ret.mk' () [] [0] trivial rfl (by repeat' (first | exact trivial | rfl | apply And.intro)) (by repeat' (first | exact trivial | rfl | apply And.intro)) ⟨rfl, rfl⟩
def exM (now : Int) (l : List Mg) : List Mg := if 0 ≤ now ∧ now ≤ 1099511627776 then l.filter fun y => !decide (y.since ≤ now - 128) else l
theorem owned_filter (q : Mg → Bool) (l : List Mg) : ∀ {F : List HProp} (g : Hp), seps (all (l.map MgP) :: F) g → seps (all ((l.filter q).map MgP) :: F) g := by
  induction l with
  | nil => intro F g s; exact s
  | cons y r ih =>
    intro F g s
    have s1 : seps (MgP y :: all (r.map MgP) :: F) g := by
      have := seps_all.1 s
      simp only [List.map_cons, List.cons_append] at this
      obtain ⟨a, b, d, ha, hb, hp, hs⟩ := this
      exact ⟨a, b, d, ha, hb, hp, seps_all.2 hs⟩
    obtain ⟨a, b, d, ha, hb, hp, hs⟩ := s1
    have s2 := ih b hs
    cases hq : q y with
    | true =>
      rw [List.filter_cons_of_pos hq]
      refine seps_all.2 ?_
      simp only [List.map_cons, List.cons_append]
      exact ⟨a, b, d, ha, hb, hp, seps_all.1 s2⟩
    | false =>
      rw [List.filter_cons_of_neg (by simp [hq])]
      exact seps_mono hb s2
theorem sexpire_c (A : HProp) (g : Nat) (room now : Int) (hr : 1 ≤ room) (l : List Mg) (hs : l.length ≤ 1000000) :
    Con Try.prog 26 [.c (.rp g 0), .c (.int .i64 now)] [] [Tb g room l] A (fun _ : Unit => True) (fun _ => .c (.int .i64 ((l.length : Int) - (exM now l).length))) (fun _ => []) (fun _ => [Tb g room (exM now l)]) := by
  refine Con.box (Runs.of Try.func26 rfl (by decide)) ?_
  rintro ⟨a, cap⟩ hk
  refine Con.of' tt_ok Try.func26 rfl (by decide) [.c (.ptr 1000 0), .c (.int .i64 now)] (B1 g) [(1000, (tc 0 room l (a, cap)).2)] rfl rfl (by repeat' (first | exact trivial | rfl | apply And.intro)) (by repeat' (first | exact trivial | rfl | apply And.intro)) rfl ?_
  conv => whnf
  intro b3
  conv => whnf
  refine CallOb.by' [1000] [] (tgood_c _ g room l (a, cap)) rfl ⟨rfl, rfl, rfl, fun _ _ => ⟨rfl, ?_⟩⟩
  rw [decide_eq_true (show room > 0 by omega)]
  conv => whnf
  refine Cond.not (Cond.mk (fun h => ?_) (fun h => by cases h))
  conv => whnf
  refine CallOb.pu (clock_c _ now) rfl ?_
  conv => whnf
  refine Cond.not (Cond.mk (fun hc => ?_) (fun hc => ?_))
  case refine_2 =>
    have e : exM now l = l := if_neg (by simp at hc; omega)
    rw [e]
    conv => whnf
    exact Ret.mk' ((a, cap), ()) [1000] [0, 0, 0] ⟨hk, trivial⟩ (by rw [Int.sub_self]; rfl) (by repeat' (first | exact trivial | rfl | apply And.intro)) (by repeat' (first | exact trivial | rfl | apply And.intro)) ⟨rfl, rfl⟩
  have hc : 0 ≤ now ∧ now ≤ 1099511627776 := by simp at hc; omega
  have e : exM now l = l.filter fun y => !decide (y.since ≤ now - 128) := if_pos hc
  rw [e]
  conv => whnf
  refine CallOb.by' [] [0] (deleteM_c _ 49 b3 (fun y => decide (y.since ≤ now - 128)) a cap l (expire1_c _ b3 now hc l (Ent.at 1 rfl) (Ent.at 2 rfl)) hs hk.1) rfl ⟨rfl, rfl, rfl, fun _ _ => ⟨rfl, ?_⟩⟩
  conv => whnf
  have hfl : (l.filter fun y => !decide (y.since ≤ now - 128)).length ≤ l.length := List.length_filter_le _ _
  refine Ar.i64 (by omega) ?_
  conv => whnf
  refine Ret.turn (F' := [Own a cap 97 1 (rowM (l.filter fun y => !decide (y.since ≤ now - 128))), all ((l.filter fun y => !decide (y.since ≤ now - 128)).map MgP), A]) (fun g s => ?_) ?_
  · obtain ⟨g1, k1, d, h1, h2, hp1, hs1⟩ := s
    exact ⟨g1, k1, d, h1, h2, hp1, owned_filter _ l k1 hs1⟩
  exact Ret.mk' ((a, cap), ()) [1000] [0, 0, 0] ⟨⟨Nat.le_trans hfl hk.1, fun e => by rw [hk.2 e]; rfl⟩, trivial⟩ rfl (by repeat' (first | exact trivial | rfl | apply And.intro)) (by repeat' (first | exact trivial | rfl | apply And.intro)) ⟨rfl, rfl⟩
end Go.Proofs.Ytiimeklgjoclpaa
