/- Messages cut: the document's pieces. -/
import Derived.Test.YtiimeklgjoclpaaGi
namespace Go.Proofs.Ytiimeklgjoclpaa
open Go.Sx
set_option maxRecDepth 100000
set_option pp.deepTerms false
set_option pp.maxSteps 300
set_option linter.unusedSimpArgs false
set_option linter.unusedVariables false

structure Pys (R : HProp) (l : List Px) : Prop where
  f : ∀ p ∈ l, Bts R p.x.1 p.x.2 p.c.b
  y : ∀ p ∈ l, p.y = (none, 0) ∧ p.c.s = []
theorem srcut_c (A R : HProp) (hE : Ent A R) (u n : Int) (hn : 0 ≤ n ∧ n ≤ 4294967295) (x : AC) (b : List UInt8) (hb : Bts R x.1 x.2 b) (hl : b.length ≤ 1000000) :
    Con Try.prog 21 [.c (.int .i64 u), .c (.int .u32 n), .c (.rs x.1 b.length x.2)] [] [] A (fun t : AC × List Px => Fc t.1.1 t.1.2 t.2 ∧ Pys R t.2 ∧ t.2.map (·.c) = (cutP u n b).1)
      (fun t => .tup [.c (.rs t.1.1 t.2.length t.1.2), .c (.int .i64 (cutP u n b).2)]) (fun _ => []) (fun t => [Own t.1.1 t.1.2 25 7 (rowP t.2)]) := by
  refine Con.of' tt_ok Try.func21 rfl (by decide) [.c (.int .i64 u), .c (.int .u32 n), .c (.rs x.1 b.length x.2)] [] [] rfl rfl trivial (by repeat' (first | exact trivial | rfl | exact hk _ | apply And.intro)) rfl ?_
  have bad : ∀ k : Int, ¬ (0 ≤ u ∧ u < 8) ∨ True := fun _ => .inr trivial
  conv => whnf
  refine Cond.dec (fun hu => ?_) (fun hu => ?_)
  · have e : cutP u n b = ([], 2) := if_neg (by omega)
    rw [e]
    conv => whnf
    refine Ret.own0 25 7 ?_
    exact Ret.mk' ((none, 0), []) [] [0, 0] ⟨.nil, ⟨by simp, by simp⟩, rfl⟩ rfl (by repeat' (first | exact trivial | rfl | apply And.intro)) trivial ⟨rfl, rfl⟩
  conv => whnf
  refine Cond.dec (fun hu2 => ?_) (fun hu2 => ?_)
  · have e : cutP u n b = ([], 2) := if_neg (by omega)
    rw [e]
    conv => whnf
    refine Ret.own0 25 7 ?_
    exact Ret.mk' ((none, 0), []) [] [0, 0] ⟨.nil, ⟨by simp, by simp⟩, rfl⟩ rfl (by repeat' (first | exact trivial | rfl | apply And.intro)) trivial ⟨rfl, rfl⟩
  have hu' : 0 ≤ u ∧ u < 8 := by omega
  conv => whnf
  refine Cond.dec (fun h3 => ?_) (fun h3 => ?_)
  · have e : cutP u n b = ([], 3) := by unfold cutP; rw [if_pos hu', if_pos (by omega)]
    rw [e]
    conv => whnf
    refine Ret.own0 25 7 ?_
    exact Ret.mk' ((none, 0), []) [] [0, 0] ⟨.nil, ⟨by simp, by simp⟩, rfl⟩ rfl (by repeat' (first | exact trivial | rfl | apply And.intro)) trivial ⟨rfl, rfl⟩
  have ecut : cutP u n b = ((List.range (piecesN b)).map (pieceAt u n b (piecesN b)), 0) := by unfold cutP; rw [if_pos hu', if_neg (by omega)]
  rw [ecut]
  have h1920 : b.length ≤ 1920 := by omega
  have hcn : 1 ≤ piecesN b ∧ piecesN b ≤ 8 := by unfold piecesN chunkN; omega
  conv => whnf
  refine Ar.i64 (by omega) ?_
  conv => whnf
  refine Ar.i64 (by omega) ?_
  conv => whnf
  refine ⟨by decide, ?_⟩
  have ed : ((b.length : Int) + 240 - 1).tdiv 240 = ((chunkN b.length 240 : Nat) : Int) := by
    rw [Int.tdiv_eq_ediv_of_nonneg (by omega)]
    unfold chunkN; omega
  rw [ed]
  refine Ar.i64 (by unfold chunkN; omega) ?_
  conv => whnf
  have em : max (1 : Int) ((chunkN b.length 240 : Nat) : Int) = ((piecesN b : Nat) : Int) := by unfold piecesN; omega
  rw [em]
  refine LoopOb.mk' (σ := AC × List Px) (fun s => [(0, .c (.int .i64 u)), (1, .c (.int .u32 n)), (2, .c (.rs x.1 b.length x.2)), (8, .c (.int .i64 (piecesN b))), (9, .c (.rs s.1.1 s.2.length s.1.2)), (10, .c (.int .i64 s.2.length))])
    (fun s => ⟨[], [], [Own s.1.1 s.1.2 25 7 (rowP s.2), A]⟩)
    (fun s => s.2.length ≤ piecesN b ∧ Fc s.1.1 s.1.2 s.2 ∧ Pys R s.2 ∧ s.2.map (·.c) = (List.range s.2.length).map (pieceAt u n b (piecesN b))) (fun s => piecesN b - s.2.length) ((none, 0), []) ⟨Nat.zero_le _, .nil, ⟨by simp, by simp⟩, rfl⟩
    (Wk.own0 25 7 (Wk.mk' [] [0, 0] ⟨⟨rfl, (by repeat' (first | exact trivial | rfl | apply And.intro))⟩, ⟨rfl, (by repeat' (first | exact trivial | rfl | apply And.intro))⟩, ⟨rfl, (by repeat' (first | exact trivial | rfl | apply And.intro))⟩, ⟨rfl, trivial⟩, ⟨rfl, trivial⟩, ⟨rfl, trivial⟩, trivial⟩ (by repeat' (first | exact trivial | rfl | apply And.intro)) ⟨rfl, rfl⟩)) ?_
  rintro ⟨⟨a, cap⟩, l⟩ ⟨hle, hc, hp, hm⟩
  dsimp only at hle hc hp hm ⊢
  conv => whnf
  refine Cond.dec (fun h => ?_) (fun h => ?_)
  · obtain ⟨i, hi⟩ : ∃ i, l.length = i := ⟨_, rfl⟩
    rw [hi] at h hm ⊢
    have hi8 : i < piecesN b := by omega
    have hil : i * 240 ≤ b.length := by
      have : i < chunkN b.length 240 ∨ i = 0 := by
        unfold piecesN at hi8; omega
      rcases this with h | h
      · have := (chunkN_lt (len := b.length) (j := i) (z := 240) (by decide)).1 h; omega
      · subst h; omega
    have hcap := hb.2.1
    conv => whnf
    refine Ar.i64 (by omega) ?_
    conv => whnf
    refine Ar.i64 (by omega) ?_
    conv => whnf
    refine Ar.i64 (by omega) ?_
    conv => whnf
    refine ⟨by omega, ⟨by omega, ?_⟩⟩
    conv => whnf
    intro b47
    have e1 : ((i : Int) * 240).toNat = i * 240 := by omega
    have hpl : ((b.drop (i * 240)).take 240).length = min 240 (b.length - i * 240) := by rw [List.length_take, List.length_drop]
    have e2 : (min (b.length : Int) (((i : Int) + 1) * 240)).toNat - i * 240 = ((b.drop (i * 240)).take 240).length := by rw [hpl]; omega
    have hpt : Bts R (cutA x.1 x.2 (i * 240) 1) (x.2 - i * 240) ((b.drop (i * 240)).take 240) := by
      have := hb.sub (i * 240) (min 240 (b.length - i * 240)) (by omega)
      have e3 : (b.drop (i * 240)).take (min 240 (b.length - i * 240)) = (b.drop (i * 240)).take 240 := by
        rw [Nat.min_def]
        split
        · rfl
        · rw [List.take_of_length_le (by rw [List.length_drop]; omega), List.take_of_length_le (by rw [List.length_drop]; omega)]
      rw [e3] at this; exact this
    rw [e1, e2]
    obtain ⟨px, hpx⟩ : ∃ px : Px, px = ⟨pieceAt u n b (piecesN b) i, (cutA x.1 x.2 (i * 240) 1, x.2 - i * 240), (none, 0)⟩ := ⟨_, rfl⟩
    have hcs : px.cs = [.int .i64 1, .int .i64 u, .int .u32 n, .int .i64 i, .int .i64 (piecesN b), .slice (cutA x.1 x.2 (i * 240) 1) ((b.drop (i * 240)).take 240).length (x.2 - i * 240), .slice none 0 0] := by rw [hpx]; rfl
    conv => whnf
    refine append_own (a := a) (n := i) (cap := cap) (xs := rowP l) (k := 1) (ys := px.cs) (F' := [A]) (.refl _) ((rowP_len l).trans (by rw [hi])) ((Px.len px).trans rfl) (Src.slc (by rw [hcs]; exact ⟨[], rfl⟩)) (Px.one px)
      (by show (i + 1 + (i + 1) / 4 + 192) * 88 ≤ 281474976710656; omega) (by omega) (by decide) 46 (.inr rfl) ?_
    intro a' cap' hc' hn'
    conv => whnf
    refine Ar.i64 (by omega) ?_
    conv => whnf
    have elen : i + 1 = (l ++ [px]).length := by rw [List.length_append, hi]; rfl
    have erow : rowP l ++ px.cs = rowP (l ++ [px]) := by rw [rowP_append]; simp [rowP]
    rw [erow]
    refine ⟨((a', cap'), l ++ [px]), ⟨by rw [← elen]; omega, ⟨by rw [← elen]; exact hc', fun e => by have := hn' e; omega⟩, ⟨fun q hq => ?_, fun q hq => ?_⟩, ?_⟩, by rw [← elen]; omega, ?_⟩
    · rcases List.mem_append.1 hq with hq | hq
      · exact hp.f q hq
      · rw [List.mem_singleton.1 hq, hpx]; exact hpt
    · rcases List.mem_append.1 hq with hq | hq
      · exact hp.y q hq
      · rw [List.mem_singleton.1 hq, hpx]; exact ⟨rfl, rfl⟩
    · rw [← elen, List.map_append, hm, List.range_succ, List.map_append, hpx]; rfl
    · rw [elen]
      refine Wk.mk' [] [0, 0] ⟨⟨rfl, (by repeat' (first | exact trivial | rfl | apply And.intro))⟩, ⟨rfl, (by repeat' (first | exact trivial | rfl | apply And.intro))⟩, ⟨rfl, (by repeat' (first | exact trivial | rfl | apply And.intro))⟩, ⟨rfl, trivial⟩, ⟨rfl, trivial⟩, ⟨?_, trivial⟩, trivial⟩ (by repeat' (first | exact trivial | rfl | apply And.intro)) ⟨rfl, rfl⟩
      show Value.int .i64 ((i : Int) + 1) = Value.int .i64 ((l ++ [px]).length : Int)
      rw [← elen]; rfl
  · have hli : l.length = piecesN b := by omega
    conv => whnf
    refine Ret.mk' ((a, cap), l) [] [0, 0] ⟨hc, hp, by rw [hm, hli]⟩ rfl (by repeat' (first | exact trivial | rfl | apply And.intro)) trivial ⟨rfl, rfl⟩
end Go.Proofs.Ytiimeklgjoclpaa
