/- Segment: SegmentNobody walked. -/
import Derived.Test.YtiimeklgjoclpaaIc
namespace Go.Proofs.Ytiimeklgjoclpaa
open Go.Sx
set_option maxRecDepth 100000
set_option pp.deepTerms false
set_option pp.maxSteps 300
set_option linter.unusedSimpArgs false
set_option linter.unusedVariables false

abbrev zt (g : Nat) : Cel := (g, [.one (.int .i64 0), .one (.rs none 0 0)], 71)
theorem stake_n (A : HProp) (now : Int) (c : Pc) (x y : AC) : Pu Try.prog 23 [.c (.raw (.pointer none)), .c (.int .i64 now), .agg (c.sg x y)] A (.tup [.c (.rs none 0 0), .c .ff, .c (.int .i64 1)]) := by
  refine Con.of' tt_ok Try.func23 rfl (by decide) [.c (.raw (.pointer none)), .c (.int .i64 now), .agg (c.sg x y)] [] [] rfl rfl trivial (by repeat' (first | exact trivial | rfl | exact hk _ | apply And.intro)) rfl ?_
  conv => whnf
  intro b5
  conv => whnf
  refine CallOb.pu (tgood_n _) rfl ?_
  conv => whnf
  exact Ret.mk' () [] [0] trivial rfl (by repeat' (first | exact trivial | rfl | apply And.intro)) (by repeat' (first | exact trivial | rfl | apply And.intro)) ⟨rfl, rfl⟩
theorem sexpire_n (A : HProp) (now : Int) : Pu Try.prog 26 [.c (.raw (.pointer none)), .c (.int .i64 now)] A (.c (.int .i64 0)) := by
  refine Con.of' tt_ok Try.func26 rfl (by decide) [.c (.raw (.pointer none)), .c (.int .i64 now)] [] [] rfl rfl trivial (by repeat' (first | exact trivial | rfl | apply And.intro)) rfl ?_
  conv => whnf
  intro b3
  conv => whnf
  refine CallOb.pu (tgood_n _) rfl ?_
  conv => whnf
  exact Ret.mk' () [] [0] trivial rfl (by repeat' (first | exact trivial | rfl | apply And.intro)) (by repeat' (first | exact trivial | rfl | apply And.intro)) ⟨rfl, rfl⟩
theorem tlen_n (A : HProp) : Pu Try.prog 24 [.c (.raw (.pointer none))] A (.c (.int .i64 0)) := by
  refine Con.of' tt_ok Try.func24 rfl (by decide) [.c (.raw (.pointer none))] [] [] rfl rfl trivial (by repeat' (first | exact trivial | rfl | apply And.intro)) rfl ?_
  conv => whnf
  refine CallOb.pu (tgood_n _) rfl ?_
  conv => whnf
  exact Ret.mk' () [] [0] trivial rfl (by repeat' (first | exact trivial | rfl | apply And.intro)) (by repeat' (first | exact trivial | rfl | apply And.intro)) ⟨rfl, rfl⟩
theorem tgood_z (A : HProp) (g : Nat) : Con Try.prog 43 [.c (.rp g 0)] [zt g] [] A (fun _ : Unit => True) (fun _ => .c .ff) (fun _ => [zt g]) (fun _ => []) := by
  refine Con.of' tt_ok Try.func43 rfl (by decide) [.c (.ptr 1000 0)] (B1 g) [(1000, (zt 0).2)] rfl rfl (by repeat' (first | exact trivial | rfl | apply And.intro)) (by repeat' (first | exact trivial | rfl | apply And.intro)) rfl ?_
  conv => whnf
  exact Ret.mk' () [1000] [0] trivial rfl (by repeat' (first | exact trivial | rfl | apply And.intro)) (by repeat' (first | exact trivial | rfl | apply And.intro)) ⟨rfl, rfl⟩
theorem stake_z (A : HProp) (g : Nat) (now : Int) (c : Pc) (x y : AC) : Con Try.prog 23 [.c (.rp g 0), .c (.int .i64 now), .agg (c.sg x y)] [zt g] [] A (fun _ : Unit => True) (fun _ => .tup [.c (.rs none 0 0), .c .ff, .c (.int .i64 1)]) (fun _ => [zt g]) (fun _ => []) := by
  refine Con.of' tt_ok Try.func23 rfl (by decide) [.c (.ptr 1000 0), .c (.int .i64 now), .agg (c.sg x y)] (B1 g) [(1000, (zt 0).2)] rfl rfl (by repeat' (first | exact trivial | rfl | apply And.intro)) (by repeat' (first | exact trivial | rfl | exact hk _ | apply And.intro)) rfl ?_
  conv => whnf
  intro b5
  conv => whnf
  refine CallOb.by' [1000] [] (tgood_z _ g) rfl ⟨rfl, rfl, rfl, fun _ _ => ⟨rfl, ?_⟩⟩
  conv => whnf
  exact Ret.mk' () [1000] [0] trivial rfl (by repeat' (first | exact trivial | rfl | apply And.intro)) (by repeat' (first | exact trivial | rfl | apply And.intro)) ⟨rfl, rfl⟩
theorem sexpire_z (A : HProp) (g : Nat) (now : Int) : Con Try.prog 26 [.c (.rp g 0), .c (.int .i64 now)] [zt g] [] A (fun _ : Unit => True) (fun _ => .c (.int .i64 0)) (fun _ => [zt g]) (fun _ => []) := by
  refine Con.of' tt_ok Try.func26 rfl (by decide) [.c (.ptr 1000 0), .c (.int .i64 now)] (B1 g) [(1000, (zt 0).2)] rfl rfl (by repeat' (first | exact trivial | rfl | apply And.intro)) (by repeat' (first | exact trivial | rfl | apply And.intro)) rfl ?_
  conv => whnf
  intro b3
  conv => whnf
  refine CallOb.by' [1000] [] (tgood_z _ g) rfl ⟨rfl, rfl, rfl, fun _ _ => ⟨rfl, ?_⟩⟩
  conv => whnf
  exact Ret.mk' () [1000] [0] trivial rfl (by repeat' (first | exact trivial | rfl | apply And.intro)) (by repeat' (first | exact trivial | rfl | apply And.intro)) ⟨rfl, rfl⟩
theorem tlen_z (A : HProp) (g : Nat) : Con Try.prog 24 [.c (.rp g 0)] [zt g] [] A (fun _ : Unit => True) (fun _ => .c (.int .i64 0)) (fun _ => [zt g]) (fun _ => []) := by
  refine Con.of' tt_ok Try.func24 rfl (by decide) [.c (.ptr 1000 0)] (B1 g) [(1000, (zt 0).2)] rfl rfl (by repeat' (first | exact trivial | rfl | apply And.intro)) (by repeat' (first | exact trivial | rfl | apply And.intro)) rfl ?_
  conv => whnf
  refine CallOb.by' [1000] [] (tgood_z _ g) rfl ⟨rfl, rfl, rfl, fun _ _ => ⟨rfl, ?_⟩⟩
  conv => whnf
  exact Ret.mk' () [1000] [0] trivial rfl (by repeat' (first | exact trivial | rfl | apply And.intro)) (by repeat' (first | exact trivial | rfl | apply And.intro)) ⟨rfl, rfl⟩
def z300 : List UInt8 := List.replicate 300 0
def pv (j : Nat) : Pc := pieceAt 1 2 z300 2 j
theorem cut300 : cutP 1 2 z300 = ([pv 0, pv 1], 0) := by kernel_rfl
theorem pv_may (j : Nat) (h : j < 2) : (pv j).may = true := pieceAt_may (by decide) (by decide) h
theorem pv_wf (j : Nat) (h : j < 2) : (pv j).wf := pieceAt_wf (by decide) (by decide) (by decide) (by omega)
theorem zv1 : tkA 3 0 (pv 0) [] = ([⟨1, 2, 0, 1, [some (pv 0).b, none]⟩], [], false, 0) := by kernel_rfl
theorem zv2 : tkA 3 0 (pv 1) [⟨1, 2, 0, 1, [some (pv 0).b, none]⟩] = ([], z300, true, 0) := by kernel_rfl
theorem z300_len : z300.length = 300 := List.length_replicate
theorem pv0_len : (pv 0).b.length = 240 := by decide +kernel
theorem pv_s (j : Nat) : (pv j).s = [] := rfl
theorem gd300 (k : Nat) (h : k < 300) : gd z300 k = 0 := by
  unfold gd z300; rw [List.getElem?_replicate, if_pos h]; rfl
theorem pv_set : (u8s (pv 0).b).take 1 ++ ([Value.int .u8 0] ++ (u8s (pv 0).b).drop 2) = u8s (pv 0).b := by kernel_rfl
attribute [irreducible] z300 pv
abbrev l2 (x y : AC) : List Px := [⟨pv 0, x, (none, 0)⟩, ⟨pv 1, y, (none, 0)⟩]
theorem px2 {l : List Px} {a b : Pc} (h : l.map (·.c) = [a, b]) (hp : Pxs l) : ∃ x y : AC, l = [⟨a, x, (none, 0)⟩, ⟨b, y, (none, 0)⟩] ∧ Fc x.1 x.2 a.b ∧ Fc y.1 y.2 b.b := by
  rcases l with _ | ⟨⟨a', x, x'⟩, _ | ⟨⟨b', y, y'⟩, _ | ⟨p3, l⟩⟩⟩
  all_goals simp at h
  obtain ⟨rfl, rfl⟩ := h
  have h1 := (hp.y ⟨a', x, x'⟩ (by simp)).1
  have h2 := (hp.y ⟨b', y, y'⟩ (by simp)).1
  dsimp only at h1 h2
  subst h1 h2
  exact ⟨x, y, rfl, hp.f ⟨a', x, (none, 0)⟩ (by simp), hp.f ⟨b', y, (none, 0)⟩ (by simp)⟩
/-- The two pieces, each its own. -/
theorem cut2_c (A R : HProp) (hE : Ent A R) (a : AC) (hb : Bts R a.1 a.2 z300) :
    Con Try.prog 20 [.c (.int .i64 1), .c (.int .u32 2), .c (.rs a.1 300 a.2)] [] [] A (fun t : AC × AC × AC => Fc t.1.1 t.1.2 (l2 t.2.1 t.2.2) ∧ Fc t.2.1.1 t.2.1.2 (pv 0).b ∧ Fc t.2.2.1 t.2.2.2 (pv 1).b)
      (fun t => .tup [.c (.rs t.1.1 2 t.1.2), .c (.int .i64 0)]) (fun _ => []) (fun t => [Own t.1.1 t.1.2 31 7 (rowP (l2 t.2.1 t.2.2)), Own t.2.1.1 t.2.1.2 5 1 (u8s (pv 0).b), Own t.2.2.1 t.2.2.2 5 1 (u8s (pv 1).b)]) := by
  have C := scut_c A R hE 1 2 (by decide) a z300 hb (by rw [z300_len]; decide)
  rw [z300_len, cut300] at C
  refine ⟨C.runs, fun w hw => (C.h w hw).mono ?_⟩
  rintro e w' ⟨⟨⟨a1, c1⟩, l⟩, ⟨hk, hp, hl⟩, he, kv, kq, s⟩
  dsimp only at hk hp hl he kv kq s
  obtain ⟨x, y, rfl, hx, hy⟩ := px2 hl hp
  refine ⟨((a1, c1), x, y), ⟨hk, hx, hy⟩, he, kv, kq, ?_⟩
  have s0 : seps [Own a1 c1 31 7 (rowP (l2 x y)), ows (l2 x y), A] _ := s
  have s1 : seps [all [Own x.1 x.2 5 1 (u8s (pv 0).b), Own y.1 y.2 5 1 (u8s (pv 1).b)], Own a1 c1 31 7 (rowP (l2 x y)), A] _ := seps_pick [1, 0, 2] rfl s0
  have s2 := seps_all.1 s1
  exact seps_pick [2, 0, 1, 3] rfl s2
theorem nobody_c (W : World) (t : Act) (x y : AC) (hx : Bts (old W) x.1 x.2 t.p.b) (hy : Bts (old W) y.1 y.2 t.p.s) :
    LawC Try.prog 8 [.agg (t.sg x y)] W := by
  refine Con.of' tt_ok Try.func8 rfl (by decide) [.agg (t.sg x y)] [] [] rfl rfl trivial (by repeat' (first | exact trivial | rfl | exact hk _ | apply And.intro)) rfl ?_
  conv => whnf
  intro b1
  conv => whnf
  refine CallOb.pu (alive_c _) rfl ?_
  conv => whnf
  refine CallOb.pu (sfits_c _ t.p x y) rfl ?_
  conv => whnf
  refine Cond.not (Cond.mk (fun hf => ?_) (fun hf => ?_))
  case refine_2 =>
    conv => whnf
    exact Ret.mk' () [] [0] trivial rfl (by repeat' (first | exact trivial | rfl | apply And.intro)) (by repeat' (first | exact trivial | rfl | apply And.intro)) ⟨rfl, rfl⟩
  conv => whnf
  intro b22
  conv => whnf
  intro b23
  conv => whnf
  refine LoopOb.mk' (σ := Nat) (fun i => [(1, .c (.ptr 1 0)), (23, .c (.slc 23 0 2 2)), (24, .c (.int .i64 2)), (25, .c (.int .i64 i))])
    (fun _ => ⟨[(23, b23), (22, b22), (1, b1)], [(23, [.one (.raw (.pointer none)), .one (.ptr 22 0)], 50), (22, [.one (.int .i64 0), .one (.rs none 0 0)], 71), (1, t.sg x y, 62)], [old W]⟩)
    (fun i => i ≤ 2) (fun i => 2 - i) 0 (Nat.zero_le _) (Wk.mk' [23, 22, 1] [0] (by repeat' (first | exact trivial | rfl | apply And.intro)) (by repeat' (first | exact trivial | rfl | exact hk _ | apply And.intro)) ⟨rfl, rfl⟩) ?_
  intro i hi
  conv => whnf
  refine Cond.dec (fun h => ?_) (fun h => ?_)
  · obtain rfl | rfl : i = 0 ∨ i = 1 := by omega
    · conv => whnf
      refine ⟨by decide, ?_⟩
      conv => whnf
      refine Draw.part (by kernel_rfl) tt_ok (Tr.up 14) 1000000 _ [old W] (by kernel_rfl) (fun k => k) (Sub.parts [23, 22, 1] [0] ⟨rfl, rfl⟩ ?_)
      conv => whnf
      refine CallOb.pu (stheirs_c _ t.p x y) rfl ?_
      conv => whnf
      refine Sub.parts [23, 22, 1] [0] ⟨rfl, rfl⟩ ?_
      conv => whnf
      refine CallOb.pu (stake_n _ t.now t.p x y) rfl ?_
      conv => whnf
      refine Sub.parts [23, 22, 1] [0] ⟨rfl, rfl⟩ ?_
      conv => whnf
      refine Cond.neI (fun h => absurd rfl h) (fun _ => ?_)
      conv => whnf
      refine Cond.neI (fun h => absurd rfl h) (fun _ => ?_)
      conv => whnf
      refine CallOb.pu (sexpire_n _ t.now) rfl ?_
      conv => whnf
      refine Cond.neI (fun h => absurd rfl h) (fun _ => ?_)
      conv => whnf
      refine CallOb.pu (tlen_n _) rfl ?_
      conv => whnf
      refine Cond.neI (fun h => absurd rfl h) (fun _ => ?_)
      conv => whnf
      refine Ar.i64 (by omega) ?_
      conv => whnf
      refine ⟨1, by decide, by decide, Wk.mk' [23, 22, 1] [0] (by repeat' (first | exact trivial | rfl | apply And.intro)) (by repeat' (first | exact trivial | rfl | exact hk _ | apply And.intro)) ⟨rfl, rfl⟩⟩
    · conv => whnf
      refine ⟨by decide, ?_⟩
      conv => whnf
      refine Draw.part (by kernel_rfl) tt_ok (Tr.up 14) 1000000 _ [old W] (by kernel_rfl) (fun k => k) (Sub.parts [23, 22, 1] [0] ⟨rfl, rfl⟩ ?_)
      conv => whnf
      refine CallOb.pu (stheirs_c _ t.p x y) rfl ?_
      conv => whnf
      refine Sub.parts [23, 22, 1] [0] ⟨rfl, rfl⟩ ?_
      conv => whnf
      refine CallOb.by' [22] [] (stake_z _ b22 t.now t.p x y) rfl ⟨rfl, rfl, rfl, fun _ _ => ⟨rfl, ?_⟩⟩
      conv => whnf
      refine Sub.parts [23, 22, 1] [0] ⟨rfl, rfl⟩ ?_
      conv => whnf
      refine Cond.neI (fun h => absurd rfl h) (fun _ => ?_)
      conv => whnf
      refine Cond.neI (fun h => absurd rfl h) (fun _ => ?_)
      conv => whnf
      refine CallOb.by' [22] [] (sexpire_z _ b22 t.now) rfl ⟨rfl, rfl, rfl, fun _ _ => ⟨rfl, ?_⟩⟩
      conv => whnf
      refine Cond.neI (fun h => absurd rfl h) (fun _ => ?_)
      conv => whnf
      refine CallOb.by' [22] [] (tlen_z _ b22) rfl ⟨rfl, rfl, rfl, fun _ _ => ⟨rfl, ?_⟩⟩
      conv => whnf
      refine Cond.neI (fun h => absurd rfl h) (fun _ => ?_)
      conv => whnf
      refine Ar.i64 (by omega) ?_
      conv => whnf
      refine ⟨2, by decide, by decide, Wk.mk' [23, 22, 1] [0] (by repeat' (first | exact trivial | rfl | apply And.intro)) (by repeat' (first | exact trivial | rfl | exact hk _ | apply And.intro)) ⟨rfl, rfl⟩⟩
  conv => whnf
  refine CallOb.new (newTable_c _ 3 (by decide)) rfl fun g _ => ?_
  conv => whnf
  refine ⟨by decide, ?_⟩
  intro b64
  conv => whnf
  have hrd : Rd (Chunk.p [(64, b64), (23, b23), (22, b22), (1, b1)] (64, [.many (Int.toNat 300) (List.replicate (Int.toNat 300) (SC.den [] (SC.int .u8 0)))], 5)) (some (radr (b64, 0))) (u8s z300) := by
    have e2 : u8s z300 = List.replicate 300 (Value.int .u8 0) := by kernel_rfl
    rw [e2]
    exact rd_many (b := b64) (t := 5) (l := List.replicate 300 (Value.int .u8 0)) (fz := (0, 0))
  refine CallOb.new (cut2_c _ _ (Ent.at 0 rfl) (some (radr (b64, 0)), 300) ⟨hrd, by rw [z300_len]; exact Nat.le_refl _, fun e => by cases e⟩) rfl fun t1 h1 => ?_
  obtain ⟨⟨a, cap⟩, xa, xb⟩ := t1
  obtain ⟨hk, hxa, hxb⟩ := h1
  dsimp only at hk hxa hxb ⊢
  conv => whnf
  refine Cond.neI (fun h => absurd rfl h) (fun _ => ?_)
  conv => whnf
  refine Cond.neI (fun h => absurd rfl h) (fun _ => ?_)
  conv => whnf
  refine ⟨⟨by decide, by show ((0 : Int)) < 2; decide⟩, PtrOb.rd (A := Own a cap 31 7 (rowP (l2 xa xb))) (by simp) Own.rd (by rw [rowP_len]; show (0 : Nat) < 2 * 7; decide) fun p hp => ?_⟩
  conv => whnf
  refine ld (A := Own a cap 31 7 (rowP (l2 xa xb))) (xs := rowP (l2 xa xb)) 5 (.rs xa.1 (pv 0).b.length xa.2) rfl (by simp) (by rw [← hp]; exact Own.rd) rfl rfl rfl trivial ?_
  conv => whnf
  refine ⟨by decide, ?_⟩
  conv => whnf
  refine ⟨⟨rfl, by decide⟩, ?_⟩
  conv => whnf
  refine ⟨⟨by decide, by rw [pv0_len]; decide⟩, PtrOb.rd (A := Own xa.1 xa.2 5 1 (u8s (pv 0).b)) (by simp) Own.rd (by rw [u8s_length, pv0_len]; decide) fun q hq => ?_⟩
  conv => whnf
  refine st_own (p := q) (cap := xa.2) (e := 5) (size := 1) (xs := u8s (pv 0).b) (j := 1) (ys := [.int .u8 0]) (F' := [Own a cap 31 7 (rowP (l2 xa xb)), Own xb.1 xb.2 5 1 (u8s (pv 1).b), Tb g 3 [], old W]) (by rw [← hq]; exact List.perm_middle (l₁ := [_])) rfl rfl rfl rfl (by intro v hv; simp at hv; subst hv; rfl) (by rw [u8s_length, pv0_len]; decide) ?_
  rw [← hq]
  conv => whnf
  refine ⟨⟨by decide, by show ((0 : Int)) < 2; decide⟩, PtrOb.rd (A := Own a cap 31 7 (rowP (l2 xa xb))) (by simp) Own.rd (by rw [rowP_len]; show (0 : Nat) < 2 * 7; decide) fun p2 hp2 => ?_⟩
  conv => whnf
  refine ldpx 0 (A := Own a cap 31 7 (rowP (l2 xa xb))) (by simp) (by rw [← hp2]; exact Own.rd) (by show 0 < 2; decide) rfl rfl rfl rfl ?_
  conv => whnf
  refine CallOb.by' [] [3] (take_k _ (Own xa.1 xa.2 5 1 (u8s (pv 0).b)) (Ent.at 4 (by kernel_rfl)) g 3 0 (by decide) [] (fun _ h => by cases h) (by decide) (pv 0) xa (none, 0) (pv_wf 0 (by decide)) ⟨Own.rd, hxa.1, hxa.2⟩ rfl zv1) rfl ⟨rfl, rfl, rfl, fun t1 ht1 => ⟨rfl, ?_⟩⟩
  obtain ⟨g1, e1, -⟩ := ht1
  conv => whnf
  refine ⟨⟨by decide, by show ((0 : Int)) < 2; decide⟩, PtrOb.rd (A := Own a cap 31 7 (rowP (l2 xa xb))) (by simp) Own.rd (by rw [rowP_len]; show (0 : Nat) < 2 * 7; decide) fun p3 hp3 => ?_⟩
  conv => whnf
  refine ld (A := Own a cap 31 7 (rowP (l2 xa xb))) (xs := rowP (l2 xa xb)) 5 (.rs xa.1 (pv 0).b.length xa.2) rfl (by simp) (by rw [← hp3]; exact Own.rd) rfl rfl rfl trivial ?_
  conv => whnf
  refine ⟨⟨by decide, by rw [pv0_len]; decide⟩, ?_⟩
  rw [hq]
  refine PtrOb.at ?_
  conv => whnf
  refine st_own (p := q) (cap := xa.2) (e := 5) (size := 1) (xs := (u8s (pv 0).b).take 1 ++ ([Value.int .u8 0] ++ (u8s (pv 0).b).drop 2)) (j := 2) (ys := [.int .u8 9]) (F' := _) (List.perm_middle (l₁ := [_, _])) rfl rfl rfl rfl (by intro v hv; simp at hv; subst hv; rfl) (by simp [u8s_length, pv0_len]) ?_
  rw [← hq]
  conv => whnf
  refine ⟨⟨by decide, by show ((1 : Int)) < 2; decide⟩, PtrOb.rd (A := Own a cap 31 7 (rowP (l2 xa xb))) (by simp) Own.rd (by rw [rowP_len]; show (0 : Nat) < 2 * 7; decide) fun p4 hp4 => ?_⟩
  conv => whnf
  refine ldpx 1 (A := Own a cap 31 7 (rowP (l2 xa xb))) (by simp) (by rw [← hp4]; exact Own.rd) (by show 1 < 2; decide) rfl rfl rfl rfl ?_
  conv => whnf
  refine CallOb.by' [] [1] (take_k _ (Own xb.1 xb.2 5 1 (u8s (pv 1).b)) (Ent.at 7 rfl) g 3 0 (by decide) t1.1 g1 (by rw [← List.length_map (f := Mg.ab), e1]; decide) (pv 1) xb (none, 0) (pv_wf 1 (by decide)) ⟨Own.rd, hxb.1, hxb.2⟩ e1 zv2) rfl ⟨rfl, rfl, rfl, fun t2 ht2 => ⟨rfl, ?_⟩⟩
  conv => whnf
  refine Cond.mk (fun _ => ?_) (fun h => by cases h)
  conv => whnf
  refine Cond.eqI (fun _ => ?_) (fun h => absurd (by rw [z300_len]; rfl) h)
  conv => whnf
  refine idx (A := Own t2.2.1 t2.2.2 5 1 (u8s z300)) (l := z300) 0 (by simp) Own.rd (by rw [z300_len]; decide) rfl fun p0 hp0 => ?_
  conv => whnf
  refine ldb (A := Own t2.2.1 t2.2.2 5 1 (u8s z300)) (l := z300) 0 (by simp) (hp0 ▸ Own.rd) (by rw [z300_len]; decide) rfl rfl (by simp) ?_
  conv => whnf
  refine Cond.eqI (fun _ => ?_) (fun h => absurd (by rw [gd300 0 (by decide)]; rfl) h)
  conv => whnf
  refine idx (A := Own t2.2.1 t2.2.2 5 1 (u8s z300)) (l := z300) 1 (by simp) Own.rd (by rw [z300_len]; decide) rfl fun p1 hp1 => ?_
  conv => whnf
  refine ldb (A := Own t2.2.1 t2.2.2 5 1 (u8s z300)) (l := z300) 1 (by simp) (hp1 ▸ Own.rd) (by rw [z300_len]; decide) rfl rfl (by simp) ?_
  conv => whnf
  refine Cond.eqI (fun _ => ?_) (fun h => absurd (by rw [gd300 1 (by decide)]; rfl) h)
  conv => whnf
  refine idx (A := Own t2.2.1 t2.2.2 5 1 (u8s z300)) (l := z300) 2 (by simp) Own.rd (by rw [z300_len]; decide) rfl fun p2 hp2 => ?_
  conv => whnf
  refine ldb (A := Own t2.2.1 t2.2.2 5 1 (u8s z300)) (l := z300) 2 (by simp) (hp2 ▸ Own.rd) (by rw [z300_len]; decide) rfl rfl (by simp) ?_
  conv => whnf
  rw [gd300 2 (by decide)]
  exact Ret.mk' () [] [6] trivial rfl (by repeat' (first | exact trivial | rfl | apply And.intro)) (by repeat' (first | exact trivial | rfl | apply And.intro)) ⟨rfl, rfl⟩
end Go.Proofs.Ytiimeklgjoclpaa
