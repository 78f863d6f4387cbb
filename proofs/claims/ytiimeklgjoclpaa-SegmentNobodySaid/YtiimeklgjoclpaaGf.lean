/- Pieces out of rooms: the document's answer; the same piece. -/
import Derived.Test.YtiimeklgjoclpaaGe
namespace Go.Proofs.Ytiimeklgjoclpaa
open Go.Sx
set_option maxRecDepth 100000
set_option pp.deepTerms false
set_option pp.maxSteps 300
set_option linter.unusedSimpArgs false
set_option linter.unusedVariables false

theorem nb_gd {b : List UInt8} {i : Nat} (h : i < b.length) : nb b i 1 = (gd b i : Int) := by
  unfold nb
  rw [gd_eq h, List.drop_eq_getElem_cons h]
  exact big_one _
theorem srdecode_c (A R : HProp) (hE : Ent A R) (x : AC) (b : List UInt8) (hb : Bts R x.1 x.2 b) :
    Con Try.prog 15 [.c (.rs x.1 b.length x.2)] [] [] A (fun t : AC × AC => Bts R t.1.1 t.1.2 (decP b).1.b ∧ Bts R t.2.1 t.2.2 (decP b).1.s) (fun t => .tup [.agg ((decP b).1.sg t.1 t.2), .c (.int .i64 (decP b).2)]) (fun _ => []) (fun _ => []) := by
  have nilb : Bts R none 0 [] := ⟨fun h _ => .inl rfl, Nat.le_refl _, fun _ => rfl⟩
  refine Con.of' tt_ok Try.func15 rfl (by decide) [.c (.rs x.1 b.length x.2)] [] [] rfl rfl trivial (by repeat' (first | exact trivial | rfl | exact hk _ | apply And.intro)) rfl ?_
  conv => whnf
  intro b2
  conv => whnf
  refine Cond.neI (fun hl => ?_) (fun hl => ?_)
  · have e : decP b = (pc0, 5) := if_neg (fun h => hl (by rw [h.1]; rfl))
    rw [e]
    conv => whnf
    exact Ret.mk' ((none, 0), (none, 0)) [] [0] ⟨nilb, nilb⟩ rfl (by repeat' (first | exact trivial | rfl | apply And.intro)) trivial ⟨rfl, rfl⟩
  have hl : b.length = 512 := by omega
  conv => whnf
  refine Draw.till (by kernel_rfl) tt_ok (Tr.of (List.range 19) .nil) 18 (by kernel_rfl) ?_
  conv => whnf
  refine idx (A := A) (l := b) 0 (by simp) (hb.1.ent hE) (by omega) rfl fun p hp => ?_
  conv => whnf
  refine ldb (A := A) (l := b) 0 (by simp) (hp ▸ hb.1.ent hE) (by omega) rfl rfl (by simp) ?_
  have := gd_lt b 0
  conv => whnf
  refine Ar.i64 (by omega) ?_
  conv => whnf
  refine idx (A := A) (l := b) 1 (by simp) (hb.1.ent hE) (by omega) rfl fun p hp => ?_
  conv => whnf
  refine ldb (A := A) (l := b) 1 (by simp) (hp ▸ hb.1.ent hE) (by omega) rfl rfl (by simp) ?_
  have := gd_lt b 1
  conv => whnf
  refine Ar.i64 (by omega) ?_
  conv => whnf
  refine idx (A := A) (l := b) 2 (by simp) (hb.1.ent hE) (by omega) rfl fun p hp => ?_
  conv => whnf
  refine ldb (A := A) (l := b) 2 (by simp) (hp ▸ hb.1.ent hE) (by omega) rfl rfl (by simp) ?_
  have := gd_lt b 2
  conv => whnf
  refine Ar.i64 (by omega) ?_
  conv => whnf
  refine idx (A := A) (l := b) 3 (by simp) (hb.1.ent hE) (by omega) rfl fun p hp => ?_
  conv => whnf
  refine ldb (A := A) (l := b) 3 (by simp) (hp ▸ hb.1.ent hE) (by omega) rfl rfl (by simp) ?_
  have := gd_lt b 3
  conv => whnf
  refine Ar.i64 (by omega) ?_
  conv => whnf
  intro b4
  refine Sub.parts [2] [0] ⟨rfl, rfl⟩ ?_
  conv => whnf
  have bok : ∀ z : Int, okH [(4, b4), (2, b2)] [(4, [.one (.int .i64 (gd b 0)), .one (.int .i64 (gd b 1)), .one (.int .u32 z), .one (.int .i64 (gd b 2)), .one (.int .i64 (gd b 3)), .one (.rs none 0 0), .one (.rs none 0 0)], 25), (2, segJ b 0, 25)] := fun _ => (by repeat' (first | exact trivial | rfl | exact hk _ | apply And.intro))
  refine LoopOb.mk' (σ := Nat) (fun j => [(0, .c (.rs x.1 b.length x.2)), (2, .c (.ptr 2 0)), (4, .c (.ptr 4 0)), (5, .c (.int .i64 j))])
    (fun j => ⟨[(4, b4), (2, b2)], [(4, [.one (.int .i64 (gd b 0)), .one (.int .i64 (gd b 1)), .one (.int .u32 (big ((b.drop 4).take j))), .one (.int .i64 (gd b 2)), .one (.int .i64 (gd b 3)), .one (.rs none 0 0), .one (.rs none 0 0)], 25), (2, segJ b 0, 25)], [A]⟩) (fun j => j ≤ 4) (fun j => 4 - j) 0 (Nat.zero_le _)
    (Wk.mk' [4, 2] [0] ⟨⟨rfl, (by repeat' (first | exact trivial | rfl | apply And.intro))⟩, ⟨rfl, (by repeat' (first | exact trivial | rfl | apply And.intro))⟩, ⟨rfl, (by repeat' (first | exact trivial | rfl | apply And.intro))⟩, ⟨rfl, trivial⟩, trivial⟩ (bok _) ⟨rfl, rfl⟩) ?_
  intro j hj
  conv => whnf
  refine Cond.dec (fun h => ?_) (fun h => ?_)
  · conv => whnf
    have hj4 : j < (b.drop 4).length := by rw [List.length_drop]; omega
    have h256 : big ((b.drop 4).take j) * 256 + 255 < 4294967296 := by
      have := big_lt ((b.drop 4).take j) 3 (by rw [List.length_take]; omega)
      omega
    have h0 := (big_range ((b.drop 4).take j)).1
    refine Draw.till (by kernel_rfl) tt_ok (Tr.of (List.range 12) .nil) 11 (by kernel_rfl) ?_
    conv => whnf
    refine Ar.u32 (by omega) ?_
    conv => whnf
    refine Ar.i64 (by omega) ?_
    conv => whnf
    refine idx (A := A) (l := b) (4 + j) (by simp) (hb.1.ent hE) (by omega) (by push_cast; rfl) fun p hp => ?_
    conv => whnf
    refine ldb (A := A) (l := b) (4 + j) (by simp) (hp ▸ hb.1.ent hE) (by omega) rfl rfl (by show p.2 + ((4 : Int) + (j : Int)).toNat * 1 = p.2 + (4 + j); omega) ?_
    have hq := gd_lt b (4 + j)
    conv => whnf
    refine Ar.u32 (by omega) ?_
    conv => whnf
    refine Ar.u32 (by omega) ?_
    conv => whnf
    refine Ar.i64 (by omega) ?_
    conv => whnf
    refine ⟨j + 1, by omega, by omega, Wk.mk' [4, 2] [0] ⟨⟨rfl, (by repeat' (first | exact trivial | rfl | apply And.intro))⟩, ⟨rfl, (by repeat' (first | exact trivial | rfl | apply And.intro))⟩, ⟨rfl, (by repeat' (first | exact trivial | rfl | apply And.intro))⟩, ⟨rfl, trivial⟩, trivial⟩ (bok _) ⟨?_, rfl⟩⟩
    have e1 : big ((b.drop 4).take (j + 1)) = big ((b.drop 4).take j) * 256 + (gd b (4 + j) : Int) := by
      rw [big_take _ _ hj4, gd_eq (by omega), List.getElem_drop]
    rw [e1]; rfl
  have hj4 : j = 4 := by omega
  subst hj4
  have e8 : ∀ i, i < 10 → nb b i 1 = (gd b i : Int) := fun i hi => nb_gd (by omega)
  have g8 := gd_lt b 8
  have hcap := hb.2.1
  conv => whnf
  refine idx (A := A) (l := b) 8 (by simp) (hb.1.ent hE) (by omega) rfl fun p hp => ?_
  conv => whnf
  refine ldb (A := A) (l := b) 8 (by simp) (hp ▸ hb.1.ent hE) (by omega) rfl rfl (by simp) ?_
  conv => whnf
  refine Ar.i64 (by omega) ?_
  conv => whnf
  refine Ar.i64 (by omega) ?_
  conv => whnf
  obtain ⟨⟨k, hk⟩, hk'⟩ : (∃ k : Nat, gd b 8 = k) ∧ True := ⟨⟨_, rfl⟩, trivial⟩
  have ek : nb b 8 1 = (k : Int) := by rw [e8 8 (by decide), hk]
  rw [hk] at g8 ⊢
  refine ⟨by omega, ⟨by omega, ?_⟩⟩
  conv => whnf
  refine idx (A := A) (l := b) 9 (by simp) (hb.1.ent hE) (by omega) rfl fun p9 hp9 => ?_
  conv => whnf
  refine ldb (A := A) (l := b) 9 (by simp) (hp9 ▸ hb.1.ent hE) (by omega) rfl rfl (by simp) ?_
  have e9 := e8 9 (by decide)
  conv => whnf
  have eP : ∀ s, (if nb b 9 1 = 1 then (b.drop (10 + k)).take 241 else []) = s → pcOf b = ⟨gd b 0, gd b 1, big ((b.drop 4).take 4), gd b 2, gd b 3, (b.drop 10).take k, s⟩ := by
    intro s hs
    unfold pcOf
    rw [ek, Int.toNat_natCast, hs, e8 0 (by decide), e8 1 (by decide), e8 2 (by decide), e8 3 (by decide)]
    rfl
  have hB : Bts R (cutA x.1 x.2 10 1) (x.2 - 10) ((b.drop 10).take k) := hb.sub 10 k (by omega)
  have hbk : ((b.drop 10).take k).length = k := by rw [List.length_take, List.length_drop]; omega
  have q4 := nb4 b 4
  have g0 := gd_lt b 0
  have g1 := gd_lt b 1
  have g2 := gd_lt b 2
  have g3 := gd_lt b 3
  refine Cond.eqI (fun h1 => ?_) (fun h1 => ?_)
  · have h9 : nb b 9 1 = 1 := by rw [e9]; exact h1
    have ep := eP _ (if_pos h9)
    conv => whnf
    refine Ar.i64 (by omega) ?_
    conv => whnf
    refine Ar.i64 (by omega) ?_
    conv => whnf
    refine Cond.dec (fun h => absurd h (by omega)) (fun h => ?_)
    conv => whnf
    refine Ar.i64 (by omega) ?_
    conv => whnf
    refine Ar.i64 (by omega) ?_
    conv => whnf
    refine Ar.i64 (by omega) ?_
    conv => whnf
    refine ⟨by omega, ⟨by omega, ?_⟩⟩
    conv => whnf
    have hS : Bts R (cutA x.1 x.2 (10 + k) 1) (x.2 - (10 + k)) ((b.drop (10 + k)).take 241) := hb.sub (10 + k) 241 (by omega)
    have el2 : (10 + (k : Int) + 241).toNat - (10 + (k : Int)).toNat = ((b.drop (10 + k)).take 241).length := by rw [List.length_take, List.length_drop]; omega
    have ec2 : (10 + (k : Int)).toNat = 10 + k := by omega
    rw [el2, ec2, show 10 + k - Int.toNat 10 = ((b.drop 10).take k).length by rw [hbk]; show 10 + k - 10 = k; omega]
    have hw : (⟨gd b 0, gd b 1, big ((b.drop 4).take 4), gd b 2, gd b 3, (b.drop 10).take k, ((b.drop (10 + k)).take 241)⟩ : Pc).wf := ⟨by dsimp only; omega, by dsimp only; omega, q4, by dsimp only; omega, by dsimp only; omega⟩
    refine CallOb.new (srencode_c _ R R ((Ent.all (by simp)).trans hE) ((Ent.all (by simp)).trans hE) ⟨gd b 0, gd b 1, big ((b.drop 4).take 4), gd b 2, gd b 3, (b.drop 10).take k, ((b.drop (10 + k)).take 241)⟩ (cutA x.1 x.2 10 1, x.2 - 10) (cutA x.1 x.2 (10 + k) 1, x.2 - (10 + k)) hw hB hS) rfl fun y hy => ?_
    rw [← ep] at hy hw ⊢
    conv => whnf
    refine Cond.neI (fun he => ?_) (fun he => ?_)
    · have e : decP b = (pc0, 5) := by
        rw [decP_enc, if_neg (fun h => he (by rw [h.2]))]
      rw [e]
      conv => whnf
      exact Ret.mk' ((none, 0), (none, 0)) [] [1] ⟨nilb, nilb⟩ rfl (by repeat' (first | exact trivial | rfl | apply And.intro)) trivial ⟨rfl, rfl⟩
    conv => whnf
    refine conv_str (l := (pcOf b).enc.1) (k := (pcOf b).enc.1.length) (x := .c (.rs y.1 (pcOf b).enc.1.length y.2)) Try.underlying23 Try.underlying5 Try.underlying9 (Src.rs (A := Own y.1 y.2 5 1 (u8s (pcOf b).enc.1)) (by simp) Own.rd) rfl (fun s h => by cases h) ?_
    conv => whnf
    refine conv_str (l := b) (k := b.length) (x := .c (.rs x.1 b.length x.2)) Try.underlying23 Try.underlying5 Try.underlying9 (Src.rs (A := A) (by simp) (hb.1.ent hE)) rfl (fun s h => by cases h) ?_
    conv => whnf
    refine Cond.not (Cond.str (fun hs => ?_) (fun hs => ?_))
    · have e : decP b = (pcOf b, 0) := by
        rw [decP_enc, if_pos ⟨hl, Prod.ext hs he⟩]
      rw [e]
      conv => whnf
      exact Ret.mk' ((cutA x.1 x.2 10 1, x.2 - 10), (cutA x.1 x.2 (10 + k) 1, x.2 - (10 + k))) [] [1] ⟨by rw [ep]; exact hB, by rw [ep]; exact hS⟩ (by rw [ep]; rfl) (by repeat' (first | exact trivial | rfl | apply And.intro)) trivial ⟨rfl, rfl⟩
    · have e : decP b = (pc0, 5) := by
        rw [decP_enc, if_neg (fun h => hs (by rw [h.2]))]
      rw [e]
      conv => whnf
      exact Ret.mk' ((none, 0), (none, 0)) [] [1] ⟨nilb, nilb⟩ rfl (by repeat' (first | exact trivial | rfl | apply And.intro)) trivial ⟨rfl, rfl⟩
  · have h9 : ¬ nb b 9 1 = 1 := by rw [e9]; exact h1
    have ep := eP _ (if_neg h9)
    conv => whnf
    rw [show (10 + (k : Int)).toNat - Int.toNat 10 = ((b.drop 10).take k).length by rw [hbk]; omega]
    have hw : (⟨gd b 0, gd b 1, big ((b.drop 4).take 4), gd b 2, gd b 3, (b.drop 10).take k, ([] : List UInt8)⟩ : Pc).wf := ⟨by dsimp only; omega, by dsimp only; omega, q4, by dsimp only; omega, by dsimp only; omega⟩
    refine CallOb.new (srencode_c _ R R ((Ent.all (by simp)).trans hE) ((Ent.all (by simp)).trans hE) ⟨gd b 0, gd b 1, big ((b.drop 4).take 4), gd b 2, gd b 3, (b.drop 10).take k, ([] : List UInt8)⟩ (cutA x.1 x.2 10 1, x.2 - 10) ((none, 0) : AC) hw hB nilb) rfl fun y hy => ?_
    rw [← ep] at hy hw ⊢
    conv => whnf
    refine Cond.neI (fun he => ?_) (fun he => ?_)
    · have e : decP b = (pc0, 5) := by
        rw [decP_enc, if_neg (fun h => he (by rw [h.2]))]
      rw [e]
      conv => whnf
      exact Ret.mk' ((none, 0), (none, 0)) [] [1] ⟨nilb, nilb⟩ rfl (by repeat' (first | exact trivial | rfl | apply And.intro)) trivial ⟨rfl, rfl⟩
    conv => whnf
    refine conv_str (l := (pcOf b).enc.1) (k := (pcOf b).enc.1.length) (x := .c (.rs y.1 (pcOf b).enc.1.length y.2)) Try.underlying23 Try.underlying5 Try.underlying9 (Src.rs (A := Own y.1 y.2 5 1 (u8s (pcOf b).enc.1)) (by simp) Own.rd) rfl (fun s h => by cases h) ?_
    conv => whnf
    refine conv_str (l := b) (k := b.length) (x := .c (.rs x.1 b.length x.2)) Try.underlying23 Try.underlying5 Try.underlying9 (Src.rs (A := A) (by simp) (hb.1.ent hE)) rfl (fun s h => by cases h) ?_
    conv => whnf
    refine Cond.not (Cond.str (fun hs => ?_) (fun hs => ?_))
    · have e : decP b = (pcOf b, 0) := by
        rw [decP_enc, if_pos ⟨hl, Prod.ext hs he⟩]
      rw [e]
      conv => whnf
      exact Ret.mk' ((cutA x.1 x.2 10 1, x.2 - 10), ((none, 0) : AC)) [] [1] ⟨by rw [ep]; exact hB, by rw [ep]; exact nilb⟩ (by rw [ep]; rfl) (by repeat' (first | exact trivial | rfl | apply And.intro)) trivial ⟨rfl, rfl⟩
    · have e : decP b = (pc0, 5) := by
        rw [decP_enc, if_neg (fun h => hs (by rw [h.2]))]
      rw [e]
      conv => whnf
      exact Ret.mk' ((none, 0), (none, 0)) [] [1] ⟨nilb, nilb⟩ rfl (by repeat' (first | exact trivial | rfl | apply And.intro)) trivial ⟨rfl, rfl⟩
end Go.Proofs.Ytiimeklgjoclpaa
