/- Segment: SegmentWhole walked. -/
import Derived.Test.YtiimeklgjoclpaaIb
namespace Go.Proofs.Ytiimeklgjoclpaa
open Go.Sx
set_option maxRecDepth 100000
set_option pp.deepTerms false
set_option pp.maxSteps 300
set_option linter.unusedSimpArgs false
set_option linter.unusedVariables false

structure WhT where
  i : Nat
  had : List Bool
  l : List Mg
  s : Int
abbrev bls (l : List Bool) : List Value := l.map Value.bool
theorem wholes_c (W : World) (a : AC) (b : List UInt8) (hb : Bts (old W) a.1 a.2 b) (a0 : AC) (o : List UInt8) (ho : Bts (old W) a0.1 a0.2 o) :
    LawC Try.prog 6 [.c (.rs a.1 b.length a.2), .c (.rs a0.1 o.length a0.2)] W := by
  refine Con.of' tt_ok Try.func6 rfl (by decide) [.c (.rs a.1 b.length a.2), .c (.rs a0.1 o.length a0.2)] [] [] rfl rfl trivial (by repeat' (first | exact trivial | rfl | exact hk _ | apply And.intro)) rfl ?_
  conv => whnf
  refine CallOb.pu (alive_c _) rfl ?_
  conv => whnf
  refine Cond.dec (fun h1 => ?_) (fun hlen => ?_)
  · conv => whnf
    exact Ret.mk' () [] [0] trivial rfl (by repeat' (first | exact trivial | rfl | apply And.intro)) (by repeat' (first | exact trivial | rfl | apply And.intro)) ⟨rfl, rfl⟩
  have hlen : b.length ≤ 1920 := by omega
  have hN := piecesN_le hlen
  conv => whnf
  refine CallOb.new (scut_c _ (old W) (Ent.at 0 rfl) 2 77 (by decide) a b hb (by omega)) rfl fun t1 h1 => ?_
  obtain ⟨⟨a1, c1⟩, l1⟩ := t1
  obtain ⟨k1, p1, e1⟩ := h1
  have ecut : cutP 2 77 b = ((List.range (piecesN b)).map (pw b), 0) := by unfold cutP; rw [if_pos (by decide), if_neg (by omega)]
  rw [ecut] at e1 ⊢
  dsimp only at k1 p1 e1 ⊢
  have hl1 : l1.length = piecesN b := by rw [← List.length_map (f := (·.c)), e1]; simp
  have hc1 : ∀ k (h : k < l1.length), (l1[k]).c = pw b k := fun k h => by
    have h1 : (l1.map (·.c))[k]? = some (l1[k]).c := by rw [List.getElem?_map, List.getElem?_eq_getElem h]; rfl
    rw [e1, List.getElem?_map, List.getElem?_range (by omega)] at h1
    exact (Option.some.inj h1).symm
  conv => whnf
  refine CallOb.new (newTable_c _ 1 (by decide)) rfl fun g _ => ?_
  conv => whnf
  refine Cond.neI (fun h => absurd rfl h) (fun _ => ?_)
  conv => whnf
  refine ⟨⟨by omega, by omega, by omega, by show ((1 : Nat) : Int) * l1.length ≤ _; omega⟩, ?_⟩
  intro b34
  conv => whnf
  rw [hl1]
  refine LoopOb.mk' (σ := WhT) (fun s => [(0, .c (.rs a.1 b.length a.2)), (1, .c (.rs a0.1 o.length a0.2)), (5, .c (.rs a1 (piecesN b) c1)), (7, .c (.rp g 0)), (8, .c (.rs (some (radr (b34, 0))) s.had.length (piecesN b))), (9, .c (.int .i64 (cnt s.had))), (10, .c (.int .i64 s.i))])
    (fun s => ⟨[(34, b34)], [], [Own (some (radr (b34, 0))) (piecesN b) 4 1 (bls s.had), Tb g 1 s.l, Own a1 c1 31 7 (rowP l1), ows l1, old W]⟩)
    (fun s => s.i ≤ 60 ∧ s.had.length = piecesN b ∧ cnt s.had < piecesN b ∧ goods s.l ∧ s.l.map Mg.ab = stL b s.had s.s) (fun s => 60 - s.i) ⟨0, List.replicate (piecesN b) false, [], 0⟩ ?_ ?_ ?_
  · have h0 : cnt (List.replicate (piecesN b) false) = 0 := by unfold cnt; rw [List.count_replicate]; rfl
    refine ⟨Nat.zero_le _, List.length_replicate, by rw [h0]; omega, fun _ h => (by cases h), ?_⟩
    dsimp only
    unfold stL
    rw [if_pos h0]; rfl
  · have h0 : cnt (List.replicate (piecesN b) false) = 0 := by unfold cnt; rw [List.count_replicate]; rfl
    refine Wk.own 34 (piecesN b) (piecesN b) 1 ⟨_, _, rfl, ⟨by show 0 + (piecesN b : Int).toNat = piecesN b * 1; omega, Nat.le_refl _⟩, ⟨⟨by simp, fun v hv => by rw [(List.mem_replicate.1 hv).2]; rfl⟩, trivial⟩, ?_⟩
    refine Wk.mk' [] [0, 0, 0, 0, 0] ⟨⟨rfl, (by repeat' (first | exact trivial | rfl | apply And.intro))⟩, ⟨rfl, (by repeat' (first | exact trivial | rfl | apply And.intro))⟩, ⟨rfl, (by repeat' (first | exact trivial | rfl | apply And.intro))⟩, ⟨rfl, (by repeat' (first | exact trivial | rfl | apply And.intro))⟩, ⟨?_, (by repeat' (first | exact trivial | rfl | apply And.intro))⟩, ⟨?_, (by repeat' (first | exact trivial | rfl | apply And.intro))⟩, ⟨rfl, (by repeat' (first | exact trivial | rfl | apply And.intro))⟩, trivial⟩ (by repeat' (first | exact trivial | rfl | apply And.intro)) ⟨rfl, ?_⟩
    · show Value.slice _ (piecesN b : Int).toNat _ = Value.slice _ (List.replicate (piecesN b) false).length _
      rw [List.length_replicate]; rfl
    · dsimp only; rw [h0]; rfl
    · show [Own _ _ _ _ (List.take (piecesN b * 1) (List.replicate (piecesN b : Int).toNat (Value.bool false) ++ [])), _, _, _, _] = [Own _ _ _ _ (bls (List.replicate (piecesN b) false)), _, _, _, _]
      rw [List.append_nil, List.take_of_length_le (by simp)]
      show [Own _ _ _ _ (List.replicate (piecesN b) (Value.bool false)), _, _, _, _] = [Own _ _ _ _ ((List.replicate (piecesN b) false).map Value.bool), _, _, _, _]
      rw [List.map_replicate]; rfl
  rintro ⟨i, had, l, s⟩ ⟨hi, hhl, hcn, hg, hab⟩
  dsimp only at hi hhl hcn hg hab ⊢
  conv => whnf
  refine Cond.dec (fun h1 => ?_) (fun h1 => ?_)
  case refine_2 =>
    conv => whnf
    exact Ret.mk' () [] [4] trivial rfl (by repeat' (first | exact trivial | rfl | apply And.intro)) (by repeat' (first | exact trivial | rfl | apply And.intro)) ⟨rfl, rfl⟩
  conv => whnf
  refine Cond.dec (fun h2 => ?_) (fun h2 => ?_)
  case refine_2 =>
    conv => whnf
    exact Ret.mk' () [] [4] trivial rfl (by repeat' (first | exact trivial | rfl | apply And.intro)) (by repeat' (first | exact trivial | rfl | apply And.intro)) ⟨rfl, rfl⟩
  conv => whnf
  refine idx (A := old W) (l := o) i (by simp) ho.1 (by omega) rfl fun p hp => ?_
  conv => whnf
  refine ldb (A := old W) (l := o) i (by simp) (hp ▸ ho.1) (by omega) rfl rfl (by simp) ?_
  have hgl := gd_lt o i
  conv => whnf
  refine Ar.i64 (by omega) ?_
  conv => whnf
  refine ⟨by omega, ?_⟩
  conv => whnf
  obtain ⟨k, hk⟩ : ∃ k : Nat, ((gd o i : Nat) : Int).tmod (piecesN b : Int) = k := ⟨gd o i % piecesN b, rfl⟩
  have hkN : k < piecesN b := by
    have h1 : ((gd o i : Nat) : Int).tmod (piecesN b : Int) = ((gd o i % piecesN b : Nat) : Int) := rfl
    rw [h1] at hk
    have := Nat.mod_lt (gd o i) (show piecesN b > 0 by omega)
    omega
  rw [hk]
  have hk1 : k < l1.length := by omega
  refine ⟨by omega, PtrOb.rd (A := Own a1 c1 31 7 (rowP l1)) (by simp) Own.rd (by rw [rowP_len]; omega) fun q hq => ?_⟩
  conv => whnf
  refine ldpx k (A := Own a1 c1 31 7 (rowP l1)) (by simp) (by rw [← hq]; exact Own.rd) hk1 rfl rfl rfl (by show q.2 + (k : Int).toNat * 7 = _; omega) ?_
  conv => whnf
  have hpm : l1[k] ∈ l1 := List.getElem_mem hk1
  have hwf : (l1[k]).c.wf := by rw [hc1 k hk1]; exact pieceAt_wf (by decide) (by decide) (by omega) (by omega)
  have hbt : Bts (ows l1) (l1[k]).x.1 (l1[k]).x.2 (l1[k]).c.b := ⟨Own.rd.ent (Ent.all (List.mem_map.2 ⟨_, hpm, rfl⟩)), p1.f _ hpm⟩
  have hst := whole_step (s := s) (now := (i : Int)) hlen hhl hkN (by omega)
  rw [← hc1 k hk1] at hst
  have hle : (l.length : Int) ≤ 1 := by
    have h2 : (stL b had s).length ≤ 1 := by unfold stL; split <;> simp
    rw [← hab, List.length_map] at h2; omega
  have call := fun A hE {L' o' k' e'} hh => take_k A (ows l1) hE g 1 (i : Int) (by decide) l hg hle (l1[k]'hk1).c (l1[k]'hk1).x (l1[k]'hk1).y hwf hbt (L' := L') (o := o') (k := k') (e := e') hab hh
  by_cases hk2 : had[k]? = some true
  · rw [if_pos hk2] at hst
    refine CallOb.by' [] [1] (call _ (Ent.at 2 rfl) hst) rfl ⟨rfl, rfl, rfl, fun t ht => ⟨rfl, ?_⟩⟩
    obtain ⟨g1, e1, -⟩ := ht
    conv => whnf
    refine ⟨by omega, PtrOb.at ?_⟩
    conv => whnf
    refine ld (A := Own (some (radr (b34, 0))) (piecesN b) 4 1 (bls had)) (xs := bls had) k (.tt) rfl (by simp) Own.rd rfl (by show 0 + (k : Int).toNat * 1 = _; omega) (by rw [List.getElem?_map, hk2]; rfl) trivial ?_
    conv => whnf
    refine Cond.neI (fun h => absurd rfl h) (fun _ => ?_)
    conv => whnf
    refine Cond.mk (fun h => by cases h) (fun _ => ?_)
    conv => whnf
    refine Ar.i64 (by omega) ?_
    conv => whnf
    exact ⟨⟨i + 1, had, t.1, s⟩, ⟨by dsimp only; omega, hhl, hcn, g1, e1⟩, by dsimp only; omega, Wk.mk' [] [2, 0, 1, 1, 1] ⟨⟨rfl, (by repeat' (first | exact trivial | rfl | apply And.intro))⟩, ⟨rfl, (by repeat' (first | exact trivial | rfl | apply And.intro))⟩, ⟨rfl, (by repeat' (first | exact trivial | rfl | apply And.intro))⟩, ⟨rfl, (by repeat' (first | exact trivial | rfl | apply And.intro))⟩, ⟨rfl, (by repeat' (first | exact trivial | rfl | apply And.intro))⟩, ⟨rfl, (by repeat' (first | exact trivial | rfl | apply And.intro))⟩, ⟨rfl, (by repeat' (first | exact trivial | rfl | apply And.intro))⟩, trivial⟩ (by repeat' (first | exact trivial | rfl | apply And.intro)) ⟨rfl, rfl⟩⟩
  have hk0 : had[k]? = some false := by
    rw [List.getElem?_eq_getElem (by omega)] at hk2 ⊢
    cases hx : had[k]'(by omega) <;> simp_all
  have hset := cnt_set hk0
  have hsl : (had.set k true).length = had.length := List.length_set
  have hbs : (bls had).take k ++ ([Value.bool true] ++ (bls had).drop (k + 1)) = bls (had.set k true) := by
    show _ = (had.set k true).map Value.bool
    rw [List.map_set, List.set_eq_take_append_cons_drop, if_pos (by rw [List.length_map]; omega)]; rfl
  rw [if_neg hk2] at hst
  by_cases hk3 : cnt had + 1 < piecesN b
  · rw [if_pos hk3] at hst
    refine CallOb.by' [] [1] (call _ (Ent.at 2 rfl) hst) rfl ⟨rfl, rfl, rfl, fun t ht => ⟨rfl, ?_⟩⟩
    obtain ⟨g1, e1, ho1⟩ := ht
    conv => whnf
    refine ⟨by omega, PtrOb.at ?_⟩
    conv => whnf
    refine ld (A := Own (some (radr (b34, 0))) (piecesN b) 4 1 (bls had)) (xs := bls had) k (.ff) rfl (by simp) Own.rd rfl (by show 0 + (k : Int).toNat * 1 = _; omega) (by rw [List.getElem?_map, hk0]; rfl) trivial ?_
    conv => whnf
    refine ⟨by omega, PtrOb.at ?_⟩
    conv => whnf
    refine st_own (p := (b34, 0)) (cap := piecesN b) (e := 4) (size := 1) (xs := bls had) (j := k) (ys := [.bool true]) (F' := _) (List.perm_middle (l₁ := [_, _])) rfl (by show 0 + (k : Int).toNat * 1 = _; omega) rfl rfl (by intro v hv; simp at hv; subst hv; rfl) (by rw [List.length_map]; show k + 1 ≤ _; omega) ?_
    conv => whnf
    refine Ar.i64 (by omega) ?_
    conv => whnf
    refine Cond.neI (fun h => absurd rfl h) (fun _ => ?_)
    conv => whnf
    refine Cond.fne (Cond.eqI (fun h => absurd h (by omega)) (fun _ => ?_))
    conv => whnf
    refine Cond.mk (fun h => by cases h) (fun _ => ?_)
    conv => whnf
    refine Cond.mk (fun h => by cases h) (fun _ => ?_)
    conv => whnf
    refine Ar.i64 (by omega) ?_
    conv => whnf
    refine ⟨⟨i + 1, had.set k true, t.1, if cnt had = 0 then i else s⟩, ⟨by dsimp only; omega, by dsimp only; rw [hsl]; exact hhl, by dsimp only; rw [hset]; exact hk3, g1, e1⟩, by dsimp only; omega, Wk.mk' [] [0, 0, 1, 1, 1] ⟨⟨rfl, (by repeat' (first | exact trivial | rfl | apply And.intro))⟩, ⟨rfl, (by repeat' (first | exact trivial | rfl | apply And.intro))⟩, ⟨rfl, (by repeat' (first | exact trivial | rfl | apply And.intro))⟩, ⟨rfl, (by repeat' (first | exact trivial | rfl | apply And.intro))⟩, ⟨?_, (by repeat' (first | exact trivial | rfl | apply And.intro))⟩, ⟨?_, (by repeat' (first | exact trivial | rfl | apply And.intro))⟩, ⟨rfl, (by repeat' (first | exact trivial | rfl | apply And.intro))⟩, trivial⟩ (by repeat' (first | exact trivial | rfl | apply And.intro)) ⟨rfl, ?_⟩⟩
    · show Value.slice _ had.length _ = Value.slice _ (had.set k true).length _
      rw [hsl]
    · dsimp only; rw [hset]; rfl
    · show [Own _ _ _ _ ((bls had).take k ++ ([Value.bool true] ++ (bls had).drop (k + 1))), _, _, _, _] = _
      rw [hbs]
  · rw [if_neg hk3] at hst
    refine CallOb.by' [] [1] (call _ (Ent.at 2 rfl) hst) rfl ⟨rfl, rfl, rfl, fun t ht => ⟨rfl, ?_⟩⟩
    obtain ⟨g1, e1, ho1⟩ := ht
    conv => whnf
    refine ⟨by omega, PtrOb.at ?_⟩
    conv => whnf
    refine ld (A := Own (some (radr (b34, 0))) (piecesN b) 4 1 (bls had)) (xs := bls had) k (.ff) rfl (by simp) Own.rd rfl (by show 0 + (k : Int).toNat * 1 = _; omega) (by rw [List.getElem?_map, hk0]; rfl) trivial ?_
    conv => whnf
    refine ⟨by omega, PtrOb.at ?_⟩
    conv => whnf
    refine st_own (p := (b34, 0)) (cap := piecesN b) (e := 4) (size := 1) (xs := bls had) (j := k) (ys := [.bool true]) (F' := _) (List.perm_middle (l₁ := [_, _])) rfl (by show 0 + (k : Int).toNat * 1 = _; omega) rfl rfl (by intro v hv; simp at hv; subst hv; rfl) (by rw [List.length_map]; show k + 1 ≤ _; omega) ?_
    conv => whnf
    refine Ar.i64 (by omega) ?_
    conv => whnf
    refine Cond.neI (fun h => absurd rfl h) (fun _ => ?_)
    conv => whnf
    refine Cond.tne (Cond.eqI (fun _ => ?_) (fun h => absurd (by omega) h))
    conv => whnf
    refine Cond.mk (fun _ => ?_) (fun h => by cases h)
    conv => whnf
    refine conv_str (l := b) (k := (b).length) (x := .c (.rs t.2.1 (b).length t.2.2)) Try.underlying23 Try.underlying5 Try.underlying9 (Src.rs (A := Own t.2.1 t.2.2 5 1 (u8s b)) (by exact List.mem_of_getElem? (i := 2) rfl) (Own.rd)) rfl (fun s h => by cases h) ?_
    conv => whnf
    refine conv_str (l := b) (k := (b).length) (x := .c (.rs a.1 (b).length a.2)) Try.underlying23 Try.underlying5 Try.underlying9 (Src.rs (A := old W) (by exact List.mem_of_getElem? (i := 5) rfl) (hb.1)) rfl (fun s h => by cases h) ?_
    conv => whnf
    refine Cond.not (Cond.str (fun _ => ?_) (fun h => absurd rfl h))
    conv => whnf
    refine Cond.mk (fun _ => ?_) (fun h => by cases h)
    conv => whnf
    have hl3 : t.1 = [] := by
      have := congrArg List.length e1
      rw [List.length_map] at this
      exact List.eq_nil_of_length_eq_zero this
    refine CallOb.by' [] [1] (tlen_c _ g 1 (by decide) t.1) rfl ⟨rfl, rfl, rfl, fun _ _ => ⟨rfl, ?_⟩⟩
    rw [hl3]
    conv => whnf
    exact Ret.mk' () [] [5] trivial rfl (by repeat' (first | exact trivial | rfl | apply And.intro)) (by repeat' (first | exact trivial | rfl | apply And.intro)) ⟨rfl, rfl⟩
end Go.Proofs.Ytiimeklgjoclpaa
