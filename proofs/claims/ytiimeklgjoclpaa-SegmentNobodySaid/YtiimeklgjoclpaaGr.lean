/- Segment: alive. -/
import Derived.Test.YtiimeklgjoclpaaGq
namespace Go.Proofs.Ytiimeklgjoclpaa
open Go.Sx
set_option maxRecDepth 100000
set_option pp.deepTerms false
set_option pp.maxSteps 300
set_option linter.unusedSimpArgs false
set_option linter.unusedVariables false

/-- Take, with its answer named. -/
theorem take_k (A R : HProp) (hE : Ent A R) (g : Nat) (room now : Int) (hr : 1 ≤ room ∧ room ≤ 64) (l : List Mg) (hl : goods l) (hlen : (l.length : Int) ≤ room) (c : Pc) (x y : AC) (hw : c.wf) (hb : Bts R x.1 x.2 c.b) {L L' : List Ab} {o : List UInt8} {k : Bool} {e : Int}
    (hL : l.map Mg.ab = L) (h : tkA room now c L = (L', o, k, e)) :
    Con Try.prog 23 [.c (.rp g 0), .c (.int .i64 now), .agg (c.sg x y)] [] [Tb g room l] A
      (fun t : List Mg × AC => goods t.1 ∧ t.1.map Mg.ab = L' ∧ Fc t.2.1 t.2.2 o)
      (fun t => .tup [.c (.rs t.2.1 o.length t.2.2), .c (.bool k), .c (.int .i64 e)]) (fun _ => [])
      (fun t => [Tb g room t.1, Own t.2.1 t.2.2 5 1 (u8s o)]) := by
  have := stake_c A R hE g room now hr l hl hlen c x y hw hb
  rw [hL, h] at this
  exact this
theorem px3 {l : List Px} {a b c : Pc} (h : l.map (·.c) = [a, b, c]) (hp : Pxs l) : ∃ x y z : AC, l = [⟨a, x, (none, 0)⟩, ⟨b, y, (none, 0)⟩, ⟨c, z, (none, 0)⟩] ∧ Fc x.1 x.2 a.b ∧ Fc y.1 y.2 b.b ∧ Fc z.1 z.2 c.b := by
  rcases l with _ | ⟨⟨a', x, x'⟩, _ | ⟨⟨b', y, y'⟩, _ | ⟨⟨c', z, z'⟩, _ | ⟨p3, l⟩⟩⟩⟩
  all_goals simp at h
  obtain ⟨rfl, rfl, rfl⟩ := h
  have h1 := (hp.y ⟨a', x, x'⟩ (by simp)).1
  have h2 := (hp.y ⟨b', y, y'⟩ (by simp)).1
  have h3 := (hp.y ⟨c', z, z'⟩ (by simp)).1
  dsimp only at h1 h2 h3
  subst h1 h2 h3
  exact ⟨x, y, z, rfl, hp.f ⟨a', x, (none, 0)⟩ (by simp), hp.f ⟨b', y, (none, 0)⟩ (by simp), hp.f ⟨c', z, (none, 0)⟩ (by simp)⟩
theorem bts0 {R : HProp} : Bts R none 0 [] := ⟨fun h _ => .inl rfl, Nat.le_refl _, fun _ => rfl⟩
theorem ok_zeros (n : Nat) : okL [] [Seg.many n (List.replicate n (SC.den [] (SC.int .u8 0)))] := ⟨⟨by simp, fun v hv => by rw [(List.mem_replicate.1 hv).2]; rfl⟩, trivial⟩
abbrev l3 (x y z : AC) : List Px := [⟨pz 0, x, (none, 0)⟩, ⟨pz 1, y, (none, 0)⟩, ⟨pz 2, z, (none, 0)⟩]
theorem alive_c (A : HProp) : Pu Try.prog 9 [] A (.c .tt) := by
  refine Con.of' tt_ok Try.func9 rfl (by decide) [] [] [] rfl rfl trivial (by repeat' (first | exact trivial | rfl | apply And.intro)) rfl ?_
  conv => whnf
  refine ⟨by decide, ?_⟩
  intro b18
  conv => whnf
  refine CallOb.own 18 500 500 1 ⟨_, _, rfl, ⟨rfl, Nat.le_refl _⟩, ok_zeros 500, ?_⟩
  refine CallOb.new (scut_c _ (Own (some (radr (b18, 0))) 500 5 1 (u8s z500)) (Ent.at 0 (by kernel_rfl)) 3 9 (by decide) (some (radr (b18, 0)), 500) z500 ⟨Own.rd, by rw [z500_len]; exact Nat.le_refl _, fun e => by cases e⟩ (by rw [z500_len]; decide)) (by rw [z500_len]; rfl) fun t ht => ?_
  obtain ⟨⟨a, cap⟩, l⟩ := t
  obtain ⟨hk, hp, hl⟩ := ht
  rw [cut500] at hl ⊢
  dsimp only at hk hp hl ⊢
  obtain ⟨x, y, z, rfl, hx, hy, hz⟩ := px3 hl hp
  conv => whnf
  refine CallOb.new (newTable_c _ 2 (by decide)) rfl fun g _ => ?_
  conv => whnf
  refine Cond.neI (fun h => absurd rfl h) (fun _ => ?_)
  conv => whnf
  refine Cond.neI (fun h => absurd rfl h) (fun _ => ?_)
  conv => whnf
  refine ⟨⟨by decide, by show ((1 : Int)) < 3; decide⟩, PtrOb.rd (A := Own a cap 31 7 (rowP (l3 x y z))) (by simp) Own.rd (by rw [rowP_len]; show (0 : Nat) < 3 * 7; decide) fun p hp => ?_⟩
  conv => whnf
  refine ldpx 1 (A := Own a cap 31 7 (rowP (l3 x y z))) (by simp) (by rw [← hp]; exact Own.rd) (by show 1 < 3; decide) rfl rfl rfl rfl ?_
  conv => whnf
  refine CallOb.new (sencode_c _ (Own y.1 y.2 5 1 (u8s (pz 1).b)) A ((Ent.at 2 rfl).trans (Ent.at 1 rfl)) (Ent.at 4 rfl) (pz 1) y (none, 0) (pz_wf 1 (by decide)) ⟨Own.rd, hy.1, hy.2⟩ (by rw [pz_s]; exact bts0)) rfl fun t ht => ?_
  rw [pz_enc 1 (by decide)] at ht ⊢
  conv => whnf
  refine CallOb.new (sdecode_c _ (Own t.1 t.2 5 1 (u8s (pz 1).room)) (Ent.at 0 rfl) t (pz 1).room ⟨Own.rd, ht.1, ht.2⟩) rfl fun t' ht' => ?_
  rw [pz_dec 1 (by decide)] at ht' ⊢
  conv => whnf
  intro b5
  conv => whnf
  refine ⟨⟨by decide, by show ((2 : Int)) < 3; decide⟩, PtrOb.rd (A := Own a cap 31 7 (rowP (l3 x y z))) (by simp) Own.rd (by rw [rowP_len]; show (0 : Nat) < 3 * 7; decide) fun p hp => ?_⟩
  conv => whnf
  refine ldpx 2 (A := Own a cap 31 7 (rowP (l3 x y z))) (by simp) (by rw [← hp]; exact Own.rd) (by show 2 < 3; decide) rfl rfl rfl rfl ?_
  conv => whnf
  refine CallOb.by' [] [3] (take_k _ (Own z.1 z.2 5 1 (u8s (pz 2).b)) ((Ent.at 5 rfl).trans (Ent.at 2 rfl)) g 2 5 (by decide) [] (fun _ h => by cases h) (by decide) (pz 2) z (none, 0) (pz_wf 2 (by decide)) ⟨Own.rd, hz.1, hz.2⟩ rfl za1) rfl ⟨rfl, rfl, rfl, fun t1 h1 => ⟨rfl, ?_⟩⟩
  obtain ⟨g1, e1, -⟩ := h1
  conv => whnf
  refine ⟨⟨by decide, by show ((0 : Int)) < 3; decide⟩, PtrOb.rd (A := Own a cap 31 7 (rowP (l3 x y z))) (by simp) Own.rd (by rw [rowP_len]; show (0 : Nat) < 3 * 7; decide) fun p hp => ?_⟩
  conv => whnf
  refine ldpx 0 (A := Own a cap 31 7 (rowP (l3 x y z))) (by simp) (by rw [← hp]; exact Own.rd) (by show 0 < 3; decide) rfl rfl rfl rfl ?_
  conv => whnf
  refine CallOb.by' [] [0] (take_k _ (Own x.1 x.2 5 1 (u8s (pz 0).b)) ((Ent.at 6 rfl).trans (Ent.at 0 rfl)) g 2 5 (by decide) t1.1 g1 (by rw [← List.length_map (f := Mg.ab), e1]; decide) (pz 0) x (none, 0) (pz_wf 0 (by decide)) ⟨Own.rd, hx.1, hx.2⟩ e1 za2) rfl ⟨rfl, rfl, rfl, fun t2 h2 => ⟨rfl, ?_⟩⟩
  obtain ⟨g2, e2, -⟩ := h2
  conv => whnf
  refine CallOb.by' [] [0] (take_k _ (Own t'.1.1 t'.1.2 5 1 (u8s (pz 1).b)) (Ent.at 3 rfl) g 2 6 (by decide) t2.1 g2 (by rw [← List.length_map (f := Mg.ab), e2]; decide) (pz 1) t'.1 t'.2 (pz_wf 1 (by decide)) ⟨Own.rd, ht'.1.1, ht'.1.2⟩ e2 za3) rfl ⟨rfl, rfl, rfl, fun t3 h3 => ⟨rfl, ?_⟩⟩
  obtain ⟨g3, e3, -⟩ := h3
  conv => whnf
  refine Cond.mk (fun _ => ?_) (fun h => absurd h (by decide))
  conv => whnf
  refine Cond.mk (fun _ => ?_) (fun h => absurd h (by (show ((((pz 1).room).length : Int) == 512) ≠ false); rw [pz_rl 1 (by decide)]; decide))
  conv => whnf
  refine Cond.mk (fun _ => ?_) (fun h => absurd h (by decide))
  conv => whnf
  refine Cond.mk (fun _ => ?_) (fun h => absurd h (by (show ((pz 1).i == 1) ≠ false); rw [pz_i 1]; decide))
  conv => whnf
  refine Cond.mk (fun _ => ?_) (fun h => absurd h (by decide))
  conv => whnf
  refine Cond.mk (fun _ => ?_) (fun h => absurd h (by decide))
  conv => whnf
  refine Cond.mk (fun _ => ?_) (fun h => absurd h (by decide))
  conv => whnf
  refine Cond.mk (fun _ => ?_) (fun h => absurd h (by decide))
  conv => whnf
  refine Cond.mk (fun _ => ?_) (fun h => absurd h (by decide))
  conv => whnf
  refine Cond.mk (fun _ => ?_) (fun h => absurd h (by decide))
  conv => whnf
  refine Cond.mk (fun _ => ?_) (fun h => absurd h (by (show ((z500.length : Int) == 500) ≠ false); rw [z500_len]; decide))
  conv => whnf
  have hl3 : t3.1 = [] := by
    have := congrArg List.length e3
    rw [List.length_map] at this
    exact List.eq_nil_of_length_eq_zero this
  refine CallOb.by' [] [0] (tlen_c _ g 2 (by decide) t3.1) rfl ⟨rfl, rfl, rfl, fun _ _ => ⟨rfl, ?_⟩⟩
  rw [hl3]
  conv => whnf
  refine Cond.mk (fun _ => ?_) (fun h => absurd h (by decide))
  conv => whnf
  refine CallOb.pu (smay_c _ (pz 1) t'.1 t'.2) rfl ?_
  rw [pz_may 1 (by decide)]
  conv => whnf
  exact Ret.mk' () [] [10] trivial rfl trivial (by repeat' (first | exact trivial | rfl | apply And.intro)) ⟨rfl, rfl⟩
end Go.Proofs.Ytiimeklgjoclpaa
