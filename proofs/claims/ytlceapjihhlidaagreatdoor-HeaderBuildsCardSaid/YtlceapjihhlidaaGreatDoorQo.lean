import Derived.Test.YtlceapjihhlidaaGreatDoorQn
import Derived.Test.YtlceapjihhlidaaGreatDoorQm
namespace Go.Proofs.YtlceapjihhlidaaGreatDoor
open Go.Sx
set_option maxRecDepth 100000
set_option pp.deepTerms false
set_option pp.maxSteps 300
set_option linter.unusedSimpArgs false
set_option linter.unusedVariables false
section
/- The document's header: Unwrap. -/
attribute [local irreducible] macD deriveS strS streamH sharedS chainS timesS pointS publicS blindH openB proofH decC tagH unwrap1 unwrap2 unwrap3 unwrapS
theorem Con.map {P : Program} {f : Nat} {args : List SV} {qc : List Cel} {pre : List HProp} {A : HProp} {τ τ' : Type} {p : τ → Prop} {val : τ → SV} {qc' : τ → List Cel} {post : τ → List HProp}
    {p2 : τ' → Prop} {val2 : τ' → SV} {qc2 : τ' → List Cel} {post2 : τ' → List HProp} (C : Con P f args qc pre A p val qc' post) (g : τ → τ') (h : ∀ t, p t → p2 (g t) ∧ val t = val2 (g t) ∧ qc' t = qc2 (g t) ∧ post t = post2 (g t)) :
    Con P f args qc pre A p2 val2 qc2 post2 :=
  ⟨C.runs, fun w hs => (C.h w hs).mono (by
    rintro e w' ⟨t, hp, he, hv, hq, hs'⟩
    obtain ⟨h1, h2, h3, h4⟩ := h t hp
    exact ⟨g t, h1, by rw [← h2]; exact he, by rw [← h2]; exact hv, by rw [← h3]; exact hq, by rw [← h3, ← h4]; exact hs'⟩)⟩
end
section
/- The law's helpers: the same keys. -/
theorem samek_c (A R R' : HProp) (hE : Ent A R) (hE' : Ent A R') (a a' : Option Addr) (cap cap' : Nat) (l : List (List UInt8)) (hl : okK l) (hr : Rd R a (rowK l)) (hr' : Rd R' a' (rowK l)) (hn : l.length ≤ 1000000) :
    Pu Tryz.prog 13 [.c (.rs a l.length cap), .c (.rs a' l.length cap')] A (.c .tt) := by
  have hr := hr.ent hE
  have hr' := hr'.ent hE'
  refine Con.of' tt_ok Tryz.func13 rfl (by decide) [.c (.rs a l.length cap), .c (.rs a' l.length cap')] [] [] rfl rfl trivial kk rfl ?_
  conv => whnf
  refine Cond.neI (fun h => absurd rfl h) (fun h => ?_)
  conv => whnf
  refine LoopOb.mk' (σ := Nat) (fun i => [(0, .c (.rs a l.length cap)), (1, .c (.rs a' l.length cap')), (12, .c (.int .i64 l.length)), (13, .c (.int .i64 i))]) (fun i => ⟨[], [], [A]⟩) (fun i => i ≤ l.length) (fun i => l.length - i) 0 (Nat.zero_le _) (Wk.mk' [] [0] kk trivial ⟨rfl, rfl⟩) ?_
  intro i hi
  conv => whnf
  refine Cond.dec (fun h => ?_) (fun h => ?_)
  · have hi' : i < l.length := by omega
    have hk := hl _ (List.getElem_mem hi')
    conv => whnf
    refine Draw.all (by kernel_rfl) tt_ok (Tv.of (List.range 9) .nil) 1000000 (by kernel_rfl) ?_
    conv => whnf
    refine ⟨by omega, PtrOb.rd (A := A) (by simp) hr (by rw [rowK_len hl]; omega) fun p hp => ?_⟩
    conv => whnf
    refine ldk (A := A) (l := l) i (by simp) (by rw [← hp]; exact hr) hl hi' rfl rfl rfl (by show _ + (i : Int).toNat * 32 = _; omega) ?_
    conv => whnf
    refine ⟨by omega, PtrOb.rd (A := A) (by simp) hr' (by rw [rowK_len hl]; omega) fun q hq => ?_⟩
    conv => whnf
    refine ldk (A := A) (l := l) i (by simp) (by rw [← hq]; exact hr') hl hi' rfl rfl rfl (by show _ + (i : Int).toNat * 32 = _; omega) ?_
    conv => whnf
    refine eq_key (l := l[i]) (m := l[i]) hk hk (by simp [dens, Seg.den]) (by simp [dens, Seg.den]) ?_
    conv => whnf
    refine Cond.not (Cond.dec (fun _ => ?_) (fun h => absurd rfl h))
    conv => whnf
    refine Ar.i64 (by omega) ?_
    conv => whnf
    exact ⟨i + 1, by omega, by omega, Wk.mk' [] [0] kk trivial ⟨rfl, rfl⟩⟩
  conv => whnf
  exact Ret.mk' () [] [0] trivial rfl kk kk ⟨rfl, rfl⟩
end
section
/- header: the law Builds, walked. -/
attribute [local irreducible] macD deriveS strS streamH sharedS chainS timesS pointS publicS blindH openB proofH decC routeS fillerH buildS unwrapS tagH leB unwrap1 unwrap2 unwrap3 agreeS
theorem rd_nil {R : HProp} {a : Option Addr} : Rd R a [] := fun _ _ => .inl rfl
theorem builds_c (W : World) (hK : Gl (old W)) (x : List UInt8) (hx : x.length = 32) (a : Option Addr) (cap : Nat) (l : List HopS) (hl : okHs l) (hr : Rd (old W) a (rowH l)) : LawC Tryz.prog 3 [.agg [.many 32 (u8s x)], .c (.rs a l.length cap)] W := by
  have hks := many_ok hx
  have hB := built (x := x) hl
  have CB := fun A R hE hK a c hr hn => build_h A R hE hK x hx a c l hl hr hn
  have CZ := fun A R hE a c hr hn hz => rbuild_z A R hE x hx a c l hl hr hn hz
  have CH := fun A R hE a c hr hn hz => rbuild_h A R hE x hx a c l hl hr hn hz
  generalize buildS x l = B at hB CB CZ CH
  obtain ⟨⟨al, be, ga⟩, ks, e⟩ := B
  have ok1 := hB.ok; have oks := hB.ks; have hbad := hB.bad; have hlen := hB.len
  clear hB
  dsimp only at ok1 oks hbad hlen CB CZ CH
  have a1 := ok1.a; have a2 := ok1.b; have a3 := ok1.g
  dsimp only at a1 a2 a3
  refine Con.of' tt_ok Tryz.func3 rfl (by decide) [.agg [.many 32 (u8s x)], .c (.rs a l.length cap)] [] [] rfl rfl trivial ⟨⟨hks _, trivial⟩, trivial, trivial⟩ rfl ?_
  conv => whnf
  intro b2
  conv => whnf
  refine CallOb.pu (alive_c _ (hK.ent (Ent.all mm))) rfl ?_
  conv => whnf
  refine Cond.dec (fun h => ?_) (fun h => ?_)
  · conv => whnf
    exact Ret.mk' () [] [0] trivial rfl kk kk ⟨rfl, rfl⟩
  have h20 : l.length ≤ 20 := by omega
  conv => whnf
  refine Draw.cut (σ := Nat × Option Addr × Nat) (fun s => [(1, .c (.rs a l.length cap)), (2, .c (.ptr 2 0)), (5, .c (.ptr 5 0)), (6, .c (.rs s.2.1 ks.length s.2.2)), (7, .c (.int .i64 e))])
    (fun s => ⟨[(5, s.1), (2, b2)], [(5, [.many 32 (u8s al), .many 160 (u8s be), .many 16 (u8s ga)], 31), (2, [.many 32 (u8s x)], 23)], [RowK s.2.1 s.2.2 23 ks, old W]⟩) (fun s => Fc s.2.1 s.2.2 ks) ?_ ?_
  · refine Draw.all (by kernel_rfl) tt_ok (Tv.of [0, 1] (.two 2 ((.two 3 (Tv.of [4, 5, 6, 7, 8, 9, 10, 11] .nil) 8 (Tv.of [3, 4, 5, 6, 7, 9, 10, 11] .nil))) 8 (Tv.of [2, 3, 4, 5, 6, 7, 9, 10, 11] .nil))) 1000000 (by kernel_rfl) ?_
    conv => whnf
    refine ⟨?_, ?_⟩
    · skip
      conv => whnf
      refine CallOb.new (hops_c _ (old W) (Ent.all mm) a cap l hl hr (by omega)) rfl ?_
      rintro ⟨ah, ch⟩ hh
      dsimp only at hh ⊢
      refine Sub.parts [2] [1] ⟨rfl, rfl⟩ ?_
      conv => whnf
      refine ⟨?_, ?_⟩
      · skip
        conv => whnf
        refine CallOb.new (CB _ (Own ah ch 75 43 (rowH l)) (Ent.all mm) (hK.ent (Ent.all mm)) ah ch Own.rd (by omega)) rfl ?_
        rintro ⟨a6, c6⟩ h6
        dsimp only at h6 ⊢
        refine Sub.parts [2] [2] ⟨rfl, rfl⟩ ?_
        conv => whnf
        intro b5
        refine Sub.parts [2] [2] ⟨rfl, rfl⟩ ?_
        conv => whnf
        refine Sub.parts [2] [2] ⟨rfl, rfl⟩ ?_
        conv => whnf
        exact ⟨(b5, a6, c6), h6, Wk.mk' [5, 2] [0, 1] ⟨⟨rfl, kk⟩, ⟨rfl, kk⟩, ⟨rfl, kk⟩, ⟨rfl, kk⟩, ⟨rfl, kk⟩, trivial⟩ ⟨⟨kk, HdrS.okL ok1 _⟩, ⟨kk, hks _, trivial⟩, trivial⟩ ⟨rfl, rfl⟩⟩
      · skip
        conv => whnf
        intro b5
        refine Sub.parts [2] [1] ⟨rfl, rfl⟩ ?_
        conv => whnf
        refine CallOb.new (CB _ (Own ah ch 75 43 (rowH l)) (Ent.all mm) (hK.ent (Ent.all mm)) ah ch Own.rd (by omega)) rfl ?_
        rintro ⟨a6, c6⟩ h6
        dsimp only at h6 ⊢
        refine Sub.parts [2] [2] ⟨rfl, rfl⟩ ?_
        conv => whnf
        refine Sub.parts [2] [2] ⟨rfl, rfl⟩ ?_
        conv => whnf
        exact ⟨(b5, a6, c6), h6, Wk.mk' [5, 2] [0, 1] ⟨⟨rfl, kk⟩, ⟨rfl, kk⟩, ⟨rfl, kk⟩, ⟨rfl, kk⟩, ⟨rfl, kk⟩, trivial⟩ ⟨⟨kk, HdrS.okL ok1 _⟩, ⟨kk, hks _, trivial⟩, trivial⟩ ⟨rfl, rfl⟩⟩
    · skip
      conv => whnf
      intro b5
      refine Sub.parts [2] [0] ⟨rfl, rfl⟩ ?_
      conv => whnf
      refine CallOb.new (hops_c _ (old W) (Ent.all mm) a cap l hl hr (by omega)) rfl ?_
      rintro ⟨ah, ch⟩ hh
      dsimp only at hh ⊢
      refine Sub.parts [2] [1] ⟨rfl, rfl⟩ ?_
      conv => whnf
      refine CallOb.new (CB _ (Own ah ch 75 43 (rowH l)) (Ent.all mm) (hK.ent (Ent.all mm)) ah ch Own.rd (by omega)) rfl ?_
      rintro ⟨a6, c6⟩ h6
      dsimp only at h6 ⊢
      refine Sub.parts [2] [2] ⟨rfl, rfl⟩ ?_
      conv => whnf
      refine Sub.parts [2] [2] ⟨rfl, rfl⟩ ?_
      conv => whnf
      exact ⟨(b5, a6, c6), h6, Wk.mk' [5, 2] [0, 1] ⟨⟨rfl, kk⟩, ⟨rfl, kk⟩, ⟨rfl, kk⟩, ⟨rfl, kk⟩, ⟨rfl, kk⟩, trivial⟩ ⟨⟨kk, HdrS.okL ok1 _⟩, ⟨kk, hks _, trivial⟩, trivial⟩ ⟨rfl, rfl⟩⟩
  rintro ⟨b5, a6, c6⟩ h6
  dsimp only at h6 ⊢
  by_cases he : e = 0
  · subst he
    conv => whnf
    refine CallOb.new (CH _ (old W) (Ent.all mm) a cap hr (by omega) rfl) rfl ?_
    rintro ⟨⟨a9, c9⟩, a10, c10⟩ h9
    dsimp only at h9 ⊢
    conv => whnf
    intro b8
    conv => whnf
    refine Draw.all (by kernel_rfl) tt_ok (Tv.of [0, 2, 1, 3, 4, 5, 6, 7, 8, 9, 10, 11, 12, 13, 14, 15] .nil) 1000000 (by kernel_rfl) ?_
    conv => whnf
    refine CallOb.new (ours_h _ ⟨al, be, ga⟩ ok1) rfl fun b32 _ => ?_
    conv => whnf
    refine Sub.parts [8, 5, 2] [1, 1, 1, 1] ⟨rfl, rfl⟩ ?_
    conv => whnf
    refine CallOb.pu (none_h _ ⟨al, be, ga⟩ a1 a3 a9 c9 (by show 0 < be.length; omega)) rfl ?_
    conv => whnf
    refine Sub.parts [8, 5, 2] [1, 1, 1, 1] ⟨rfl, rfl⟩ ?_
    conv => whnf
    refine CallOb.pu (rsame_h _ (OwnHd b32 ⟨al, be, ga⟩) (Own a9 c9 5 1 (u8s be)) (Ent.all mm) (Ent.all mm) ⟨al, be, ga⟩ a1 a3 (some (radr (b32, 32))) a9 160 c9 (OwnHd.rd ok1) Own.rd) rfl ?_
    conv => whnf
    refine Sub.parts [8, 5, 2] [1, 1, 1, 1] ⟨rfl, rfl⟩ ?_
    conv => whnf
    refine CallOb.pu (samek_c _ (RowK a6 c6 23 ks) (RowK a10 c10 23 ks) (Ent.all mm) (Ent.all mm) a6 a10 c6 c10 ks oks Own.rd Own.rd (by omega)) rfl ?_
    conv => whnf
    refine Sub.parts [8, 5, 2] [1, 1, 1, 1] ⟨rfl, rfl⟩ ?_
    conv => whnf
    exact Ret.mk' () [] [4] trivial rfl kk kk ⟨rfl, rfl⟩
  · conv => whnf
    refine CallOb.pu (CZ _ (old W) (Ent.all mm) a cap hr (by omega) he) rfl ?_
    conv => whnf
    intro b8
    conv => whnf
    refine Draw.all (by kernel_rfl) tt_ok (Tv.of [0, 2, 1, 3, 4, 5, 6, 7, 8, 9, 10, 11, 12, 13, 14, 15] .nil) 1000000 (by kernel_rfl) ?_
    conv => whnf
    obtain ⟨q1, q2⟩ := hbad he
    subst q2
    obtain ⟨rfl, rfl, rfl⟩ : al = hdr0.alpha ∧ be = hdr0.beta ∧ ga = hdr0.gamma := by rw [← q1]; exact ⟨rfl, rfl, rfl⟩
    refine CallOb.new (ours_h _ hdr0 hdr0_ok) rfl fun b32 _ => ?_
    conv => whnf
    refine Sub.parts [8, 5, 2] [1, 1] ⟨rfl, rfl⟩ ?_
    conv => whnf
    refine CallOb.new (none_z _) rfl fun b34 _ => ?_
    conv => whnf
    refine Sub.parts [8, 5, 2] [2, 2] ⟨rfl, rfl⟩ ?_
    conv => whnf
    refine CallOb.pu (rsame_h _ (OwnHd b32 hdr0) (Own (some (radr (b34, 0))) 160 5 1 (u8s hdr0.beta)) (Ent.all mm) (Ent.all mm) hdr0 hdr0_ok.a hdr0_ok.g (some (radr (b32, 32))) (some (radr (b34, 0))) 160 160 (OwnHd.rd hdr0_ok) Own.rd) rfl ?_
    conv => whnf
    refine Sub.parts [8, 5, 2] [2, 2] ⟨rfl, rfl⟩ ?_
    conv => whnf
    refine CallOb.pu (samek_c _ (RowK a6 c6 23 []) (RowK a6 c6 23 []) (Ent.all mm) (Ent.all mm) a6 none c6 0 [] okK_nil Own.rd rd_nil (by decide)) rfl ?_
    conv => whnf
    refine Sub.parts [8, 5, 2] [2, 2] ⟨rfl, rfl⟩ ?_
    conv => whnf
    rw [beq_self_eq_true]
    exact Ret.mk' () [] [3] trivial rfl kk kk ⟨rfl, rfl⟩
end
section
/- header: the law Unwraps, walked. -/
attribute [local irreducible] macD deriveS strS streamH sharedS chainS timesS pointS publicS blindH openB proofH decC routeS fillerH buildS unwrapS tagH leB unwrap1 unwrap2 unwrap3 agreeS
end
end Go.Proofs.YtlceapjihhlidaaGreatDoor
