import Derived.Test.YtfehjfoajlfhfaaGreatDoorQr
import Derived.Test.YtfehjfoajlfhfaaGreatDoorQo
import Derived.Test.YtfehjfoajlfhfaaGreatDoorQm
namespace Go.Proofs.YtfehjfoajlfhfaaGreatDoor
open Go.Sx
set_option maxRecDepth 100000
set_option pp.deepTerms false
set_option pp.maxSteps 300
set_option linter.unusedSimpArgs false
set_option linter.unusedVariables false
section
/- packet: the law Sizes, walked. -/
attribute [local irreducible] macD deriveS strS streamH sharedS chainS timesS pointS publicS blindH agreeS routeS buildS lionB lockS unlockS layerS openB proofH decC tagH unwrap1 unwrap2 unwrap3 unwrapS peelS packS
theorem sizes_c (W : World) (hK : Gl (old W)) (own : List UInt8) (ho : own.length = 32) (a : Option Addr) (cap : Nat) (p : List UInt8) (hb : Bts (old W) a cap p) : LawC Tryz.prog 4 [.agg [.many 32 (u8s own)], .c (.rs a p.length cap)] W := by
  have hks := many_ok ho
  have hS := peel_sized own p
  have hPa := peel_a (own := own) (p := p)
  have oZ := peelS_ok own p
  have CP := fun A R hE hK a cap hb hn => peel_p A R hE hK own ho a cap p hb hn
  generalize peelS own p = Z at hS hPa oZ CP
  obtain ⟨⟨cmd, next, tag, room⟩, e⟩ := Z
  have hbad := hS.bad; have hk := hS.k; have h1 := hS.a; have h2 := hS.b; have h3 := hS.c; have h4 := hS.d
  clear hS
  dsimp only at hPa oZ CP hbad hk h1 h2 h3 h4
  refine Con.of' tt_ok Tryz.func4 rfl (by decide) [.agg [.many 32 (u8s own)], .c (.rs a p.length cap)] [] [] rfl rfl trivial ⟨⟨hks _, trivial⟩, trivial, trivial⟩ rfl ?_
  conv => whnf
  intro b2
  conv => whnf
  refine CallOb.pu (alive11_c _ (hK.ent (Ent.all mm))) rfl ?_
  conv => whnf
  refine Cond.dec (fun hl => ?_) (fun hl => ?_)
  · conv => whnf
    exact Ret.mk' () [] [0] trivial rfl kk kk ⟨rfl, rfl⟩
  conv => whnf
  refine CallOb.new (CP _ (old W) (Ent.all mm) (hK.ent (Ent.all mm)) a cap hb (by omega)) rfl ?_
  rintro ⟨an, cn, ar, cr, X⟩ hX
  dsimp only at hX ⊢
  conv => whnf
  intro b5
  conv => whnf
  refine Cond.neI (fun h => ?_) (fun h => ?_)
  · have e5 := hPa (by omega)
    simp only [Prod.mk.injEq, PeelS.mk.injEq, peel0] at e5
    obtain ⟨⟨rfl, rfl, rfl, rfl⟩, rfl⟩ := e5
    conv => whnf
    refine Cond.eqI (fun _ => ?_) (fun h => absurd rfl h)
    conv => whnf
    refine Cond.eqI (fun _ => ?_) (fun h => absurd rfl h)
    conv => whnf
    exact Ret.mk' () [] [1] trivial rfl kk kk ⟨rfl, rfl⟩
  conv => whnf
  refine Cond.neI (fun he => ?_) (fun he => ?_)
  · have e5 := hbad he
    simp only [PeelS.mk.injEq, peel0] at e5
    obtain ⟨rfl, rfl, rfl, rfl⟩ := e5
    conv => whnf
    refine Cond.eqI (fun _ => ?_) (fun h => absurd rfl h)
    conv => whnf
    refine Cond.eqI (fun _ => ?_) (fun h => absurd rfl h)
    conv => whnf
    refine eq_tagH (l := z16) (m := List.replicate 16 0) z16_len List.length_replicate (List.append_nil _) (List.append_nil _) ?_
    conv => whnf
    exact Ret.mk' () [] [1] trivial rfl kk kk ⟨rfl, rfl⟩
  conv => whnf
  subst he
  refine Cond.eqI (fun k1 => ?_) (fun k1 => ?_)
  · obtain ⟨q1, rfl⟩ := h1 rfl k1
    conv => whnf
    refine Cond.eqI (fun _ => ?_) (fun h => absurd (by dsimp only; omega) h)
    conv => whnf
    exact Ret.mk' () [] [1] trivial rfl kk kk ⟨rfl, rfl⟩
  conv => whnf
  refine Cond.eqI (fun k2 => ?_) (fun k2 => ?_)
  · obtain ⟨rfl, q2⟩ := h2 rfl k2
    conv => whnf
    refine Cond.eqI (fun _ => ?_) (fun h => absurd rfl h)
    conv => whnf
    exact Ret.mk' () [] [1] trivial (by show Value.bool (((room.length : Nat) : Int) == 512) = Value.bool true; rw [q2]; rfl) kk kk ⟨rfl, rfl⟩
  conv => whnf
  refine Cond.eqI (fun k3 => ?_) (fun k3 => ?_)
  · obtain ⟨rfl, q2⟩ := h3 rfl k3
    conv => whnf
    refine Cond.eqI (fun _ => ?_) (fun h => absurd rfl h)
    conv => whnf
    exact Ret.mk' () [] [1] trivial (by show Value.bool (((room.length : Nat) : Int) == 528) = Value.bool true; rw [q2]; rfl) kk kk ⟨rfl, rfl⟩
  have k4 : cmd.k = 4 := by
    dsimp only at k1 k2 k3
    rcases hk rfl with q | q | q | q
    · exact absurd q k1
    · exact absurd q k2
    · exact absurd q k3
    · exact q
  obtain ⟨rfl, rfl⟩ := h4 rfl k4
  conv => whnf
  refine Cond.eqI (fun _ => ?_) (fun h => absurd k4 h)
  conv => whnf
  refine Cond.eqI (fun _ => ?_) (fun h => absurd rfl h)
  conv => whnf
  exact Ret.mk' () [] [1] trivial rfl kk kk ⟨rfl, rfl⟩
end
section
/- packet: the law Unlocks, walked. -/
attribute [local irreducible] macD deriveS strS streamH sharedS chainS timesS pointS publicS blindH agreeS routeS buildS lionB lockS unlockS layerS openB proofH decC tagH unwrap1 unwrap2 unwrap3 unwrapS peelS packS
theorem unlocks_c (W : World) (hK : Gl (old W)) (k : List UInt8) (hk : k.length = 32) (a : Option Addr) (cap : Nat) (body : List UInt8) (hb : Bts (old W) a cap body) (a' : Option Addr) (cap' : Nat) (room : List UInt8) (hr : Bts (old W) a' cap' room) :
    LawC Tryz.prog 7 [.agg [.many 32 (u8s k)], .c (.rs a body.length cap), .c (.rs a' room.length cap')] W := by
  have hks := many_ok hk
  have CO := fun A R hE hK a cap hb hn => open_c A R hE hK k hk a cap body hb hn
  have RO := fun A R hE a cap hb hn => ropen_c A R hE k hk a cap body hb hn
  generalize openS k body = Z at CO RO
  obtain ⟨Z, e⟩ := Z
  have CS := fun A R hE hK a cap hb hn => seal_c A R hE hK k hk a cap room hb hn
  have hbad : room.length ≠ 512 → sealS k room = ([], 5) := fun h => if_neg h
  have hgood := fun h => And.intro (seal_len (key := k) (room := room) h) (open_seal (key := k) (room := room) h)
  generalize sealS k room = S at CS hbad hgood
  obtain ⟨S, f⟩ := S
  dsimp only at CO RO CS hbad hgood
  refine Con.of' tt_ok Tryz.func7 rfl (by decide) [.agg [.many 32 (u8s k)], .c (.rs a body.length cap), .c (.rs a' room.length cap')] [] [] rfl rfl trivial ⟨⟨hks _, trivial⟩, trivial, trivial, trivial⟩ rfl ?_
  conv => whnf
  intro b3
  conv => whnf
  refine CallOb.pu (alive11_c _ (hK.ent (Ent.all mm))) rfl ?_
  conv => whnf
  refine Cond.dec (fun hl => ?_) (fun hl => ?_)
  · conv => whnf
    exact Ret.mk' () [] [0] trivial rfl kk kk ⟨rfl, rfl⟩
  conv => whnf
  refine Cond.dec (fun hl2 => ?_) (fun hl2 => ?_)
  · conv => whnf
    exact Ret.mk' () [] [0] trivial rfl kk kk ⟨rfl, rfl⟩
  conv => whnf
  refine CallOb.new (CO _ (old W) (Ent.all mm) (hK.ent (Ent.all mm)) a cap hb (by omega)) rfl ?_
  rintro ⟨a7, c7, X7⟩ h7
  dsimp only at h7 ⊢
  conv => whnf
  refine CallOb.new (RO _ (old W) (Ent.all mm) a cap hb (by omega)) rfl ?_
  rintro ⟨a9, c9, X9⟩ h9
  dsimp only at h9 ⊢
  conv => whnf
  refine conv_str (l := Z) (k := Z.length) rfl rfl rfl (Src.rs (A := X7) (by simp) h7.1) rfl (fun s e => by cases e) ?_
  conv => whnf
  refine conv_str (l := Z) (k := Z.length) rfl rfl rfl (Src.rs (A := X9) (by simp) h9.1) rfl (fun s e => by cases e) ?_
  conv => whnf
  refine Cond.not (Cond.str (fun _ => ?_) (fun h => absurd rfl h))
  conv => whnf
  refine Cond.neI (fun h => absurd rfl h) (fun _ => ?_)
  conv => whnf
  refine CallOb.new (CS _ (old W) (Ent.all mm) (hK.ent (Ent.all mm)) a' cap' hr (by omega)) rfl ?_
  rintro ⟨a11, c11, X11⟩ h11
  dsimp only at h11 ⊢
  conv => whnf
  by_cases h5 : room.length = 512
  · obtain ⟨⟨hSl, hf⟩, hop⟩ := hgood h5
    subst hf
    have CO2 := fun A R hE hK a cap hb hn => open_c A R hE hK k hk a cap S hb hn
    simp only [hop] at CO2
    refine Cond.neI (fun h => absurd rfl h) (fun _ => ?_)
    conv => whnf
    refine CallOb.new (CO2 _ X11 (Ent.all mm) (hK.ent (Ent.all mm)) a11 c11 h11 (by omega)) rfl ?_
    rintro ⟨a13, c13, X13⟩ h13
    dsimp only at h13 ⊢
    conv => whnf
    refine Cond.eqI (fun _ => ?_) (fun h => absurd rfl h)
    conv => whnf
    refine conv_str (l := room) (k := room.length) rfl rfl rfl (Src.rs (A := X13) (by simp) h13.1) rfl (fun s e => by cases e) ?_
    conv => whnf
    refine conv_str (l := room) (k := room.length) rfl rfl rfl (Src.rs (A := old W) (by simp) hr.1) rfl (fun s e => by cases e) ?_
    conv => whnf
    refine Cond.str (fun _ => ?_) (fun h => absurd rfl h)
    conv => whnf
    exact Ret.mk' () [] [4] trivial (by show Value.bool (((S.length : Nat) : Int) == 528) = Value.bool true; rw [hSl]; rfl) kk kk ⟨rfl, rfl⟩
  · have e5 := hbad h5
    simp only [Prod.mk.injEq] at e5
    obtain ⟨rfl, rfl⟩ := e5
    refine Cond.neI (fun _ => ?_) (fun h => absurd h (by decide))
    conv => whnf
    refine Cond.eqI (fun _ => ?_) (fun h => absurd rfl h)
    conv => whnf
    exact Ret.mk' () [] [3] trivial (by show Value.bool (((room.length : Nat) : Int) != 512) = Value.bool true; rw [bne_iff_ne.2 (by omega)]) kk kk ⟨rfl, rfl⟩
end
section
/- packet: the law Peels, walked (printed by gen/peels11.py). -/
attribute [local irreducible] macD deriveS strS streamH sharedS chainS timesS pointS publicS blindH agreeS routeS buildS lionB lockS unlockS layerS openB proofH decC tagH unwrap1 unwrap2 unwrap3 unwrapS peelS packS
end
section
/- packet: the law Makes, walked (printed by gen/makes11.py). -/
attribute [local irreducible] macD deriveS strS streamH sharedS chainS timesS pointS publicS blindH agreeS routeS buildS lionB lockS unlockS layerS openB proofH decC tagH unwrap1 unwrap2 unwrap3 unwrapS peelS packS
end
section
/- packet: the law Bodies, walked (printed by gen/bodies11.py). -/
attribute [local irreducible] macD deriveS strS streamH sharedS chainS timesS pointS publicS blindH agreeS routeS buildS lionB lockS unlockS layerS openB proofH decC tagH unwrap1 unwrap2 unwrap3 unwrapS peelS
theorem bs_size (l : List UInt8) : (bs l).size = l.length := rfl
theorem bs_app (x y : List UInt8) : bs x ++ bs y = bs (x ++ y) := by
  apply ByteArray.ext
  simp [bs]
structure BdS where
  j : Nat
  a : Option Addr
  c : Nat
  X : HProp
set_option maxHeartbeats 8000000 in
theorem bodies_c (W : World) (hK : Gl (old W)) (x : List UInt8) (hx : x.length = 32) (a : Option Addr) (cap : Nat) (l : List HopS) (hl : okHs l) (hr : Rd (old W) a (rowH l)) (a2 : Option Addr) (cap2 : Nat) (room : List UInt8) (hb : Bts (old W) a2 cap2 room) :
    LawC Tryz.prog 6 [.agg [.many 32 (u8s x)], .c (.rs a l.length cap), .c (.rs a2 room.length cap2)] W := by
  have hks := many_ok hx
  have CN := fun A R R' hE hE' hK a cap hr hn a2 c2 hb hn2 => pack_c A R R' hE hE' hK x hx a cap l hl hr hn a2 c2 room hb hn2
  have CB := fun A R hE hK a c hr hn => build_h A R hE hK x hx a c l hl hr hn
  have hP : packS x l room = if room.length = 512 then (if (buildS x l).2.2 = 0 then (encH (buildS x l).1 ++ bodyS (z16 ++ room) (buildS x l).2.1, 0) else ([], (buildS x l).2.2)) else ([], 5) := rfl
  rw [hP] at CN
  have hB := built (x := x) hl
  have hl5 : (buildS x l).2.1.length ≤ 5 := (buildS_ok x hl).2.2
  generalize buildS x l = B at CN CB hB hl5
  obtain ⟨h, ss, f⟩ := B
  have ok1 := hB.ok; have oks := hB.ks; have hlen := hB.len
  clear hB hP
  dsimp only at ok1 oks hlen hl5 CN CB
  obtain ⟨Z, hZ⟩ : ∃ Z, (if room.length = 512 then (if f = 0 then (encH h ++ bodyS (z16 ++ room) ss, (0 : Int)) else ([], f)) else ([], 5)) = Z := ⟨_, rfl⟩
  rw [hZ] at CN
  obtain ⟨Z, e⟩ := Z
  refine Con.of' tt_ok Tryz.func6 rfl (by decide) [.agg [.many 32 (u8s x)], .c (.rs a l.length cap), .c (.rs a2 room.length cap2)] [] [] rfl rfl trivial ⟨⟨hks _, trivial⟩, trivial, trivial, trivial⟩ rfl ?_
  conv => whnf
  intro b3
  conv => whnf
  refine CallOb.pu (alive11_c _ (hK.ent (Ent.all mm))) rfl ?_
  conv => whnf
  refine Cond.dec (fun q1 => ?_) (fun q1 => ?_)
  · conv => whnf
    exact Ret.mk' () [] [0] trivial rfl kk kk ⟨rfl, rfl⟩
  conv => whnf
  refine Cond.dec (fun q2 => ?_) (fun q2 => ?_)
  · conv => whnf
    exact Ret.mk' () [] [0] trivial rfl kk kk ⟨rfl, rfl⟩
  conv => whnf
  refine Draw.all (by kernel_rfl) tt_ok (Tv.of [0, 1, 3, 2, 4, 5, 6, 7, 8, 9] .nil) 1000000 (by kernel_rfl) ?_
  conv => whnf
  refine CallOb.new (hops_c _ (old W) (Ent.all mm) a cap l hl hr (by omega)) rfl ?_
  rintro ⟨ah, ch⟩ hh
  dsimp only at hh ⊢
  conv => whnf
  refine Sub.parts [3] [1] ⟨rfl, rfl⟩ ?_
  conv => whnf
  refine CallOb.new (CN _ (Own ah ch 96 43 (rowH l)) (old W) (Ent.all mm) (Ent.all mm) (hK.ent (Ent.all mm)) ah ch Own.rd (by omega) a2 cap2 hb (by omega)) rfl ?_
  rintro ⟨a7, c7, X7⟩ h7
  dsimp only at h7 ⊢
  conv => whnf
  refine Sub.parts [3] [2] ⟨rfl, rfl⟩ ?_
  conv => whnf
  refine Draw.cut (σ := Nat × Option Addr × Nat) (fun s => [(2, .c (.rs a2 room.length cap2)), (7, .c (.rs a7 Z.length c7)), (8, .c (.int .i64 e)), (9, .c (.ptr 9 0)), (10, .c (.rs s.2.1 ss.length s.2.2)), (11, .c (.int .i64 f))])
    (fun s => ⟨[(9, s.1)], [(9, h.sg, 59)], [RowK s.2.1 s.2.2 23 ss, X7, old W]⟩) (fun s => Fc s.2.1 s.2.2 ss) ?_ ?_
  · refine Draw.all (by kernel_rfl) tt_ok (Tv.of [0, 1] (.two 2 ((.two 3 (Tv.of [4, 5, 6, 7, 8, 9, 10, 11] .nil) 8 (Tv.of [3, 4, 5, 6, 7, 9, 10, 11] .nil))) 8 (Tv.of [2, 3, 4, 5, 6, 7, 9, 10, 11] .nil))) 1000000 (by kernel_rfl) ?_
    conv => whnf
    refine ⟨?_, ?_⟩
    · skip
      conv => whnf
      refine CallOb.new (hops_c _ (old W) (Ent.all mm) a cap l hl hr (by omega)) rfl ?_
      rintro ⟨ah, ch⟩ hh
      dsimp only at hh ⊢
      refine Sub.parts [3] [1, 1, 1] ⟨rfl, rfl⟩ ?_
      conv => whnf
      refine ⟨?_, ?_⟩
      · skip
        conv => whnf
        refine CallOb.new (CB _ (Own ah ch 96 43 (rowH l)) (Ent.all mm) (hK.ent (Ent.all mm)) ah ch Own.rd (by omega)) rfl ?_
        rintro ⟨a10, c10⟩ h10
        dsimp only at h10 ⊢
        refine Sub.parts [3] [2, 2, 2] ⟨rfl, rfl⟩ ?_
        conv => whnf
        intro b9
        refine Sub.parts [3] [2, 2, 2] ⟨rfl, rfl⟩ ?_
        conv => whnf
        refine Sub.parts [3] [2, 2, 2] ⟨rfl, rfl⟩ ?_
        conv => whnf
        exact ⟨(b9, a10, c10), h10, Wk.mk' [9] [0, 1, 2] ⟨⟨rfl, kk⟩, ⟨rfl, kk⟩, ⟨rfl, kk⟩, ⟨rfl, kk⟩, ⟨rfl, kk⟩, ⟨rfl, kk⟩, trivial⟩ ⟨⟨kk, HdrS.okL ok1 _⟩, trivial⟩ ⟨rfl, rfl⟩⟩
      · skip
        conv => whnf
        intro b9
        refine Sub.parts [3] [1, 1, 1] ⟨rfl, rfl⟩ ?_
        conv => whnf
        refine CallOb.new (CB _ (Own ah ch 96 43 (rowH l)) (Ent.all mm) (hK.ent (Ent.all mm)) ah ch Own.rd (by omega)) rfl ?_
        rintro ⟨a10, c10⟩ h10
        dsimp only at h10 ⊢
        refine Sub.parts [3] [2, 2, 2] ⟨rfl, rfl⟩ ?_
        conv => whnf
        refine Sub.parts [3] [2, 2, 2] ⟨rfl, rfl⟩ ?_
        conv => whnf
        exact ⟨(b9, a10, c10), h10, Wk.mk' [9] [0, 1, 2] ⟨⟨rfl, kk⟩, ⟨rfl, kk⟩, ⟨rfl, kk⟩, ⟨rfl, kk⟩, ⟨rfl, kk⟩, ⟨rfl, kk⟩, trivial⟩ ⟨⟨kk, HdrS.okL ok1 _⟩, trivial⟩ ⟨rfl, rfl⟩⟩
    · skip
      conv => whnf
      intro b9
      refine Sub.parts [3] [0, 0, 0] ⟨rfl, rfl⟩ ?_
      conv => whnf
      refine CallOb.new (hops_c _ (old W) (Ent.all mm) a cap l hl hr (by omega)) rfl ?_
      rintro ⟨ah, ch⟩ hh
      dsimp only at hh ⊢
      refine Sub.parts [3] [1, 1, 1] ⟨rfl, rfl⟩ ?_
      conv => whnf
      refine CallOb.new (CB _ (Own ah ch 96 43 (rowH l)) (Ent.all mm) (hK.ent (Ent.all mm)) ah ch Own.rd (by omega)) rfl ?_
      rintro ⟨a10, c10⟩ h10
      dsimp only at h10 ⊢
      refine Sub.parts [3] [2, 2, 2] ⟨rfl, rfl⟩ ?_
      conv => whnf
      refine Sub.parts [3] [2, 2, 2] ⟨rfl, rfl⟩ ?_
      conv => whnf
      exact ⟨(b9, a10, c10), h10, Wk.mk' [9] [0, 1, 2] ⟨⟨rfl, kk⟩, ⟨rfl, kk⟩, ⟨rfl, kk⟩, ⟨rfl, kk⟩, ⟨rfl, kk⟩, ⟨rfl, kk⟩, trivial⟩ ⟨⟨kk, HdrS.okL ok1 _⟩, trivial⟩ ⟨rfl, rfl⟩⟩
  rintro ⟨b9, a10, c10⟩ h10
  dsimp only at h10 ⊢
  conv => whnf
  by_cases h5 : room.length = 512
  case neg =>
    rw [if_neg h5] at hZ
    obtain ⟨rfl, rfl⟩ : [] = Z ∧ 5 = e := by simpa using hZ
    refine Cond.neI (fun _ => ?_) (fun h => absurd h (by decide))
    conv => whnf
    refine Cond.neI (fun hf => ?_) (fun hf => ?_)
    · conv => whnf
      refine ⟨fun _ => ?_, fun e => absurd e (by decide)⟩
      conv => whnf
      exact Ret.mk' () [] [2] trivial rfl kk kk ⟨rfl, rfl⟩
    · conv => whnf
      refine ⟨fun _ => ?_, fun e => absurd e (by rw [show (((room.length : Nat) : Int) != 512) = true from bne_iff_ne.2 (by omega)]; decide)⟩
      conv => whnf
      exact Ret.mk' () [] [2] trivial rfl kk kk ⟨rfl, rfl⟩
  rw [if_pos h5] at hZ
  by_cases hf : f = 0
  case neg =>
    rw [if_neg hf] at hZ
    obtain ⟨rfl, rfl⟩ : [] = Z ∧ f = e := by simpa using hZ
    refine Cond.neI (fun _ => ?_) (fun h => absurd h hf)
    conv => whnf
    refine Cond.neI (fun hf => ?_) (fun h => absurd h hf)
    conv => whnf
    refine ⟨fun _ => ?_, fun e => absurd e (by rw [bne_iff_ne.2 hf]; decide)⟩
    conv => whnf
    exact Ret.mk' () [] [2] trivial rfl kk kk ⟨rfl, rfl⟩
  subst hf
  rw [if_pos rfl] at hZ
  obtain ⟨rfl, rfl⟩ : encH h ++ bodyS (z16 ++ room) ss = Z ∧ 0 = e := by simpa using hZ
  clear hZ
  obtain ⟨hsl, h1l⟩ := hlen rfl
  refine Cond.neI (fun h => absurd rfl h) (fun _ => ?_)
  conv => whnf
  refine Cond.neI (fun h => absurd rfl h) (fun _ => ?_)
  conv => whnf
  obtain ⟨N, hN⟩ : ∃ N, ss.length = N + 1 := ⟨ss.length - 1, by omega⟩
  have hk0 : ss[N].length = 32 := oks _ (List.getElem_mem (by omega))
  refine Ar.to ((N : Nat) : Int) (by omega) (Ar.i64 (by omega) ?_)
  conv => whnf
  refine ⟨by omega, PtrOb.rd (A := RowK a10 c10 23 ss) (by simp) Own.rd (by rw [rowK_len oks]; omega) fun p hp => ?_⟩
  subst hp
  conv => whnf
  refine ldk (A := RowK (some (radr p)) c10 23 ss) (l := ss) N (by simp) Own.rd oks (by omega) rfl rfl rfl (by show _ + (N : Int).toNat * 32 = _; omega) ?_
  conv => whnf
  refine CallOb.pu (layer_c _ (hK.ent (Ent.all mm)) ss[N] hk0) rfl ?_
  conv => whnf
  refine CallOb.new (seal_c _ (old W) (Ent.all mm) (hK.ent (Ent.all mm)) (layerS ss[N]) (layerS_len _) a2 cap2 room hb (by omega)) rfl ?_
  have hz0 : (z16 ++ room).length = 528 := by rw [List.length_append, z16_len, h5]
  have hbl := fun k => bodyS_len (b := z16 ++ room) (by omega) (by omega) (ss.drop k)
  have es : sealS (layerS ss[N]) room = (bodyS (z16 ++ room) (ss.drop N), 0) := by
    rw [body_at _ (by omega : N < ss.length), List.drop_of_length_le (by omega : ss.length ≤ N + 1)]
    have e1 : sealS (layerS ss[N]) room = lockS (layerS ss[N]) (z16 ++ room) := if_pos h5
    rw [e1]
    have e2 := (lockS_len (key := layerS ss[N]) (b := z16 ++ room) (by omega) (by omega)).2
    show lockS (layerS ss[N]) (z16 ++ room) = ((lockS (layerS ss[N]) (z16 ++ room)).1, 0)
    rw [← e2]
  rw [es]
  rintro ⟨a12, c12, X⟩ h12
  dsimp only at h12 ⊢
  conv => whnf
  refine Ar.i64 (by omega) ?_
  conv => whnf
  refine LoopOb.mk' (σ := BdS) (fun s => [(7, .c (.rs a7 (encH h ++ bodyS (z16 ++ room) ss).length c7)), (9, .c (.ptr 9 0)), (10, .c (.rs (some (radr p)) ss.length c10)), (12, .c (.rs s.a (bodyS (z16 ++ room) (ss.drop (N - s.j))).length s.c)), (13, .c (.int .i64 0)), (14, .c (.int .i64 ((N : Int) - 1 - s.j)))])
    (fun s => ⟨[(9, b9)], [(9, h.sg, 59)], [s.X, RowK (some (radr p)) c10 23 ss, X7, old W]⟩) (fun s => s.j ≤ N ∧ Bts s.X s.a s.c (bodyS (z16 ++ room) (ss.drop (N - s.j)))) (fun s => N - s.j) ⟨0, a12, c12, X⟩ ⟨Nat.zero_le _, h12⟩ ?_ ?_
  · refine Wk.mk' [9] [0, 0, 0, 0] ⟨⟨rfl, kk⟩, ⟨rfl, kk⟩, ⟨rfl, kk⟩, ⟨rfl, kk⟩, ⟨rfl, kk⟩, ⟨?_, kk⟩, trivial⟩ ⟨⟨kk, HdrS.okL ok1 _⟩, trivial⟩ ⟨rfl, rfl⟩
    show Value.int .i64 _ = Value.int .i64 ((N : Int) - 1 - (0 : Nat))
    congr 1; omega
  clear h12 X
  rintro ⟨j, a12, c12, X⟩ ⟨hj, h12⟩
  dsimp only at hj h12 ⊢
  conv => whnf
  refine Cond.dec (fun hh => ?_) (fun hh => ?_)
  · conv => whnf
    refine Cond.eqI (fun _ => ?_) (fun h => absurd rfl h)
    obtain ⟨i, hi⟩ : ∃ i, N - 1 - j = i := ⟨_, rfl⟩
    have hi2 : (N : Int) - 1 - j = (i : Int) := by omega
    have hi3 : N - j = i + 1 := by omega
    have hi4 : N - (j + 1) = i := by omega
    have his : i < ss.length := by omega
    have hki : ss[i].length = 32 := oks _ (List.getElem_mem his)
    have hst := body_at (z16 ++ room) his
    have hb1 := hbl (i + 1)
    have hb2 := hbl i
    rw [hi3] at h12 ⊢
    rw [hi2]
    conv => whnf
    refine ⟨by omega, PtrOb.rd (A := RowK (some (radr p)) c10 23 ss) (by simp) Own.rd (by rw [rowK_len oks]; omega) fun q hq => ?_⟩
    obtain rfl := radr_inj hq
    conv => whnf
    refine ldk (A := RowK (some (radr p)) c10 23 ss) (l := ss) i (by simp) Own.rd oks his rfl rfl rfl (by show _ + (i : Int).toNat * 32 = _; omega) ?_
    conv => whnf
    refine CallOb.pu (layer_c _ (hK.ent (Ent.all mm)) ss[i] hki) rfl ?_
    conv => whnf
    refine CallOb.new (lock_c _ X (Ent.all mm) (hK.ent (Ent.all mm)) (layerS ss[i]) (layerS_len _) a12 c12 (bodyS (z16 ++ room) (ss.drop (i + 1))) h12 (by omega)) rfl ?_
    have hl0 := (lockS_len (key := layerS ss[i]) (b := bodyS (z16 ++ room) (ss.drop (i + 1))) (by omega) (by omega)).2
    rw [← hst, hl0]
    rintro ⟨a15, c15⟩ h15
    dsimp only at h15 ⊢
    conv => whnf
    refine Ar.i64 (by omega) ?_
    conv => whnf
    refine ⟨⟨j + 1, a15, c15, Own a15 c15 5 1 (u8s (bodyS (z16 ++ room) (ss.drop i)))⟩, ⟨by dsimp only; omega, by dsimp only; rw [hi4]; exact bts_own h15⟩, by dsimp only; omega, ?_⟩
    dsimp only
    rw [hi4]
    refine Wk.mk' [9] [0, 1, 1, 1] ⟨⟨rfl, kk⟩, ⟨rfl, kk⟩, ⟨rfl, kk⟩, ⟨rfl, kk⟩, ⟨rfl, kk⟩, ⟨?_, kk⟩, trivial⟩ ⟨⟨kk, HdrS.okL ok1 _⟩, trivial⟩ ⟨rfl, rfl⟩
    show Value.int .i64 ((i : Int) - 1) = Value.int .i64 ((N : Int) - 1 - (j + 1 : Nat))
    congr 1; omega
  obtain rfl : j = N := by omega
  rw [Nat.sub_self, List.drop_zero] at h12 ⊢
  have hb0 := hbl 0
  rw [List.drop_zero] at hb0
  generalize bodyS (z16 ++ room) ss = Y at h12 hb0 h7 ⊢
  have hel := encH_len ok1
  have hfin : Value.bool ((bs (encH h ++ Y)).toList == (bs (encH h) ++ bs Y).toList) = Value.bool true := by rw [bs_app, beq_self_eq_true]
  conv => whnf
  refine Draw.all (by kernel_rfl) tt_ok (Tv.of [0, 1, 2, 3, 5, 8] (.tre 4 ((.two 6 ((.two 7 (Tv.of [9, 10, 11, 12, 13] .nil) 9 (Tv.of [7, 10, 11, 12, 13] .nil))) 9 (Tv.of [6, 7, 10, 11, 12, 13] .nil))) 6 ((.tre 4 ((.two 7 (Tv.of [9, 10, 11, 12, 13] .nil) 9 (Tv.of [7, 10, 11, 12, 13] .nil))) 7 ((.two 4 (Tv.of [9, 10, 11, 12, 13] .nil) 9 (Tv.of [10, 4, 11, 12, 13] .nil))) 9 ((.two 4 (Tv.of [7, 10, 11, 12, 13] .nil) 7 (Tv.of [10, 4, 11, 12, 13] .nil))))) 9 ((.two 4 (Tv.of [6, 7, 10, 11, 12, 13] .nil) 6 ((.two 4 (Tv.of [7, 10, 11, 12, 13] .nil) 7 (Tv.of [10, 4, 11, 12, 13] .nil))))))) 1000000 (by kernel_rfl) ?_
  conv => whnf
  refine Cond.eqI (fun _ => ?_) (fun h => absurd rfl h)
  conv => whnf
  refine ⟨?_, ?_, ?_⟩
  · skip
    conv => whnf
    refine conv_str (l := encH h ++ Y) (k := (encH h ++ Y).length) rfl rfl rfl (Src.rs (A := X7) (by simp) h7.1) rfl (fun s e => by cases e) ?_
    conv => whnf
    refine Sub.parts [9] [0, 0, 0, 0] ⟨rfl, rfl⟩ ?_
    conv => whnf
    refine ⟨?_, ?_⟩
    · skip
      conv => whnf
      refine CallOb.fb (encode_h _ h ok1) rfl fun a101 c101 h101 => ?_
      conv => whnf
      refine Sub.parts [9] [1, 1, 1, 1] ⟨rfl, rfl⟩ ?_
      conv => whnf
      refine ⟨?_, ?_⟩
      · skip
        conv => whnf
        refine conv_str (l := encH h) (k := (encH h).length) rfl rfl rfl (Src.rs (A := Own a101 c101 5 1 (u8s (encH h))) (by simp) Own.rd) rfl (fun s e => by cases e) ?_
        conv => whnf
        refine Sub.parts [9] [1, 1, 1, 1] ⟨rfl, rfl⟩ ?_
        conv => whnf
        refine conv_str (l := Y) (k := (Y).length) rfl rfl rfl (Src.rs (A := X) (by simp) h12.1) rfl (fun s e => by cases e) ?_
        conv => whnf
        refine Sub.parts [9] [1, 1, 1, 1] ⟨rfl, rfl⟩ ?_
        conv => whnf
        refine ⟨by rw [bs_size, bs_size]; omega, ?_⟩
        conv => whnf
        exact Ret.mk' () [] [4] trivial hfin kk kk ⟨rfl, rfl⟩
      · skip
        conv => whnf
        refine conv_str (l := Y) (k := (Y).length) rfl rfl rfl (Src.rs (A := X) (by simp) h12.1) rfl (fun s e => by cases e) ?_
        conv => whnf
        refine Sub.parts [9] [1, 1, 1, 1] ⟨rfl, rfl⟩ ?_
        conv => whnf
        refine conv_str (l := encH h) (k := (encH h).length) rfl rfl rfl (Src.rs (A := Own a101 c101 5 1 (u8s (encH h))) (by simp) Own.rd) rfl (fun s e => by cases e) ?_
        conv => whnf
        refine Sub.parts [9] [1, 1, 1, 1] ⟨rfl, rfl⟩ ?_
        conv => whnf
        refine ⟨by rw [bs_size, bs_size]; omega, ?_⟩
        conv => whnf
        exact Ret.mk' () [] [4] trivial hfin kk kk ⟨rfl, rfl⟩
    · skip
      conv => whnf
      refine conv_str (l := Y) (k := (Y).length) rfl rfl rfl (Src.rs (A := X) (by simp) h12.1) rfl (fun s e => by cases e) ?_
      conv => whnf
      refine Sub.parts [9] [0, 0, 0, 0] ⟨rfl, rfl⟩ ?_
      conv => whnf
      refine CallOb.fb (encode_h _ h ok1) rfl fun a101 c101 h101 => ?_
      conv => whnf
      refine Sub.parts [9] [1, 1, 1, 1] ⟨rfl, rfl⟩ ?_
      conv => whnf
      refine conv_str (l := encH h) (k := (encH h).length) rfl rfl rfl (Src.rs (A := Own a101 c101 5 1 (u8s (encH h))) (by simp) Own.rd) rfl (fun s e => by cases e) ?_
      conv => whnf
      refine Sub.parts [9] [1, 1, 1, 1] ⟨rfl, rfl⟩ ?_
      conv => whnf
      refine ⟨by rw [bs_size, bs_size]; omega, ?_⟩
      conv => whnf
      exact Ret.mk' () [] [4] trivial hfin kk kk ⟨rfl, rfl⟩
  · skip
    conv => whnf
    refine CallOb.fb (encode_h _ h ok1) rfl fun a101 c101 h101 => ?_
    conv => whnf
    refine Sub.parts [9] [1, 1, 1, 1] ⟨rfl, rfl⟩ ?_
    conv => whnf
    refine ⟨?_, ?_, ?_⟩
    · skip
      conv => whnf
      refine conv_str (l := encH h ++ Y) (k := (encH h ++ Y).length) rfl rfl rfl (Src.rs (A := X7) (by simp) h7.1) rfl (fun s e => by cases e) ?_
      conv => whnf
      refine Sub.parts [9] [1, 1, 1, 1] ⟨rfl, rfl⟩ ?_
      conv => whnf
      refine ⟨?_, ?_⟩
      · skip
        conv => whnf
        refine conv_str (l := encH h) (k := (encH h).length) rfl rfl rfl (Src.rs (A := Own a101 c101 5 1 (u8s (encH h))) (by simp) Own.rd) rfl (fun s e => by cases e) ?_
        conv => whnf
        refine Sub.parts [9] [1, 1, 1, 1] ⟨rfl, rfl⟩ ?_
        conv => whnf
        refine conv_str (l := Y) (k := (Y).length) rfl rfl rfl (Src.rs (A := X) (by simp) h12.1) rfl (fun s e => by cases e) ?_
        conv => whnf
        refine Sub.parts [9] [1, 1, 1, 1] ⟨rfl, rfl⟩ ?_
        conv => whnf
        refine ⟨by rw [bs_size, bs_size]; omega, ?_⟩
        conv => whnf
        exact Ret.mk' () [] [4] trivial hfin kk kk ⟨rfl, rfl⟩
      · skip
        conv => whnf
        refine conv_str (l := Y) (k := (Y).length) rfl rfl rfl (Src.rs (A := X) (by simp) h12.1) rfl (fun s e => by cases e) ?_
        conv => whnf
        refine Sub.parts [9] [1, 1, 1, 1] ⟨rfl, rfl⟩ ?_
        conv => whnf
        refine conv_str (l := encH h) (k := (encH h).length) rfl rfl rfl (Src.rs (A := Own a101 c101 5 1 (u8s (encH h))) (by simp) Own.rd) rfl (fun s e => by cases e) ?_
        conv => whnf
        refine Sub.parts [9] [1, 1, 1, 1] ⟨rfl, rfl⟩ ?_
        conv => whnf
        refine ⟨by rw [bs_size, bs_size]; omega, ?_⟩
        conv => whnf
        exact Ret.mk' () [] [4] trivial hfin kk kk ⟨rfl, rfl⟩
    · skip
      conv => whnf
      refine conv_str (l := encH h) (k := (encH h).length) rfl rfl rfl (Src.rs (A := Own a101 c101 5 1 (u8s (encH h))) (by simp) Own.rd) rfl (fun s e => by cases e) ?_
      conv => whnf
      refine Sub.parts [9] [1, 1, 1, 1] ⟨rfl, rfl⟩ ?_
      conv => whnf
      refine ⟨?_, ?_⟩
      · skip
        conv => whnf
        refine conv_str (l := encH h ++ Y) (k := (encH h ++ Y).length) rfl rfl rfl (Src.rs (A := X7) (by simp) h7.1) rfl (fun s e => by cases e) ?_
        conv => whnf
        refine Sub.parts [9] [1, 1, 1, 1] ⟨rfl, rfl⟩ ?_
        conv => whnf
        refine conv_str (l := Y) (k := (Y).length) rfl rfl rfl (Src.rs (A := X) (by simp) h12.1) rfl (fun s e => by cases e) ?_
        conv => whnf
        refine Sub.parts [9] [1, 1, 1, 1] ⟨rfl, rfl⟩ ?_
        conv => whnf
        refine ⟨by rw [bs_size, bs_size]; omega, ?_⟩
        conv => whnf
        exact Ret.mk' () [] [4] trivial hfin kk kk ⟨rfl, rfl⟩
      · skip
        conv => whnf
        refine conv_str (l := Y) (k := (Y).length) rfl rfl rfl (Src.rs (A := X) (by simp) h12.1) rfl (fun s e => by cases e) ?_
        conv => whnf
        refine Sub.parts [9] [1, 1, 1, 1] ⟨rfl, rfl⟩ ?_
        conv => whnf
        refine ⟨by rw [bs_size, bs_size]; omega, ?_⟩
        conv => whnf
        refine conv_str (l := encH h ++ Y) (k := (encH h ++ Y).length) rfl rfl rfl (Src.rs (A := X7) (by simp) h7.1) rfl (fun s e => by cases e) ?_
        conv => whnf
        refine Sub.parts [9] [1, 1, 1, 1] ⟨rfl, rfl⟩ ?_
        conv => whnf
        exact Ret.mk' () [] [4] trivial hfin kk kk ⟨rfl, rfl⟩
    · skip
      conv => whnf
      refine conv_str (l := Y) (k := (Y).length) rfl rfl rfl (Src.rs (A := X) (by simp) h12.1) rfl (fun s e => by cases e) ?_
      conv => whnf
      refine Sub.parts [9] [1, 1, 1, 1] ⟨rfl, rfl⟩ ?_
      conv => whnf
      refine ⟨?_, ?_⟩
      · skip
        conv => whnf
        refine conv_str (l := encH h ++ Y) (k := (encH h ++ Y).length) rfl rfl rfl (Src.rs (A := X7) (by simp) h7.1) rfl (fun s e => by cases e) ?_
        conv => whnf
        refine Sub.parts [9] [1, 1, 1, 1] ⟨rfl, rfl⟩ ?_
        conv => whnf
        refine conv_str (l := encH h) (k := (encH h).length) rfl rfl rfl (Src.rs (A := Own a101 c101 5 1 (u8s (encH h))) (by simp) Own.rd) rfl (fun s e => by cases e) ?_
        conv => whnf
        refine Sub.parts [9] [1, 1, 1, 1] ⟨rfl, rfl⟩ ?_
        conv => whnf
        refine ⟨by rw [bs_size, bs_size]; omega, ?_⟩
        conv => whnf
        exact Ret.mk' () [] [4] trivial hfin kk kk ⟨rfl, rfl⟩
      · skip
        conv => whnf
        refine conv_str (l := encH h) (k := (encH h).length) rfl rfl rfl (Src.rs (A := Own a101 c101 5 1 (u8s (encH h))) (by simp) Own.rd) rfl (fun s e => by cases e) ?_
        conv => whnf
        refine Sub.parts [9] [1, 1, 1, 1] ⟨rfl, rfl⟩ ?_
        conv => whnf
        refine ⟨by rw [bs_size, bs_size]; omega, ?_⟩
        conv => whnf
        refine conv_str (l := encH h ++ Y) (k := (encH h ++ Y).length) rfl rfl rfl (Src.rs (A := X7) (by simp) h7.1) rfl (fun s e => by cases e) ?_
        conv => whnf
        refine Sub.parts [9] [1, 1, 1, 1] ⟨rfl, rfl⟩ ?_
        conv => whnf
        exact Ret.mk' () [] [4] trivial hfin kk kk ⟨rfl, rfl⟩
  · skip
    conv => whnf
    refine conv_str (l := Y) (k := (Y).length) rfl rfl rfl (Src.rs (A := X) (by simp) h12.1) rfl (fun s e => by cases e) ?_
    conv => whnf
    refine Sub.parts [9] [0, 0, 0, 0] ⟨rfl, rfl⟩ ?_
    conv => whnf
    refine ⟨?_, ?_⟩
    · skip
      conv => whnf
      refine conv_str (l := encH h ++ Y) (k := (encH h ++ Y).length) rfl rfl rfl (Src.rs (A := X7) (by simp) h7.1) rfl (fun s e => by cases e) ?_
      conv => whnf
      refine Sub.parts [9] [0, 0, 0, 0] ⟨rfl, rfl⟩ ?_
      conv => whnf
      refine CallOb.fb (encode_h _ h ok1) rfl fun a101 c101 h101 => ?_
      conv => whnf
      refine Sub.parts [9] [1, 1, 1, 1] ⟨rfl, rfl⟩ ?_
      conv => whnf
      refine conv_str (l := encH h) (k := (encH h).length) rfl rfl rfl (Src.rs (A := Own a101 c101 5 1 (u8s (encH h))) (by simp) Own.rd) rfl (fun s e => by cases e) ?_
      conv => whnf
      refine Sub.parts [9] [1, 1, 1, 1] ⟨rfl, rfl⟩ ?_
      conv => whnf
      refine ⟨by rw [bs_size, bs_size]; omega, ?_⟩
      conv => whnf
      exact Ret.mk' () [] [4] trivial hfin kk kk ⟨rfl, rfl⟩
    · skip
      conv => whnf
      refine CallOb.fb (encode_h _ h ok1) rfl fun a101 c101 h101 => ?_
      conv => whnf
      refine Sub.parts [9] [1, 1, 1, 1] ⟨rfl, rfl⟩ ?_
      conv => whnf
      refine ⟨?_, ?_⟩
      · skip
        conv => whnf
        refine conv_str (l := encH h ++ Y) (k := (encH h ++ Y).length) rfl rfl rfl (Src.rs (A := X7) (by simp) h7.1) rfl (fun s e => by cases e) ?_
        conv => whnf
        refine Sub.parts [9] [1, 1, 1, 1] ⟨rfl, rfl⟩ ?_
        conv => whnf
        refine conv_str (l := encH h) (k := (encH h).length) rfl rfl rfl (Src.rs (A := Own a101 c101 5 1 (u8s (encH h))) (by simp) Own.rd) rfl (fun s e => by cases e) ?_
        conv => whnf
        refine Sub.parts [9] [1, 1, 1, 1] ⟨rfl, rfl⟩ ?_
        conv => whnf
        refine ⟨by rw [bs_size, bs_size]; omega, ?_⟩
        conv => whnf
        exact Ret.mk' () [] [4] trivial hfin kk kk ⟨rfl, rfl⟩
      · skip
        conv => whnf
        refine conv_str (l := encH h) (k := (encH h).length) rfl rfl rfl (Src.rs (A := Own a101 c101 5 1 (u8s (encH h))) (by simp) Own.rd) rfl (fun s e => by cases e) ?_
        conv => whnf
        refine Sub.parts [9] [1, 1, 1, 1] ⟨rfl, rfl⟩ ?_
        conv => whnf
        refine ⟨by rw [bs_size, bs_size]; omega, ?_⟩
        conv => whnf
        refine conv_str (l := encH h ++ Y) (k := (encH h ++ Y).length) rfl rfl rfl (Src.rs (A := X7) (by simp) h7.1) rfl (fun s e => by cases e) ?_
        conv => whnf
        refine Sub.parts [9] [1, 1, 1, 1] ⟨rfl, rfl⟩ ?_
        conv => whnf
        exact Ret.mk' () [] [4] trivial hfin kk kk ⟨rfl, rfl⟩
end
section
/- packet: the laws at any arguments. -/
open Go.RowKit (Below)
theorem fitsBP : Fits Tryz.prog .bytes 24 = true := by simp only [Fits, Tryz.underlying24, Tryz.underlying5]; kernel_rfl
section
variable {H : Type} {enc : TypeId × Value → H} {base : Nat} {v0 v1 v2 : Value} {d0 d1 d2 : DataW H} {p0 p1 p2 : List MemPlace}
theorem arg_btsP (W : World) (ok0 : Value.okWide Tryz.prog W .any base 24 v0) (h0 : DataW.Trod enc Tryz.prog W 0 (fun _ => true) true 24 v0 d0 p0) :
    ∃ a cap l, v0 = .slice a l.length cap ∧ Bts (old W) a cap l := by
  obtain ⟨a, cap, l, rfl, h1, h⟩ := arg_bytes fitsBP ok0 h0
  exact ⟨a, cap, l, rfl, h, h1.1, h1.2.2⟩
theorem packetSizes_law (W : World) (hL : laidMetH Tryz.prog kLaid W) (ok0 : Value.okWide Tryz.prog W .any base 23 v0) (ok1 : Value.okWide Tryz.prog W .any base 24 v1)
    (h0 : DataW.Trod enc Tryz.prog W 0 (fun _ => true) true 23 v0 d0 p0) (h1 : DataW.Trod enc Tryz.prog W 0 (fun _ => true) true 24 v1 d1 p1) :
    Calls Tryz.prog 4 #[v0, v1] W fun e w' => e = .returned (.bool true) ∧ Below W.heap.size W w' := by
  obtain ⟨k, rfl, hk⟩ := arg_key W ok0 h0
  obtain ⟨a, cap, b, rfl, hb⟩ := arg_btsP W ok1 h1
  exact law_calls (sizes_c W (gl_of_laid hL) k hk a cap b hb) rfl
theorem packetBodies_law (W : World) (hL : laidMetH Tryz.prog kLaid W) (ok0 : Value.okWide Tryz.prog W .any base 23 v0) (ok1 : Value.okWide Tryz.prog W .any base 45 v1) (ok2 : Value.okWide Tryz.prog W .any base 24 v2)
    (h0 : DataW.Trod enc Tryz.prog W 0 (fun _ => true) true 23 v0 d0 p0) (h1 : DataW.Trod enc Tryz.prog W 0 (fun _ => true) true 45 v1 d1 p1) (h2 : DataW.Trod enc Tryz.prog W 0 (fun _ => true) true 24 v2 d2 p2) :
    Calls Tryz.prog 6 #[v0, v1, v2] W fun e w' => e = .returned (.bool true) ∧ Below W.heap.size W w' := by
  obtain ⟨k, rfl, hk⟩ := arg_key W ok0 h0
  obtain ⟨a, cap, l, rfl, hr, hl⟩ := arg_hops W ok1 h1
  obtain ⟨a2, cap2, b, rfl, hb⟩ := arg_btsP W ok2 h2
  exact law_calls (bodies_c W (gl_of_laid hL) k hk a cap l hl hr a2 cap2 b hb) rfl
theorem packetUnlocks_law (W : World) (hL : laidMetH Tryz.prog kLaid W) (ok0 : Value.okWide Tryz.prog W .any base 23 v0) (ok1 : Value.okWide Tryz.prog W .any base 24 v1) (ok2 : Value.okWide Tryz.prog W .any base 24 v2)
    (h0 : DataW.Trod enc Tryz.prog W 0 (fun _ => true) true 23 v0 d0 p0) (h1 : DataW.Trod enc Tryz.prog W 0 (fun _ => true) true 24 v1 d1 p1) (h2 : DataW.Trod enc Tryz.prog W 0 (fun _ => true) true 24 v2 d2 p2) :
    Calls Tryz.prog 7 #[v0, v1, v2] W fun e w' => e = .returned (.bool true) ∧ Below W.heap.size W w' := by
  obtain ⟨k, rfl, hk⟩ := arg_key W ok0 h0
  obtain ⟨a, cap, b, rfl, hb⟩ := arg_btsP W ok1 h1
  obtain ⟨a2, cap2, r, rfl, hr⟩ := arg_btsP W ok2 h2
  exact law_calls (unlocks_c W (gl_of_laid hL) k hk a cap b hb a2 cap2 r hr) rfl
end
end
end Go.Proofs.YtfehjfoajlfhfaaGreatDoor
