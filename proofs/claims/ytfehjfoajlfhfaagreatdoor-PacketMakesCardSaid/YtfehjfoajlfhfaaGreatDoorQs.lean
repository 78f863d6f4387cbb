import Derived.Test.YtfehjfoajlfhfaaGreatDoorQr
import Derived.Test.YtfehjfoajlfhfaaGreatDoorQo
import Derived.Test.YtfehjfoajlfhfaaGreatDoorQm
namespace Go.Proofs.YtfehjfoajlfhfaaGreatDoor
open Go.Sx
set_option maxRecDepth 100000
set_option pp.deepTerms false
set_option pp.maxSteps 300
set_option linter.unusedSimpArgs false
set_option linter.unusedVariables false
section
attribute [local irreducible] macD q03 strS q05 q00 q02 q0f q06 q07 q08 q0a q0g q0d lionB lockS q1h q0j openB q0n decC tagH q1g q1d q1e q0h peelS packS
end
section
attribute [local irreducible] macD q03 strS q05 q00 q02 q0f q06 q07 q08 q0a q0g q0d lionB lockS q1h q0j openB q0n decC tagH q1g q1d q1e q0h peelS packS
end
section
attribute [local irreducible] macD q03 strS q05 q00 q02 q0f q06 q07 q08 q0a q0g q0d lionB lockS q1h q0j openB q0n decC tagH q1g q1d q1e q0h peelS packS
end
section
attribute [local irreducible] macD q03 strS q05 q00 q02 q0f q06 q07 q08 q0a q0g q0d lionB lockS q1h q0j openB q0n decC tagH q1g q1d q1e q0h peelS packS
set_option maxHeartbeats 4000000 in
theorem qo6 (W : World) (hK : Gl (old W)) (x : List UInt8) (hx : x.length = 32) (a : Option Addr) (cap : Nat) (l : List HopS) (hl : okHs l) (hr : Rd (old W) a (rowH l)) (a2 : Option Addr) (cap2 : Nat) (room : List UInt8) (hb : Bts (old W) a2 cap2 room) :
    LawC Tryz.prog 5 [.agg [.many 32 (u8s x)], .c (.rs a l.length cap), .c (.rs a2 room.length cap2)] W := by
  have hks := mok hx; have CN := fun A R R' hE hE' hK a cap hr hn a2 c2 hb hn2 => qml A R R' hE hE' hK x hx a cap l hl hr hn a2 c2 room hb hn2; have RN := fun A R R' hE hE' a cap hr hn a2 c2 hb hn2 => qq7 A R R' hE hE' x hx a cap l hl hr hn a2 c2 room hb hn2; generalize packS x l room = Z at CN RN; obtain ⟨Z, e⟩ := Z; have CS := fun A R hE hK a cap hb hn => qq6 A R hE hK x hx a cap room hb hn; have RS := fun A R hE a cap hb hn => qjz A R hE x hx a cap room hb hn; generalize sealS x room = S at CS RS; obtain ⟨S, f⟩ := S
  refine Con.of' tt_ok Tryz.func5 rfl (by decide) [.agg [.many 32 (u8s x)], .c (.rs a l.length cap), .c (.rs a2 room.length cap2)] [] [] rfl rfl trivial ⟨⟨hks _, trivial⟩, trivial, trivial, trivial⟩ rfl ?_; (conv => whnf); intro b3; (conv => whnf); refine Cq.pu (qib _ (hK.ent (Ent.a mm))) rfl ?_; (conv => whnf); refine Cond.d (fun q1 => ?_) (fun q1 => ?_)
  · (conv => whnf); exact Ret.m () [] [0] trivial rfl kk kk ⟨rfl, rfl⟩
  (conv => whnf); refine Cond.d (fun q2 => ?_) (fun q2 => ?_)
  · (conv => whnf); exact Ret.m () [] [0] trivial rfl kk kk ⟨rfl, rfl⟩
  (conv => whnf); refine Draw.a (by kernel_rfl) tt_ok (Tv.of [0, 1, 3, 2, 4, 5, 6, 7, 8, 9] .nil) 1000000 (by kernel_rfl) ?_; (conv => whnf); refine Cq.new (qq4 _ (old W) (Ent.a mm) a cap l hl hr (by omega)) rfl ?_; rintro ⟨ah, ch⟩ hh; dsimp only at hh ⊢; (conv => whnf); refine Sub.r [3] [1] ?_; (conv => whnf); refine Cq.new (CN _ (Own ah ch 96 43 (rowH l)) (old W) (Ent.a mm) (Ent.a mm) (hK.ent (Ent.a mm)) ah ch Own.rd (by omega) a2 cap2 hb (by omega)) rfl ?_; rintro ⟨a7, c7, X7⟩ h7; dsimp only at h7 ⊢; (conv => whnf); refine Sub.r [3] [2] ?_; conv => whnf
  refine Cq.new (RN _ (old W) (old W) (Ent.a mm) (Ent.a mm) a cap hr (by omega) a2 cap2 hb (by omega)) rfl ?_; rintro ⟨a9, c9, X9⟩ h9; dsimp only at h9 ⊢; (conv => whnf); refine Cq.new (CS _ (old W) (Ent.a mm) (hK.ent (Ent.a mm)) a2 cap2 hb (by omega)) rfl ?_; rintro ⟨a11, c11, X11⟩ h11; dsimp only at h11 ⊢; (conv => whnf); refine Cq.new (RS _ (old W) (Ent.a mm) a2 cap2 hb (by omega)) rfl ?_; rintro ⟨a13, c13, X13⟩ h13; dsimp only at h13 ⊢; conv => whnf
  refine Draw.a (by kernel_rfl) tt_ok (Tv.of [0, 2] (.two 1 (Tv.of [3, 4, 5, 6, 7, 8, 9, 10, 11, 13] (.two 12 (Tv.of [14, 15, 16, 17, 18, 19, 20, 21, 22, 23, 25, 24, 26, 27, 28, 29] .nil) 14 (Tv.of [12, 15, 16, 17, 18, 19, 20, 21, 22, 23, 25, 24, 26, 27, 28, 29] .nil))) 3 (Tv.of [1, 4, 5, 6, 7, 8, 9, 10, 11, 13] (.two 12 (Tv.of [14, 15, 16, 17, 18, 19, 20, 21, 22, 23, 25, 24, 26, 27, 28, 29] .nil) 14 (Tv.of [12, 15, 16, 17, 18, 19, 20, 21, 22, 23, 25, 24, 26, 27, 28, 29] .nil))))) 1000000 (by kernel_rfl) ?_; (conv => whnf); refine ⟨?_, ?_⟩
  · (conv => whnf); refine q25 (l := Z) (k := (Z).length) rfl rfl rfl (Src.rs (A := X7) (by simp) h7.1) rfl (fun s e => by cases e) ?_; (conv => whnf); refine Sub.r [3] [0, 0, 0, 0, 0, 0] ?_; (conv => whnf); refine q25 (l := Z) (k := (Z).length) rfl rfl rfl (Src.rs (A := X9) (by simp) h9.1) rfl (fun s e => by cases e) ?_; (conv => whnf); refine Sub.r [3] [0, 0, 0, 0, 0, 0] ?_; (conv => whnf); refine Cond.str (fun _ => ?_) (fun h => absurd rfl h); (conv => whnf); refine Cond.eqI (fun _ => ?_) (fun h => absurd rfl h); (conv => whnf); refine ⟨?_, ?_⟩
    · (conv => whnf); refine q25 (l := S) (k := (S).length) rfl rfl rfl (Src.rs (A := X11) (by simp) h11.1) rfl (fun s e => by cases e) ?_; (conv => whnf); refine Sub.r [3] [0, 0, 0, 0, 0, 0] ?_; (conv => whnf); refine q25 (l := S) (k := (S).length) rfl rfl rfl (Src.rs (A := X13) (by simp) h13.1) rfl (fun s e => by cases e) ?_; (conv => whnf); refine Sub.r [3] [0, 0, 0, 0, 0, 0] ?_; (conv => whnf); refine Cond.str (fun _ => ?_) (fun h => absurd rfl h); (conv => whnf); refine Cond.eqI (fun _ => ?_) (fun h => absurd rfl h); conv => whnf
      refine Cq.pu (q77 _ (hK.ent (Ent.a mm)) x hx) rfl ?_; (conv => whnf); refine Sub.r [3] [0, 0, 0, 0, 0, 0] ?_; (conv => whnf); refine Cq.pu (q54 _ x hx) rfl ?_; (conv => whnf); refine Sub.r [3] [0, 0, 0, 0, 0, 0] ?_; (conv => whnf); refine q93 (l := q0j x) (m := q0j x) (q15 _) (q15 _) (by simp [dens, Seg.den]) (by simp [dens, Seg.den]) ?_; (conv => whnf); rw [decide_eq_true rfl]; exact Ret.m () [] [5] trivial rfl kk kk ⟨rfl, rfl⟩
    · (conv => whnf); refine q25 (l := S) (k := (S).length) rfl rfl rfl (Src.rs (A := X13) (by simp) h13.1) rfl (fun s e => by cases e) ?_; (conv => whnf); refine Sub.r [3] [0, 0, 0, 0, 0, 0] ?_; (conv => whnf); refine q25 (l := S) (k := (S).length) rfl rfl rfl (Src.rs (A := X11) (by simp) h11.1) rfl (fun s e => by cases e) ?_; (conv => whnf); refine Sub.r [3] [0, 0, 0, 0, 0, 0] ?_; (conv => whnf); refine Cond.str (fun _ => ?_) (fun h => absurd rfl h); (conv => whnf); refine Cond.eqI (fun _ => ?_) (fun h => absurd rfl h); conv => whnf
      refine Cq.pu (q77 _ (hK.ent (Ent.a mm)) x hx) rfl ?_; (conv => whnf); refine Sub.r [3] [0, 0, 0, 0, 0, 0] ?_; (conv => whnf); refine Cq.pu (q54 _ x hx) rfl ?_; (conv => whnf); refine Sub.r [3] [0, 0, 0, 0, 0, 0] ?_; (conv => whnf); refine q93 (l := q0j x) (m := q0j x) (q15 _) (q15 _) (by simp [dens, Seg.den]) (by simp [dens, Seg.den]) ?_; (conv => whnf); rw [decide_eq_true rfl]; exact Ret.m () [] [5] trivial rfl kk kk ⟨rfl, rfl⟩
  · (conv => whnf); refine q25 (l := Z) (k := (Z).length) rfl rfl rfl (Src.rs (A := X9) (by simp) h9.1) rfl (fun s e => by cases e) ?_; (conv => whnf); refine Sub.r [3] [0, 0, 0, 0, 0, 0] ?_; (conv => whnf); refine q25 (l := Z) (k := (Z).length) rfl rfl rfl (Src.rs (A := X7) (by simp) h7.1) rfl (fun s e => by cases e) ?_; (conv => whnf); refine Sub.r [3] [0, 0, 0, 0, 0, 0] ?_; (conv => whnf); refine Cond.str (fun _ => ?_) (fun h => absurd rfl h); (conv => whnf); refine Cond.eqI (fun _ => ?_) (fun h => absurd rfl h); (conv => whnf); refine ⟨?_, ?_⟩
    · (conv => whnf); refine q25 (l := S) (k := (S).length) rfl rfl rfl (Src.rs (A := X11) (by simp) h11.1) rfl (fun s e => by cases e) ?_; (conv => whnf); refine Sub.r [3] [0, 0, 0, 0, 0, 0] ?_; (conv => whnf); refine q25 (l := S) (k := (S).length) rfl rfl rfl (Src.rs (A := X13) (by simp) h13.1) rfl (fun s e => by cases e) ?_; (conv => whnf); refine Sub.r [3] [0, 0, 0, 0, 0, 0] ?_; (conv => whnf); refine Cond.str (fun _ => ?_) (fun h => absurd rfl h); (conv => whnf); refine Cond.eqI (fun _ => ?_) (fun h => absurd rfl h); conv => whnf
      refine Cq.pu (q77 _ (hK.ent (Ent.a mm)) x hx) rfl ?_; (conv => whnf); refine Sub.r [3] [0, 0, 0, 0, 0, 0] ?_; (conv => whnf); refine Cq.pu (q54 _ x hx) rfl ?_; (conv => whnf); refine Sub.r [3] [0, 0, 0, 0, 0, 0] ?_; (conv => whnf); refine q93 (l := q0j x) (m := q0j x) (q15 _) (q15 _) (by simp [dens, Seg.den]) (by simp [dens, Seg.den]) ?_; (conv => whnf); rw [decide_eq_true rfl]; exact Ret.m () [] [5] trivial rfl kk kk ⟨rfl, rfl⟩
    · (conv => whnf); refine q25 (l := S) (k := (S).length) rfl rfl rfl (Src.rs (A := X13) (by simp) h13.1) rfl (fun s e => by cases e) ?_; (conv => whnf); refine Sub.r [3] [0, 0, 0, 0, 0, 0] ?_; (conv => whnf); refine q25 (l := S) (k := (S).length) rfl rfl rfl (Src.rs (A := X11) (by simp) h11.1) rfl (fun s e => by cases e) ?_; (conv => whnf); refine Sub.r [3] [0, 0, 0, 0, 0, 0] ?_; (conv => whnf); refine Cond.str (fun _ => ?_) (fun h => absurd rfl h); (conv => whnf); refine Cond.eqI (fun _ => ?_) (fun h => absurd rfl h); conv => whnf
      refine Cq.pu (q77 _ (hK.ent (Ent.a mm)) x hx) rfl ?_; (conv => whnf); refine Sub.r [3] [0, 0, 0, 0, 0, 0] ?_; (conv => whnf); refine Cq.pu (q54 _ x hx) rfl ?_; (conv => whnf); refine Sub.r [3] [0, 0, 0, 0, 0, 0] ?_; (conv => whnf); refine q93 (l := q0j x) (m := q0j x) (q15 _) (q15 _) (by simp [dens, Seg.den]) (by simp [dens, Seg.den]) ?_; (conv => whnf); rw [decide_eq_true rfl]; exact Ret.m () [] [5] trivial rfl kk kk ⟨rfl, rfl⟩
end
section
attribute [local irreducible] macD q03 strS q05 q00 q02 q0f q06 q07 q08 q0a q0g q0d lionB lockS q1h q0j openB q0n decC tagH q1g q1d q1e q0h peelS
theorem qbt (l : List UInt8) : (bs l).size = l.length := rfl
end
section
open Go.RowKit (Below)
theorem qpf : Fits Tryz.prog .bytes 24 = true := by simp only [Fits, Tryz.underlying24, Tryz.underlying5]; kernel_rfl
section
variable {H : Type} {enc : TypeId × Value → H} {base : Nat} {v0 v1 v2 : Value} {d0 d1 d2 : DataW H} {p0 p1 p2 : List MemPlace}
theorem qks (W : World) (ok0 : Value.okWide Tryz.prog W .any base 24 v0) (h0 : DataW.Trod enc Tryz.prog W 0 (fun _ => true) true 24 v0 d0 p0) :
    ∃ a cap l, v0 = .slice a l.length cap ∧ Bts (old W) a cap l := by
  obtain ⟨a, cap, l, rfl, h1, h⟩ := qh6 qpf ok0 h0; exact ⟨a, cap, l, rfl, h, h1.1, h1.2.2⟩
theorem packetMakes_law (W : World) (hL : laidMetH Tryz.prog kLaid W) (ok0 : Value.okWide Tryz.prog W .any base 23 v0) (ok1 : Value.okWide Tryz.prog W .any base 45 v1) (ok2 : Value.okWide Tryz.prog W .any base 24 v2)
    (h0 : DataW.Trod enc Tryz.prog W 0 (fun _ => true) true 23 v0 d0 p0) (h1 : DataW.Trod enc Tryz.prog W 0 (fun _ => true) true 45 v1 d1 p1) (h2 : DataW.Trod enc Tryz.prog W 0 (fun _ => true) true 24 v2 d2 p2) :
    Calls Tryz.prog 5 #[v0, v1, v2] W fun e w' => e = .returned (.bool true) ∧ Below W.heap.size W w' := by
  obtain ⟨k, rfl, hk⟩ := qp4 W ok0 h0; obtain ⟨a, cap, l, rfl, hr, hl⟩ := qkt W ok1 h1; obtain ⟨a2, cap2, b, rfl, hb⟩ := qks W ok2 h2; exact qhk (qo6 W (qgg hL) k hk a cap l hl hr a2 cap2 b hb) rfl
end
end
end Go.Proofs.YtfehjfoajlfhfaaGreatDoor
