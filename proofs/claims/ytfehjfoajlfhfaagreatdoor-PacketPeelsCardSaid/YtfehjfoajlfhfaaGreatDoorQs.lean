import Derived.Test.YtfehjfoajlfhfaaGreatDoorQr
import Derived.Test.YtfehjfoajlfhfaaGreatDoorQo
import Derived.Test.YtfehjfoajlfhfaaGreatDoorQm
namespace Go.Proofs.YtfehjfoajlfhfaaGreatDoor
open Go.Sx
set_option maxRecDepth 100000
set_option pp.deepTerms false
set_option pp.maxSteps 300
set_option linter.unusedSimpArgs false
set_option linter.unusedVariables false
section
attribute [local irreducible] macD q02 strS q05 q00 q04 q0f q06 q0a q08 q0e q0s q0l lionB lockS q0x q14 openB q0m decC tagH q1d q1e q1f q0c peelS packS
end
section
attribute [local irreducible] macD q02 strS q05 q00 q04 q0f q06 q0a q08 q0e q0s q0l lionB lockS q0x q14 openB q0m decC tagH q1d q1e q1f q0c peelS packS
end
section
theorem qkr {st : StepS} (o : st.cmd.wf) (b : List UInt8) : (peel2 st b).1.cmd.wf := by
  unfold peel2
  split
  · exact o
  split
  · split
    · exact o
    · exact q4s
  split
  · exact o
  · exact o
theorem ql1 (own : List UInt8) (p : List UInt8) : (peelS own p).1.cmd.wf := by
  by_cases h : p.length = 736
  · by_cases e : (q0c own (hdrOf (p.take 208))).2 = 0
    · rw [qfe h e]; exact qkr (qgi own (q7n (by rw [List.length_take]; omega))) _
    · rw [qg8 h e]; exact q4s
  · rw [qcs h]; exact q4s
attribute [local irreducible] macD q02 strS q05 q00 q04 q0f q06 q0a q08 q0e q0s q0l lionB lockS q0x q14 openB q0m decC tagH q1d q1e q1f q0c peelS packS
set_option maxHeartbeats 4000000 in
theorem qog (W : World) (hK : Gl (old W)) (own : List UInt8) (ho : own.length = 32) (a : Option Addr) (cap : Nat) (p : List UInt8) (hb : Bts (old W) a cap p) : LawC Tryz.prog 3 [.agg [.many 32 (u8s own)], .c (.rs a p.length cap)] W := by
  have hks := mok ho; have oZ := qmf own p; have wZ := ql1 own p; have CP := fun A R hE hK a cap hb hn => qjq A R hE hK own ho a cap p hb hn; have RP := fun A R hE a cap hb hn => qpf A R hE own ho a cap p hb hn; generalize peelS own p = Z at oZ wZ CP RP; obtain ⟨⟨cmd, next, tag, room⟩, e⟩ := Z; dsimp only at oZ wZ CP RP; refine Con.of' tt_ok Tryz.func3 rfl (by decide) [.agg [.many 32 (u8s own)], .c (.rs a p.length cap)] [] [] rfl rfl trivial ⟨⟨hks _, trivial⟩, trivial, trivial⟩ rfl ?_; (conv => whnf); intro b2; conv => whnf
  refine Cq.pu (qj5 _ (hK.ent (Ent.a mm))) rfl ?_; (conv => whnf); refine Cond.d (fun hl => ?_) (fun hl => ?_)
  · (conv => whnf); exact Ret.m () [] [0] trivial rfl kk kk ⟨rfl, rfl⟩
  (conv => whnf); refine Cq.new (CP _ (old W) (Ent.a mm) (hK.ent (Ent.a mm)) a cap hb (by omega)) rfl ?_; rintro ⟨an, cn, ar, cr, X1⟩ h1; dsimp only at h1 ⊢; (conv => whnf); intro b5; (conv => whnf); refine Cq.new (RP _ (old W) (Ent.a mm) a cap hb (by omega)) rfl ?_; rintro ⟨an2, cn2, ar2, cr2, X2⟩ h2; dsimp only at h2 ⊢; (conv => whnf); intro b7; conv => whnf
  refine Draw.a (by kernel_rfl) tt_ok (Tv.of [0, 1, 3, 4, 2, 5, 6, 7, 8, 10, 11] (.two 9 (Tv.of [12, 13, 14, 15, 16, 17, 18, 19, 20, 21, 22, 23, 24, 26, 27] (.two 25 (Tv.of [28, 29, 30, 31, 32, 33, 34, 35, 36] .nil) 28 (Tv.of [25, 29, 30, 31, 32, 33, 34, 35, 36] .nil))) 12 (Tv.of [9, 13, 14, 15, 16, 17, 18, 19, 20, 21, 22, 23, 24, 26, 27] (.two 25 (Tv.of [28, 29, 30, 31, 32, 33, 34, 35, 36] .nil) 28 (Tv.of [25, 29, 30, 31, 32, 33, 34, 35, 36] .nil))))) 1000000 (by kernel_rfl) ?_; (conv => whnf); refine Cq.pu (qou _ cmd oZ.c) rfl ?_; (conv => whnf); refine Sub.r [7, 5, 2] [0, 0, 0] ?_
  (conv => whnf); refine qnj (c := cmd) (d := cmd) wZ wZ (by rfl) (by rfl) fun b hb => ?_; obtain rfl : b = true := hb.2 rfl; (conv => whnf); refine ⟨(fun _ => ?_), (fun e => nomatch e)⟩; (conv => whnf); refine ⟨?_, ?_⟩
  · (conv => whnf); refine q22 (l := next) (k := (next).length) rfl rfl rfl (Src.rs (A := X1) (by simp) h1.1.1) rfl (fun s e => by cases e) ?_; (conv => whnf); refine Sub.r [7, 5, 2] [0, 0, 0] ?_; (conv => whnf); refine q22 (l := next) (k := (next).length) rfl rfl rfl (Src.rs (A := X2) (by simp) h2.1.1) rfl (fun s e => by cases e) ?_; (conv => whnf); refine Sub.r [7, 5, 2] [0, 0, 0] ?_; (conv => whnf); refine Cond.str (fun _ => ?_) (fun h => absurd rfl h); (conv => whnf); refine qe4 (l := tag) (m := tag) oZ.t oZ.t (List.append_nil _) (List.append_nil _) ?_; conv => whnf
    refine Cond.d (fun _ => ?_) (fun h => absurd rfl h); (conv => whnf); refine ⟨?_, ?_⟩
    · (conv => whnf); refine q22 (l := room) (k := (room).length) rfl rfl rfl (Src.rs (A := X1) (by simp) h1.2.1) rfl (fun s e => by cases e) ?_; (conv => whnf); refine Sub.r [7, 5, 2] [0, 0, 0] ?_; (conv => whnf); refine q22 (l := room) (k := (room).length) rfl rfl rfl (Src.rs (A := X2) (by simp) h2.2.1) rfl (fun s e => by cases e) ?_; (conv => whnf); refine Sub.r [7, 5, 2] [0, 0, 0] ?_; (conv => whnf); refine Cond.str (fun _ => ?_) (fun h => absurd rfl h); (conv => whnf); rw [beq_self_eq_true]; exact Ret.m () [] [2] trivial rfl kk kk ⟨rfl, rfl⟩
    · (conv => whnf); refine q22 (l := room) (k := (room).length) rfl rfl rfl (Src.rs (A := X2) (by simp) h2.2.1) rfl (fun s e => by cases e) ?_; (conv => whnf); refine Sub.r [7, 5, 2] [0, 0, 0] ?_; (conv => whnf); refine q22 (l := room) (k := (room).length) rfl rfl rfl (Src.rs (A := X1) (by simp) h1.2.1) rfl (fun s e => by cases e) ?_; (conv => whnf); refine Sub.r [7, 5, 2] [0, 0, 0] ?_; (conv => whnf); refine Cond.str (fun _ => ?_) (fun h => absurd rfl h); (conv => whnf); rw [beq_self_eq_true]; exact Ret.m () [] [2] trivial rfl kk kk ⟨rfl, rfl⟩
  · (conv => whnf); refine q22 (l := next) (k := (next).length) rfl rfl rfl (Src.rs (A := X2) (by simp) h2.1.1) rfl (fun s e => by cases e) ?_; (conv => whnf); refine Sub.r [7, 5, 2] [0, 0, 0] ?_; (conv => whnf); refine q22 (l := next) (k := (next).length) rfl rfl rfl (Src.rs (A := X1) (by simp) h1.1.1) rfl (fun s e => by cases e) ?_; (conv => whnf); refine Sub.r [7, 5, 2] [0, 0, 0] ?_; (conv => whnf); refine Cond.str (fun _ => ?_) (fun h => absurd rfl h); (conv => whnf); refine qe4 (l := tag) (m := tag) oZ.t oZ.t (List.append_nil _) (List.append_nil _) ?_; conv => whnf
    refine Cond.d (fun _ => ?_) (fun h => absurd rfl h); (conv => whnf); refine ⟨?_, ?_⟩
    · (conv => whnf); refine q22 (l := room) (k := (room).length) rfl rfl rfl (Src.rs (A := X1) (by simp) h1.2.1) rfl (fun s e => by cases e) ?_; (conv => whnf); refine Sub.r [7, 5, 2] [0, 0, 0] ?_; (conv => whnf); refine q22 (l := room) (k := (room).length) rfl rfl rfl (Src.rs (A := X2) (by simp) h2.2.1) rfl (fun s e => by cases e) ?_; (conv => whnf); refine Sub.r [7, 5, 2] [0, 0, 0] ?_; (conv => whnf); refine Cond.str (fun _ => ?_) (fun h => absurd rfl h); (conv => whnf); rw [beq_self_eq_true]; exact Ret.m () [] [2] trivial rfl kk kk ⟨rfl, rfl⟩
    · (conv => whnf); refine q22 (l := room) (k := (room).length) rfl rfl rfl (Src.rs (A := X2) (by simp) h2.2.1) rfl (fun s e => by cases e) ?_; (conv => whnf); refine Sub.r [7, 5, 2] [0, 0, 0] ?_; (conv => whnf); refine q22 (l := room) (k := (room).length) rfl rfl rfl (Src.rs (A := X1) (by simp) h1.2.1) rfl (fun s e => by cases e) ?_; (conv => whnf); refine Sub.r [7, 5, 2] [0, 0, 0] ?_; (conv => whnf); refine Cond.str (fun _ => ?_) (fun h => absurd rfl h); (conv => whnf); rw [beq_self_eq_true]; exact Ret.m () [] [2] trivial rfl kk kk ⟨rfl, rfl⟩
end
section
attribute [local irreducible] macD q02 strS q05 q00 q04 q0f q06 q0a q08 q0e q0s q0l lionB lockS q0x q14 openB q0m decC tagH q1d q1e q1f q0c peelS packS
end
section
attribute [local irreducible] macD q02 strS q05 q00 q04 q0f q06 q0a q08 q0e q0s q0l lionB lockS q0x q14 openB q0m decC tagH q1d q1e q1f q0c peelS
theorem qao (l : List UInt8) : (bs l).size = l.length := rfl
end
section
open Go.RowKit (Below)
theorem qqu : Fits Tryz.prog .bytes 24 = true := by simp only [Fits, Tryz.underlying24, Tryz.underlying5]; kernel_rfl
section
variable {H : Type} {enc : TypeId × Value → H} {base : Nat} {v0 v1 v2 : Value} {d0 d1 d2 : DataW H} {p0 p1 p2 : List MemPlace}
theorem ql3 (W : World) (ok0 : Value.okWide Tryz.prog W .any base 24 v0) (h0 : DataW.Trod enc Tryz.prog W 0 (fun _ => true) true 24 v0 d0 p0) :
    ∃ a cap l, v0 = .slice a l.length cap ∧ Bts (old W) a cap l := by
  obtain ⟨a, cap, l, rfl, h1, h⟩ := qhu qqu ok0 h0; exact ⟨a, cap, l, rfl, h, h1.1, h1.2.2⟩
theorem packetPeels_law (W : World) (hL : laidMetH Tryz.prog kLaid W) (ok0 : Value.okWide Tryz.prog W .any base 23 v0) (ok1 : Value.okWide Tryz.prog W .any base 24 v1)
    (h0 : DataW.Trod enc Tryz.prog W 0 (fun _ => true) true 23 v0 d0 p0) (h1 : DataW.Trod enc Tryz.prog W 0 (fun _ => true) true 24 v1 d1 p1) :
    Calls Tryz.prog 3 #[v0, v1] W fun e w' => e = .returned (.bool true) ∧ Below W.heap.size W w' := by
  obtain ⟨k, rfl, hk⟩ := qoi W ok0 h0; obtain ⟨a, cap, b, rfl, hb⟩ := ql3 W ok1 h1; exact qic (qog W (qgj hL) k hk a cap b hb) rfl
end
end
end Go.Proofs.YtfehjfoajlfhfaaGreatDoor
