import Derived.Test.YtfehjfoajlfhfaaGreatDoorQn
import Derived.Test.YtfehjfoajlfhfaaGreatDoorQm
namespace Go.Proofs.YtfehjfoajlfhfaaGreatDoor
open Go.Sx
set_option maxRecDepth 100000
set_option pp.deepTerms false
set_option pp.maxSteps 300
set_option linter.unusedSimpArgs false
set_option linter.unusedVariables false
section
abbrev rst (s : StepS) (a : Option Addr) (c : Nat) : List Seg := [.one (.int .i64 s.cmd.k), .one (.int .i64 s.cmd.n), .one (.int .i64 s.cmd.d), .many 8 (u8s s.cmd.id), .many 32 (u8s s.next.alpha), .one (.rs a s.next.beta.length c), .many 16 (u8s s.next.gamma), .many 32 (u8s s.secret), .many 16 (u8s s.tag)]
abbrev rst0 : List Seg := [.one (.int .i64 0), .one (.int .i64 0), .one (.int .i64 0), .many 8 (u8s (List.replicate 8 0)), .many 32 (u8s zk), .one (.rs none 0 0), .many 16 (u8s (List.replicate 16 0)), .many 32 (u8s zk), .many 16 (u8s (List.replicate 16 0))]
theorem q3h (B : Names) : okL B rst0 := by
  have h8 : (List.replicate 8 (0 : UInt8)).length = 8 := List.length_replicate; have h16 : (List.replicate 16 (0 : UInt8)).length = 16 := List.length_replicate; exact ⟨trivial, trivial, trivial, mok h8 _, mok q34 _, trivial, mok h16 _, mok q34 _, mok h16 _, trivial⟩
attribute [local irreducible] macD q02 strS q05 q00 q04 q0f q06 q0a q08 openB q0m decC tagH q1d q1e q1f q0c
theorem qmc {b : List UInt8} (h : (decC b).2 ≠ 0) : (decC b).2 = 5 := by
  rcases qh0 b with ⟨h1, _⟩ | h1
  · exact absurd h1 h
  · exact h1
theorem qag {k u : List UInt8} (h : (q00 k u).2 ≠ 0) : (q00 k u).2 = 7 := (qlw k u).resolve_left h
theorem Con.map {P : Program} {f : Nat} {args : List SV} {qc : List Cel} {pre : List HP} {A : HP} {τ τ' : Type} {p : τ → Prop} {val : τ → SV} {qc' : τ → List Cel} {post : τ → List HP}
    {p2 : τ' → Prop} {val2 : τ' → SV} {qc2 : τ' → List Cel} {post2 : τ' → List HP} (C : Con P f args qc pre A p val qc' post) (g : τ → τ') (h : ∀ t, p t → p2 (g t) ∧ val t = val2 (g t) ∧ qc' t = qc2 (g t) ∧ post t = post2 (g t)) :
    Con P f args qc pre A p2 val2 qc2 post2 :=
  ⟨C.runs, fun w hs => (C.h w hs).mono (by
    rintro e w' ⟨t, hp, he, hv, hq, hs'⟩; obtain ⟨h1, h2, h3, h4⟩ := h t hp; exact ⟨g t, h1, by rw [← h2]; exact he, by rw [← h2]; exact hv, by rw [← h3]; exact hq, by rw [← h3, ← h4]; exact hs'⟩)⟩
def uwVal (Z : StepS × Int) : Option (Option Addr × Nat) → SV
  | none => .tup [.agg rst0, .c (.int .i64 Z.2)]
  | some t => .tup [.agg (rst Z.1 (cutA t.1 t.2 32 1) (t.2 - 32)), .c (.int .i64 Z.2)]
def qhj (O : List UInt8) : Option (Option Addr × Nat) → List HP
  | none => []
  | some t => [Own t.1 t.2 5 1 (u8s O)]
def uwP (Z : StepS × Int) (O : List UInt8) : Option (Option Addr × Nat) → Prop
  | none => Z.2 ≠ 0 ∧ Z.1 = step0
  | some t => Z.2 = 0 ∧ O.length ≤ t.2 ∧ Z.1.next.beta = (O.drop 32).take 160 ∧ O.length = 192
set_option maxHeartbeats 2000000 in
theorem qjb (A R : HP) (hE : Ent A R) (own : List UInt8) (ho : own.length = 32) (h : HdrS) (o : h.ok) (a : Option Addr) (c : Nat) (hb : Bts R a c h.beta) :
    Con Tryz.prog 50 [.agg [.many 32 (u8s own)], .agg (rsg h a c)] [] [] A (uwP (q0c own h) (openB (q00 own h.alpha).1 h.beta)) (uwVal (q0c own h)) (fun _ => []) (qhj (openB (q00 own h.alpha).1 h.beta)) := by
  obtain ⟨al, be, ga⟩ := h; have hal := o.a; have hbe := o.b; have hga := o.g; dsimp only at hal hbe hga hb; have hb2 : Bts A a c be := ⟨hb.1.ent hE, hb.2⟩; have hr := hb2.1; show Con Tryz.prog 50 [.agg [.many 32 (u8s own)], .agg [.many 32 (u8s al), .one (.rs a be.length c), .many 16 (u8s ga)]] [] [] A _ _ _ _; refine Con.of' tt_ok Tryz.func50 rfl (by decide) [.agg [.many 32 (u8s own)], .agg [.many 32 (u8s al), .one (.rs a be.length c), .many 16 (u8s ga)]] [] [] rfl rfl trivial ⟨⟨mok ho _, trivial⟩, ⟨mok hal _, trivial, mok hga _, trivial⟩, trivial⟩ rfl ?_; conv => whnf
  intro b2; (conv => whnf); intro b3; (conv => whnf); intro b4; (conv => whnf); refine Cq.pu (qcf _ own al ho hal) rfl ?_; have hkl := q1t own al; have he7 := qag (k := own) (u := al); have hA := uw_a (own := own) (h := ⟨al, be, ga⟩); have hB := uw_b (own := own) (h := ⟨al, be, ga⟩); dsimp only at hA hB; generalize q0c own ⟨al, be, ga⟩ = Z at hA hB ⊢; generalize q00 own al = y at hkl hA hB he7 ⊢; obtain ⟨s, e1⟩ := y; dsimp only at hkl hA hB he7 ⊢; (conv => whnf); intro b6; (conv => whnf); refine Cond.neI (fun h1 => ?_) (fun h1 => ?_)
  · rw [hA h1, he7 h1]; (conv => whnf); exact Ret.m none [] [0] ⟨(by decide : (7 : Int) ≠ 0), rfl⟩ rfl ⟨q3h _, trivial, trivial⟩ kk ⟨rfl, rfl⟩
  have hZ := hB h1; clear hA hB he7; (conv => whnf); refine Draw.a (by kernel_rfl) tt_ok (Tv.of [0, 1, 2, 4, 5, 3, 6] .nil) 1000000 (by kernel_rfl) ?_; (conv => whnf); refine Cq.pu (qkf _ A (Ent.a mm) s hkl a c be hb2 (by omega)) rfl ?_; have hpl := q27 s be; have hC := uw_c (own := own) (s := s) (h := ⟨al, be, ga⟩); have hD := uw_d (own := own) (s := s) (h := ⟨al, be, ga⟩); dsimp only at hC hD; rw [← hZ] at hC hD; clear hZ; generalize q0m s be = T at hpl hC hD ⊢; (conv => whnf); refine Sub.whole ?_; conv => whnf
  refine qe4 (l := T) (m := ga) hpl hga (by simp [dens, Seg.den]) (by simp [dens, Seg.den]) ?_; (conv => whnf); refine Cond.not (Cond.d (fun h2 => ?_) (fun h2 => ?_))
  case' refine_2 =>
    rw [hC h2]; (conv => whnf); exact Ret.m none [] [0] ⟨(by decide : (6 : Int) ≠ 0), rfl⟩ rfl ⟨q3h _, trivial, trivial⟩ kk ⟨rfl, rfl⟩
  have hZ := hD h2; clear hC hD; have hsl := q24 s; have hYt : (q05 s).take 192 = q05 s := List.take_of_length_le (by omega); have hO : openB s be = xorB (be ++ List.replicate 32 0) (q05 s) := by unfold openB; rfl
  have hOl := q6f (s := s) hbe; have hfz : (be ++ List.replicate 32 (0 : UInt8)).length = 192 := by simp [hbe]
  have CS := fun A => qk3 A s hkl 192 (by omega); simp only [hYt] at CS; generalize q05 s = Y at hsl hO CS; conv => whnf
  refine Draw.cut (σ := Option Addr × Nat) (fun t => [(3, .c (.ptr 3 0)), (4, .c (.ptr 4 0)), (6, .c (.ptr 6 0)), (8, .c (.rs t.1 (openB s be).length t.2))])
    (fun t => ⟨[(6, b6), (4, b4), (3, b3)], [(6, [.many 32 (u8s s)], 23), (4, rst0, 107), (3, [.many 32 (u8s al), .one (.rs a be.length c), .many 16 (u8s ga)], 72)], [Own t.1 t.2 5 1 (u8s (openB s be)), A]⟩) (fun t => Fc t.1 t.2 (openB s be)) ?_ ?_
  · refine Draw.a (by kernel_rfl) tt_ok (Tv.of [0, 2, 3] (.two 1 (Tv.of [4, 5, 6, 7] .nil) 4 (Tv.of [1, 5, 6, 7] .nil))) 1000000 (by kernel_rfl) ?_; (conv => whnf); refine ⟨?_, ?_⟩
    · (conv => whnf); refine Cq.new (CS _) rfl ?_; rintro ⟨a35, c35⟩ h35; dsimp only at h35 ⊢; refine Sub.r [6, 4, 3, 2] [1] ?_; (conv => whnf); refine ⟨by decide, ?_⟩; intro b38; refine Sub.r [6, 4, 3, 2] [1] ?_; (conv => whnf); refine Cq.fb (q4l _ A (blk b38 (.cells (List.replicate 32 (Value.int .u8 0) ++ []).toArray 5)) (Ent.a mm) (Ent.a mm) a c be hr (by omega) (some (radr (b38, 0))) 32 (List.replicate 32 0) (by rw [q55]; exact q1h) (by decide)) rfl fun a39 c39 h39 => ?_; refine Sub.r [6, 4, 3, 2] [2] ?_; conv => whnf
      refine Cq.fb (q7t _ (Own a35 c35 5 1 (u8s Y)) (Own a39 c39 5 1 (u8s (be ++ List.replicate 32 0))) (Ent.a mm) (Ent.a mm) a35 c35 Y Own.rd a39 c39 (be ++ List.replicate 32 0) Own.rd (by omega) (by omega)) (by rw [hsl]; rfl) fun a8 c8 h8 => ?_; rw [← hO] at h8 ⊢; refine Sub.r [6, 4, 3, 2] [3] ?_; (conv => whnf); exact ⟨(a8, c8), h8, Wk.m [6, 4, 3] [0, 2] kk ⟨⟨kk, mok hkl _, trivial⟩, ⟨kk, q3h _⟩, ⟨kk, mok hal _, trivial, mok hga _, trivial⟩, trivial⟩ ⟨rfl, rfl⟩⟩
    · (conv => whnf); refine ⟨by decide, ?_⟩; intro b38; refine Sub.r [6, 4, 3, 2] [0] ?_; (conv => whnf); refine Cq.new (CS _) rfl ?_; rintro ⟨a35, c35⟩ h35; dsimp only at h35 ⊢; refine Sub.r [6, 4, 3, 2] [1] ?_; (conv => whnf); refine Cq.fb (q4l _ A (blk b38 (.cells (List.replicate 32 (Value.int .u8 0) ++ []).toArray 5)) (Ent.a mm) (Ent.a mm) a c be hr (by omega) (some (radr (b38, 0))) 32 (List.replicate 32 0) (by rw [q55]; exact q1h) (by decide)) rfl fun a39 c39 h39 => ?_; refine Sub.r [6, 4, 3, 2] [2] ?_; conv => whnf
      refine Cq.fb (q7t _ (Own a35 c35 5 1 (u8s Y)) (Own a39 c39 5 1 (u8s (be ++ List.replicate 32 0))) (Ent.a mm) (Ent.a mm) a35 c35 Y Own.rd a39 c39 (be ++ List.replicate 32 0) Own.rd (by omega) (by omega)) (by rw [hsl]; rfl) fun a8 c8 h8 => ?_; rw [← hO] at h8 ⊢; refine Sub.r [6, 4, 3, 2] [3] ?_; (conv => whnf); exact ⟨(a8, c8), h8, Wk.m [6, 4, 3] [0, 2] kk ⟨⟨kk, mok hkl _, trivial⟩, ⟨kk, q3h _⟩, ⟨kk, mok hal _, trivial, mok hga _, trivial⟩, trivial⟩ ⟨rfl, rfl⟩⟩
  rintro ⟨a8, c8⟩ h8; dsimp only at h8 ⊢; have hE2 := uw_e (own := own) (s := s) (h := ⟨al, be, ga⟩); have hF2 := uw_f (own := own) (s := s) (h := ⟨al, be, ga⟩); have hG := uw_g (own := own) (s := s) (h := ⟨al, be, ga⟩); have hH := uw_h (own := own) (s := s) (h := ⟨al, be, ga⟩); dsimp only at hE2 hF2 hG hH; rw [← hZ] at hE2 hF2; clear hZ hO CS hYt; generalize openB s be = O at hOl hE2 hF2 hG hH h8 ⊢; have h16 : (O.take 16).length = 16 := by rw [List.length_take]; omega
  have h16b : ((O.drop 16).take 16).length = 16 := by rw [List.length_take, List.length_drop]; omega
  have hrO : Rd (Own a8 c8 5 1 (u8s O)) a8 (u8s O) := Own.rd; (conv => whnf); intro b9; (conv => whnf); intro b10; conv => whnf
  refine LoopOb.m (σ := Nat) (fun i => [(3, .c (.ptr 3 0)), (4, .c (.ptr 4 0)), (6, .c (.ptr 6 0)), (8, .c (.rs a8 O.length c8)), (9, .c (.ptr 9 0)), (10, .c (.ptr 10 0)), (11, .c (.int .i64 i))])
    (fun i => ⟨[(10, b10), (9, b9), (6, b6), (4, b4), (3, b3)], [(10, [.many 16 (u8s (fillP ((O.drop 16).take 16) 16 i))], 31), (9, [.many 16 (u8s (fillP (O.take 16) 16 i))], 30), (6, [.many 32 (u8s s)], 23), (4, rst0, 107), (3, [.many 32 (u8s al), .one (.rs a be.length c), .many 16 (u8s ga)], 72)], [Own a8 c8 5 1 (u8s O), A]⟩) (fun i => i ≤ 16) (fun i => 16 - i) 0 (Nat.zero_le _)
    (Wk.m [10, 9, 6, 4, 3] [0, 0] kk ⟨⟨kk, mok (q1b h16b (Nat.zero_le _)) _, trivial⟩, ⟨kk, mok (q1b h16 (Nat.zero_le _)) _, trivial⟩, ⟨kk, mok hkl _, trivial⟩, ⟨kk, q3h _⟩, ⟨kk, mok hal _, trivial, mok hga _, trivial⟩, trivial⟩ ⟨by rw [q3c, q3c]; rfl, rfl⟩) ?_
  intro i hi; (conv => whnf); refine Cond.d (fun h => ?_) (fun h => ?_)
  · have hi' : i < 16 := by omega
    have em : (i : Int).toNat * 1 = i := by omega
    (conv => whnf); refine ⟨by omega, PtrOb.rd (A := Own a8 c8 5 1 (u8s O)) (by simp) hrO (by rw [u8l]; omega) fun p hp => ?_⟩; subst hp; (conv => whnf); refine ldb (A := Own (some (radr p)) c8 5 1 (u8s O)) i (by simp) hrO (by omega) rfl rfl (by show _ + ((i : Int)).toNat * 1 = _; omega) ?_; rw [q2k (l := O) (i := i) (by omega)]; (conv => whnf); refine ⟨by omega, ?_⟩; (conv => whnf); refine ⟨⟨rfl, by show (i : Int).toNat * 1 + 1 ≤ 16; omega⟩, ?_⟩; (conv => whnf); refine Ar.i64 (by omega) ?_; conv => whnf
    refine ⟨by omega, PtrOb.rd (A := Own (some (radr p)) c8 5 1 (u8s O)) (by simp) hrO (by rw [u8l]; omega) fun q hq => ?_⟩; obtain rfl := q2q hq; (conv => whnf); refine ldb (A := Own (some (radr p)) c8 5 1 (u8s O)) (16 + i) (by simp) hrO (by omega) rfl rfl (by show _ + ((16 : Int) + i).toNat * 1 = _; omega) ?_; rw [q2k (l := O) (i := 16 + i) (by omega)]; (conv => whnf); refine ⟨by omega, ?_⟩; (conv => whnf); refine ⟨⟨rfl, by show (i : Int).toNat * 1 + 1 ≤ 16; omega⟩, ?_⟩; (conv => whnf); refine Ar.i64 (by omega) ?_; conv => whnf
    have s1 := q44 h16 (m := i) hi' (c := O[i]'(by omega)) (by simp [hi']); have s2 : (u8s (fillP (O.take 16) 16 i)).take ((i : Int).toNat * 1) ++ ([u8 (O[i]'(by omega))] ++ (u8s (fillP (O.take 16) 16 i)).drop ((i : Int).toNat * 1 + 1)) = u8s (fillP (O.take 16) 16 (i + 1)) := by rw [em]; exact s1
    have s3 := q44 h16b (m := i) hi' (c := O[16 + i]'(by omega)) (by simp [hi']); have s4 : (u8s (fillP ((O.drop 16).take 16) 16 i)).take ((i : Int).toNat * 1) ++ ([u8 (O[16 + i]'(by omega))] ++ (u8s (fillP ((O.drop 16).take 16) 16 i)).drop ((i : Int).toNat * 1 + 1)) = u8s (fillP ((O.drop 16).take 16) 16 (i + 1)) := by rw [em]; exact s3
    refine ⟨i + 1, by omega, by omega, Wk.m [10, 9, 6, 4, 3] [0, 0] kk ⟨⟨kk, mok (q1b h16b (by omega)) _, trivial⟩, ⟨kk, mok (q1b h16 (by omega)) _, trivial⟩, ⟨kk, mok hkl _, trivial⟩, ⟨kk, q3h _⟩, ⟨kk, mok hal _, trivial, mok hga _, trivial⟩, trivial⟩ ⟨?_, rfl⟩⟩; rw [← s2, ← s4]; rfl
  obtain rfl : i = 16 := by omega
  rw [q43 h16, q43 h16b]; (conv => whnf); refine Cq.pu (qgz _ (O.take 16) h16) rfl ?_; have hcl := qe6 h16; have hd5 := qmc (b := O.take 16); generalize decC (O.take 16) = D at hcl hd5 hE2 hF2 hH ⊢; obtain ⟨C, e⟩ := D; dsimp only at hcl hd5 hE2 hF2 hH ⊢; (conv => whnf); intro b12; (conv => whnf); refine Cond.neI (fun h3 => ?_) (fun h3 => ?_)
  · rw [hE2 h3, hd5 h3]; (conv => whnf); exact Ret.m none [] [1] ⟨(by decide : (5 : Int) ≠ 0), rfl⟩ rfl ⟨q3h _, trivial, trivial⟩ kk ⟨rfl, rfl⟩
  have hZ := hF2 h3; clear hE2 hF2 hd5; rw [← hZ] at hG hH; clear hZ; have hbl := q40 s al; obtain ⟨T2, hT⟩ : ∃ T2, q08 s al = T2 := ⟨_, rfl⟩; rw [hT] at hbl hG hH; have CS2 := fun A => qcf A T2 al hbl hal; have hxl := q1t T2 al; have hs7 := qag (k := T2) (u := al); generalize q00 T2 al = X at CS2 hxl hs7 hG hH; obtain ⟨x, e9⟩ := X; dsimp only at CS2 hxl hs7 hG hH; conv => whnf
  refine Draw.cut (σ := Nat) (fun b => [(4, .c (.ptr 4 0)), (6, .c (.ptr 6 0)), (8, .c (.rs a8 O.length c8)), (10, .c (.ptr 10 0)), (12, .c (.ptr 12 0)), (14, .c (.ptr 14 0)), (15, .c (.int .i64 e9))])
    (fun b => ⟨[(14, b), (12, b12), (10, b10), (6, b6), (4, b4), (3, b3)], [(14, [.many 32 (u8s x)], 23), (12, C.sg, 38), (10, [.many 16 (u8s ((O.drop 16).take 16))], 31), (6, [.many 32 (u8s s)], 23), (4, rst0, 107), (3, [.many 32 (u8s al), .one (.rs a be.length c), .many 16 (u8s ga)], 72)], [Own a8 c8 5 1 (u8s O), A]⟩) (fun _ => True) ?_ ?_
  · refine Draw.a (by kernel_rfl) tt_ok (Tv.of [0, 1, 2, 4, 5] (.two 3 ((.two 6 (Tv.of [7, 8, 9, 10, 11, 12] .nil) 10 (Tv.of [6, 7, 8, 9, 11, 12] .nil))) 10 (Tv.of [3, 6, 7, 8, 9, 11, 12] .nil))) 1000000 (by kernel_rfl) ?_; (conv => whnf); refine ⟨?_, ?_⟩
    · (conv => whnf); refine Cq.pu (q91 _ s al hkl hal) rfl ?_; rw [hT]; refine Sub.r [12, 10, 9, 6, 4, 3] [0, 0] ?_; (conv => whnf); refine ⟨?_, ?_⟩
      · (conv => whnf); refine Cq.pu (CS2 _) rfl ?_; refine Sub.r [12, 10, 9, 6, 4, 3] [0, 0] ?_; (conv => whnf); intro b14; refine Sub.r [12, 10, 9, 6, 4, 3] [0, 0] ?_; (conv => whnf); refine Sub.r [12, 10, 9, 6, 4, 3] [0, 0] ?_; (conv => whnf); exact ⟨b14, trivial, Wk.m [14, 12, 10, 6, 4, 3] [0, 0] kk ⟨⟨kk, mok hxl _, trivial⟩, ⟨kk, Seg.ok_cmd C hcl _⟩, ⟨kk, mok h16b _, trivial⟩, ⟨kk, mok hkl _, trivial⟩, ⟨kk, q3h _⟩, ⟨kk, mok hal _, trivial, mok hga _, trivial⟩, trivial⟩ ⟨rfl, rfl⟩⟩
      · (conv => whnf); intro b14; refine Sub.r [12, 10, 9, 6, 4, 3] [0, 0] ?_; (conv => whnf); refine Cq.pu (CS2 _) rfl ?_; refine Sub.r [12, 10, 9, 6, 4, 3] [0, 0] ?_; (conv => whnf); refine Sub.r [12, 10, 9, 6, 4, 3] [0, 0] ?_; (conv => whnf); exact ⟨b14, trivial, Wk.m [14, 12, 10, 6, 4, 3] [0, 0] kk ⟨⟨kk, mok hxl _, trivial⟩, ⟨kk, Seg.ok_cmd C hcl _⟩, ⟨kk, mok h16b _, trivial⟩, ⟨kk, mok hkl _, trivial⟩, ⟨kk, q3h _⟩, ⟨kk, mok hal _, trivial, mok hga _, trivial⟩, trivial⟩ ⟨rfl, rfl⟩⟩
    · (conv => whnf); intro b14; refine Sub.r [12, 10, 9, 6, 4, 3] [0, 0] ?_; (conv => whnf); refine Cq.pu (q91 _ s al hkl hal) rfl ?_; rw [hT]; refine Sub.r [12, 10, 9, 6, 4, 3] [0, 0] ?_; (conv => whnf); refine Cq.pu (CS2 _) rfl ?_; refine Sub.r [12, 10, 9, 6, 4, 3] [0, 0] ?_; (conv => whnf); refine Sub.r [12, 10, 9, 6, 4, 3] [0, 0] ?_; conv => whnf
      exact ⟨b14, trivial, Wk.m [14, 12, 10, 6, 4, 3] [0, 0] kk ⟨⟨kk, mok hxl _, trivial⟩, ⟨kk, Seg.ok_cmd C hcl _⟩, ⟨kk, mok h16b _, trivial⟩, ⟨kk, mok hkl _, trivial⟩, ⟨kk, q3h _⟩, ⟨kk, mok hal _, trivial, mok hga _, trivial⟩, trivial⟩ ⟨rfl, rfl⟩⟩
  rintro b14 _; (conv => whnf); refine Cond.neI (fun h4 => ?_) (fun h4 => ?_)
  · rw [hG h4, hs7 h4]; (conv => whnf); exact Ret.m none [] [1] ⟨(by decide : (7 : Int) ≠ 0), rfl⟩ rfl ⟨q3h _, trivial, trivial⟩ kk ⟨rfl, rfl⟩
  have hZ := hH h4; clear hG hH; rw [hZ]; (conv => whnf); refine Draw.a (by kernel_rfl) tt_ok (Tv.of (List.range 12) .nil) 10 (by kernel_rfl) ?_; (conv => whnf); refine ⟨by omega, ?_⟩; (conv => whnf); refine Cq.pu (qpj _ s hkl) rfl ?_; have htl := q6a s; generalize tagH s = T3 at htl ⊢; (conv => whnf); refine Sub.r [14, 12, 10, 6, 4, 3] [0, 0] ?_; (conv => whnf); have h160 : ((O.drop 32).take 160).length = O.length - 32 := by rw [List.length_take, List.length_drop]; omega
  refine Ret.m (some (a8, c8)) [] [0, 0] ⟨rfl, h8.1, rfl, hOl⟩ ?_ ⟨⟨trivial, trivial, trivial, mok hcl _, mok hxl _, trivial, mok h16b _, mok hkl _, mok htl _, trivial⟩, trivial, trivial⟩ kk ⟨rfl, rfl⟩; show _ = SV.den [] (.tup [.agg [.one (.int .i64 C.k), .one (.int .i64 C.n), .one (.int .i64 C.d), .many 8 (u8s C.id), .many 32 (u8s x), .one (.rs (cutA a8 c8 32 1) ((O.drop 32).take 160).length (c8 - 32)), .many 16 (u8s ((O.drop 16).take 16)), .many 32 (u8s s), .many 16 (u8s T3)], .c (.int .i64 0)]); rw [h160]; rfl
end
section
end
section
attribute [local irreducible] macD q02 strS q05 q00 q04 q0f q06 q0a q08 openB q0m decC q0s q13 q0l q0c tagH leB q1d q1e q1f q0e
theorem qhq {R : HP} {a : Option Addr} : Rd R a [] := fun _ _ => .inl rfl
end
section
attribute [local irreducible] macD q02 strS q05 q00 q04 q0f q06 q0a q08 openB q0m decC q0s q13 q0l q0c tagH leB q1d q1e q1f q0e
theorem qkq : Fits Tryz.prog cmdShH 38 = true := by simp only [Fits, q20, cmdShH, Tryz.underlying38, Tryz.underlying3, Tryz.underlying26, Tryz.underlying5]; kernel_rfl
theorem qp5 : Tryz.prog.keyTypeAt 9 38 = true := by kernel_rfl
theorem qoy : Tryz.prog.eqGuardType Tryz.prog.depth 38 = false := by kernel_rfl
theorem qnj {c d : Cmd} {xs ys : List Value} {f : Bool → Prop} (hc : c.wf) (hd : d.wf) (ex : xs = dens [] c.sg) (ey : ys = dens [] d.sg) (h : ∀ b : Bool, (b = true ↔ c = d) → f b) : EqAgg Tryz.prog 38 xs ys f := by
  subst ex ey; refine qa9 (s := cmdShH) (R := fun _ => True) (R' := fun _ => True) ⟨_, _, .inl rfl⟩ rfl qkq qp5 (by decide) qoy (qcr hc _) (qcr hd _) fun b hb => h b (hb.trans ?_); obtain ⟨k, n, z, id⟩ := c; obtain ⟨k', n', z', id'⟩ := d; refine ⟨fun e => ?_, fun e => by cases e; rfl⟩; have e1 : k = k' := congrArg (fun z : cmdShH.T => z.1) e; have e2 : n = n' := congrArg (fun z : cmdShH.T => z.2.1) e; have e3 : z = z' := congrArg (fun z : cmdShH.T => z.2.2.1) e; have e4 : id = id' := congrArg (fun z : cmdShH.T => z.2.2.2.1) e; rw [e1, e2, e3, e4]
end
end Go.Proofs.YtfehjfoajlfhfaaGreatDoor
