import Derived.Test.YtlceapjihhlidaaGreatDoorQn
import Derived.Test.YtlceapjihhlidaaGreatDoorQm
namespace Go.Proofs.YtlceapjihhlidaaGreatDoor
open Go.Sx
set_option maxRecDepth 100000
set_option pp.deepTerms false
set_option pp.maxSteps 300
set_option linter.unusedSimpArgs false
set_option linter.unusedVariables false
section
/- The document's header: Unwrap. -/
/-- The document's step, its beta where it lies. -/
abbrev rst (s : StepS) (a : Option Addr) (c : Nat) : List Seg := [.one (.int .i64 s.cmd.k), .one (.int .i64 s.cmd.n), .one (.int .i64 s.cmd.d), .many 8 (u8s s.cmd.id), .many 32 (u8s s.next.alpha), .one (.rs a s.next.beta.length c), .many 16 (u8s s.next.gamma), .many 32 (u8s s.secret), .many 16 (u8s s.tag)]
abbrev rst0 : List Seg := [.one (.int .i64 0), .one (.int .i64 0), .one (.int .i64 0), .many 8 (u8s (List.replicate 8 0)), .many 32 (u8s zk), .one (.rs none 0 0), .many 16 (u8s (List.replicate 16 0)), .many 32 (u8s zk), .many 16 (u8s (List.replicate 16 0))]
theorem rst0_ok (B : Names) : okL B rst0 := by
  have h8 : (List.replicate 8 (0 : UInt8)).length = 8 := List.length_replicate
  have h16 : (List.replicate 16 (0 : UInt8)).length = 16 := List.length_replicate
  exact ⟨trivial, trivial, trivial, many_ok h8 _, many_ok zk_len _, trivial, many_ok h16 _, many_ok zk_len _, many_ok h16 _, trivial⟩
attribute [local irreducible] macD deriveS strS streamH sharedS chainS timesS pointS publicS blindH openB proofH decC tagH unwrap1 unwrap2 unwrap3 unwrapS
theorem decC_err {b : List UInt8} (h : (decC b).2 ≠ 0) : (decC b).2 = 5 := by
  rcases decC_cases b with ⟨h1, _⟩ | h1
  · exact absurd h1 h
  · exact h1
theorem shared_err {k u : List UInt8} (h : (sharedS k u).2 ≠ 0) : (sharedS k u).2 = 7 := (shared_2 k u).resolve_left h
theorem Con.map {P : Program} {f : Nat} {args : List SV} {qc : List Cel} {pre : List HProp} {A : HProp} {τ τ' : Type} {p : τ → Prop} {val : τ → SV} {qc' : τ → List Cel} {post : τ → List HProp}
    {p2 : τ' → Prop} {val2 : τ' → SV} {qc2 : τ' → List Cel} {post2 : τ' → List HProp} (C : Con P f args qc pre A p val qc' post) (g : τ → τ') (h : ∀ t, p t → p2 (g t) ∧ val t = val2 (g t) ∧ qc' t = qc2 (g t) ∧ post t = post2 (g t)) :
    Con P f args qc pre A p2 val2 qc2 post2 :=
  ⟨C.runs, fun w hs => (C.h w hs).mono (by
    rintro e w' ⟨t, hp, he, hv, hq, hs'⟩
    obtain ⟨h1, h2, h3, h4⟩ := h t hp
    exact ⟨g t, h1, by rw [← h2]; exact he, by rw [← h2]; exact hv, by rw [← h3]; exact hq, by rw [← h3, ← h4]; exact hs'⟩)⟩
def uwVal (Z : StepS × Int) : Option (Option Addr × Nat) → SV
  | none => .tup [.agg rst0, .c (.int .i64 Z.2)]
  | some t => .tup [.agg (rst Z.1 (cutA t.1 t.2 32 1) (t.2 - 32)), .c (.int .i64 Z.2)]
def uwPost (O : List UInt8) : Option (Option Addr × Nat) → List HProp
  | none => []
  | some t => [Own t.1 t.2 5 1 (u8s O)]
def uwP (Z : StepS × Int) (O : List UInt8) : Option (Option Addr × Nat) → Prop
  | none => Z.2 ≠ 0 ∧ Z.1 = step0
  | some t => Z.2 = 0 ∧ O.length ≤ t.2 ∧ Z.1.next.beta = (O.drop 32).take 160 ∧ O.length = 192
set_option maxHeartbeats 2000000 in
theorem runwrap_h (A R : HProp) (hE : Ent A R) (own : List UInt8) (ho : own.length = 32) (h : HdrS) (o : h.ok) (a : Option Addr) (c : Nat) (hb : Bts R a c h.beta) :
    Con Tryz.prog 15 [.agg [.many 32 (u8s own)], .agg (rsg h a c)] [] [] A (uwP (unwrapS own h) (openB (sharedS own h.alpha).1 h.beta)) (uwVal (unwrapS own h)) (fun _ => []) (uwPost (openB (sharedS own h.alpha).1 h.beta)) := by
  obtain ⟨al, be, ga⟩ := h
  have hal := o.a; have hbe := o.b; have hga := o.g
  dsimp only at hal hbe hga hb
  have hb2 : Bts A a c be := ⟨hb.1.ent hE, hb.2⟩
  have hr := hb2.1
  show Con Tryz.prog 15 [.agg [.many 32 (u8s own)], .agg [.many 32 (u8s al), .one (.rs a be.length c), .many 16 (u8s ga)]] [] [] A _ _ _ _
  refine Con.of' tt_ok Tryz.func15 rfl (by decide) [.agg [.many 32 (u8s own)], .agg [.many 32 (u8s al), .one (.rs a be.length c), .many 16 (u8s ga)]] [] [] rfl rfl trivial ⟨⟨many_ok ho _, trivial⟩, ⟨many_ok hal _, trivial, many_ok hga _, trivial⟩, trivial⟩ rfl ?_
  conv => whnf
  intro b2
  conv => whnf
  intro b3
  conv => whnf
  intro b4
  conv => whnf
  refine CallOb.pu (rshared_c _ own al ho hal) rfl ?_
  have hkl := sharedS_len own al
  have he7 := shared_err (k := own) (u := al)
  have hA := uw_a (own := own) (h := ⟨al, be, ga⟩)
  have hB := uw_b (own := own) (h := ⟨al, be, ga⟩)
  dsimp only at hA hB
  generalize unwrapS own ⟨al, be, ga⟩ = Z at hA hB ⊢
  generalize sharedS own al = y at hkl hA hB he7 ⊢
  obtain ⟨s, e1⟩ := y
  dsimp only at hkl hA hB he7 ⊢
  conv => whnf
  intro b6
  conv => whnf
  refine Cond.neI (fun h1 => ?_) (fun h1 => ?_)
  · rw [hA h1, he7 h1]
    conv => whnf
    exact Ret.mk' none [] [0] ⟨(by decide : (7 : Int) ≠ 0), rfl⟩ rfl ⟨rst0_ok _, trivial, trivial⟩ kk ⟨rfl, rfl⟩
  have hZ := hB h1
  clear hA hB he7
  conv => whnf
  refine Draw.all (by kernel_rfl) tt_ok (Tv.of [0, 1, 2, 4, 5, 3, 6] .nil) 1000000 (by kernel_rfl) ?_
  conv => whnf
  refine CallOb.pu (rproof_h _ A (Ent.all mm) s hkl a c be hb2 (by omega)) rfl ?_
  have hpl := proofH_len s be
  have hC := uw_c (own := own) (s := s) (h := ⟨al, be, ga⟩)
  have hD := uw_d (own := own) (s := s) (h := ⟨al, be, ga⟩)
  dsimp only at hC hD
  rw [← hZ] at hC hD
  clear hZ
  generalize proofH s be = T at hpl hC hD ⊢
  conv => whnf
  refine Sub.whole ?_
  conv => whnf
  refine eq_tagH (l := T) (m := ga) hpl hga (by simp [dens, Seg.den]) (by simp [dens, Seg.den]) ?_
  conv => whnf
  refine Cond.not (Cond.dec (fun h2 => ?_) (fun h2 => ?_))
  case' refine_2 =>
    rw [hC h2]
    conv => whnf
    exact Ret.mk' none [] [0] ⟨(by decide : (6 : Int) ≠ 0), rfl⟩ rfl ⟨rst0_ok _, trivial, trivial⟩ kk ⟨rfl, rfl⟩
  have hZ := hD h2
  clear hC hD
  have hsl := streamH_len s
  have hYt : (streamH s).take 192 = streamH s := List.take_of_length_le (by omega)
  have hO : openB s be = xorB (be ++ List.replicate 32 0) (streamH s) := by unfold openB; rfl
  have hOl := openB_len (s := s) hbe
  have hfz : (be ++ List.replicate 32 (0 : UInt8)).length = 192 := by simp [hbe]
  have CS := fun A => rstream_h A s hkl 192 (by omega)
  simp only [hYt] at CS
  generalize streamH s = Y at hsl hO CS
  conv => whnf
  refine Draw.cut (σ := Option Addr × Nat) (fun t => [(3, .c (.ptr 3 0)), (4, .c (.ptr 4 0)), (6, .c (.ptr 6 0)), (8, .c (.rs t.1 (openB s be).length t.2))])
    (fun t => ⟨[(6, b6), (4, b4), (3, b3)], [(6, [.many 32 (u8s s)], 23), (4, rst0, 59), (3, [.many 32 (u8s al), .one (.rs a be.length c), .many 16 (u8s ga)], 40)], [Own t.1 t.2 5 1 (u8s (openB s be)), A]⟩) (fun t => Fc t.1 t.2 (openB s be)) ?_ ?_
  · refine Draw.all (by kernel_rfl) tt_ok (Tv.of [0, 2, 3] (.two 1 (Tv.of [4, 5, 6, 7] .nil) 4 (Tv.of [1, 5, 6, 7] .nil))) 1000000 (by kernel_rfl) ?_
    conv => whnf
    refine ⟨?_, ?_⟩
    · skip
      conv => whnf
      refine CallOb.new (CS _) rfl ?_
      rintro ⟨a35, c35⟩ h35
      dsimp only at h35 ⊢
      refine Sub.parts [6, 4, 3, 2] [1] ⟨rfl, rfl⟩ ?_
      conv => whnf
      refine ⟨by decide, ?_⟩
      intro b38
      refine Sub.parts [6, 4, 3, 2] [1] ⟨rfl, rfl⟩ ?_
      conv => whnf
      refine CallOb.fb (join_c _ A (blk b38 (.cells (List.replicate 32 (Value.int .u8 0) ++ []).toArray 5)) (Ent.all mm) (Ent.all mm) a c be hr (by omega) (some (radr (b38, 0))) 32 (List.replicate 32 0) (by rw [u8s_zero]; exact rd_many) (by decide)) rfl fun a39 c39 h39 => ?_
      refine Sub.parts [6, 4, 3, 2] [2] ⟨rfl, rfl⟩ ?_
      conv => whnf
      refine CallOb.fb (rmixed_c _ (Own a35 c35 5 1 (u8s Y)) (Own a39 c39 5 1 (u8s (be ++ List.replicate 32 0))) (Ent.all mm) (Ent.all mm) a35 c35 Y Own.rd a39 c39 (be ++ List.replicate 32 0) Own.rd (by omega) (by omega)) (by rw [hsl]; rfl) fun a8 c8 h8 => ?_
      rw [← hO] at h8 ⊢
      refine Sub.parts [6, 4, 3, 2] [3] ⟨rfl, rfl⟩ ?_
      conv => whnf
      exact ⟨(a8, c8), h8, Wk.mk' [6, 4, 3] [0, 2] ⟨⟨rfl, kk⟩, ⟨rfl, kk⟩, ⟨rfl, kk⟩, ⟨rfl, kk⟩, trivial⟩ ⟨⟨kk, many_ok hkl _, trivial⟩, ⟨kk, rst0_ok _⟩, ⟨kk, many_ok hal _, trivial, many_ok hga _, trivial⟩, trivial⟩ ⟨rfl, rfl⟩⟩
    · skip
      conv => whnf
      refine ⟨by decide, ?_⟩
      intro b38
      refine Sub.parts [6, 4, 3, 2] [0] ⟨rfl, rfl⟩ ?_
      conv => whnf
      refine CallOb.new (CS _) rfl ?_
      rintro ⟨a35, c35⟩ h35
      dsimp only at h35 ⊢
      refine Sub.parts [6, 4, 3, 2] [1] ⟨rfl, rfl⟩ ?_
      conv => whnf
      refine CallOb.fb (join_c _ A (blk b38 (.cells (List.replicate 32 (Value.int .u8 0) ++ []).toArray 5)) (Ent.all mm) (Ent.all mm) a c be hr (by omega) (some (radr (b38, 0))) 32 (List.replicate 32 0) (by rw [u8s_zero]; exact rd_many) (by decide)) rfl fun a39 c39 h39 => ?_
      refine Sub.parts [6, 4, 3, 2] [2] ⟨rfl, rfl⟩ ?_
      conv => whnf
      refine CallOb.fb (rmixed_c _ (Own a35 c35 5 1 (u8s Y)) (Own a39 c39 5 1 (u8s (be ++ List.replicate 32 0))) (Ent.all mm) (Ent.all mm) a35 c35 Y Own.rd a39 c39 (be ++ List.replicate 32 0) Own.rd (by omega) (by omega)) (by rw [hsl]; rfl) fun a8 c8 h8 => ?_
      rw [← hO] at h8 ⊢
      refine Sub.parts [6, 4, 3, 2] [3] ⟨rfl, rfl⟩ ?_
      conv => whnf
      exact ⟨(a8, c8), h8, Wk.mk' [6, 4, 3] [0, 2] ⟨⟨rfl, kk⟩, ⟨rfl, kk⟩, ⟨rfl, kk⟩, ⟨rfl, kk⟩, trivial⟩ ⟨⟨kk, many_ok hkl _, trivial⟩, ⟨kk, rst0_ok _⟩, ⟨kk, many_ok hal _, trivial, many_ok hga _, trivial⟩, trivial⟩ ⟨rfl, rfl⟩⟩
  rintro ⟨a8, c8⟩ h8
  dsimp only at h8 ⊢
  have hE2 := uw_e (own := own) (s := s) (h := ⟨al, be, ga⟩)
  have hF2 := uw_f (own := own) (s := s) (h := ⟨al, be, ga⟩)
  have hG := uw_g (own := own) (s := s) (h := ⟨al, be, ga⟩)
  have hH := uw_h (own := own) (s := s) (h := ⟨al, be, ga⟩)
  dsimp only at hE2 hF2 hG hH
  rw [← hZ] at hE2 hF2
  clear hZ hO CS hYt
  generalize openB s be = O at hOl hE2 hF2 hG hH h8 ⊢
  have h16 : (O.take 16).length = 16 := by rw [List.length_take]; omega
  have h16b : ((O.drop 16).take 16).length = 16 := by rw [List.length_take, List.length_drop]; omega
  have hrO : Rd (Own a8 c8 5 1 (u8s O)) a8 (u8s O) := Own.rd
  conv => whnf
  intro b9
  conv => whnf
  intro b10
  conv => whnf
  refine LoopOb.mk' (σ := Nat) (fun i => [(3, .c (.ptr 3 0)), (4, .c (.ptr 4 0)), (6, .c (.ptr 6 0)), (8, .c (.rs a8 O.length c8)), (9, .c (.ptr 9 0)), (10, .c (.ptr 10 0)), (11, .c (.int .i64 i))])
    (fun i => ⟨[(10, b10), (9, b9), (6, b6), (4, b4), (3, b3)], [(10, [.many 16 (u8s (fillP ((O.drop 16).take 16) 16 i))], 29), (9, [.many 16 (u8s (fillP (O.take 16) 16 i))], 28), (6, [.many 32 (u8s s)], 23), (4, rst0, 59), (3, [.many 32 (u8s al), .one (.rs a be.length c), .many 16 (u8s ga)], 40)], [Own a8 c8 5 1 (u8s O), A]⟩) (fun i => i ≤ 16) (fun i => 16 - i) 0 (Nat.zero_le _)
    (Wk.mk' [10, 9, 6, 4, 3] [0, 0] kk ⟨⟨kk, many_ok (fillP_len h16b (Nat.zero_le _)) _, trivial⟩, ⟨kk, many_ok (fillP_len h16 (Nat.zero_le _)) _, trivial⟩, ⟨kk, many_ok hkl _, trivial⟩, ⟨kk, rst0_ok _⟩, ⟨kk, many_ok hal _, trivial, many_ok hga _, trivial⟩, trivial⟩ ⟨by rw [fillP_zero, fillP_zero]; rfl, rfl⟩) ?_
  intro i hi
  conv => whnf
  refine Cond.dec (fun h => ?_) (fun h => ?_)
  · have hi' : i < 16 := by omega
    have em : (i : Int).toNat * 1 = i := by omega
    conv => whnf
    refine ⟨by omega, PtrOb.rd (A := Own a8 c8 5 1 (u8s O)) (by simp) hrO (by rw [u8s_length]; omega) fun p hp => ?_⟩
    subst hp
    conv => whnf
    refine ldb (A := Own (some (radr p)) c8 5 1 (u8s O)) i (by simp) hrO (by omega) rfl rfl (by show _ + ((i : Int)).toNat * 1 = _; omega) ?_
    rw [gd_nat (l := O) (i := i) (by omega)]
    conv => whnf
    refine ⟨by omega, ?_⟩
    conv => whnf
    refine ⟨⟨rfl, by show (i : Int).toNat * 1 + 1 ≤ 16; omega⟩, ?_⟩
    conv => whnf
    refine Ar.i64 (by omega) ?_
    conv => whnf
    refine ⟨by omega, PtrOb.rd (A := Own (some (radr p)) c8 5 1 (u8s O)) (by simp) hrO (by rw [u8s_length]; omega) fun q hq => ?_⟩
    obtain rfl := radr_inj hq
    conv => whnf
    refine ldb (A := Own (some (radr p)) c8 5 1 (u8s O)) (16 + i) (by simp) hrO (by omega) rfl rfl (by show _ + ((16 : Int) + i).toNat * 1 = _; omega) ?_
    rw [gd_nat (l := O) (i := 16 + i) (by omega)]
    conv => whnf
    refine ⟨by omega, ?_⟩
    conv => whnf
    refine ⟨⟨rfl, by show (i : Int).toNat * 1 + 1 ≤ 16; omega⟩, ?_⟩
    conv => whnf
    refine Ar.i64 (by omega) ?_
    conv => whnf
    have s1 := fillP_set h16 (m := i) hi' (c := O[i]'(by omega)) (by simp [hi'])
    have s2 : (u8s (fillP (O.take 16) 16 i)).take ((i : Int).toNat * 1) ++ ([u8 (O[i]'(by omega))] ++ (u8s (fillP (O.take 16) 16 i)).drop ((i : Int).toNat * 1 + 1)) = u8s (fillP (O.take 16) 16 (i + 1)) := by rw [em]; exact s1
    have s3 := fillP_set h16b (m := i) hi' (c := O[16 + i]'(by omega)) (by simp [hi'])
    have s4 : (u8s (fillP ((O.drop 16).take 16) 16 i)).take ((i : Int).toNat * 1) ++ ([u8 (O[16 + i]'(by omega))] ++ (u8s (fillP ((O.drop 16).take 16) 16 i)).drop ((i : Int).toNat * 1 + 1)) = u8s (fillP ((O.drop 16).take 16) 16 (i + 1)) := by rw [em]; exact s3
    refine ⟨i + 1, by omega, by omega, Wk.mk' [10, 9, 6, 4, 3] [0, 0] kk ⟨⟨kk, many_ok (fillP_len h16b (by omega)) _, trivial⟩, ⟨kk, many_ok (fillP_len h16 (by omega)) _, trivial⟩, ⟨kk, many_ok hkl _, trivial⟩, ⟨kk, rst0_ok _⟩, ⟨kk, many_ok hal _, trivial, many_ok hga _, trivial⟩, trivial⟩ ⟨?_, rfl⟩⟩
    rw [← s2, ← s4]
    rfl
  obtain rfl : i = 16 := by omega
  rw [fillP_end h16, fillP_end h16b]
  conv => whnf
  refine CallOb.pu (rdecode9_c _ (O.take 16) h16) rfl ?_
  have hcl := decC_ok h16
  have hd5 := decC_err (b := O.take 16)
  generalize decC (O.take 16) = D at hcl hd5 hE2 hF2 hH ⊢
  obtain ⟨C, e⟩ := D
  dsimp only at hcl hd5 hE2 hF2 hH ⊢
  conv => whnf
  intro b12
  conv => whnf
  refine Cond.neI (fun h3 => ?_) (fun h3 => ?_)
  · rw [hE2 h3, hd5 h3]
    conv => whnf
    exact Ret.mk' none [] [1] ⟨(by decide : (5 : Int) ≠ 0), rfl⟩ rfl ⟨rst0_ok _, trivial, trivial⟩ kk ⟨rfl, rfl⟩
  have hZ := hF2 h3
  clear hE2 hF2 hd5
  rw [← hZ] at hG hH
  clear hZ
  have hbl := blindH_len s al
  obtain ⟨T2, hT⟩ : ∃ T2, blindH s al = T2 := ⟨_, rfl⟩
  rw [hT] at hbl hG hH
  have CS2 := fun A => rshared_c A T2 al hbl hal
  have hxl := sharedS_len T2 al
  have hs7 := shared_err (k := T2) (u := al)
  generalize sharedS T2 al = X at CS2 hxl hs7 hG hH
  obtain ⟨x, e9⟩ := X
  dsimp only at CS2 hxl hs7 hG hH
  conv => whnf
  refine Draw.cut (σ := Nat) (fun b => [(4, .c (.ptr 4 0)), (6, .c (.ptr 6 0)), (8, .c (.rs a8 O.length c8)), (10, .c (.ptr 10 0)), (12, .c (.ptr 12 0)), (14, .c (.ptr 14 0)), (15, .c (.int .i64 e9))])
    (fun b => ⟨[(14, b), (12, b12), (10, b10), (6, b6), (4, b4), (3, b3)], [(14, [.many 32 (u8s x)], 23), (12, C.sg, 57), (10, [.many 16 (u8s ((O.drop 16).take 16))], 29), (6, [.many 32 (u8s s)], 23), (4, rst0, 59), (3, [.many 32 (u8s al), .one (.rs a be.length c), .many 16 (u8s ga)], 40)], [Own a8 c8 5 1 (u8s O), A]⟩) (fun _ => True) ?_ ?_
  · refine Draw.all (by kernel_rfl) tt_ok (Tv.of [0, 1, 2, 4, 5] (.two 3 ((.two 6 (Tv.of [7, 8, 9, 10, 11, 12] .nil) 10 (Tv.of [6, 7, 8, 9, 11, 12] .nil))) 10 (Tv.of [3, 6, 7, 8, 9, 11, 12] .nil))) 1000000 (by kernel_rfl) ?_
    conv => whnf
    refine ⟨?_, ?_⟩
    · skip
      conv => whnf
      refine CallOb.pu (rblinding_h _ s al hkl hal) rfl ?_
      rw [hT]
      refine Sub.parts [12, 10, 9, 6, 4, 3] [0, 0] ⟨rfl, rfl⟩ ?_
      conv => whnf
      refine ⟨?_, ?_⟩
      · skip
        conv => whnf
        refine CallOb.pu (CS2 _) rfl ?_
        refine Sub.parts [12, 10, 9, 6, 4, 3] [0, 0] ⟨rfl, rfl⟩ ?_
        conv => whnf
        intro b14
        refine Sub.parts [12, 10, 9, 6, 4, 3] [0, 0] ⟨rfl, rfl⟩ ?_
        conv => whnf
        refine Sub.parts [12, 10, 9, 6, 4, 3] [0, 0] ⟨rfl, rfl⟩ ?_
        conv => whnf
        exact ⟨b14, trivial, Wk.mk' [14, 12, 10, 6, 4, 3] [0, 0] ⟨⟨rfl, kk⟩, ⟨rfl, kk⟩, ⟨rfl, kk⟩, ⟨rfl, kk⟩, ⟨rfl, kk⟩, ⟨rfl, kk⟩, ⟨rfl, kk⟩, trivial⟩ ⟨⟨kk, many_ok hxl _, trivial⟩, ⟨kk, Seg.ok_cmd C hcl _⟩, ⟨kk, many_ok h16b _, trivial⟩, ⟨kk, many_ok hkl _, trivial⟩, ⟨kk, rst0_ok _⟩, ⟨kk, many_ok hal _, trivial, many_ok hga _, trivial⟩, trivial⟩ ⟨rfl, rfl⟩⟩
      · skip
        conv => whnf
        intro b14
        refine Sub.parts [12, 10, 9, 6, 4, 3] [0, 0] ⟨rfl, rfl⟩ ?_
        conv => whnf
        refine CallOb.pu (CS2 _) rfl ?_
        refine Sub.parts [12, 10, 9, 6, 4, 3] [0, 0] ⟨rfl, rfl⟩ ?_
        conv => whnf
        refine Sub.parts [12, 10, 9, 6, 4, 3] [0, 0] ⟨rfl, rfl⟩ ?_
        conv => whnf
        exact ⟨b14, trivial, Wk.mk' [14, 12, 10, 6, 4, 3] [0, 0] ⟨⟨rfl, kk⟩, ⟨rfl, kk⟩, ⟨rfl, kk⟩, ⟨rfl, kk⟩, ⟨rfl, kk⟩, ⟨rfl, kk⟩, ⟨rfl, kk⟩, trivial⟩ ⟨⟨kk, many_ok hxl _, trivial⟩, ⟨kk, Seg.ok_cmd C hcl _⟩, ⟨kk, many_ok h16b _, trivial⟩, ⟨kk, many_ok hkl _, trivial⟩, ⟨kk, rst0_ok _⟩, ⟨kk, many_ok hal _, trivial, many_ok hga _, trivial⟩, trivial⟩ ⟨rfl, rfl⟩⟩
    · skip
      conv => whnf
      intro b14
      refine Sub.parts [12, 10, 9, 6, 4, 3] [0, 0] ⟨rfl, rfl⟩ ?_
      conv => whnf
      refine CallOb.pu (rblinding_h _ s al hkl hal) rfl ?_
      rw [hT]
      refine Sub.parts [12, 10, 9, 6, 4, 3] [0, 0] ⟨rfl, rfl⟩ ?_
      conv => whnf
      refine CallOb.pu (CS2 _) rfl ?_
      refine Sub.parts [12, 10, 9, 6, 4, 3] [0, 0] ⟨rfl, rfl⟩ ?_
      conv => whnf
      refine Sub.parts [12, 10, 9, 6, 4, 3] [0, 0] ⟨rfl, rfl⟩ ?_
      conv => whnf
      exact ⟨b14, trivial, Wk.mk' [14, 12, 10, 6, 4, 3] [0, 0] ⟨⟨rfl, kk⟩, ⟨rfl, kk⟩, ⟨rfl, kk⟩, ⟨rfl, kk⟩, ⟨rfl, kk⟩, ⟨rfl, kk⟩, ⟨rfl, kk⟩, trivial⟩ ⟨⟨kk, many_ok hxl _, trivial⟩, ⟨kk, Seg.ok_cmd C hcl _⟩, ⟨kk, many_ok h16b _, trivial⟩, ⟨kk, many_ok hkl _, trivial⟩, ⟨kk, rst0_ok _⟩, ⟨kk, many_ok hal _, trivial, many_ok hga _, trivial⟩, trivial⟩ ⟨rfl, rfl⟩⟩
  rintro b14 _
  conv => whnf
  refine Cond.neI (fun h4 => ?_) (fun h4 => ?_)
  · rw [hG h4, hs7 h4]
    conv => whnf
    exact Ret.mk' none [] [1] ⟨(by decide : (7 : Int) ≠ 0), rfl⟩ rfl ⟨rst0_ok _, trivial, trivial⟩ kk ⟨rfl, rfl⟩
  have hZ := hH h4
  clear hG hH
  rw [hZ]
  conv => whnf
  refine Draw.all (by kernel_rfl) tt_ok (Tv.of (List.range 12) .nil) 10 (by kernel_rfl) ?_
  conv => whnf
  refine ⟨by omega, ?_⟩
  conv => whnf
  refine CallOb.pu (rtag_h _ s hkl) rfl ?_
  have htl := tagH_len s
  generalize tagH s = T3 at htl ⊢
  conv => whnf
  refine Sub.parts [14, 12, 10, 6, 4, 3] [0, 0] ⟨rfl, rfl⟩ ?_
  conv => whnf
  have h160 : ((O.drop 32).take 160).length = O.length - 32 := by rw [List.length_take, List.length_drop]; omega
  refine Ret.mk' (some (a8, c8)) [] [0, 0] ⟨rfl, h8.1, rfl, hOl⟩ ?_ ⟨⟨trivial, trivial, trivial, many_ok hcl _, many_ok hxl _, trivial, many_ok h16b _, many_ok hkl _, many_ok htl _, trivial⟩, trivial, trivial⟩ kk ⟨rfl, rfl⟩
  show _ = SV.den [] (.tup [.agg [.one (.int .i64 C.k), .one (.int .i64 C.n), .one (.int .i64 C.d), .many 8 (u8s C.id), .many 32 (u8s x), .one (.rs (cutA a8 c8 32 1) ((O.drop 32).take 160).length (c8 - 32)), .many 16 (u8s ((O.drop 16).take 16)), .many 32 (u8s s), .many 16 (u8s T3)], .c (.int .i64 0)])
  rw [h160]
  rfl
end
section
/- The law's helpers: the same keys. -/
end
section
/- header: the law Builds, walked. -/
attribute [local irreducible] macD deriveS strS streamH sharedS chainS timesS pointS publicS blindH openB proofH decC routeS fillerH buildS unwrapS tagH leB unwrap1 unwrap2 unwrap3 agreeS
theorem rd_nil {R : HProp} {a : Option Addr} : Rd R a [] := fun _ _ => .inl rfl
end
section
/- header: the law Unwraps, walked. -/
attribute [local irreducible] macD deriveS strS streamH sharedS chainS timesS pointS publicS blindH openB proofH decC routeS fillerH buildS unwrapS tagH leB unwrap1 unwrap2 unwrap3 agreeS
theorem fitsCmdR : Fits Tryz.prog cmdShH 57 = true := by simp only [Fits, FitsFs, cmdShH, Tryz.underlying57, Tryz.underlying3, Tryz.underlying48, Tryz.underlying5]; kernel_rfl
theorem keyCmdR : Tryz.prog.keyTypeAt 9 57 = true := by kernel_rfl
theorem grdCmdR : Tryz.prog.eqGuardType Tryz.prog.depth 57 = false := by kernel_rfl
theorem eq_cmdR {c d : Cmd} {xs ys : List Value} {f : Bool → Prop} (hc : c.wf) (hd : d.wf) (ex : xs = dens [] c.sg) (ey : ys = dens [] d.sg) (h : ∀ b : Bool, (b = true ↔ c = d) → f b) : EqAgg Tryz.prog 57 xs ys f := by
  subst ex ey
  refine eq_agg (s := cmdShH) (R := fun _ => True) (R' := fun _ => True) ⟨_, _, .inl rfl⟩ rfl fitsCmdR keyCmdR (by decide) grdCmdR (cmd_goodH hc _) (cmd_goodH hd _) fun b hb => h b (hb.trans ?_)
  obtain ⟨k, n, z, id⟩ := c
  obtain ⟨k', n', z', id'⟩ := d
  refine ⟨fun e => ?_, fun e => by cases e; rfl⟩
  have e1 : k = k' := congrArg (fun z : cmdShH.T => z.1) e
  have e2 : n = n' := congrArg (fun z : cmdShH.T => z.2.1) e
  have e3 : z = z' := congrArg (fun z : cmdShH.T => z.2.2.1) e
  have e4 : id = id' := congrArg (fun z : cmdShH.T => z.2.2.2.1) e
  rw [e1, e2, e3, e4]
theorem rst_ok {s : StepS} (o : s.ok) (a : Option Addr) (c : Nat) (B : Names) : okL B (rst s a c) := ⟨trivial, trivial, trivial, many_ok o.c _, many_ok o.n.a _, trivial, many_ok o.n.g _, many_ok o.s _, many_ok o.t _, trivial⟩
def uwSeg (Z : StepS × Int) : Option (Option Addr × Nat) → List Seg
  | none => rst0
  | some t => rst Z.1 (cutA t.1 t.2 32 1) (t.2 - 32)
theorem unwraps_c (W : World) (hK : Gl (old W)) (own : List UInt8) (ho : own.length = 32) (h : HdrS) (o : h.ok) : LawC Tryz.prog 4 [.agg [.many 32 (u8s own)], .agg h.sg] W := by
  have hal := o.a; have hbe := o.b; have hga := o.g
  have oZ := unwrapS_ok own o
  have wZ := unwrapS_wf own o
  have CP := fun A hK => unwrap_h A hK own ho h o
  have CU := fun A R hE a c hb => runwrap_h A R hE own ho h o a c hb
  generalize unwrapS own h = Z at oZ wZ CP CU
  generalize openB (sharedS own h.alpha).1 h.beta = O at CU
  refine Con.of' tt_ok Tryz.func4 rfl (by decide) [.agg [.many 32 (u8s own)], .agg [.many 32 (u8s h.alpha), .many 160 (u8s h.beta), .many 16 (u8s h.gamma)]] [] [] rfl rfl trivial ⟨⟨many_ok ho _, trivial⟩, HdrS.okL o _, trivial⟩ rfl ?_
  conv => whnf
  intro b2
  conv => whnf
  intro b3
  conv => whnf
  refine CallOb.pu (alive_c _ (hK.ent (Ent.all mm))) rfl ?_
  conv => whnf
  refine CallOb.pu (CP _ (hK.ent (Ent.all mm))) rfl ?_
  conv => whnf
  intro b5
  conv => whnf
  refine Draw.cut (σ := Nat × Option (Option Addr × Nat)) (fun s => [(5, .c (.ptr 5 0)), (6, .c (.int .i64 Z.2)), (7, .c (.ptr 7 0)), (8, .c (.int .i64 Z.2))])
    (fun s => ⟨[(7, s.1), (5, b5)], [(7, uwSeg Z s.2, 59), (5, Z.1.sg, 53)], uwPost O s.2 ++ [old W]⟩) (fun s => uwP Z O s.2) ?_ ?_
  · refine Draw.all (by kernel_rfl) tt_ok (Tv.of [0, 1] (.two 2 ((.two 3 (Tv.of [4, 5, 6, 7, 8, 9] .nil) 7 (Tv.of [3, 4, 5, 6, 8, 9] .nil))) 7 (Tv.of [2, 3, 4, 5, 6, 8, 9] .nil))) 1000000 (by kernel_rfl) ?_
    conv => whnf
    refine ⟨?_, ?_⟩
    · skip
      conv => whnf
      refine CallOb.new (ours_h _ h o) rfl fun b20 _ => ?_
      refine Sub.parts [5, 3, 2] [1] ⟨rfl, rfl⟩ ?_
      conv => whnf
      refine ⟨?_, ?_⟩
      · skip
        conv => whnf
        refine CallOb.new (CU _ (OwnHd b20 h) (Ent.all mm) (some (radr (b20, 32))) 160 ⟨OwnHd.rd o, by have := o.b; omega, fun e => by cases e⟩) (by show [_, Value.agg (u8s h.alpha ++ ([Value.slice (some (radr (b20, 32))) h.beta.length 160] ++ (u8s h.gamma ++ []))).toArray] = _; rfl) ?_
        rintro (_ | ⟨a21, c21⟩) hU
        · dsimp only [uwVal, uwPost]
          refine Sub.parts [5, 3, 2] [1] ⟨rfl, rfl⟩ ?_
          conv => whnf
          intro b7
          refine Sub.parts [5, 3, 2] [1] ⟨rfl, rfl⟩ ?_
          conv => whnf
          refine Sub.parts [5, 3, 2] [1] ⟨rfl, rfl⟩ ?_
          conv => whnf
          exact ⟨(b7, none), hU, Wk.mk' [7, 5] [1] ⟨⟨rfl, kk⟩, ⟨rfl, kk⟩, ⟨rfl, kk⟩, ⟨rfl, kk⟩, trivial⟩ ⟨⟨kk, rst0_ok _⟩, ⟨kk, StepS.okL oZ _⟩, trivial⟩ ⟨rfl, rfl⟩⟩
        · dsimp only [uwVal, uwPost]
          refine Sub.parts [5, 3, 2] [2] ⟨rfl, rfl⟩ ?_
          conv => whnf
          intro b7
          refine Sub.parts [5, 3, 2] [2] ⟨rfl, rfl⟩ ?_
          conv => whnf
          refine Sub.parts [5, 3, 2] [2] ⟨rfl, rfl⟩ ?_
          conv => whnf
          exact ⟨(b7, some (a21, c21)), hU, Wk.mk' [7, 5] [0, 1] ⟨⟨rfl, kk⟩, ⟨rfl, kk⟩, ⟨rfl, kk⟩, ⟨rfl, kk⟩, trivial⟩ ⟨⟨kk, rst_ok oZ _ _ _⟩, ⟨kk, StepS.okL oZ _⟩, trivial⟩ ⟨rfl, rfl⟩⟩
      · skip
        conv => whnf
        intro b7
        refine Sub.parts [5, 3, 2] [1] ⟨rfl, rfl⟩ ?_
        conv => whnf
        refine CallOb.new (CU _ (OwnHd b20 h) (Ent.all mm) (some (radr (b20, 32))) 160 ⟨OwnHd.rd o, by have := o.b; omega, fun e => by cases e⟩) (by show [_, Value.agg (u8s h.alpha ++ ([Value.slice (some (radr (b20, 32))) h.beta.length 160] ++ (u8s h.gamma ++ []))).toArray] = _; rfl) ?_
        rintro (_ | ⟨a21, c21⟩) hU
        · dsimp only [uwVal, uwPost]
          refine Sub.parts [5, 3, 2] [1] ⟨rfl, rfl⟩ ?_
          conv => whnf
          refine Sub.parts [5, 3, 2] [1] ⟨rfl, rfl⟩ ?_
          conv => whnf
          exact ⟨(b7, none), hU, Wk.mk' [7, 5] [1] ⟨⟨rfl, kk⟩, ⟨rfl, kk⟩, ⟨rfl, kk⟩, ⟨rfl, kk⟩, trivial⟩ ⟨⟨kk, rst0_ok _⟩, ⟨kk, StepS.okL oZ _⟩, trivial⟩ ⟨rfl, rfl⟩⟩
        · dsimp only [uwVal, uwPost]
          refine Sub.parts [5, 3, 2] [2] ⟨rfl, rfl⟩ ?_
          conv => whnf
          refine Sub.parts [5, 3, 2] [2] ⟨rfl, rfl⟩ ?_
          conv => whnf
          exact ⟨(b7, some (a21, c21)), hU, Wk.mk' [7, 5] [0, 1] ⟨⟨rfl, kk⟩, ⟨rfl, kk⟩, ⟨rfl, kk⟩, ⟨rfl, kk⟩, trivial⟩ ⟨⟨kk, rst_ok oZ _ _ _⟩, ⟨kk, StepS.okL oZ _⟩, trivial⟩ ⟨rfl, rfl⟩⟩
    · skip
      conv => whnf
      intro b7
      refine Sub.parts [5, 3, 2] [0] ⟨rfl, rfl⟩ ?_
      conv => whnf
      refine CallOb.new (ours_h _ h o) rfl fun b20 _ => ?_
      refine Sub.parts [5, 3, 2] [1] ⟨rfl, rfl⟩ ?_
      conv => whnf
      refine CallOb.new (CU _ (OwnHd b20 h) (Ent.all mm) (some (radr (b20, 32))) 160 ⟨OwnHd.rd o, by have := o.b; omega, fun e => by cases e⟩) (by show [_, Value.agg (u8s h.alpha ++ ([Value.slice (some (radr (b20, 32))) h.beta.length 160] ++ (u8s h.gamma ++ []))).toArray] = _; rfl) ?_
      rintro (_ | ⟨a21, c21⟩) hU
      · dsimp only [uwVal, uwPost]
        refine Sub.parts [5, 3, 2] [1] ⟨rfl, rfl⟩ ?_
        conv => whnf
        refine Sub.parts [5, 3, 2] [1] ⟨rfl, rfl⟩ ?_
        conv => whnf
        exact ⟨(b7, none), hU, Wk.mk' [7, 5] [1] ⟨⟨rfl, kk⟩, ⟨rfl, kk⟩, ⟨rfl, kk⟩, ⟨rfl, kk⟩, trivial⟩ ⟨⟨kk, rst0_ok _⟩, ⟨kk, StepS.okL oZ _⟩, trivial⟩ ⟨rfl, rfl⟩⟩
      · dsimp only [uwVal, uwPost]
        refine Sub.parts [5, 3, 2] [2] ⟨rfl, rfl⟩ ?_
        conv => whnf
        refine Sub.parts [5, 3, 2] [2] ⟨rfl, rfl⟩ ?_
        conv => whnf
        exact ⟨(b7, some (a21, c21)), hU, Wk.mk' [7, 5] [0, 1] ⟨⟨rfl, kk⟩, ⟨rfl, kk⟩, ⟨rfl, kk⟩, ⟨rfl, kk⟩, trivial⟩ ⟨⟨kk, rst_ok oZ _ _ _⟩, ⟨kk, StepS.okL oZ _⟩, trivial⟩ ⟨rfl, rfl⟩⟩
  rintro ⟨b7, (_ | ⟨a9, c9⟩)⟩ hU
  · obtain ⟨Z1, Z2⟩ := Z
    obtain ⟨hz, hs⟩ := hU
    dsimp only [uwSeg, uwPost] at hz hs wZ ⊢
    subst hs
    conv => whnf
    refine Draw.all (by kernel_rfl) tt_ok (Tv.of [0, 1, 3, 4, 2, 5, 6, 7, 8, 10, 11, 9, 12, 13, 14, 15, 16, 17, 18, 19, 20, 21, 22, 23, 24, 25, 26, 27, 28, 29, 30, 31, 32, 33, 34] .nil) 1000000 (by kernel_rfl) ?_
    conv => whnf
    refine CallOb.pu (ours9_c _ cmd0 rfl) rfl ?_
    conv => whnf
    refine Sub.parts [7, 5] [0] ⟨rfl, rfl⟩ ?_
    conv => whnf
    refine eq_cmdR (c := cmd0) (d := cmd0) cmd0_wf cmd0_wf (by rfl) (by rfl) fun b hb => ?_
    obtain rfl : b = true := hb.2 rfl
    conv => whnf
    refine ⟨(fun _ => ?_), (fun e => nomatch e)⟩
    conv => whnf
    refine CallOb.new (ours_h _ hdr0 hdr0_ok) rfl fun b33 _ => ?_
    conv => whnf
    refine Sub.parts [7, 5] [1] ⟨rfl, rfl⟩ ?_
    conv => whnf
    refine CallOb.new (none_z _) rfl fun b36 _ => ?_
    conv => whnf
    refine Sub.parts [7, 5] [2] ⟨rfl, rfl⟩ ?_
    conv => whnf
    refine CallOb.pu (rsame_h _ (OwnHd b33 hdr0) (Own (some (radr (b36, 0))) 160 5 1 (u8s hdr0.beta)) (Ent.all mm) (Ent.all mm) hdr0 hdr0_ok.a hdr0_ok.g (some (radr (b33, 32))) (some (radr (b36, 0))) 160 160 (OwnHd.rd hdr0_ok) Own.rd) rfl ?_
    conv => whnf
    refine Sub.parts [7, 5] [2] ⟨rfl, rfl⟩ ?_
    conv => whnf
    refine eq_key (l := zk) (m := zk) zk_len zk_len (List.append_nil _) (List.append_nil _) ?_
    conv => whnf
    refine Cond.dec (fun _ => ?_) (fun h => absurd rfl h)
    conv => whnf
    refine eq_tagH (l := (List.replicate 16 0)) (m := (List.replicate 16 0)) List.length_replicate List.length_replicate (List.append_nil _) (List.append_nil _) ?_
    conv => whnf
    refine Cond.dec (fun _ => ?_) (fun h => absurd rfl h)
    conv => whnf
    rw [beq_self_eq_true]
    exact Ret.mk' () [] [2] trivial rfl kk kk ⟨rfl, rfl⟩
  · obtain ⟨Z1, Z2⟩ := Z
    obtain ⟨hz, h192, hbt, hOl⟩ := hU
    dsimp only [uwSeg, uwPost] at hz h192 hbt hOl wZ oZ ⊢
    conv => whnf
    refine Draw.all (by kernel_rfl) tt_ok (Tv.of [0, 1, 3, 4, 2, 5, 6, 7, 8, 10, 11, 9, 12, 13, 14, 15, 16, 17, 18, 19, 20, 21, 22, 23, 24, 25, 26, 27, 28, 29, 30, 31, 32, 33, 34] .nil) 1000000 (by kernel_rfl) ?_
    conv => whnf
    refine CallOb.pu (ours9_c _ Z1.cmd oZ.c) rfl ?_
    conv => whnf
    refine Sub.parts [7, 5] [0, 0] ⟨rfl, rfl⟩ ?_
    conv => whnf
    refine eq_cmdR (c := Z1.cmd) (d := Z1.cmd) wZ wZ (by rfl) (by rfl) fun b hb => ?_
    obtain rfl : b = true := hb.2 rfl
    conv => whnf
    refine ⟨(fun _ => ?_), (fun e => nomatch e)⟩
    conv => whnf
    refine CallOb.new (ours_h _ Z1.next oZ.n) rfl fun b33 _ => ?_
    conv => whnf
    refine Sub.parts [7, 5] [1, 1] ⟨rfl, rfl⟩ ?_
    conv => whnf
    refine CallOb.pu (none_h _ Z1.next oZ.n.a oZ.n.g (cutA a9 c9 32 1) (c9 - 32) (by have := oZ.n.b; omega)) rfl ?_
    conv => whnf
    refine Sub.parts [7, 5] [1, 1] ⟨rfl, rfl⟩ ?_
    conv => whnf
    have hrd : Rd (Own a9 c9 5 1 (u8s O)) (cutA a9 c9 32 1) (u8s Z1.next.beta) := by
      rw [hbt]
      exact rd_cutA (l := O) Own.rd c9 32 160 (by omega)
    refine CallOb.pu (rsame_h _ (OwnHd b33 Z1.next) (Own a9 c9 5 1 (u8s O)) (Ent.all mm) (Ent.all mm) Z1.next oZ.n.a oZ.n.g (some (radr (b33, 32))) (cutA a9 c9 32 1) 160 (c9 - 32) (OwnHd.rd oZ.n) hrd) rfl ?_
    conv => whnf
    refine Sub.parts [7, 5] [1, 1] ⟨rfl, rfl⟩ ?_
    conv => whnf
    refine eq_key (l := Z1.secret) (m := Z1.secret) oZ.s oZ.s (by simp [dens, Seg.den]) (by simp [dens, Seg.den]) ?_
    conv => whnf
    refine Cond.dec (fun _ => ?_) (fun h => absurd rfl h)
    conv => whnf
    refine eq_tagH (l := Z1.tag) (m := Z1.tag) oZ.t oZ.t (by simp [dens, Seg.den]) (by simp [dens, Seg.den]) ?_
    conv => whnf
    refine Cond.dec (fun _ => ?_) (fun h => absurd rfl h)
    conv => whnf
    rw [beq_self_eq_true]
    exact Ret.mk' () [] [2] trivial rfl kk kk ⟨rfl, rfl⟩
end
end Go.Proofs.YtlceapjihhlidaaGreatDoor
