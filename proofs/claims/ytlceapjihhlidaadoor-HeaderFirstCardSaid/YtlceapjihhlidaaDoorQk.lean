import Derived.Test.YtlceapjihhlidaaDoorQj
import Derived.Test.YtlceapjihhlidaaDoorRows
import Derived.OpenShut
import Derived.LaidMore
import Derived.FnData
/- header: the law Proved, walked. -/
namespace Go.Proofs.YtlceapjihhlidaaDoor
open Go.Sx
set_option maxRecDepth 100000
set_option pp.deepTerms false
set_option pp.maxSteps 300
set_option linter.unusedSimpArgs false
set_option linter.unusedVariables false

theorem decC_cases (b : List UInt8) : (decC b).2 = 0 ∧ (decC b).1.may = true ∨ (decC b).2 = 5 := by
  unfold decC
  by_cases h : (b.drop 12).any (· != 0) = false ∧ (cmdOf b).may = true
  · rw [if_pos h]; exact .inl ⟨rfl, h.2⟩
  · rw [if_neg h]; exact .inr rfl
theorem shared_2 (k u : List UInt8) : (sharedS k u).2 = 0 ∨ (sharedS k u).2 = 7 := by
  rcases shared_cases k u with h | h
  · rw [h]; exact .inr rfl
  · rw [h]; exact .inl rfl
attribute [local irreducible] macD deriveS strS streamH sharedS chainS timesS pointS publicS blindH openB proofH decC routeS fillerH buildS unwrapS tagH leB unwrap1 unwrap2 unwrap3
theorem unw_cases {own : List UInt8} {h : HdrS} (e : (sharedS own h.alpha).2 = 0) (p : proofH (sharedS own h.alpha).1 h.beta = h.gamma) :
    ((unwrapS own h).2 = 0 ∧ (unwrapS own h).1.secret = (sharedS own h.alpha).1 ∧ (unwrapS own h).1.cmd.may = true) ∨ (((unwrapS own h).2 = 5 ∨ (unwrapS own h).2 = 7) ∧ (unwrapS own h).1 = step0) := by
  rw [uw_b e]
  generalize (sharedS own h.alpha).1 = s at p ⊢
  rw [uw_d p]
  rcases decC_cases ((openB s h.beta).take 16) with h3 | h3
  · rw [uw_f h3.1]
    rcases shared_2 (blindH s h.alpha) h.alpha with h4 | h4
    · rw [uw_h h4]
      exact .inl ⟨rfl, rfl, h3.2⟩
    · rw [uw_g (by rw [h4]; decide)]
      exact .inr ⟨.inr h4, rfl⟩
  · rw [uw_e (by rw [h3]; decide)]
    exact .inr ⟨.inl h3, rfl⟩
theorem proved_c (W : World) (hK : Gl (old W)) (own : List UInt8) (ho : own.length = 32) (h : HdrS) (o : h.ok) : LawC Tryd.prog 4 [.agg [.many 32 (u8s own)], .agg h.sg] W := by
  have hUo := unwrapS_ok own o
  have hUw := unwrapS_wf own o
  have hUa := uw_a (own := own) (h := h)
  have hUb := uw_b (own := own) (h := h)
  have hUn := fun e p => unw_cases (own := own) (h := h) e p
  have hUc := fun (e : (sharedS own h.alpha).2 = 0) (p : proofH (sharedS own h.alpha).1 h.beta ≠ h.gamma) => (uw_b e).trans (uw_c (own := own) p)
  have hS2 := shared_2 own h.alpha
  have hSl := sharedS_len own h.alpha
  have CU := fun A hK => unwrap_h A hK own ho h o
  have CS := fun A => shared_c A own h.alpha ho o.a
  obtain ⟨al, be, ga⟩ := h
  have hal := o.a; have hbe := o.b; have hga := o.g
  dsimp only at hal hbe hga hUa hUb hUn hUc hS2 hSl CS
  generalize unwrapS own ⟨al, be, ga⟩ = U at hUo hUw hUa hUb hUn hUc CU
  generalize sharedS own al = S at hUa hUb hUn hUc hS2 hSl CS
  obtain ⟨st, e2⟩ := U
  obtain ⟨s, e1⟩ := S
  dsimp only at hUo hUw hUa hUb hUn hUc hS2 hSl CU CS
  have w0 : step0.cmd.wf := cmd0_wf
  refine Con.of' tt_ok Tryd.func4 rfl (by decide) [.agg [.many 32 (u8s own)], .agg [.many 32 (u8s al), .many 160 (u8s be), .many 16 (u8s ga)]] [] [] rfl rfl trivial ⟨⟨many_ok ho _, trivial⟩, HdrS.okL o _, trivial⟩ rfl ?_
  conv => whnf
  intro b2
  conv => whnf
  intro b3
  conv => whnf
  refine CallOb.pu (alive_c _ (hK.ent (Ent.all (by first | (simp; done) | (simp [M.props]; done) | (simp [M.props]; first | (left; rfl) | (right; left; rfl) | (right; right; left; rfl) | (right; right; right; left; rfl) | (right; right; right; right; left; rfl)) | exact (.head _ : List.Mem _ _) | exact (.tail _ (.head _) : List.Mem _ _) | exact (.tail _ (.tail _ (.head _)) : List.Mem _ _) | exact (.tail _ (.tail _ (.tail _ (.head _))) : List.Mem _ _) | exact (.tail _ (.tail _ (.tail _ (.tail _ (.head _)))) : List.Mem _ _) | exact (.tail _ (.tail _ (.tail _ (.tail _ (.tail _ (.head _))))) : List.Mem _ _) | exact (.tail _ (.tail _ (.tail _ (.tail _ (.tail _ (.tail _ (.head _)))))) : List.Mem _ _) | exact (.tail _ (.tail _ (.tail _ (.tail _ (.tail _ (.tail _ (.tail _ (.head _))))))) : List.Mem _ _) | exact (.tail _ (.tail _ (.tail _ (.tail _ (.tail _ (.tail _ (.tail _ (.tail _ (.head _)))))))) : List.Mem _ _))))) rfl ?_
  conv => whnf
  refine CallOb.pu (CU _ (hK.ent (Ent.all (by first | (simp; done) | (simp [M.props]; done) | (simp [M.props]; first | (left; rfl) | (right; left; rfl) | (right; right; left; rfl) | (right; right; right; left; rfl) | (right; right; right; right; left; rfl)) | exact (.head _ : List.Mem _ _) | exact (.tail _ (.head _) : List.Mem _ _) | exact (.tail _ (.tail _ (.head _)) : List.Mem _ _) | exact (.tail _ (.tail _ (.tail _ (.head _))) : List.Mem _ _) | exact (.tail _ (.tail _ (.tail _ (.tail _ (.head _)))) : List.Mem _ _) | exact (.tail _ (.tail _ (.tail _ (.tail _ (.tail _ (.head _))))) : List.Mem _ _) | exact (.tail _ (.tail _ (.tail _ (.tail _ (.tail _ (.tail _ (.head _)))))) : List.Mem _ _) | exact (.tail _ (.tail _ (.tail _ (.tail _ (.tail _ (.tail _ (.tail _ (.head _))))))) : List.Mem _ _) | exact (.tail _ (.tail _ (.tail _ (.tail _ (.tail _ (.tail _ (.tail _ (.tail _ (.head _)))))))) : List.Mem _ _))))) rfl ?_
  conv => whnf
  intro b5
  conv => whnf
  refine CallOb.pu (CS _) rfl ?_
  conv => whnf
  intro b7
  conv => whnf
  refine Cond.neI (fun h1 => ?_) (fun h1 => ?_)
  · have hq := hUa h1
    have hq1 : st = step0 := congrArg Prod.fst hq
    have hq2 : e2 = e1 := congrArg Prod.snd hq
    have h7 : e1 = 7 := by omega
    subst hq1 hq2 h7
    conv => whnf
    refine Cond.eqI (fun _ => ?_) (fun h => absurd rfl h)
    conv => whnf
    refine eq_step (c := step0) (d := step0) step0_ok w0 step0_ok w0 (by rfl) (by rfl) fun b hb => ?_
    obtain rfl : b = true := hb.2 rfl
    conv => whnf
    exact Ret.mk' () [] [0] trivial rfl (by repeat' (first | exact trivial | rfl | apply And.intro)) (by repeat' (first | exact trivial | rfl | apply And.intro)) ⟨rfl, rfl⟩
  have hUb := hUb h1
  conv => whnf
  refine Draw.all (by kernel_rfl) tt_ok (Tv.of [0, 1, 2, 4, 5, 3, 6, 7] .nil) 1000000 (by kernel_rfl) ?_
  conv => whnf
  refine CallOb.pu (proof_H _ (hK.ent (Ent.all (by first | (simp; done) | (simp [M.props]; done) | (simp [M.props]; first | (left; rfl) | (right; left; rfl) | (right; right; left; rfl) | (right; right; right; left; rfl) | (right; right; right; right; left; rfl)) | exact (.head _ : List.Mem _ _) | exact (.tail _ (.head _) : List.Mem _ _) | exact (.tail _ (.tail _ (.head _)) : List.Mem _ _) | exact (.tail _ (.tail _ (.tail _ (.head _))) : List.Mem _ _) | exact (.tail _ (.tail _ (.tail _ (.tail _ (.head _)))) : List.Mem _ _) | exact (.tail _ (.tail _ (.tail _ (.tail _ (.tail _ (.head _))))) : List.Mem _ _) | exact (.tail _ (.tail _ (.tail _ (.tail _ (.tail _ (.tail _ (.head _)))))) : List.Mem _ _) | exact (.tail _ (.tail _ (.tail _ (.tail _ (.tail _ (.tail _ (.tail _ (.head _))))))) : List.Mem _ _) | exact (.tail _ (.tail _ (.tail _ (.tail _ (.tail _ (.tail _ (.tail _ (.tail _ (.head _)))))))) : List.Mem _ _)))) s be hSl hbe) rfl ?_
  have hpl := proofH_len s be
  conv => whnf
  refine Sub.whole ?_
  conv => whnf
  refine eq_tagH (l := proofH s be) (m := ga) hpl hga (by simp [dens, Seg.den]) (by simp [dens, Seg.den]) ?_
  have hc := hUc h1
  have hn := hUn h1
  generalize proofH s be = T at hpl hc hn ⊢
  conv => whnf
  refine Cond.not (Cond.dec (fun hp => ?_) (fun hp => ?_))
  case' refine_2 =>
    have hq := hc hp
    have hq1 : st = step0 := congrArg Prod.fst hq
    have hq2 : e2 = 6 := congrArg Prod.snd hq
    subst hq1 hq2
    conv => whnf
    refine Cond.eqI (fun _ => ?_) (fun h => absurd rfl h)
    conv => whnf
    refine eq_step (c := step0) (d := step0) step0_ok w0 step0_ok w0 (by rfl) (by rfl) fun b hb => ?_
    obtain rfl : b = true := hb.2 rfl
    conv => whnf
    exact Ret.mk' () [] [0] trivial rfl (by repeat' (first | exact trivial | rfl | apply And.intro)) (by repeat' (first | exact trivial | rfl | apply And.intro)) ⟨rfl, rfl⟩
  have hn := hn hp
  conv => whnf
  refine Cond.eqI (fun h2 => ?_) (fun h2 => ?_)
  · rcases hn with ⟨_, hsec, hmay⟩ | ⟨h57, _⟩
    · have hcl := hUo.c
      conv => whnf
      refine eq_key (l := s) (m := s) hSl hSl (by rw [hsec]; simp [dens, Seg.den]) (by simp [dens, Seg.den]) ?_
      conv => whnf
      refine Cond.dec (fun _ => ?_) (fun h => absurd rfl h)
      conv => whnf
      refine CallOb.pu (may_c _ st.cmd hcl) rfl ?_
      rw [hmay]
      conv => whnf
      exact Ret.mk' () [] [0] trivial rfl (by repeat' (first | exact trivial | rfl | apply And.intro)) (by repeat' (first | exact trivial | rfl | apply And.intro)) ⟨rfl, rfl⟩
    · omega
  · rcases hn with ⟨h0, _⟩ | ⟨h57, hst⟩
    · omega
    · subst hst
      rcases h57 with rfl | rfl
      · conv => whnf
        refine Cond.eqI (fun _ => ?_) (fun h => absurd rfl h)
        conv => whnf
        refine eq_step (c := step0) (d := step0) step0_ok w0 step0_ok w0 (by rfl) (by rfl) fun b hb => ?_
        obtain rfl : b = true := hb.2 rfl
        conv => whnf
        exact Ret.mk' () [] [0] trivial rfl (by repeat' (first | exact trivial | rfl | apply And.intro)) (by repeat' (first | exact trivial | rfl | apply And.intro)) ⟨rfl, rfl⟩
      · conv => whnf
        refine Cond.eqI (fun h => absurd h (by decide)) (fun _ => ?_)
        conv => whnf
        refine Cond.eqI (fun _ => ?_) (fun h => absurd rfl h)
        conv => whnf
        refine eq_step (c := step0) (d := step0) step0_ok w0 step0_ok w0 (by rfl) (by rfl) fun b hb => ?_
        obtain rfl : b = true := hb.2 rfl
        conv => whnf
        exact Ret.mk' () [] [0] trivial rfl (by repeat' (first | exact trivial | rfl | apply And.intro)) (by repeat' (first | exact trivial | rfl | apply And.intro)) ⟨rfl, rfl⟩
end Go.Proofs.YtlceapjihhlidaaDoor

/- header: the law One, walked. -/
namespace Go.Proofs.YtlceapjihhlidaaDoor
open Go.Sx
set_option maxRecDepth 100000
set_option pp.deepTerms false
set_option pp.maxSteps 300
set_option linter.unusedSimpArgs false
set_option linter.unusedVariables false

theorem gd_set {l : List UInt8} {i j : Nat} {c : UInt8} (hi : i < l.length) (hj : j < l.length) : gd (l.set i c) j = if i = j then c.toNat else gd l j := by
  rw [gd_eq (by rw [List.length_set]; exact hj), List.getElem_set]
  split
  · rfl
  · rw [gd_eq hj]
theorem ofNat_toNat' {n : Nat} (h : n < 256) : (UInt8.ofNat n).toNat = n := by simp; omega
theorem clamp_twice {k : List UInt8} (hk : k.length = 32) : clampS (clampS k) = clampS k := by
  have h0 := gd_lt k 0
  have h31 := gd_lt k 31
  have g0 : gd (clampS k) 0 = gd k 0 / 8 * 8 := by
    unfold clampS
    rw [gd_set (by rw [List.length_set]; omega) (by rw [List.length_set]; omega), if_neg (by decide), gd_set (by omega) (by omega), if_pos rfl, ofNat_toNat' (by omega)]
  have g31 : gd (clampS k) 31 = gd k 31 % 64 + 64 := by
    unfold clampS
    rw [gd_set (by rw [List.length_set]; omega) (by rw [List.length_set]; omega), if_pos rfl, ofNat_toNat' (by omega)]
  have e : clampS (clampS k) = ((clampS k).set 0 (UInt8.ofNat (gd (clampS k) 0 / 8 * 8))).set 31 (UInt8.ofNat (gd (clampS k) 31 % 64 + 64)) := rfl
  rw [e, g0, g31, show gd k 0 / 8 * 8 / 8 * 8 = gd k 0 / 8 * 8 by omega, show (gd k 31 % 64 + 64) % 64 + 64 = gd k 31 % 64 + 64 by omega]
  unfold clampS
  rw [List.set_comm _ _ (by decide : (31 : Nat) ≠ 0), List.set_set, List.set_set]
theorem shared_clamp {k : List UInt8} (hk : k.length = 32) (u : List UInt8) : sharedS (clampS k) u = sharedS k u := by
  have e : sharedS (clampS k) u = if timesS (clampS (clampS k)) (pointS u) = zk then (zk, 7) else (timesS (clampS (clampS k)) (pointS u), 0) := rfl
  rw [e, clamp_twice hk]
  rfl
theorem unwrap1_any (a b s : List UInt8) (h : HdrS) : unwrap1 a s h = unwrap1 b s h := rfl
attribute [local irreducible] macD deriveS strS streamH sharedS chainS timesS pointS publicS blindH openB proofH decC routeS fillerH buildS unwrapS tagH leB unwrap1 unwrap2 unwrap3
theorem unwrap_clamp {k : List UInt8} (hk : k.length = 32) (h : HdrS) : unwrapS (clampS k) h = unwrapS k h := by
  have e := shared_clamp hk h.alpha
  by_cases h1 : (sharedS k h.alpha).2 = 0
  · rw [uw_b (own := clampS k) (by rw [e]; exact h1), uw_b h1, e]
    exact unwrap1_any _ _ _ _
  · rw [uw_a (own := clampS k) (by rw [e]; exact h1), uw_a h1, e]
theorem unw_zero {own : List UInt8} {h : HdrS} (e : (unwrapS own h).2 = 0) :
    (unwrapS own h).1.secret = (sharedS own h.alpha).1 ∧ (unwrapS own h).1.tag = tagH (sharedS own h.alpha).1 ∧ (unwrapS own h).1.next.alpha = (sharedS (blindH (sharedS own h.alpha).1 h.alpha) h.alpha).1 := by
  by_cases h1 : (sharedS own h.alpha).2 = 0
  · rw [uw_b h1] at e ⊢
    generalize (sharedS own h.alpha).1 = s at e ⊢
    by_cases h2 : proofH s h.beta = h.gamma
    · rw [uw_d h2] at e ⊢
      by_cases h3 : (decC ((openB s h.beta).take 16)).2 = 0
      · rw [uw_f h3] at e ⊢
        by_cases h4 : (sharedS (blindH s h.alpha) h.alpha).2 = 0
        · rw [uw_h h4]
          exact ⟨rfl, rfl, rfl⟩
        · rw [uw_g h4] at e; exact absurd e h4
      · rw [uw_e h3] at e; exact absurd e h3
    · rw [uw_c h2] at e; exact absurd e (by show ¬ (6 : Int) = 0; decide)
  · rw [uw_a h1] at e; exact absurd e h1
theorem one_same {own : List UInt8} {h o : HdrS} (ha : o.alpha = h.alpha) (e : (unwrapS own h).2 = 0) (f : (unwrapS own o).2 = 0) :
    (unwrapS own o).1.tag = (unwrapS own h).1.tag ∧ (unwrapS own o).1.secret = (unwrapS own h).1.secret ∧ (unwrapS own o).1.next.alpha = (unwrapS own h).1.next.alpha := by
  obtain ⟨a1, a2, a3⟩ := unw_zero e
  obtain ⟨b1, b2, b3⟩ := unw_zero f
  rw [ha] at b1 b2 b3
  exact ⟨b2.trans a2.symm, b1.trans a1.symm, b3.trans a3.symm⟩
theorem one_c (W : World) (hK : Gl (old W)) (own : List UInt8) (ho : own.length = 32) (h : HdrS) (o : h.ok) (t : HdrS) (ot : t.ok) : LawC Tryd.prog 3 [.agg [.many 32 (u8s own)], .agg h.sg, .agg t.sg] W := by
  have o3 : (HdrS.mk h.alpha t.beta t.gamma).ok := ⟨o.a, ot.b, ot.g⟩
  have hcl := clampS_len ho
  have C1 := fun A hK => unwrap_h A hK own ho h o
  have C2 := fun A hK => unwrap_h A hK (clampS own) hcl h o
  simp only [unwrap_clamp ho] at C2
  have C3 := fun A hK => unwrap_h A hK own ho _ o3
  have hs := one_same (own := own) (h := h) (o := ⟨h.alpha, t.beta, t.gamma⟩) rfl
  have u1 := unwrapS_ok own o
  have w1 := unwrapS_wf own o
  have u3 := unwrapS_ok own o3
  obtain ⟨al, be, ga⟩ := h
  obtain ⟨al2, be2, ga2⟩ := t
  dsimp only at C1 C2 C3 hs u1 w1 u3 o3
  generalize unwrapS own ⟨al, be, ga⟩ = U at C1 C2 hs u1 w1
  generalize unwrapS own ⟨al, be2, ga2⟩ = V at C3 hs u3
  obtain ⟨st, e⟩ := U
  obtain ⟨sv, f⟩ := V
  dsimp only at C1 C2 C3 hs u1 w1 u3
  refine Con.of' tt_ok Tryd.func3 rfl (by decide) [.agg [.many 32 (u8s own)], .agg [.many 32 (u8s al), .many 160 (u8s be), .many 16 (u8s ga)], .agg [.many 32 (u8s al2), .many 160 (u8s be2), .many 16 (u8s ga2)]] [] [] rfl rfl trivial ⟨⟨many_ok ho _, trivial⟩, HdrS.okL o _, HdrS.okL ot _, trivial⟩ rfl ?_
  conv => whnf
  intro b3
  conv => whnf
  intro b4
  conv => whnf
  intro b5
  conv => whnf
  refine CallOb.pu (alive_c _ (hK.ent (Ent.all (by first | (simp; done) | (simp [M.props]; done) | (simp [M.props]; first | (left; rfl) | (right; left; rfl) | (right; right; left; rfl) | (right; right; right; left; rfl) | (right; right; right; right; left; rfl)) | exact (.head _ : List.Mem _ _) | exact (.tail _ (.head _) : List.Mem _ _) | exact (.tail _ (.tail _ (.head _)) : List.Mem _ _) | exact (.tail _ (.tail _ (.tail _ (.head _))) : List.Mem _ _) | exact (.tail _ (.tail _ (.tail _ (.tail _ (.head _)))) : List.Mem _ _) | exact (.tail _ (.tail _ (.tail _ (.tail _ (.tail _ (.head _))))) : List.Mem _ _) | exact (.tail _ (.tail _ (.tail _ (.tail _ (.tail _ (.tail _ (.head _)))))) : List.Mem _ _) | exact (.tail _ (.tail _ (.tail _ (.tail _ (.tail _ (.tail _ (.tail _ (.head _))))))) : List.Mem _ _) | exact (.tail _ (.tail _ (.tail _ (.tail _ (.tail _ (.tail _ (.tail _ (.tail _ (.head _)))))))) : List.Mem _ _))))) rfl ?_
  conv => whnf
  refine CallOb.pu (C1 _ (hK.ent (Ent.all (by first | (simp; done) | (simp [M.props]; done) | (simp [M.props]; first | (left; rfl) | (right; left; rfl) | (right; right; left; rfl) | (right; right; right; left; rfl) | (right; right; right; right; left; rfl)) | exact (.head _ : List.Mem _ _) | exact (.tail _ (.head _) : List.Mem _ _) | exact (.tail _ (.tail _ (.head _)) : List.Mem _ _) | exact (.tail _ (.tail _ (.tail _ (.head _))) : List.Mem _ _) | exact (.tail _ (.tail _ (.tail _ (.tail _ (.head _)))) : List.Mem _ _) | exact (.tail _ (.tail _ (.tail _ (.tail _ (.tail _ (.head _))))) : List.Mem _ _) | exact (.tail _ (.tail _ (.tail _ (.tail _ (.tail _ (.tail _ (.head _)))))) : List.Mem _ _) | exact (.tail _ (.tail _ (.tail _ (.tail _ (.tail _ (.tail _ (.tail _ (.head _))))))) : List.Mem _ _) | exact (.tail _ (.tail _ (.tail _ (.tail _ (.tail _ (.tail _ (.tail _ (.tail _ (.head _)))))))) : List.Mem _ _))))) rfl ?_
  conv => whnf
  intro b7
  conv => whnf
  refine Draw.cut (σ := Nat) (fun b => [(3, .c (.ptr 3 0)), (4, .c (.ptr 4 0)), (5, .c (.ptr 5 0)), (7, .c (.ptr 7 0)), (8, .c (.int .i64 e)), (9, .c (.ptr 9 0)), (10, .c (.int .i64 e))])
    (fun b => ⟨[(9, b), (7, b7), (5, b5), (4, b4), (3, b3)], [(9, st.sg, 36), (7, st.sg, 36), (5, [.many 32 (u8s al2), .many 160 (u8s be2), .many 16 (u8s ga2)], 29), (4, [.many 32 (u8s al), .many 160 (u8s be), .many 16 (u8s ga)], 29), (3, [.many 32 (u8s own)], 23)], [old W]⟩) (fun _ => True) ?_ ?_
  · refine Draw.all (by kernel_rfl) tt_ok (Tv.of [0, 2] (.two 1 ((.two 3 (Tv.of [4, 5, 6, 7, 8, 9] .nil) 7 (Tv.of [3, 4, 5, 6, 8, 9] .nil))) 7 (Tv.of [1, 3, 4, 5, 6, 8, 9] .nil))) 1000000 (by kernel_rfl) ?_
    conv => whnf
    refine ⟨?_, ?_⟩
    · skip
      conv => whnf
      refine CallOb.pu (clamp_c _ own ho) rfl ?_
      refine Sub.parts [7, 5, 4, 3] [0] ⟨rfl, rfl⟩ ?_
      conv => whnf
      refine ⟨?_, ?_⟩
      · skip
        conv => whnf
        refine CallOb.pu (C2 _ (hK.ent (Ent.all (by first | (simp; done) | (simp [M.props]; done) | (simp [M.props]; first | (left; rfl) | (right; left; rfl) | (right; right; left; rfl) | (right; right; right; left; rfl) | (right; right; right; right; left; rfl)) | exact (.head _ : List.Mem _ _) | exact (.tail _ (.head _) : List.Mem _ _) | exact (.tail _ (.tail _ (.head _)) : List.Mem _ _) | exact (.tail _ (.tail _ (.tail _ (.head _))) : List.Mem _ _) | exact (.tail _ (.tail _ (.tail _ (.tail _ (.head _)))) : List.Mem _ _) | exact (.tail _ (.tail _ (.tail _ (.tail _ (.tail _ (.head _))))) : List.Mem _ _) | exact (.tail _ (.tail _ (.tail _ (.tail _ (.tail _ (.tail _ (.head _)))))) : List.Mem _ _) | exact (.tail _ (.tail _ (.tail _ (.tail _ (.tail _ (.tail _ (.tail _ (.head _))))))) : List.Mem _ _) | exact (.tail _ (.tail _ (.tail _ (.tail _ (.tail _ (.tail _ (.tail _ (.tail _ (.head _)))))))) : List.Mem _ _))))) rfl ?_
        refine Sub.parts [7, 5, 4, 3] [0] ⟨rfl, rfl⟩ ?_
        conv => whnf
        intro b9
        refine Sub.parts [7, 5, 4, 3] [0] ⟨rfl, rfl⟩ ?_
        conv => whnf
        refine Sub.parts [7, 5, 4, 3] [0] ⟨rfl, rfl⟩ ?_
        conv => whnf
        exact ⟨b9, trivial, Wk.mk' [9, 7, 5, 4, 3] [0] ⟨⟨rfl, (by repeat' (first | exact trivial | rfl | apply And.intro))⟩, ⟨rfl, (by repeat' (first | exact trivial | rfl | apply And.intro))⟩, ⟨rfl, (by repeat' (first | exact trivial | rfl | apply And.intro))⟩, ⟨rfl, (by repeat' (first | exact trivial | rfl | apply And.intro))⟩, ⟨rfl, (by repeat' (first | exact trivial | rfl | apply And.intro))⟩, ⟨rfl, (by repeat' (first | exact trivial | rfl | apply And.intro))⟩, ⟨rfl, (by repeat' (first | exact trivial | rfl | apply And.intro))⟩, trivial⟩ ⟨⟨(by repeat' (first | exact trivial | rfl | apply And.intro)), StepS.okL u1 _⟩, ⟨(by repeat' (first | exact trivial | rfl | apply And.intro)), StepS.okL u1 _⟩, ⟨(by repeat' (first | exact trivial | rfl | apply And.intro)), HdrS.okL ot _⟩, ⟨(by repeat' (first | exact trivial | rfl | apply And.intro)), HdrS.okL o _⟩, ⟨(by repeat' (first | exact trivial | rfl | apply And.intro)), many_ok ho _, trivial⟩, trivial⟩ ⟨rfl, rfl⟩⟩
      · skip
        conv => whnf
        intro b9
        refine Sub.parts [7, 5, 4, 3] [0] ⟨rfl, rfl⟩ ?_
        conv => whnf
        refine CallOb.pu (C2 _ (hK.ent (Ent.all (by first | (simp; done) | (simp [M.props]; done) | (simp [M.props]; first | (left; rfl) | (right; left; rfl) | (right; right; left; rfl) | (right; right; right; left; rfl) | (right; right; right; right; left; rfl)) | exact (.head _ : List.Mem _ _) | exact (.tail _ (.head _) : List.Mem _ _) | exact (.tail _ (.tail _ (.head _)) : List.Mem _ _) | exact (.tail _ (.tail _ (.tail _ (.head _))) : List.Mem _ _) | exact (.tail _ (.tail _ (.tail _ (.tail _ (.head _)))) : List.Mem _ _) | exact (.tail _ (.tail _ (.tail _ (.tail _ (.tail _ (.head _))))) : List.Mem _ _) | exact (.tail _ (.tail _ (.tail _ (.tail _ (.tail _ (.tail _ (.head _)))))) : List.Mem _ _) | exact (.tail _ (.tail _ (.tail _ (.tail _ (.tail _ (.tail _ (.tail _ (.head _))))))) : List.Mem _ _) | exact (.tail _ (.tail _ (.tail _ (.tail _ (.tail _ (.tail _ (.tail _ (.tail _ (.head _)))))))) : List.Mem _ _))))) rfl ?_
        refine Sub.parts [7, 5, 4, 3] [0] ⟨rfl, rfl⟩ ?_
        conv => whnf
        refine Sub.parts [7, 5, 4, 3] [0] ⟨rfl, rfl⟩ ?_
        conv => whnf
        exact ⟨b9, trivial, Wk.mk' [9, 7, 5, 4, 3] [0] ⟨⟨rfl, (by repeat' (first | exact trivial | rfl | apply And.intro))⟩, ⟨rfl, (by repeat' (first | exact trivial | rfl | apply And.intro))⟩, ⟨rfl, (by repeat' (first | exact trivial | rfl | apply And.intro))⟩, ⟨rfl, (by repeat' (first | exact trivial | rfl | apply And.intro))⟩, ⟨rfl, (by repeat' (first | exact trivial | rfl | apply And.intro))⟩, ⟨rfl, (by repeat' (first | exact trivial | rfl | apply And.intro))⟩, ⟨rfl, (by repeat' (first | exact trivial | rfl | apply And.intro))⟩, trivial⟩ ⟨⟨(by repeat' (first | exact trivial | rfl | apply And.intro)), StepS.okL u1 _⟩, ⟨(by repeat' (first | exact trivial | rfl | apply And.intro)), StepS.okL u1 _⟩, ⟨(by repeat' (first | exact trivial | rfl | apply And.intro)), HdrS.okL ot _⟩, ⟨(by repeat' (first | exact trivial | rfl | apply And.intro)), HdrS.okL o _⟩, ⟨(by repeat' (first | exact trivial | rfl | apply And.intro)), many_ok ho _, trivial⟩, trivial⟩ ⟨rfl, rfl⟩⟩
    · skip
      conv => whnf
      intro b9
      refine Sub.parts [7, 5, 4, 3] [0] ⟨rfl, rfl⟩ ?_
      conv => whnf
      refine CallOb.pu (clamp_c _ own ho) rfl ?_
      refine Sub.parts [7, 5, 4, 3] [0] ⟨rfl, rfl⟩ ?_
      conv => whnf
      refine CallOb.pu (C2 _ (hK.ent (Ent.all (by first | (simp; done) | (simp [M.props]; done) | (simp [M.props]; first | (left; rfl) | (right; left; rfl) | (right; right; left; rfl) | (right; right; right; left; rfl) | (right; right; right; right; left; rfl)) | exact (.head _ : List.Mem _ _) | exact (.tail _ (.head _) : List.Mem _ _) | exact (.tail _ (.tail _ (.head _)) : List.Mem _ _) | exact (.tail _ (.tail _ (.tail _ (.head _))) : List.Mem _ _) | exact (.tail _ (.tail _ (.tail _ (.tail _ (.head _)))) : List.Mem _ _) | exact (.tail _ (.tail _ (.tail _ (.tail _ (.tail _ (.head _))))) : List.Mem _ _) | exact (.tail _ (.tail _ (.tail _ (.tail _ (.tail _ (.tail _ (.head _)))))) : List.Mem _ _) | exact (.tail _ (.tail _ (.tail _ (.tail _ (.tail _ (.tail _ (.tail _ (.head _))))))) : List.Mem _ _) | exact (.tail _ (.tail _ (.tail _ (.tail _ (.tail _ (.tail _ (.tail _ (.tail _ (.head _)))))))) : List.Mem _ _))))) rfl ?_
      refine Sub.parts [7, 5, 4, 3] [0] ⟨rfl, rfl⟩ ?_
      conv => whnf
      refine Sub.parts [7, 5, 4, 3] [0] ⟨rfl, rfl⟩ ?_
      conv => whnf
      exact ⟨b9, trivial, Wk.mk' [9, 7, 5, 4, 3] [0] ⟨⟨rfl, (by repeat' (first | exact trivial | rfl | apply And.intro))⟩, ⟨rfl, (by repeat' (first | exact trivial | rfl | apply And.intro))⟩, ⟨rfl, (by repeat' (first | exact trivial | rfl | apply And.intro))⟩, ⟨rfl, (by repeat' (first | exact trivial | rfl | apply And.intro))⟩, ⟨rfl, (by repeat' (first | exact trivial | rfl | apply And.intro))⟩, ⟨rfl, (by repeat' (first | exact trivial | rfl | apply And.intro))⟩, ⟨rfl, (by repeat' (first | exact trivial | rfl | apply And.intro))⟩, trivial⟩ ⟨⟨(by repeat' (first | exact trivial | rfl | apply And.intro)), StepS.okL u1 _⟩, ⟨(by repeat' (first | exact trivial | rfl | apply And.intro)), StepS.okL u1 _⟩, ⟨(by repeat' (first | exact trivial | rfl | apply And.intro)), HdrS.okL ot _⟩, ⟨(by repeat' (first | exact trivial | rfl | apply And.intro)), HdrS.okL o _⟩, ⟨(by repeat' (first | exact trivial | rfl | apply And.intro)), many_ok ho _, trivial⟩, trivial⟩ ⟨rfl, rfl⟩⟩
  intro b9 _
  conv => whnf
  refine eq_step (c := st) (d := st) u1 w1 u1 w1 (by rfl) (by rfl) fun b hb => ?_
  obtain rfl : b = true := hb.2 rfl
  conv => whnf
  refine ⟨(fun e => nomatch e), (fun _ => ?_)⟩
  conv => whnf
  refine Cond.neI (fun h => absurd rfl h) (fun _ => ?_)
  conv => whnf
  refine CallOb.pu (C3 _ (hK.ent (Ent.all (by first | (simp; done) | (simp [M.props]; done) | (simp [M.props]; first | (left; rfl) | (right; left; rfl) | (right; right; left; rfl) | (right; right; right; left; rfl) | (right; right; right; right; left; rfl)) | exact (.head _ : List.Mem _ _) | exact (.tail _ (.head _) : List.Mem _ _) | exact (.tail _ (.tail _ (.head _)) : List.Mem _ _) | exact (.tail _ (.tail _ (.tail _ (.head _))) : List.Mem _ _) | exact (.tail _ (.tail _ (.tail _ (.tail _ (.head _)))) : List.Mem _ _) | exact (.tail _ (.tail _ (.tail _ (.tail _ (.tail _ (.head _))))) : List.Mem _ _) | exact (.tail _ (.tail _ (.tail _ (.tail _ (.tail _ (.tail _ (.head _)))))) : List.Mem _ _) | exact (.tail _ (.tail _ (.tail _ (.tail _ (.tail _ (.tail _ (.tail _ (.head _))))))) : List.Mem _ _) | exact (.tail _ (.tail _ (.tail _ (.tail _ (.tail _ (.tail _ (.tail _ (.tail _ (.head _)))))))) : List.Mem _ _))))) rfl ?_
  conv => whnf
  intro b11
  conv => whnf
  refine Cond.neI (fun h1 => ?_) (fun h1 => ?_)
  · conv => whnf
    exact Ret.mk' () [] [0] trivial rfl (by repeat' (first | exact trivial | rfl | apply And.intro)) (by repeat' (first | exact trivial | rfl | apply And.intro)) ⟨rfl, rfl⟩
  conv => whnf
  refine Cond.neI (fun h2 => ?_) (fun h2 => ?_)
  · conv => whnf
    exact Ret.mk' () [] [0] trivial rfl (by repeat' (first | exact trivial | rfl | apply And.intro)) (by repeat' (first | exact trivial | rfl | apply And.intro)) ⟨rfl, rfl⟩
  obtain ⟨q1, q2, q3⟩ := hs h1 h2
  conv => whnf
  refine eq_tagH (l := st.tag) (m := st.tag) u1.t u1.t (by rw [q1]; simp [dens, Seg.den]) (by simp [dens, Seg.den]) ?_
  conv => whnf
  refine Cond.dec (fun _ => ?_) (fun h => absurd rfl h)
  conv => whnf
  refine eq_key (l := st.secret) (m := st.secret) u1.s u1.s (by rw [q2]; simp [dens, Seg.den]) (by simp [dens, Seg.den]) ?_
  conv => whnf
  refine Cond.dec (fun _ => ?_) (fun h => absurd rfl h)
  conv => whnf
  refine eq_key (l := st.next.alpha) (m := st.next.alpha) u1.n.a u1.n.a (by rw [q3]; simp [dens, Seg.den]) (by simp [dens, Seg.den]) ?_
  conv => whnf
  rw [decide_eq_true rfl]
  exact Ret.mk' () [] [0] trivial rfl (by repeat' (first | exact trivial | rfl | apply And.intro)) (by repeat' (first | exact trivial | rfl | apply And.intro)) ⟨rfl, rfl⟩
end Go.Proofs.YtlceapjihhlidaaDoor

/- header: the constants that are laid; laws at any arguments. -/
namespace Go.Proofs.YtlceapjihhlidaaDoor
open Go.Sx
open Go.RowKit (Below)
set_option maxRecDepth 100000
set_option pp.deepTerms false
set_option pp.maxSteps 300
set_option linter.unusedSimpArgs false
set_option linter.unusedVariables false

abbrev kLaid : List (String × DataW Unit) := [("pigeonry/sha.k", Rows.laid_pigeonry_sha_k)]
theorem gK : Tryd.prog.globalNamed "pigeonry/sha.k" = some 0 := by kernel_rfl
theorem tK : (Tryd.prog.globals[0]?).map (·.type) = some 153 := by kernel_rfl
theorem kLits : (Rows.laid_pigeonry_sha_k : DataW Unit) = .agg (kW.map fun x => .lit (.int .u32 (x.toNat : Int))) := rfl
theorem gl_of_laid {W : World} (h : laidMetH Tryd.prog kLaid W) : Gl (old W) := by
  rw [MakeChecks.laidMetH_plain _ _ _ (by kernel_rfl)] at h
  obtain ⟨ps, ⟨g0, t0, cs0, f0, p0, q0, hg0, ht0, hv0, hd0, _, _⟩, _, _⟩ := h
  obtain rfl := Option.some.inj (gK.symm.trans hg0)
  obtain rfl := Option.some.inj (tK.symm.trans ht0)
  obtain ⟨xs, m1, rfl, hx1, hlen, hn, hel⟩ := DataW.trod_array Tryd.underlying153 hd0
  have c1 : Tryd.prog.cellsOf 85 = 1 := by kernel_rfl
  have c64 : Tryd.prog.cellsOf 153 = 64 := by kernel_rfl
  rw [c1] at hel
  simp only [Prod.mk.injEq] at hx1
  have hx1 := hx1.1
  rw [kLits] at hx1
  have hxs : xs.map (·.1) = kW.map fun x => DataW.lit (.int .u32 (x.toNat : Int)) := by simpa using hx1.symm
  refine rd_old (a := ⟨0, 0, none⟩) fun i hi => ?_
  rw [w32s_length, kW_len] at hi
  rw [w32s_get (by rw [kW_len]; exact hi)]
  have h1 := hel i hi
  rw [List.getElem?_eq_getElem (by omega)] at h1
  obtain ⟨k, e1, e2, _⟩ := DataW.trod_int Tryd.underlying85 h1
  have e3 : (xs.map (·.1))[i]? = some (DataW.lit (.int .u32 k)) := by rw [List.getElem?_map, List.getElem?_eq_getElem (by omega), Option.map_some, e2]
  rw [hxs, List.getElem?_map, List.getElem?_eq_getElem (by rw [kW_len]; exact hi)] at e3
  have e4 : DataW.lit (.int .u32 (kW[i].toNat : Int)) = (DataW.lit (.int .u32 k) : DataW Unit) := Option.some.inj e3
  injection e4 with e4
  injection e4 with _ e4
  subst e4
  have := World.var?_cell hg0 hv0 i
  rw [show (⟨0, 0, none⟩ : Addr).add i = ⟨0, i, none⟩ by rw [addr_add, Nat.zero_add], this]
  have e5 : cs0.toList[i]? = some (.int .u32 (kW[i].toNat : Int)) := by
    have := congrArg (fun l => l[0]?) e1
    simp only [List.getElem?_take, List.getElem?_drop] at this
    simpa using this
  rw [← Array.getElem?_toList]; exact e5
section
variable {H : Type} {enc : TypeId × Value → H} {base : Nat} {v0 v1 v2 : Value} {d0 d1 d2 : DataW H} {p0 p1 p2 : List MemPlace}
theorem arg_key (W : World) (ok0 : Value.okWide Tryd.prog W .any base 23 v0) (h0 : DataW.Trod enc Tryd.prog W 0 (fun _ => true) true 23 v0 d0 p0) : ∃ k : List UInt8, v0 = (SV.agg [.many 32 (u8s k)]).den [] ∧ k.length = 32 := by
  obtain ⟨x, cs, rfl, h, rfl⟩ := arg_agg (s := .barr 32) ⟨.unit, .unit, .inr ⟨32, .inl rfl⟩⟩ fitsBarr32 ok0 h0
  exact ⟨x, by show Value.agg (List.toArray (u8s x)) = Value.agg (List.toArray (u8s x ++ [])); rw [List.append_nil], h⟩
theorem arg_hdr (W : World) (ok0 : Value.okWide Tryd.prog W .any base 29 v0) (h0 : DataW.Trod enc Tryd.prog W 0 (fun _ => true) true 29 v0 d0 p0) : ∃ h : HdrS, v0 = (SV.agg h.sg).den [] ∧ h.ok := by
  obtain ⟨x, cs, rfl, h⟩ := arg_agg (s := hdrSh) ⟨_, _, .inl rfl⟩ fitsHdr ok0 h0
  obtain ⟨a, b, g, u⟩ := x
  obtain ⟨c1, c2, rfl, ⟨h1, rfl⟩, c3, c4, rfl, ⟨h2, rfl⟩, c5, c6, rfl, ⟨h3, rfl⟩, rfl⟩ := h
  exact ⟨⟨a, b, g⟩, rfl, ⟨h1, h2, h3⟩⟩
theorem headerProved_law (W : World) (hL : laidMetH Tryd.prog kLaid W) (ok0 : Value.okWide Tryd.prog W .any base 23 v0) (ok1 : Value.okWide Tryd.prog W .any base 29 v1)
    (h0 : DataW.Trod enc Tryd.prog W 0 (fun _ => true) true 23 v0 d0 p0) (h1 : DataW.Trod enc Tryd.prog W 0 (fun _ => true) true 29 v1 d1 p1) :
    Calls Tryd.prog 4 #[v0, v1] W fun e w' => e = .returned (.bool true) ∧ Below W.heap.size W w' := by
  obtain ⟨k, rfl, hk⟩ := arg_key W ok0 h0
  obtain ⟨h, rfl, ho⟩ := arg_hdr W ok1 h1
  exact law_calls (proved_c W (gl_of_laid hL) k hk h ho) rfl
theorem headerOne_law (W : World) (hL : laidMetH Tryd.prog kLaid W) (ok0 : Value.okWide Tryd.prog W .any base 23 v0) (ok1 : Value.okWide Tryd.prog W .any base 29 v1) (ok2 : Value.okWide Tryd.prog W .any base 29 v2)
    (h0 : DataW.Trod enc Tryd.prog W 0 (fun _ => true) true 23 v0 d0 p0) (h1 : DataW.Trod enc Tryd.prog W 0 (fun _ => true) true 29 v1 d1 p1) (h2 : DataW.Trod enc Tryd.prog W 0 (fun _ => true) true 29 v2 d2 p2) :
    Calls Tryd.prog 3 #[v0, v1, v2] W fun e w' => e = .returned (.bool true) ∧ Below W.heap.size W w' := by
  obtain ⟨k, rfl, hk⟩ := arg_key W ok0 h0
  obtain ⟨h, rfl, ho⟩ := arg_hdr W ok1 h1
  obtain ⟨t, rfl, ht⟩ := arg_hdr W ok2 h2
  exact law_calls (one_c W (gl_of_laid hL) k hk h ho t ht) rfl
end
end Go.Proofs.YtlceapjihhlidaaDoor

/- header: hops as they are; the law First (plain). -/
namespace Go.Proofs.YtlceapjihhlidaaDoor
open Go.Sx
set_option maxRecDepth 100000
set_option pp.deepTerms false
set_option pp.maxSteps 300
set_option linter.unusedSimpArgs false
set_option linter.unusedVariables false

theorem gd31_le {l : List UInt8} (h : l.length = 32) : gd l 31 = le l / 256 ^ 31 := by
  have h1 := leB_get 32 (le l) 31 (by decide)
  have hb : leB (le l) 32 = l := by rw [← h, leB_le]
  have hlt := le_lt l
  rw [h] at hlt
  rw [hb] at h1
  have hq : le l / 256 ^ 31 < 256 := by
    rw [Nat.div_lt_iff_lt_mul (by decide)]
    exact Nat.lt_of_lt_of_le hlt (by decide)
  unfold gd
  rw [h1]
  simp
  omega
theorem set_self {l : List UInt8} {i : Nat} (h : i < l.length) : l.set i (UInt8.ofNat (gd l i)) = l := by
  rw [gd_eq h]
  apply List.ext_getElem
  · simp
  intro j h1 h2
  rw [List.getElem_set]
  split
  · next e => subst e; simp
  · rfl
theorem point_twice (u : List UInt8) : pointS (pointS u) = pointS u := by
  obtain ⟨v, hv, hp⟩ : ∃ v, v < Pm ∧ pointS u = leB v 32 := ⟨_, Nat.mod_lt _ Pm_pos, rfl⟩
  rw [hp]
  have h256 : v < 256 ^ 32 := by unfold Pm at hv; exact Nat.lt_trans hv (by decide)
  have hg : gd (leB v 32) 31 < 128 := by
    rw [gd31_le (leB_len _ _), le_leB 32 v h256, Nat.div_lt_iff_lt_mul (by decide)]
    unfold Pm at hv
    exact Nat.lt_trans hv (by decide)
  show leB (le ((leB v 32).set 31 (UInt8.ofNat (gd (leB v 32) 31 % 128))) % Pm) 32 = leB v 32
  rw [Nat.mod_eq_of_lt hg, set_self (by rw [leB_len]; decide), le_leB 32 v h256, Nat.mod_eq_of_lt hv]
theorem shared_point (k u : List UInt8) : sharedS k (pointS u) = sharedS k u := by
  have e : sharedS k (pointS u) = if timesS (clampS k) (pointS (pointS u)) = zk then (zk, 7) else (timesS (clampS k) (pointS (pointS u)), 0) := rfl
  rw [e, point_twice]
  rfl
attribute [local irreducible] macD deriveS strS streamH sharedS chainS timesS pointS publicS blindH openB proofH decC routeS fillerH buildS unwrapS tagH leB unwrap1 unwrap2 unwrap3 agreeS
theorem chain_one {u x : List UInt8} (h : (chainS u [x]).2 = 0) : chainS u [x] = sharedS x u := by
  by_cases h1 : pointS u = zk
  · rw [chain_zero (by show ¬ 8 < 1; decide) h1] at h; exact absurd h (by show ¬ (7 : Int) = 0; decide)
  rw [chain_go (by show ¬ 8 < 1; decide) h1] at h ⊢
  by_cases h2 : (sharedS x (pointS u)).2 = 0
  · rw [chainGo_eq h2, ← shared_point x u]
    show ((sharedS x (pointS u)).1, (0 : Int)) = _
    rw [← h2]
  · rw [chainGo_ne h2] at h; exact absurd h h2
theorem agreeG_pre : ∀ (l : List HopS) (chain out : List (List UInt8)) (alpha : List UInt8), (agreeG chain alpha out l).2 = 0 → ∃ r, (agreeG chain alpha out l).1 = out ++ r
  | [], _, out, _, _ => ⟨[], (List.append_nil _).symm⟩
  | h :: r, chain, out, alpha, e0 => by
    by_cases e : (chainS h.key chain).2 = 0
    · by_cases e2 : (sharedS (blindH (chainS h.key chain).1 alpha) alpha).2 = 0
      · rw [agree_c e e2] at e0 ⊢
        obtain ⟨q, hq⟩ := agreeG_pre r _ _ _ e0
        exact ⟨(chainS h.key chain).1 :: q, by rw [hq]; simp⟩
      · rw [agree_b e e2] at e0; exact absurd e0 (by show ¬ (7 : Int) = 0; decide)
    · rw [agree_a e] at e0; exact absurd e0 (by show ¬ (7 : Int) = 0; decide)
theorem agree_first {x : List UInt8} {h : HopS} {r : List HopS} (e : (agreeS x (h :: r)).2 = 0) : (sharedS x h.key).2 = 0 ∧ kAt (agreeS x (h :: r)).1 0 = (sharedS x h.key).1 := by
  have e : (agreeG [x] (publicS x) [] (h :: r)).2 = 0 := by unfold agreeS at e; exact e
  have eq : agreeS x (h :: r) = agreeG [x] (publicS x) [] (h :: r) := by unfold agreeS; rfl
  rw [eq]
  by_cases e1 : (chainS h.key [x]).2 = 0
  · by_cases e2 : (sharedS (blindH (chainS h.key [x]).1 (publicS x)) (publicS x)).2 = 0
    · rw [agree_c e1 e2] at e ⊢
      obtain ⟨q, hq⟩ := agreeG_pre r _ _ _ e
      rw [hq]
      have hc := chain_one e1
      rw [hc] at e1 ⊢
      exact ⟨e1, rfl⟩
    · rw [agree_b e1 e2] at e; exact absurd e (by show ¬ (7 : Int) = 0; decide)
  · rw [agree_a e1] at e; exact absurd e (by show ¬ (7 : Int) = 0; decide)
/-- What a built header is. -/
structure Built (x : List UInt8) (hs : List HopS) (B : HdrS × List (List UInt8) × Int) : Prop where
  ok : B.1.ok
  ks : okK B.2.1
  bad : B.2.2 ≠ 0 → B.1 = hdr0 ∧ B.2.1 = []
  len : B.2.2 = 0 → B.2.1.length = hs.length ∧ 1 ≤ hs.length
  alpha : B.2.2 = 0 → B.1.alpha = publicS x
  gamma : B.2.2 = 0 → proofH (kAt B.2.1 0) B.1.beta = B.1.gamma
  first : B.2.2 = 0 → ∀ h : 0 < hs.length, (sharedS x hs[0].key).2 = 0 ∧ kAt B.2.1 0 = (sharedS x hs[0].key).1
theorem built {x : List UInt8} {hs : List HopS} (ho : okHs hs) : Built x hs (buildS x hs) := by
  obtain ⟨q1, q2, _⟩ := buildS_ok x ho
  cases hr : routeS hs with
  | false =>
    rw [build_a hr] at q1 q2 ⊢
    have h14 : ¬ (14 : Int) = 0 := by decide
    exact ⟨q1, q2, fun _ => ⟨rfl, rfl⟩, fun e => absurd e h14, fun e => absurd e h14, fun e => absurd e h14, fun e => absurd e h14⟩
  | true =>
    obtain ⟨h1, h5⟩ := route_len hr
    obtain ⟨ha, hb, hc⟩ := agreeS_ok x hs
    by_cases h2 : (agreeS x hs).2 = 0
    · rw [build_c hr h2] at q1 q2 ⊢
      refine ⟨q1, q2, fun e => absurd rfl e, fun _ => ⟨hc h2, h1⟩, fun _ => rfl, fun _ => rfl, fun _ h => ?_⟩
      cases hs with
      | nil => exact absurd h (by decide)
      | cons k r => exact agree_first h2
    · rw [build_b hr h2] at q1 q2 ⊢
      exact ⟨q1, q2, fun _ => ⟨rfl, rfl⟩, fun e => absurd e h2, fun e => absurd e h2, fun e => absurd e h2, fun e => absurd e h2⟩
end Go.Proofs.YtlceapjihhlidaaDoor

/- header: the law First, walked. -/
namespace Go.Proofs.YtlceapjihhlidaaDoor
open Go.Sx
set_option maxRecDepth 100000
set_option pp.deepTerms false
set_option pp.maxSteps 300
set_option linter.unusedSimpArgs false
set_option linter.unusedVariables false

attribute [local irreducible] macD deriveS strS streamH sharedS chainS timesS pointS publicS blindH openB proofH decC routeS fillerH buildS unwrapS tagH leB unwrap1 unwrap2 unwrap3 agreeS
theorem rowH_snoc (l : List HopS) (h : HopS) : rowH (l ++ [h]) = rowH l ++ h.cs := by rw [rowH_append]; simp [rowH]
theorem hops_c (A R : HProp) (hE : Ent A R) (a : Option Addr) (cap : Nat) (l : List HopS) (hl : okHs l) (hr : Rd R a (rowH l)) (hn : l.length ≤ 100000) :
    Con Tryd.prog 13 [.c (.rs a l.length cap)] [] [] A (fun t : Option Addr × Nat => l.length ≤ t.2 ∧ (t.1 = none → l.length = 0)) (fun t => .c (.rs t.1 l.length t.2)) (fun _ => []) (fun t => [Own t.1 t.2 59 43 (rowH l)]) := by
  have hr := hr.ent hE
  refine Con.of' tt_ok Tryd.func13 rfl (by decide) [.c (.rs a l.length cap)] [] [] rfl rfl trivial (by repeat' (first | exact trivial | rfl | apply And.intro)) rfl ?_
  conv => whnf
  refine LoopOb.mk' (σ := Nat × Option Addr × Nat) (fun s => [(3, .c (.rs s.2.1 s.1 s.2.2)), (6, .c (.rs a l.length cap)), (7, .c (.int .i64 l.length)), (8, .c (.int .i64 s.1))])
    (fun s => ⟨[], [], [Own s.2.1 s.2.2 59 43 (rowH (l.take s.1)), A]⟩) (fun s => s.1 ≤ l.length ∧ s.1 ≤ s.2.2 ∧ (s.2.1 = none → s.1 = 0)) (fun s => l.length - s.1) (0, none, 0) ⟨Nat.zero_le _, Nat.le_refl _, fun _ => rfl⟩ ?_ ?_
  · refine Wk.own0 59 43 ?_
    exact Wk.mk' [] [0, 0] (by repeat' (first | exact trivial | rfl | apply And.intro)) trivial ⟨rfl, rfl⟩
  rintro ⟨i, a3, c3⟩ ⟨hi, hc, hz⟩
  dsimp only at hi hc hz ⊢
  conv => whnf
  refine Cond.dec (fun h => ?_) (fun h => ?_)
  · have hi' : i < l.length := by omega
    have o : l[i].ok := hl _ (List.getElem_mem hi')
    conv => whnf
    refine ⟨by omega, PtrOb.rd (A := A) (by simp) hr (by rw [rowH_len hl]; omega) fun p hp => ?_⟩
    subst hp
    conv => whnf
    refine ldh (A := A) (l := l) i (by simp) hr hl hi' rfl rfl rfl (by show _ + (i : Int).toNat * 43 = _; omega) ?_
    conv => whnf
    intro b5
    conv => whnf
    refine Draw.all (by kernel_rfl) tt_ok (Tv.of (List.range 10) .nil) 8 (by kernel_rfl) ?_
    conv => whnf
    refine CallOb.pu (theirs9_c _ l[i].cmd o.c) rfl ?_
    conv => whnf
    refine Sub.whole ?_
    conv => whnf
    intro b19
    conv => whnf
    refine Sub.parts [5] [0, 0] ⟨rfl, rfl⟩ ?_
    conv => whnf
    have htl : (l.take i).length = i := by rw [List.length_take]; omega
    refine append_own (a := a3) (n := i) (cap := c3) (xs := rowH (l.take i)) (k := 1) (ys := l[i].cs) (src := .c (.slc 19 0 1 1)) (F' := [A]) (.refl _) (by rw [rowH_len (okHs_take hl i), htl]) (by rw [HopS.cs_len o]; rfl) (Src.slc (by exact ⟨[], by show _ = l[i].cs ++ []; simp [HopS.cs, dens, Seg.den, SC.den]⟩)) (HopS.one o) (by show (i + 1 + (i + 1) / 4 + 192) * 64 ≤ 281474976710656; omega) (by omega) (by decide) 51 (.inr rfl) ?_
    intro a4 c4 hc4 hn4
    rw [← rowH_snoc, ← List.take_succ_eq_append_getElem hi']
    conv => whnf
    refine Ar.i64 (by omega) ?_
    conv => whnf
    exact ⟨(i + 1, a4, c4), ⟨by dsimp only; omega, hc4, fun e => absurd (hn4 e) (by omega)⟩, by dsimp only; omega, Wk.mk' [] [0, 0] (by repeat' (first | exact trivial | rfl | apply And.intro)) trivial ⟨rfl, rfl⟩⟩
  obtain rfl : i = l.length := by omega
  rw [List.take_length]
  conv => whnf
  exact Ret.mk' (a3, c3) [] [0, 0] ⟨hc, hz⟩ rfl (by repeat' (first | exact trivial | rfl | apply And.intro)) (by repeat' (first | exact trivial | rfl | apply And.intro)) ⟨rfl, rfl⟩
/-- A hop's key is read. -/
theorem ldhk {t : Nat} {x : TyX} {b off : Nat} {m : M} {f : SV → Prop} {A : HProp} {p : Nat × Nat} {l : List HopS} (i : Nat) (hA : A ∈ m.F) (hr : Rd A (some (radr p)) (rowH l)) (h : okHs l) (hi : i < l.length)
    (hx : x.k.agg = true) (hn : x.size = 32) (hb : b = p.1) (ho : off = p.2 + i * 43) (hf : f (.agg [.many 32 (u8s l[i].key)])) : With (Ty Tryd.prog t x) (LdOb Tryd.prog t ⟨b, off, none⟩ m f) := by
  have o : l[i].ok := h _ (List.getElem_mem hi)
  have ed : ∀ B : Names, dens B [.many 32 (u8s l[i].key)] = u8s l[i].key := fun B => List.append_nil _
  refine lds (A := A) (i * 43) [.many 32 (u8s l[i].key)] hx hA hr hb ho ?_ ?_ (by omega) (okL_spec ⟨many_ok o.k _, trivial⟩) hf
  · rw [ed, hn, rowH_drop h _ (by omega), List.drop_eq_getElem_cons hi]
    show _ = ((u8s l[i].key ++ dens [] l[i].cmd.sg) ++ rowH (l.drop (i + 1))).take 32
    rw [List.append_assoc, ← o.k, ← u8s_length, List.take_left]
  · rw [ed, u8s_length, o.k, hn]
theorem first_c (W : World) (hK : Gl (old W)) (x : List UInt8) (hx : x.length = 32) (a : Option Addr) (cap : Nat) (l : List HopS) (hl : okHs l) (hr : Rd (old W) a (rowH l)) : LawC Tryd.prog 5 [.agg [.many 32 (u8s x)], .c (.rs a l.length cap)] W := by
  have hks := many_ok hx
  have hB := built (x := x) hl
  have CB := fun A R hE hK a c hr hn => build_h A R hE hK x hx a c l hl hr hn
  generalize buildS x l = B at hB CB
  obtain ⟨⟨al, be, ga⟩, ks, e⟩ := B
  have ok1 := hB.ok; have oks := hB.ks; have hbad := hB.bad; have hlen := hB.len; have hal := hB.alpha; have hga := hB.gamma; have hfi := hB.first
  clear hB
  dsimp only at ok1 oks hbad hlen hal hga hfi CB
  have a1 := ok1.a; have a2 := ok1.b; have a3 := ok1.g
  dsimp only at a1 a2 a3
  refine Con.of' tt_ok Tryd.func5 rfl (by decide) [.agg [.many 32 (u8s x)], .c (.rs a l.length cap)] [] [] rfl rfl trivial ⟨⟨hks _, trivial⟩, trivial, trivial⟩ rfl ?_
  conv => whnf
  intro b2
  conv => whnf
  refine CallOb.pu (alive_c _ (hK.ent (Ent.all (by first | (simp; done) | (simp [M.props]; done) | (simp [M.props]; first | (left; rfl) | (right; left; rfl) | (right; right; left; rfl) | (right; right; right; left; rfl) | (right; right; right; right; left; rfl)) | exact (.head _ : List.Mem _ _) | exact (.tail _ (.head _) : List.Mem _ _) | exact (.tail _ (.tail _ (.head _)) : List.Mem _ _) | exact (.tail _ (.tail _ (.tail _ (.head _))) : List.Mem _ _) | exact (.tail _ (.tail _ (.tail _ (.tail _ (.head _)))) : List.Mem _ _) | exact (.tail _ (.tail _ (.tail _ (.tail _ (.tail _ (.head _))))) : List.Mem _ _) | exact (.tail _ (.tail _ (.tail _ (.tail _ (.tail _ (.tail _ (.head _)))))) : List.Mem _ _) | exact (.tail _ (.tail _ (.tail _ (.tail _ (.tail _ (.tail _ (.tail _ (.head _))))))) : List.Mem _ _) | exact (.tail _ (.tail _ (.tail _ (.tail _ (.tail _ (.tail _ (.tail _ (.tail _ (.head _)))))))) : List.Mem _ _))))) rfl ?_
  conv => whnf
  refine Cond.dec (fun h => ?_) (fun h => ?_)
  · conv => whnf
    exact Ret.mk' () [] [0] trivial rfl (by repeat' (first | exact trivial | rfl | apply And.intro)) (by repeat' (first | exact trivial | rfl | apply And.intro)) ⟨rfl, rfl⟩
  have h20 : l.length ≤ 20 := by omega
  conv => whnf
  refine Draw.cut (σ := Nat × Option Addr × Nat) (fun s => [(1, .c (.rs a l.length cap)), (2, .c (.ptr 2 0)), (5, .c (.ptr 5 0)), (6, .c (.rs s.2.1 ks.length s.2.2)), (7, .c (.int .i64 e))])
    (fun s => ⟨[(5, s.1), (2, b2)], [(5, [.many 32 (u8s al), .many 160 (u8s be), .many 16 (u8s ga)], 29), (2, [.many 32 (u8s x)], 23)], [RowK s.2.1 s.2.2 23 ks, old W]⟩) (fun s => Fc s.2.1 s.2.2 ks) ?_ ?_
  · refine Draw.all (by kernel_rfl) tt_ok (Tv.of [0, 1] (.two 2 ((.two 3 (Tv.of [4, 5, 6, 7, 8, 9, 10, 11] .nil) 8 (Tv.of [3, 4, 5, 6, 7, 9, 10, 11] .nil))) 8 (Tv.of [2, 3, 4, 5, 6, 7, 9, 10, 11] .nil))) 1000000 (by kernel_rfl) ?_
    conv => whnf
    refine ⟨?_, ?_⟩
    · skip
      conv => whnf
      refine CallOb.new (hops_c _ (old W) (Ent.all (by first | (simp; done) | (simp [M.props]; done) | (simp [M.props]; first | (left; rfl) | (right; left; rfl) | (right; right; left; rfl) | (right; right; right; left; rfl) | (right; right; right; right; left; rfl)) | exact (.head _ : List.Mem _ _) | exact (.tail _ (.head _) : List.Mem _ _) | exact (.tail _ (.tail _ (.head _)) : List.Mem _ _) | exact (.tail _ (.tail _ (.tail _ (.head _))) : List.Mem _ _) | exact (.tail _ (.tail _ (.tail _ (.tail _ (.head _)))) : List.Mem _ _) | exact (.tail _ (.tail _ (.tail _ (.tail _ (.tail _ (.head _))))) : List.Mem _ _) | exact (.tail _ (.tail _ (.tail _ (.tail _ (.tail _ (.tail _ (.head _)))))) : List.Mem _ _) | exact (.tail _ (.tail _ (.tail _ (.tail _ (.tail _ (.tail _ (.tail _ (.head _))))))) : List.Mem _ _) | exact (.tail _ (.tail _ (.tail _ (.tail _ (.tail _ (.tail _ (.tail _ (.tail _ (.head _)))))))) : List.Mem _ _))) a cap l hl hr (by omega)) rfl ?_
      rintro ⟨ah, ch⟩ hh
      dsimp only at hh ⊢
      refine Sub.parts [2] [1] ⟨rfl, rfl⟩ ?_
      conv => whnf
      refine ⟨?_, ?_⟩
      · skip
        conv => whnf
        refine CallOb.new (CB _ (Own ah ch 59 43 (rowH l)) (Ent.all (by first | (simp; done) | (simp [M.props]; done) | (simp [M.props]; first | (left; rfl) | (right; left; rfl) | (right; right; left; rfl) | (right; right; right; left; rfl) | (right; right; right; right; left; rfl)) | exact (.head _ : List.Mem _ _) | exact (.tail _ (.head _) : List.Mem _ _) | exact (.tail _ (.tail _ (.head _)) : List.Mem _ _) | exact (.tail _ (.tail _ (.tail _ (.head _))) : List.Mem _ _) | exact (.tail _ (.tail _ (.tail _ (.tail _ (.head _)))) : List.Mem _ _) | exact (.tail _ (.tail _ (.tail _ (.tail _ (.tail _ (.head _))))) : List.Mem _ _) | exact (.tail _ (.tail _ (.tail _ (.tail _ (.tail _ (.tail _ (.head _)))))) : List.Mem _ _) | exact (.tail _ (.tail _ (.tail _ (.tail _ (.tail _ (.tail _ (.tail _ (.head _))))))) : List.Mem _ _) | exact (.tail _ (.tail _ (.tail _ (.tail _ (.tail _ (.tail _ (.tail _ (.tail _ (.head _)))))))) : List.Mem _ _))) (hK.ent (Ent.all (by first | (simp; done) | (simp [M.props]; done) | (simp [M.props]; first | (left; rfl) | (right; left; rfl) | (right; right; left; rfl) | (right; right; right; left; rfl) | (right; right; right; right; left; rfl)) | exact (.head _ : List.Mem _ _) | exact (.tail _ (.head _) : List.Mem _ _) | exact (.tail _ (.tail _ (.head _)) : List.Mem _ _) | exact (.tail _ (.tail _ (.tail _ (.head _))) : List.Mem _ _) | exact (.tail _ (.tail _ (.tail _ (.tail _ (.head _)))) : List.Mem _ _) | exact (.tail _ (.tail _ (.tail _ (.tail _ (.tail _ (.head _))))) : List.Mem _ _) | exact (.tail _ (.tail _ (.tail _ (.tail _ (.tail _ (.tail _ (.head _)))))) : List.Mem _ _) | exact (.tail _ (.tail _ (.tail _ (.tail _ (.tail _ (.tail _ (.tail _ (.head _))))))) : List.Mem _ _) | exact (.tail _ (.tail _ (.tail _ (.tail _ (.tail _ (.tail _ (.tail _ (.tail _ (.head _)))))))) : List.Mem _ _)))) ah ch Own.rd (by omega)) rfl ?_
        rintro ⟨a6, c6⟩ h6
        dsimp only at h6 ⊢
        refine Sub.parts [2] [2] ⟨rfl, rfl⟩ ?_
        conv => whnf
        intro b5
        refine Sub.parts [2] [2] ⟨rfl, rfl⟩ ?_
        conv => whnf
        refine Sub.parts [2] [2] ⟨rfl, rfl⟩ ?_
        conv => whnf
        exact ⟨(b5, a6, c6), h6, Wk.mk' [5, 2] [0, 1] ⟨⟨rfl, (by repeat' (first | exact trivial | rfl | apply And.intro))⟩, ⟨rfl, (by repeat' (first | exact trivial | rfl | apply And.intro))⟩, ⟨rfl, (by repeat' (first | exact trivial | rfl | apply And.intro))⟩, ⟨rfl, (by repeat' (first | exact trivial | rfl | apply And.intro))⟩, ⟨rfl, (by repeat' (first | exact trivial | rfl | apply And.intro))⟩, trivial⟩ ⟨⟨(by repeat' (first | exact trivial | rfl | apply And.intro)), HdrS.okL ok1 _⟩, ⟨(by repeat' (first | exact trivial | rfl | apply And.intro)), hks _, trivial⟩, trivial⟩ ⟨rfl, rfl⟩⟩
      · skip
        conv => whnf
        intro b5
        refine Sub.parts [2] [1] ⟨rfl, rfl⟩ ?_
        conv => whnf
        refine CallOb.new (CB _ (Own ah ch 59 43 (rowH l)) (Ent.all (by first | (simp; done) | (simp [M.props]; done) | (simp [M.props]; first | (left; rfl) | (right; left; rfl) | (right; right; left; rfl) | (right; right; right; left; rfl) | (right; right; right; right; left; rfl)) | exact (.head _ : List.Mem _ _) | exact (.tail _ (.head _) : List.Mem _ _) | exact (.tail _ (.tail _ (.head _)) : List.Mem _ _) | exact (.tail _ (.tail _ (.tail _ (.head _))) : List.Mem _ _) | exact (.tail _ (.tail _ (.tail _ (.tail _ (.head _)))) : List.Mem _ _) | exact (.tail _ (.tail _ (.tail _ (.tail _ (.tail _ (.head _))))) : List.Mem _ _) | exact (.tail _ (.tail _ (.tail _ (.tail _ (.tail _ (.tail _ (.head _)))))) : List.Mem _ _) | exact (.tail _ (.tail _ (.tail _ (.tail _ (.tail _ (.tail _ (.tail _ (.head _))))))) : List.Mem _ _) | exact (.tail _ (.tail _ (.tail _ (.tail _ (.tail _ (.tail _ (.tail _ (.tail _ (.head _)))))))) : List.Mem _ _))) (hK.ent (Ent.all (by first | (simp; done) | (simp [M.props]; done) | (simp [M.props]; first | (left; rfl) | (right; left; rfl) | (right; right; left; rfl) | (right; right; right; left; rfl) | (right; right; right; right; left; rfl)) | exact (.head _ : List.Mem _ _) | exact (.tail _ (.head _) : List.Mem _ _) | exact (.tail _ (.tail _ (.head _)) : List.Mem _ _) | exact (.tail _ (.tail _ (.tail _ (.head _))) : List.Mem _ _) | exact (.tail _ (.tail _ (.tail _ (.tail _ (.head _)))) : List.Mem _ _) | exact (.tail _ (.tail _ (.tail _ (.tail _ (.tail _ (.head _))))) : List.Mem _ _) | exact (.tail _ (.tail _ (.tail _ (.tail _ (.tail _ (.tail _ (.head _)))))) : List.Mem _ _) | exact (.tail _ (.tail _ (.tail _ (.tail _ (.tail _ (.tail _ (.tail _ (.head _))))))) : List.Mem _ _) | exact (.tail _ (.tail _ (.tail _ (.tail _ (.tail _ (.tail _ (.tail _ (.tail _ (.head _)))))))) : List.Mem _ _)))) ah ch Own.rd (by omega)) rfl ?_
        rintro ⟨a6, c6⟩ h6
        dsimp only at h6 ⊢
        refine Sub.parts [2] [2] ⟨rfl, rfl⟩ ?_
        conv => whnf
        refine Sub.parts [2] [2] ⟨rfl, rfl⟩ ?_
        conv => whnf
        exact ⟨(b5, a6, c6), h6, Wk.mk' [5, 2] [0, 1] ⟨⟨rfl, (by repeat' (first | exact trivial | rfl | apply And.intro))⟩, ⟨rfl, (by repeat' (first | exact trivial | rfl | apply And.intro))⟩, ⟨rfl, (by repeat' (first | exact trivial | rfl | apply And.intro))⟩, ⟨rfl, (by repeat' (first | exact trivial | rfl | apply And.intro))⟩, ⟨rfl, (by repeat' (first | exact trivial | rfl | apply And.intro))⟩, trivial⟩ ⟨⟨(by repeat' (first | exact trivial | rfl | apply And.intro)), HdrS.okL ok1 _⟩, ⟨(by repeat' (first | exact trivial | rfl | apply And.intro)), hks _, trivial⟩, trivial⟩ ⟨rfl, rfl⟩⟩
    · skip
      conv => whnf
      intro b5
      refine Sub.parts [2] [0] ⟨rfl, rfl⟩ ?_
      conv => whnf
      refine CallOb.new (hops_c _ (old W) (Ent.all (by first | (simp; done) | (simp [M.props]; done) | (simp [M.props]; first | (left; rfl) | (right; left; rfl) | (right; right; left; rfl) | (right; right; right; left; rfl) | (right; right; right; right; left; rfl)) | exact (.head _ : List.Mem _ _) | exact (.tail _ (.head _) : List.Mem _ _) | exact (.tail _ (.tail _ (.head _)) : List.Mem _ _) | exact (.tail _ (.tail _ (.tail _ (.head _))) : List.Mem _ _) | exact (.tail _ (.tail _ (.tail _ (.tail _ (.head _)))) : List.Mem _ _) | exact (.tail _ (.tail _ (.tail _ (.tail _ (.tail _ (.head _))))) : List.Mem _ _) | exact (.tail _ (.tail _ (.tail _ (.tail _ (.tail _ (.tail _ (.head _)))))) : List.Mem _ _) | exact (.tail _ (.tail _ (.tail _ (.tail _ (.tail _ (.tail _ (.tail _ (.head _))))))) : List.Mem _ _) | exact (.tail _ (.tail _ (.tail _ (.tail _ (.tail _ (.tail _ (.tail _ (.tail _ (.head _)))))))) : List.Mem _ _))) a cap l hl hr (by omega)) rfl ?_
      rintro ⟨ah, ch⟩ hh
      dsimp only at hh ⊢
      refine Sub.parts [2] [1] ⟨rfl, rfl⟩ ?_
      conv => whnf
      refine CallOb.new (CB _ (Own ah ch 59 43 (rowH l)) (Ent.all (by first | (simp; done) | (simp [M.props]; done) | (simp [M.props]; first | (left; rfl) | (right; left; rfl) | (right; right; left; rfl) | (right; right; right; left; rfl) | (right; right; right; right; left; rfl)) | exact (.head _ : List.Mem _ _) | exact (.tail _ (.head _) : List.Mem _ _) | exact (.tail _ (.tail _ (.head _)) : List.Mem _ _) | exact (.tail _ (.tail _ (.tail _ (.head _))) : List.Mem _ _) | exact (.tail _ (.tail _ (.tail _ (.tail _ (.head _)))) : List.Mem _ _) | exact (.tail _ (.tail _ (.tail _ (.tail _ (.tail _ (.head _))))) : List.Mem _ _) | exact (.tail _ (.tail _ (.tail _ (.tail _ (.tail _ (.tail _ (.head _)))))) : List.Mem _ _) | exact (.tail _ (.tail _ (.tail _ (.tail _ (.tail _ (.tail _ (.tail _ (.head _))))))) : List.Mem _ _) | exact (.tail _ (.tail _ (.tail _ (.tail _ (.tail _ (.tail _ (.tail _ (.tail _ (.head _)))))))) : List.Mem _ _))) (hK.ent (Ent.all (by first | (simp; done) | (simp [M.props]; done) | (simp [M.props]; first | (left; rfl) | (right; left; rfl) | (right; right; left; rfl) | (right; right; right; left; rfl) | (right; right; right; right; left; rfl)) | exact (.head _ : List.Mem _ _) | exact (.tail _ (.head _) : List.Mem _ _) | exact (.tail _ (.tail _ (.head _)) : List.Mem _ _) | exact (.tail _ (.tail _ (.tail _ (.head _))) : List.Mem _ _) | exact (.tail _ (.tail _ (.tail _ (.tail _ (.head _)))) : List.Mem _ _) | exact (.tail _ (.tail _ (.tail _ (.tail _ (.tail _ (.head _))))) : List.Mem _ _) | exact (.tail _ (.tail _ (.tail _ (.tail _ (.tail _ (.tail _ (.head _)))))) : List.Mem _ _) | exact (.tail _ (.tail _ (.tail _ (.tail _ (.tail _ (.tail _ (.tail _ (.head _))))))) : List.Mem _ _) | exact (.tail _ (.tail _ (.tail _ (.tail _ (.tail _ (.tail _ (.tail _ (.tail _ (.head _)))))))) : List.Mem _ _)))) ah ch Own.rd (by omega)) rfl ?_
      rintro ⟨a6, c6⟩ h6
      dsimp only at h6 ⊢
      refine Sub.parts [2] [2] ⟨rfl, rfl⟩ ?_
      conv => whnf
      refine Sub.parts [2] [2] ⟨rfl, rfl⟩ ?_
      conv => whnf
      exact ⟨(b5, a6, c6), h6, Wk.mk' [5, 2] [0, 1] ⟨⟨rfl, (by repeat' (first | exact trivial | rfl | apply And.intro))⟩, ⟨rfl, (by repeat' (first | exact trivial | rfl | apply And.intro))⟩, ⟨rfl, (by repeat' (first | exact trivial | rfl | apply And.intro))⟩, ⟨rfl, (by repeat' (first | exact trivial | rfl | apply And.intro))⟩, ⟨rfl, (by repeat' (first | exact trivial | rfl | apply And.intro))⟩, trivial⟩ ⟨⟨(by repeat' (first | exact trivial | rfl | apply And.intro)), HdrS.okL ok1 _⟩, ⟨(by repeat' (first | exact trivial | rfl | apply And.intro)), hks _, trivial⟩, trivial⟩ ⟨rfl, rfl⟩⟩
  rintro ⟨b5, a6, c6⟩ h6
  dsimp only at h6 ⊢
  conv => whnf
  refine Cond.neI (fun h1 => ?_) (fun h1 => ?_)
  · obtain ⟨q1, q2⟩ := hbad h1
    conv => whnf
    refine eq_hdr (c := hdr0) (d := hdr0) hdr0_ok hdr0_ok (by rw [← q1]; rfl) (by rfl) fun b hb => ?_
    obtain rfl : b = true := hb.2 rfl
    rw [q2]
    conv => whnf
    refine ⟨(fun _ => ?_), (fun e => nomatch e)⟩
    conv => whnf
    exact Ret.mk' () [] [1] trivial rfl (by repeat' (first | exact trivial | rfl | apply And.intro)) (by repeat' (first | exact trivial | rfl | apply And.intro)) ⟨rfl, rfl⟩
  obtain ⟨hkl, h1l⟩ := hlen h1
  obtain ⟨f1, f2⟩ := hfi h1 (by omega)
  have hal := hal h1
  have hga := hga h1
  have CS := fun A => shared_c A x l[0].key hx (hl _ (List.getElem_mem (by omega : 0 < l.length))).k
  have hsl := sharedS_len x l[0].key
  generalize sharedS x l[0].key = S at f1 f2 CS hsl
  obtain ⟨s, e1⟩ := S
  dsimp only at f1 f2 CS hsl
  subst f1
  conv => whnf
  refine Draw.cut (σ := Nat) (fun b => [(1, .c (.rs a l.length cap)), (2, .c (.ptr 2 0)), (5, .c (.ptr 5 0)), (6, .c (.rs a6 ks.length c6)), (8, .c (.ptr 8 0)), (9, .c (.int .i64 0))])
    (fun b => ⟨[(8, b), (5, b5), (2, b2)], [(8, [.many 32 (u8s s)], 23), (5, [.many 32 (u8s al), .many 160 (u8s be), .many 16 (u8s ga)], 29), (2, [.many 32 (u8s x)], 23)], [RowK a6 c6 23 ks, old W]⟩) (fun _ => True) ?_ ?_
  · refine Draw.all (by kernel_rfl) tt_ok (Tv.of [0, 1, 2, 3, 4] (.two 5 (Tv.of [6, 7, 8, 9, 10, 11] .nil) 9 (Tv.of [5, 6, 7, 8, 10, 11] .nil))) 1000000 (by kernel_rfl) ?_
    conv => whnf
    refine ⟨by omega, PtrOb.rd (A := old W) (by simp) hr (by rw [rowH_len hl]; omega) fun p hp => ?_⟩
    subst hp
    conv => whnf
    refine ldhk (A := old W) (l := l) 0 (by simp) hr hl (by omega) rfl rfl rfl rfl ?_
    conv => whnf
    refine ⟨?_, ?_⟩
    · skip
      conv => whnf
      refine CallOb.pu (CS _) rfl ?_
      refine Sub.parts [5, 2] [0, 0] ⟨rfl, rfl⟩ ?_
      conv => whnf
      intro b8
      refine Sub.parts [5, 2] [0, 0] ⟨rfl, rfl⟩ ?_
      conv => whnf
      refine Sub.parts [5, 2] [0, 0] ⟨rfl, rfl⟩ ?_
      conv => whnf
      exact ⟨b8, trivial, Wk.mk' [8, 5, 2] [0, 0] ⟨⟨rfl, (by repeat' (first | exact trivial | rfl | apply And.intro))⟩, ⟨rfl, (by repeat' (first | exact trivial | rfl | apply And.intro))⟩, ⟨rfl, (by repeat' (first | exact trivial | rfl | apply And.intro))⟩, ⟨rfl, (by repeat' (first | exact trivial | rfl | apply And.intro))⟩, ⟨rfl, (by repeat' (first | exact trivial | rfl | apply And.intro))⟩, ⟨rfl, (by repeat' (first | exact trivial | rfl | apply And.intro))⟩, trivial⟩ ⟨⟨(by repeat' (first | exact trivial | rfl | apply And.intro)), many_ok hsl _, trivial⟩, ⟨(by repeat' (first | exact trivial | rfl | apply And.intro)), HdrS.okL ok1 _⟩, ⟨(by repeat' (first | exact trivial | rfl | apply And.intro)), hks _, trivial⟩, trivial⟩ ⟨rfl, rfl⟩⟩
    · skip
      conv => whnf
      intro b8
      refine Sub.parts [5, 2] [0, 0] ⟨rfl, rfl⟩ ?_
      conv => whnf
      refine CallOb.pu (CS _) rfl ?_
      refine Sub.parts [5, 2] [0, 0] ⟨rfl, rfl⟩ ?_
      conv => whnf
      refine Sub.parts [5, 2] [0, 0] ⟨rfl, rfl⟩ ?_
      conv => whnf
      exact ⟨b8, trivial, Wk.mk' [8, 5, 2] [0, 0] ⟨⟨rfl, (by repeat' (first | exact trivial | rfl | apply And.intro))⟩, ⟨rfl, (by repeat' (first | exact trivial | rfl | apply And.intro))⟩, ⟨rfl, (by repeat' (first | exact trivial | rfl | apply And.intro))⟩, ⟨rfl, (by repeat' (first | exact trivial | rfl | apply And.intro))⟩, ⟨rfl, (by repeat' (first | exact trivial | rfl | apply And.intro))⟩, ⟨rfl, (by repeat' (first | exact trivial | rfl | apply And.intro))⟩, trivial⟩ ⟨⟨(by repeat' (first | exact trivial | rfl | apply And.intro)), many_ok hsl _, trivial⟩, ⟨(by repeat' (first | exact trivial | rfl | apply And.intro)), HdrS.okL ok1 _⟩, ⟨(by repeat' (first | exact trivial | rfl | apply And.intro)), hks _, trivial⟩, trivial⟩ ⟨rfl, rfl⟩⟩
  intro b8 _
  conv => whnf
  refine Draw.all (by kernel_rfl) tt_ok (Tv.of [0, 1, 2, 3, 4, 5, 6, 7, 8, 9, 10, 11, 12, 13, 14, 15, 16, 17, 18, 19, 20, 21, 22, 23, 24, 25, 26, 28, 29, 27, 30, 31, 32] .nil) 1000000 (by kernel_rfl) ?_
  conv => whnf
  refine Cond.eqI (fun _ => ?_) (fun h => absurd h (by omega))
  conv => whnf
  refine Cond.eqI (fun _ => ?_) (fun h => absurd rfl h)
  conv => whnf
  have hk0 : ks[0]'(by omega) = s := by rw [← kAt_eq]; exact f2
  refine ⟨by omega, PtrOb.rd (A := RowK a6 c6 23 ks) (by simp) Own.rd (by rw [rowK_len oks]; omega) fun p6 hp6 => ?_⟩
  subst hp6
  conv => whnf
  refine ldk (A := RowK (some (radr p6)) c6 23 ks) (l := ks) 0 (by simp) Own.rd oks (by omega) rfl rfl rfl rfl ?_
  rw [hk0]
  conv => whnf
  refine eq_key (l := s) (m := s) hsl hsl (by simp [dens, Seg.den]) (by simp [dens, Seg.den]) ?_
  conv => whnf
  refine Cond.dec (fun _ => ?_) (fun h => absurd rfl h)
  conv => whnf
  refine CallOb.pu (public_c _ x hx) rfl ?_
  conv => whnf
  refine Sub.parts [8, 5, 2] [0, 0] ⟨rfl, rfl⟩ ?_
  conv => whnf
  refine eq_key (l := al) (m := al) a1 a1 (by simp [dens, Seg.den]) (by rw [← hal]; simp [dens, Seg.den]) ?_
  conv => whnf
  refine Cond.dec (fun _ => ?_) (fun h => absurd rfl h)
  conv => whnf
  refine CallOb.pu (proof_H _ (hK.ent (Ent.all (by first | (simp; done) | (simp [M.props]; done) | (simp [M.props]; first | (left; rfl) | (right; left; rfl) | (right; right; left; rfl) | (right; right; right; left; rfl) | (right; right; right; right; left; rfl)) | exact (.head _ : List.Mem _ _) | exact (.tail _ (.head _) : List.Mem _ _) | exact (.tail _ (.tail _ (.head _)) : List.Mem _ _) | exact (.tail _ (.tail _ (.tail _ (.head _))) : List.Mem _ _) | exact (.tail _ (.tail _ (.tail _ (.tail _ (.head _)))) : List.Mem _ _) | exact (.tail _ (.tail _ (.tail _ (.tail _ (.tail _ (.head _))))) : List.Mem _ _) | exact (.tail _ (.tail _ (.tail _ (.tail _ (.tail _ (.tail _ (.head _)))))) : List.Mem _ _) | exact (.tail _ (.tail _ (.tail _ (.tail _ (.tail _ (.tail _ (.tail _ (.head _))))))) : List.Mem _ _) | exact (.tail _ (.tail _ (.tail _ (.tail _ (.tail _ (.tail _ (.tail _ (.tail _ (.head _)))))))) : List.Mem _ _)))) s be hsl a2) rfl ?_
  rw [f2] at hga
  rw [hga]
  conv => whnf
  refine Sub.parts [8, 5, 2] [0, 0] ⟨rfl, rfl⟩ ?_
  conv => whnf
  refine eq_tagH (l := ga) (m := ga) a3 a3 (by simp [dens, Seg.den]) (by simp [dens, Seg.den]) ?_
  conv => whnf
  rw [decide_eq_true rfl]
  exact Ret.mk' () [] [1] trivial rfl (by repeat' (first | exact trivial | rfl | apply And.intro)) (by repeat' (first | exact trivial | rfl | apply And.intro)) ⟨rfl, rfl⟩
end Go.Proofs.YtlceapjihhlidaaDoor

/- header: the law First at any arguments. -/
namespace Go.Proofs.YtlceapjihhlidaaDoor
open Go.Sx
open Go.RowKit (Below)
set_option maxRecDepth 100000
set_option pp.deepTerms false
set_option pp.maxSteps 300
set_option linter.unusedSimpArgs false
set_option linter.unusedVariables false

def hopSh : Sh := .pair (.barr 32) (.pair cmdShH .unit)
def hopOf (z : hopSh.T) : HopS := ⟨z.1, ⟨z.2.1.1, z.2.1.2.1, z.2.1.2.2.1, z.2.1.2.2.2.1⟩⟩
def HopR (h : HopS) (cs : List Value) : Prop := cs = h.cs ∧ h.ok
theorem hop_of {R : HProp} (z : hopSh.T) (cs : List Value) (h : Go.Sx.Good R hopSh z cs) : HopR (hopOf z) cs := by
  obtain ⟨k, ⟨ck, cn, cd, id, u0⟩, u⟩ := z
  obtain ⟨c1, c2, rfl, ⟨h1, rfl⟩, c3, c4, rfl, ⟨d1, d2, rfl, ⟨rfl, w1⟩, d3, d4, rfl, ⟨rfl, w2⟩, d5, d6, rfl, ⟨rfl, w3⟩, d7, d8, rfl, ⟨h2, rfl⟩, rfl⟩, rfl⟩ := h
  exact ⟨by simp [HopS.cs, hopOf, dens, Seg.den, SC.den], ⟨h1, h2⟩⟩
theorem fitsHops : Fits Tryd.prog (.slice hopSh) 47 = true := by simp only [Fits, FitsFs, hopSh, cmdShH, Tryd.underlying47, Tryd.underlying56, Tryd.underlying54, Tryd.underlying23, Tryd.underlying31, Tryd.underlying3, Tryd.underlying5]; kernel_rfl
theorem row_cells : ∀ (l : List HopS) (xs : List Value), xs.length = l.length * 43 → (∀ i (h : i < l.length), HopR l[i] ((xs.drop (i * 43)).take 43)) → xs = rowH l ∧ okHs l
  | [], xs, hn, _ => by
    have : xs = [] := List.eq_nil_of_length_eq_zero (by simpa using hn)
    subst this
    exact ⟨rfl, fun h hh => absurd hh (by simp)⟩
  | y :: r, xs, hn, h => by
    have h0 := h 0 (by simp)
    have hl : xs.length = r.length * 43 + 43 := by rw [hn, List.length_cons]; omega
    obtain ⟨e, ok⟩ := row_cells r (xs.drop 43) (by rw [List.length_drop, hl]; omega) fun i hi => by
      have := h (i + 1) (by simpa using hi)
      rw [show (i + 1) * 43 = 43 + i * 43 by omega, ← List.drop_drop] at this
      exact this
    have e0 : xs.take 43 = y.cs := by
      have := h0.1
      rw [Nat.zero_mul, List.drop_zero] at this
      exact this
    refine ⟨?_, fun k hk => ?_⟩
    · rw [← List.take_append_drop 43 xs, e0, e]; rfl
    · rcases List.mem_cons.1 hk with rfl | hk
      · exact h0.2
      · exact ok k hk
section
variable {H : Type} {enc : TypeId × Value → H} {base : Nat} {v0 v1 v2 : Value} {d0 d1 d2 : DataW H} {p0 p1 p2 : List MemPlace}
theorem arg_hops (W : World) (ok0 : Value.okWide Tryd.prog W .any base 47 v0) (h0 : DataW.Trod enc Tryd.prog W 0 (fun _ => true) true 47 v0 d0 p0) :
    ∃ a cap l, v0 = .slice a l.length cap ∧ Rd (old W) a (rowH l) ∧ okHs l := by
  obtain ⟨a, cap, l, rfl, _, h⟩ := arg_slice (s := hopSh) fitsHops ok0 h0
  have hrow : Row (old W) a 43 HopR (l.map hopOf) := (Vals.row h).map hopOf hop_of
  obtain ⟨xs, h1, h2, h3⟩ := hrow.at
  obtain ⟨rfl, hok⟩ := row_cells (l.map hopOf) xs h2 h3
  exact ⟨a, cap, l.map hopOf, by rw [List.length_map], h1, hok⟩
theorem headerFirst_law (W : World) (hL : laidMetH Tryd.prog kLaid W) (ok0 : Value.okWide Tryd.prog W .any base 23 v0) (ok1 : Value.okWide Tryd.prog W .any base 47 v1)
    (h0 : DataW.Trod enc Tryd.prog W 0 (fun _ => true) true 23 v0 d0 p0) (h1 : DataW.Trod enc Tryd.prog W 0 (fun _ => true) true 47 v1 d1 p1) :
    Calls Tryd.prog 5 #[v0, v1] W fun e w' => e = .returned (.bool true) ∧ Below W.heap.size W w' := by
  obtain ⟨k, rfl, hk⟩ := arg_key W ok0 h0
  obtain ⟨a, cap, l, rfl, hr, hl⟩ := arg_hops W ok1 h1
  exact law_calls (first_c W (gl_of_laid hL) k hk a cap l hl hr) rfl
end
end Go.Proofs.YtlceapjihhlidaaDoor
