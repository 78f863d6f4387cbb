/- The document's tags. -/
import Derived.Test.YtiimeklgjoclpaaDoorRc
namespace Go.Proofs.YtiimeklgjoclpaaDoor
open Go.Sx
set_option maxRecDepth 100000
set_option pp.deepTerms false
set_option pp.maxSteps 300
set_option linter.unusedSimpArgs false
set_option linter.unusedVariables false

theorem join_c (A R R' : HProp) (hE : Ent A R) (hE' : Ent A R') (a : Option Addr) (ca : Nat) (x : List UInt8) (hx : Rd R a (u8s x)) (hxl : x.length ≤ 2000000000) (b : Option Addr) (cb : Nat) (y : List UInt8) (hy : Rd R' b (u8s y)) (hyl : y.length ≤ 2000000000) :
    FB Tryd.prog 41 [.c (.rs a x.length ca), .c (.rs b y.length cb)] A 5 (x ++ y) := by
  refine Con.of' tt_ok Tryd.func41 rfl (by decide) [.c (.rs a x.length ca), .c (.rs b y.length cb)] [] [] rfl rfl trivial (by repeat' (first | exact trivial | rfl | apply And.intro)) rfl ?_
  conv => whnf
  intro b6
  conv => whnf
  refine With.own (i := 6) (n := 0) (cap := 0) (size := 1) ⟨_, _, rfl, ⟨rfl, Nat.le_refl _⟩, ?_⟩
  refine appb (l := []) (m := x) (.refl _) (Src.rs (A := A) (by simp) (hx.ent hE)) rfl rfl ⟨rfl, by decide, by decide⟩ (by simp; omega) 34 (.inr rfl) ?_
  intro a1 c1 hc1
  rw [List.nil_append] at hc1 ⊢
  conv => whnf
  refine appb (l := x) (m := y) (.refl _) (Src.rs (A := A) (by simp) (hy.ent hE')) rfl rfl ⟨rfl, by decide, by decide⟩ (by omega) 34 (.inr rfl) ?_
  intro a2 c2 hc2
  conv => whnf
  exact Ret.mk' (a2, c2) [] [0, 0] hc2 rfl (by repeat' (first | exact trivial | rfl | apply And.intro)) (by repeat' (first | exact trivial | rfl | apply And.intro)) ⟨rfl, rfl⟩
theorem take_succ8 {l : List UInt8} {i : Nat} (h : i < l.length) : l.take (i + 1) = l.take i ++ [l[i]] := List.take_succ_eq_append_getElem h
theorem gd_toNat {l : List UInt8} {i : Nat} (h : i < l.length) : (gd l i : Int) = (l[i].toNat : Int) := by rw [gd_eq h]
theorem rbytes_c (A : HProp) (k : List UInt8) (hk : k.length = 32) : FB Tryd.prog 45 [.agg [.many 32 (u8s k)]] A 5 k := by
  have hk32 := many_ok hk
  refine Con.of' tt_ok Tryd.func45 rfl (by decide) [.agg [.many 32 (u8s k)]] [] [] rfl rfl trivial ⟨⟨hk32 _, trivial⟩, trivial⟩ rfl ?_
  conv => whnf
  intro b1
  conv => whnf
  refine LoopOb.mk' (σ := Nat × Option Addr × Nat) (fun s => [(1, .c (.ptr 1 0)), (3, .c (.rs s.2.1 (k.take s.1).length s.2.2)), (4, .c (.int .i64 s.1))]) (fun s => ⟨[(1, b1)], [(1, [.many 32 (u8s k)], 23)], [Own s.2.1 s.2.2 5 1 (u8s (k.take s.1)), A]⟩)
    (fun s => s.1 ≤ 32 ∧ Fc s.2.1 s.2.2 (k.take s.1)) (fun s => 32 - s.1) (0, none, 0) ⟨Nat.zero_le _, Fc.nil⟩ ?_ ?_
  · refine Wk.own0 5 1 ?_
    exact Wk.mk' [1] [0, 0] (by repeat' (first | exact trivial | rfl | apply And.intro)) ⟨⟨trivial, hk32 _, trivial⟩, trivial⟩ ⟨rfl, rfl⟩
  rintro ⟨i, a1, c1⟩ ⟨hi, hc1⟩
  dsimp only at hi hc1 ⊢
  conv => whnf
  refine Cond.dec (fun h => ?_) (fun h => ?_)
  · have hi' : i < k.length := by omega
    conv => whnf
    refine ⟨by omega, ?_⟩
    refine elem_u8 i (by show (i : Int).toNat * 1 = i; omega) hi' ?_
    conv => whnf
    intro b13
    conv => whnf
    refine appb (l := k.take i) (m := [k[i]]) (.refl _) (by exact Src.u8 _ (gd_toNat hi') rfl) rfl rfl ⟨rfl, by decide, by decide⟩ (by simp; omega) 34 (.inr rfl) ?_
    intro a2 c2 hc2
    rw [← take_succ8 hi'] at hc2 ⊢
    conv => whnf
    refine Ar.i64 (by omega) ?_
    conv => whnf
    exact ⟨(i + 1, a2, c2), ⟨by dsimp only; omega, hc2⟩, by dsimp only; omega, Wk.mk' [1] [0, 0] (by repeat' (first | exact trivial | rfl | apply And.intro)) ⟨⟨trivial, hk32 _, trivial⟩, trivial⟩ ⟨rfl, rfl⟩⟩
  have hi' : i = 32 := by omega
  subst hi'
  rw [List.take_of_length_le (by omega)] at hc1 ⊢
  conv => whnf
  exact Ret.mk' (a1, c1) [] [0, 0] hc1 rfl (by repeat' (first | exact trivial | rfl | apply And.intro)) (by repeat' (first | exact trivial | rfl | apply And.intro)) ⟨rfl, rfl⟩
theorem rshort_c (A : HProp) (k : List UInt8) (hk : k.length = 32) : Pu Tryd.prog 43 [.agg [.many 32 (u8s k)]] A (.agg [.many 16 (u8s (k.take 16))]) := by
  have hk32 := many_ok hk
  have hz16 : ∀ B, Seg.ok B (.many 16 (List.replicate 16 (.int .u8 0))) := fun B => ⟨rfl, fun v hv => by simp at hv; subst hv; rfl⟩
  have hf := fun i (hi : i ≤ 16) => fillL_ok (l := k) (n := 16) (i := i) (by omega) hi
  refine Con.of' tt_ok Tryd.func43 rfl (by decide) [.agg [.many 32 (u8s k)]] [] [] rfl rfl trivial ⟨⟨hk32 _, trivial⟩, trivial⟩ rfl ?_
  conv => whnf
  intro b1
  conv => whnf
  intro b2
  conv => whnf
  intro b3
  conv => whnf
  refine LoopOb.mk' (σ := Nat) (fun i => [(1, .c (.ptr 1 0)), (2, .c (.ptr 2 0)), (3, .c (.ptr 3 0)), (4, .c (.int .i64 i))]) (fun i => ⟨[(3, b3), (2, b2), (1, b1)], [(3, [.many 16 (fillL k 16 i)], 45), (2, [.many 16 (List.replicate 16 (.int .u8 0))], 45), (1, [.many 32 (u8s k)], 23)], [A]⟩)
    (fun i => i ≤ 16) (fun i => 16 - i) 0 (Nat.zero_le _) ?_ ?_
  · rw [fillL_zero]
    exact Wk.mk' [3, 2, 1] [0] (by repeat' (first | exact trivial | rfl | apply And.intro)) ⟨⟨trivial, hz16 _, trivial⟩, ⟨trivial, hz16 _, trivial⟩, ⟨trivial, hk32 _, trivial⟩, trivial⟩ ⟨rfl, rfl⟩
  intro i hi
  conv => whnf
  refine Cond.dec (fun h => ?_) (fun h => ?_)
  · have hi' : i < k.length := by omega
    conv => whnf
    refine ⟨by omega, ?_⟩
    refine elem_u8 i (by show (i : Int).toNat * 1 = i; omega) hi' ?_
    conv => whnf
    refine ⟨by omega, ?_⟩
    conv => whnf
    refine ⟨⟨rfl, by show (i : Int).toNat * 1 + 1 ≤ 16; omega⟩, ?_⟩
    conv => whnf
    refine Ar.i64 (by omega) ?_
    conv => whnf
    refine ⟨i + 1, by omega, by omega, Wk.mk' [3, 2, 1] [0] (by repeat' (first | exact trivial | rfl | apply And.intro)) ⟨⟨trivial, hf (i + 1) (by omega) _, trivial⟩, ⟨trivial, hz16 _, trivial⟩, ⟨trivial, hk32 _, trivial⟩, trivial⟩ ⟨?_, rfl⟩⟩
    have es := fillL_set (l := k) (n := 16) (i := i) hi' (by omega) (Value.int .u8 (gd k i)) (by rw [gd_toNat hi']; rfl)
    have ei : (i : Int).toNat * 1 = i := by omega
    show [blk b3 (.cells ((fillL k 16 i).take ((i : Int).toNat * 1) ++ ([Value.int .u8 (gd k i)] ++ (fillL k 16 i).drop ((i : Int).toNat * 1 + 1)) ++ []).toArray _), _, _] = _
    rw [ei, es]; rfl
  have hi' : i = 16 := by omega
  subst hi'
  have et : fillL k 16 16 = u8s (k.take 16) := by simp [fillL]
  rw [et]
  have hk16 := many_ok (show (k.take 16).length = 16 by rw [List.length_take]; omega)
  conv => whnf
  exact Ret.mk' () [] [0] trivial rfl ⟨hk16 _, trivial⟩ (by repeat' (first | exact trivial | rfl | apply And.intro)) ⟨rfl, rfl⟩
theorem padK_succ (key : List UInt8) (c : UInt8) {i : Nat} (hi : i < 64) : (padK key c).take (i + 1) = (padK key c).take i ++ [key.getD i 0 ^^^ c] := by
  rw [take_succ8 (by rw [padK_len]; exact hi)]
  simp [padK]
structure MacS where
  i : Nat
  a5 : Option Addr
  c5 : Nat
  a6 : Option Addr
  c6 : Nat
theorem rmac_c (A R R' : HProp) (hE : Ent A R) (hE' : Ent A R') (a0 : Option Addr) (c0 : Nat) (key : List UInt8) (hkey : Bts R' a0 c0 key) (hkl : key.length ≤ 1073741824) (a : Option Addr) (cap : Nat) (b : List UInt8) (hb : Bts R a cap b) (hbl : b.length ≤ 1073741760) :
    Pu Tryd.prog 44 [.c (.rs a0 key.length c0), .c (.rs a b.length cap)] A (.agg [.many 32 (u8s (macD key b))]) := by
  have hz32 := z32_ok
  refine Con.of' tt_ok Tryd.func44 rfl (by decide) [.c (.rs a0 key.length c0), .c (.rs a b.length cap)] [] [] rfl rfl trivial (by repeat' (first | exact trivial | rfl | apply And.intro)) rfl ?_
  conv => whnf
  intro b4
  conv => whnf
  refine Cond.dec (fun h64 => ?_) (fun h64 => ?_)
  · conv => whnf
    refine CallOb.pu (rsum_c _ R' ((Ent.all (by first | (simp; done) | (simp [M.props]; done) | (simp [M.props]; first | (left; rfl) | (right; left; rfl) | (right; right; left; rfl) | (right; right; right; left; rfl) | (right; right; right; right; left; rfl)) | exact (.head _ : List.Mem _ _) | exact (.tail _ (.head _) : List.Mem _ _) | exact (.tail _ (.tail _ (.head _)) : List.Mem _ _) | exact (.tail _ (.tail _ (.tail _ (.head _))) : List.Mem _ _) | exact (.tail _ (.tail _ (.tail _ (.tail _ (.head _)))) : List.Mem _ _) | exact (.tail _ (.tail _ (.tail _ (.tail _ (.tail _ (.head _))))) : List.Mem _ _) | exact (.tail _ (.tail _ (.tail _ (.tail _ (.tail _ (.tail _ (.head _)))))) : List.Mem _ _) | exact (.tail _ (.tail _ (.tail _ (.tail _ (.tail _ (.tail _ (.tail _ (.head _))))))) : List.Mem _ _) | exact (.tail _ (.tail _ (.tail _ (.tail _ (.tail _ (.tail _ (.tail _ (.tail _ (.head _)))))))) : List.Mem _ _))).trans hE') a0 c0 key hkey hkl) rfl ?_
    conv => whnf
    refine CallOb.fb (rbytes_c _ (shaD key) (shaD_len _)) rfl fun a1 c1 hc1 => ?_
    have ek : macK key = shaD key := if_pos (by omega)
    have em : macD key b = shaD (padK (shaD key) 92 ++ shaD (padK (shaD key) 54 ++ b)) := by unfold macD; rw [ek]
    rw [em]
    have hkl2 := shaD_len key
    clear hkey hkl h64 ek em
    generalize shaD key = key at *
    conv => whnf
    refine LoopOb.mk' (σ := MacS) (fun s => [(0, .c (.rs a1 key.length c1)), (1, .c (.rs a b.length cap)), (4, .c (.ptr 4 0)), (5, .c (.rs s.a5 ((padK key 54).take s.i).length s.c5)), (6, .c (.rs s.a6 ((padK key 92).take s.i).length s.c6)), (7, .c (.int .i64 s.i))]) (fun s => ⟨[(4, b4)], [(4, [.many 32 z32], 23)], [Own s.a5 s.c5 5 1 (u8s ((padK key 54).take s.i)), Own s.a6 s.c6 5 1 (u8s ((padK key 92).take s.i)), Own a1 c1 5 1 (u8s key), A]⟩)
      (fun s => s.i ≤ 64 ∧ Fc s.a5 s.c5 ((padK key 54).take s.i) ∧ Fc s.a6 s.c6 ((padK key 92).take s.i)) (fun s => 64 - s.i) ⟨0, none, 0, none, 0⟩ ⟨Nat.zero_le _, Fc.nil, Fc.nil⟩ ?_ ?_
    · refine Wk.own0 5 1 (Wk.own0 5 1 ?_)
      exact Wk.mk' [4] [0, 0, 0, 0] (by repeat' (first | exact trivial | rfl | apply And.intro)) ⟨⟨trivial, hz32 _, trivial⟩, trivial⟩ ⟨rfl, rfl⟩
    rintro ⟨i, a5, c5, a6, c6⟩ ⟨hi, hc5, hc6⟩
    dsimp only at hi hc5 hc6 ⊢
    conv => whnf
    refine Cond.dec (fun h => ?_) (fun h => ?_)
    · have hi' : i < 64 := by omega
      conv => whnf
      refine Cond.dec (fun h2 => ?_) (fun h2 => ?_)
      · conv => whnf
        refine idx (A := Own a1 c1 5 1 (u8s key)) i (by simp) Own.rd (by omega) rfl fun p hp => ?_
        conv => whnf
        refine ldb (A := Own a1 c1 5 1 (u8s key)) (l := key) i (by simp) (by rw [← hp]; exact Own.rd) (by omega) rfl rfl (by show _ + (i : Int).toNat * 1 = _; omega) ?_
        conv => whnf
        intro b30
        conv => whnf
        refine appb (l := (padK key 54).take i) (m := [key.getD i 0 ^^^ 54]) (.refl _) (by exact Src.u8 _ (by rw [← xorb]; rfl) rfl) rfl rfl ⟨rfl, by decide, by decide⟩ (by simp; omega) 34 (.inr rfl) ?_
        intro a5' c5' hc5'
        rw [← padK_succ key 54 hi']
        conv => whnf
        intro b35
        conv => whnf
        refine appb (l := (padK key 92).take i) (m := [key.getD i 0 ^^^ 92]) (.swap _ _ _) (by exact Src.u8 _ (by rw [← xorb]; rfl) rfl) rfl rfl ⟨rfl, by decide, by decide⟩ (by simp; omega) 34 (.inr rfl) ?_
        intro a6' c6' hc6'
        rw [← padK_succ key 92 hi']
        conv => whnf
        refine Ar.i64 (by omega) ?_
        conv => whnf
        rw [← padK_succ key 54 hi'] at hc5'
        rw [← padK_succ key 92 hi'] at hc6'
        exact ⟨⟨i + 1, a5', c5', a6', c6'⟩, ⟨by dsimp only; omega, hc5', hc6'⟩, by dsimp only; omega, Wk.mk' [4] [1, 0, 0, 0] (by repeat' (first | exact trivial | rfl | apply And.intro)) ⟨⟨trivial, hz32 _, trivial⟩, trivial⟩ ⟨rfl, rfl⟩⟩
      · have hg0 : (0 : Int) = ((key.getD i 0).toNat : Int) := by rw [List.getD_eq_getElem?_getD, List.getElem?_eq_none (by omega)]; rfl
        conv => whnf
        intro b30
        conv => whnf
        refine appb (l := (padK key 54).take i) (m := [key.getD i 0 ^^^ 54]) (.refl _) (by exact Src.u8 _ (by rw [← xorb, ← hg0]; rfl) rfl) rfl rfl ⟨rfl, by decide, by decide⟩ (by simp; omega) 34 (.inr rfl) ?_
        intro a5' c5' hc5'
        rw [← padK_succ key 54 hi']
        conv => whnf
        intro b35
        conv => whnf
        refine appb (l := (padK key 92).take i) (m := [key.getD i 0 ^^^ 92]) (.swap _ _ _) (by exact Src.u8 _ (by rw [← xorb, ← hg0]; rfl) rfl) rfl rfl ⟨rfl, by decide, by decide⟩ (by simp; omega) 34 (.inr rfl) ?_
        intro a6' c6' hc6'
        rw [← padK_succ key 92 hi']
        conv => whnf
        refine Ar.i64 (by omega) ?_
        conv => whnf
        rw [← padK_succ key 54 hi'] at hc5'
        rw [← padK_succ key 92 hi'] at hc6'
        exact ⟨⟨i + 1, a5', c5', a6', c6'⟩, ⟨by dsimp only; omega, hc5', hc6'⟩, by dsimp only; omega, Wk.mk' [4] [1, 0, 0, 0] (by repeat' (first | exact trivial | rfl | apply And.intro)) ⟨⟨trivial, hz32 _, trivial⟩, trivial⟩ ⟨rfl, rfl⟩⟩
    have hi' : i = 64 := by omega
    subst hi'
    have hp5 := padK_len key 54
    have hp6 := padK_len key 92
    have e5 : (padK key 54).take 64 = padK key 54 := List.take_of_length_le (by omega)
    have e6 : (padK key 92).take 64 = padK key 92 := List.take_of_length_le (by omega)
    rw [e5] at hc5 ⊢
    rw [e6] at hc6 ⊢
    conv => whnf
    refine CallOb.fb (join_c _ (Own a5 c5 5 1 (u8s (padK key 54))) R (Ent.all (by first | (simp; done) | (simp [M.props]; done) | (simp [M.props]; first | (left; rfl) | (right; left; rfl) | (right; right; left; rfl) | (right; right; right; left; rfl) | (right; right; right; right; left; rfl)) | exact (.head _ : List.Mem _ _) | exact (.tail _ (.head _) : List.Mem _ _) | exact (.tail _ (.tail _ (.head _)) : List.Mem _ _) | exact (.tail _ (.tail _ (.tail _ (.head _))) : List.Mem _ _) | exact (.tail _ (.tail _ (.tail _ (.tail _ (.head _)))) : List.Mem _ _) | exact (.tail _ (.tail _ (.tail _ (.tail _ (.tail _ (.head _))))) : List.Mem _ _) | exact (.tail _ (.tail _ (.tail _ (.tail _ (.tail _ (.tail _ (.head _)))))) : List.Mem _ _) | exact (.tail _ (.tail _ (.tail _ (.tail _ (.tail _ (.tail _ (.tail _ (.head _))))))) : List.Mem _ _) | exact (.tail _ (.tail _ (.tail _ (.tail _ (.tail _ (.tail _ (.tail _ (.tail _ (.head _)))))))) : List.Mem _ _))) ((Ent.all (p := A) (by first | (simp; done) | (simp [M.props]; done) | (simp [M.props]; first | (left; rfl) | (right; left; rfl) | (right; right; left; rfl) | (right; right; right; left; rfl) | (right; right; right; right; left; rfl)) | exact (.head _ : List.Mem _ _) | exact (.tail _ (.head _) : List.Mem _ _) | exact (.tail _ (.tail _ (.head _)) : List.Mem _ _) | exact (.tail _ (.tail _ (.tail _ (.head _))) : List.Mem _ _) | exact (.tail _ (.tail _ (.tail _ (.tail _ (.head _)))) : List.Mem _ _) | exact (.tail _ (.tail _ (.tail _ (.tail _ (.tail _ (.head _))))) : List.Mem _ _) | exact (.tail _ (.tail _ (.tail _ (.tail _ (.tail _ (.tail _ (.head _)))))) : List.Mem _ _) | exact (.tail _ (.tail _ (.tail _ (.tail _ (.tail _ (.tail _ (.tail _ (.head _))))))) : List.Mem _ _) | exact (.tail _ (.tail _ (.tail _ (.tail _ (.tail _ (.tail _ (.tail _ (.tail _ (.head _)))))))) : List.Mem _ _))).trans hE) a5 c5 (padK key 54) Own.rd (by omega) a cap b hb.1 (by omega)) rfl fun a40 c40 hc40 => ?_
    conv => whnf
    refine CallOb.pu (rsum_c _ (Own a40 c40 5 1 (u8s (padK key 54 ++ b))) (Ent.all (by first | (simp; done) | (simp [M.props]; done) | (simp [M.props]; first | (left; rfl) | (right; left; rfl) | (right; right; left; rfl) | (right; right; right; left; rfl) | (right; right; right; right; left; rfl)) | exact (.head _ : List.Mem _ _) | exact (.tail _ (.head _) : List.Mem _ _) | exact (.tail _ (.tail _ (.head _)) : List.Mem _ _) | exact (.tail _ (.tail _ (.tail _ (.head _))) : List.Mem _ _) | exact (.tail _ (.tail _ (.tail _ (.tail _ (.head _)))) : List.Mem _ _) | exact (.tail _ (.tail _ (.tail _ (.tail _ (.tail _ (.head _))))) : List.Mem _ _) | exact (.tail _ (.tail _ (.tail _ (.tail _ (.tail _ (.tail _ (.head _)))))) : List.Mem _ _) | exact (.tail _ (.tail _ (.tail _ (.tail _ (.tail _ (.tail _ (.tail _ (.head _))))))) : List.Mem _ _) | exact (.tail _ (.tail _ (.tail _ (.tail _ (.tail _ (.tail _ (.tail _ (.tail _ (.head _)))))))) : List.Mem _ _))) a40 c40 (padK key 54 ++ b) ⟨Own.rd, hc40.1, hc40.2⟩ (by rw [List.length_append]; omega)) rfl ?_
    conv => whnf
    refine CallOb.fb (rbytes_c _ (shaD (padK key 54 ++ b)) (shaD_len _)) rfl fun a42 c42 hc42 => ?_
    have hdl := shaD_len (padK key 54 ++ b)
    generalize shaD (padK key 54 ++ b) = d at hdl hc42 ⊢
    conv => whnf
    refine CallOb.fb (join_c _ (Own a6 c6 5 1 (u8s (padK key 92))) (Own a42 c42 5 1 (u8s d)) (Ent.all (by first | (simp; done) | (simp [M.props]; done) | (simp [M.props]; first | (left; rfl) | (right; left; rfl) | (right; right; left; rfl) | (right; right; right; left; rfl) | (right; right; right; right; left; rfl)) | exact (.head _ : List.Mem _ _) | exact (.tail _ (.head _) : List.Mem _ _) | exact (.tail _ (.tail _ (.head _)) : List.Mem _ _) | exact (.tail _ (.tail _ (.tail _ (.head _))) : List.Mem _ _) | exact (.tail _ (.tail _ (.tail _ (.tail _ (.head _)))) : List.Mem _ _) | exact (.tail _ (.tail _ (.tail _ (.tail _ (.tail _ (.head _))))) : List.Mem _ _) | exact (.tail _ (.tail _ (.tail _ (.tail _ (.tail _ (.tail _ (.head _)))))) : List.Mem _ _) | exact (.tail _ (.tail _ (.tail _ (.tail _ (.tail _ (.tail _ (.tail _ (.head _))))))) : List.Mem _ _) | exact (.tail _ (.tail _ (.tail _ (.tail _ (.tail _ (.tail _ (.tail _ (.tail _ (.head _)))))))) : List.Mem _ _))) (Ent.all (by first | (simp; done) | (simp [M.props]; done) | (simp [M.props]; first | (left; rfl) | (right; left; rfl) | (right; right; left; rfl) | (right; right; right; left; rfl) | (right; right; right; right; left; rfl)) | exact (.head _ : List.Mem _ _) | exact (.tail _ (.head _) : List.Mem _ _) | exact (.tail _ (.tail _ (.head _)) : List.Mem _ _) | exact (.tail _ (.tail _ (.tail _ (.head _))) : List.Mem _ _) | exact (.tail _ (.tail _ (.tail _ (.tail _ (.head _)))) : List.Mem _ _) | exact (.tail _ (.tail _ (.tail _ (.tail _ (.tail _ (.head _))))) : List.Mem _ _) | exact (.tail _ (.tail _ (.tail _ (.tail _ (.tail _ (.tail _ (.head _)))))) : List.Mem _ _) | exact (.tail _ (.tail _ (.tail _ (.tail _ (.tail _ (.tail _ (.tail _ (.head _))))))) : List.Mem _ _) | exact (.tail _ (.tail _ (.tail _ (.tail _ (.tail _ (.tail _ (.tail _ (.tail _ (.head _)))))))) : List.Mem _ _))) a6 c6 (padK key 92) Own.rd (by omega) a42 c42 d Own.rd (by omega)) rfl fun a43 c43 hc43 => ?_
    conv => whnf
    refine CallOb.pu (rsum_c _ (Own a43 c43 5 1 (u8s (padK key 92 ++ d))) (Ent.all (by first | (simp; done) | (simp [M.props]; done) | (simp [M.props]; first | (left; rfl) | (right; left; rfl) | (right; right; left; rfl) | (right; right; right; left; rfl) | (right; right; right; right; left; rfl)) | exact (.head _ : List.Mem _ _) | exact (.tail _ (.head _) : List.Mem _ _) | exact (.tail _ (.tail _ (.head _)) : List.Mem _ _) | exact (.tail _ (.tail _ (.tail _ (.head _))) : List.Mem _ _) | exact (.tail _ (.tail _ (.tail _ (.tail _ (.head _)))) : List.Mem _ _) | exact (.tail _ (.tail _ (.tail _ (.tail _ (.tail _ (.head _))))) : List.Mem _ _) | exact (.tail _ (.tail _ (.tail _ (.tail _ (.tail _ (.tail _ (.head _)))))) : List.Mem _ _) | exact (.tail _ (.tail _ (.tail _ (.tail _ (.tail _ (.tail _ (.tail _ (.head _))))))) : List.Mem _ _) | exact (.tail _ (.tail _ (.tail _ (.tail _ (.tail _ (.tail _ (.tail _ (.tail _ (.head _)))))))) : List.Mem _ _))) a43 c43 (padK key 92 ++ d) ⟨Own.rd, hc43.1, hc43.2⟩ (by rw [List.length_append]; omega)) rfl ?_
    conv => whnf
    exact Ret.mk' () [] [6] trivial rfl ⟨many_ok (shaD_len _) _, trivial⟩ (by repeat' (first | exact trivial | rfl | apply And.intro)) ⟨rfl, rfl⟩
  · have ek : macK key = key := if_neg (by omega)
    have em : macD key b = shaD (padK key 92 ++ shaD (padK key 54 ++ b)) := by unfold macD; rw [ek]
    rw [em]
    conv => whnf
    refine LoopOb.mk' (σ := MacS) (fun s => [(0, .c (.rs a0 key.length c0)), (1, .c (.rs a b.length cap)), (4, .c (.ptr 4 0)), (5, .c (.rs s.a5 ((padK key 54).take s.i).length s.c5)), (6, .c (.rs s.a6 ((padK key 92).take s.i).length s.c6)), (7, .c (.int .i64 s.i))]) (fun s => ⟨[(4, b4)], [(4, [.many 32 z32], 23)], [Own s.a5 s.c5 5 1 (u8s ((padK key 54).take s.i)), Own s.a6 s.c6 5 1 (u8s ((padK key 92).take s.i)), A]⟩)
      (fun s => s.i ≤ 64 ∧ Fc s.a5 s.c5 ((padK key 54).take s.i) ∧ Fc s.a6 s.c6 ((padK key 92).take s.i)) (fun s => 64 - s.i) ⟨0, none, 0, none, 0⟩ ⟨Nat.zero_le _, Fc.nil, Fc.nil⟩ ?_ ?_
    · refine Wk.own0 5 1 (Wk.own0 5 1 ?_)
      exact Wk.mk' [4] [0, 0, 0] (by repeat' (first | exact trivial | rfl | apply And.intro)) ⟨⟨trivial, hz32 _, trivial⟩, trivial⟩ ⟨rfl, rfl⟩
    rintro ⟨i, a5, c5, a6, c6⟩ ⟨hi, hc5, hc6⟩
    dsimp only at hi hc5 hc6 ⊢
    conv => whnf
    refine Cond.dec (fun h => ?_) (fun h => ?_)
    · have hi' : i < 64 := by omega
      conv => whnf
      refine Cond.dec (fun h2 => ?_) (fun h2 => ?_)
      · conv => whnf
        refine idx (A := A) i (by simp) (hkey.1.ent hE') (by omega) rfl fun p hp => ?_
        conv => whnf
        refine ldb (A := A) (l := key) i (by simp) (by rw [← hp]; exact (hkey.1.ent hE')) (by omega) rfl rfl (by show _ + (i : Int).toNat * 1 = _; omega) ?_
        conv => whnf
        intro b30
        conv => whnf
        refine appb (l := (padK key 54).take i) (m := [key.getD i 0 ^^^ 54]) (.refl _) (by exact Src.u8 _ (by rw [← xorb]; rfl) rfl) rfl rfl ⟨rfl, by decide, by decide⟩ (by simp; omega) 34 (.inr rfl) ?_
        intro a5' c5' hc5'
        rw [← padK_succ key 54 hi']
        conv => whnf
        intro b35
        conv => whnf
        refine appb (l := (padK key 92).take i) (m := [key.getD i 0 ^^^ 92]) (.swap _ _ _) (by exact Src.u8 _ (by rw [← xorb]; rfl) rfl) rfl rfl ⟨rfl, by decide, by decide⟩ (by simp; omega) 34 (.inr rfl) ?_
        intro a6' c6' hc6'
        rw [← padK_succ key 92 hi']
        conv => whnf
        refine Ar.i64 (by omega) ?_
        conv => whnf
        rw [← padK_succ key 54 hi'] at hc5'
        rw [← padK_succ key 92 hi'] at hc6'
        exact ⟨⟨i + 1, a5', c5', a6', c6'⟩, ⟨by dsimp only; omega, hc5', hc6'⟩, by dsimp only; omega, Wk.mk' [4] [1, 0, 0] (by repeat' (first | exact trivial | rfl | apply And.intro)) ⟨⟨trivial, hz32 _, trivial⟩, trivial⟩ ⟨rfl, rfl⟩⟩
      · have hg0 : (0 : Int) = ((key.getD i 0).toNat : Int) := by rw [List.getD_eq_getElem?_getD, List.getElem?_eq_none (by omega)]; rfl
        conv => whnf
        intro b30
        conv => whnf
        refine appb (l := (padK key 54).take i) (m := [key.getD i 0 ^^^ 54]) (.refl _) (by exact Src.u8 _ (by rw [← xorb, ← hg0]; rfl) rfl) rfl rfl ⟨rfl, by decide, by decide⟩ (by simp; omega) 34 (.inr rfl) ?_
        intro a5' c5' hc5'
        rw [← padK_succ key 54 hi']
        conv => whnf
        intro b35
        conv => whnf
        refine appb (l := (padK key 92).take i) (m := [key.getD i 0 ^^^ 92]) (.swap _ _ _) (by exact Src.u8 _ (by rw [← xorb, ← hg0]; rfl) rfl) rfl rfl ⟨rfl, by decide, by decide⟩ (by simp; omega) 34 (.inr rfl) ?_
        intro a6' c6' hc6'
        rw [← padK_succ key 92 hi']
        conv => whnf
        refine Ar.i64 (by omega) ?_
        conv => whnf
        rw [← padK_succ key 54 hi'] at hc5'
        rw [← padK_succ key 92 hi'] at hc6'
        exact ⟨⟨i + 1, a5', c5', a6', c6'⟩, ⟨by dsimp only; omega, hc5', hc6'⟩, by dsimp only; omega, Wk.mk' [4] [1, 0, 0] (by repeat' (first | exact trivial | rfl | apply And.intro)) ⟨⟨trivial, hz32 _, trivial⟩, trivial⟩ ⟨rfl, rfl⟩⟩
    have hi' : i = 64 := by omega
    subst hi'
    have hp5 := padK_len key 54
    have hp6 := padK_len key 92
    have e5 : (padK key 54).take 64 = padK key 54 := List.take_of_length_le (by omega)
    have e6 : (padK key 92).take 64 = padK key 92 := List.take_of_length_le (by omega)
    rw [e5] at hc5 ⊢
    rw [e6] at hc6 ⊢
    conv => whnf
    refine CallOb.fb (join_c _ (Own a5 c5 5 1 (u8s (padK key 54))) R (Ent.all (by first | (simp; done) | (simp [M.props]; done) | (simp [M.props]; first | (left; rfl) | (right; left; rfl) | (right; right; left; rfl) | (right; right; right; left; rfl) | (right; right; right; right; left; rfl)) | exact (.head _ : List.Mem _ _) | exact (.tail _ (.head _) : List.Mem _ _) | exact (.tail _ (.tail _ (.head _)) : List.Mem _ _) | exact (.tail _ (.tail _ (.tail _ (.head _))) : List.Mem _ _) | exact (.tail _ (.tail _ (.tail _ (.tail _ (.head _)))) : List.Mem _ _) | exact (.tail _ (.tail _ (.tail _ (.tail _ (.tail _ (.head _))))) : List.Mem _ _) | exact (.tail _ (.tail _ (.tail _ (.tail _ (.tail _ (.tail _ (.head _)))))) : List.Mem _ _) | exact (.tail _ (.tail _ (.tail _ (.tail _ (.tail _ (.tail _ (.tail _ (.head _))))))) : List.Mem _ _) | exact (.tail _ (.tail _ (.tail _ (.tail _ (.tail _ (.tail _ (.tail _ (.tail _ (.head _)))))))) : List.Mem _ _))) ((Ent.all (p := A) (by first | (simp; done) | (simp [M.props]; done) | (simp [M.props]; first | (left; rfl) | (right; left; rfl) | (right; right; left; rfl) | (right; right; right; left; rfl) | (right; right; right; right; left; rfl)) | exact (.head _ : List.Mem _ _) | exact (.tail _ (.head _) : List.Mem _ _) | exact (.tail _ (.tail _ (.head _)) : List.Mem _ _) | exact (.tail _ (.tail _ (.tail _ (.head _))) : List.Mem _ _) | exact (.tail _ (.tail _ (.tail _ (.tail _ (.head _)))) : List.Mem _ _) | exact (.tail _ (.tail _ (.tail _ (.tail _ (.tail _ (.head _))))) : List.Mem _ _) | exact (.tail _ (.tail _ (.tail _ (.tail _ (.tail _ (.tail _ (.head _)))))) : List.Mem _ _) | exact (.tail _ (.tail _ (.tail _ (.tail _ (.tail _ (.tail _ (.tail _ (.head _))))))) : List.Mem _ _) | exact (.tail _ (.tail _ (.tail _ (.tail _ (.tail _ (.tail _ (.tail _ (.tail _ (.head _)))))))) : List.Mem _ _))).trans hE) a5 c5 (padK key 54) Own.rd (by omega) a cap b hb.1 (by omega)) rfl fun a40 c40 hc40 => ?_
    conv => whnf
    refine CallOb.pu (rsum_c _ (Own a40 c40 5 1 (u8s (padK key 54 ++ b))) (Ent.all (by first | (simp; done) | (simp [M.props]; done) | (simp [M.props]; first | (left; rfl) | (right; left; rfl) | (right; right; left; rfl) | (right; right; right; left; rfl) | (right; right; right; right; left; rfl)) | exact (.head _ : List.Mem _ _) | exact (.tail _ (.head _) : List.Mem _ _) | exact (.tail _ (.tail _ (.head _)) : List.Mem _ _) | exact (.tail _ (.tail _ (.tail _ (.head _))) : List.Mem _ _) | exact (.tail _ (.tail _ (.tail _ (.tail _ (.head _)))) : List.Mem _ _) | exact (.tail _ (.tail _ (.tail _ (.tail _ (.tail _ (.head _))))) : List.Mem _ _) | exact (.tail _ (.tail _ (.tail _ (.tail _ (.tail _ (.tail _ (.head _)))))) : List.Mem _ _) | exact (.tail _ (.tail _ (.tail _ (.tail _ (.tail _ (.tail _ (.tail _ (.head _))))))) : List.Mem _ _) | exact (.tail _ (.tail _ (.tail _ (.tail _ (.tail _ (.tail _ (.tail _ (.tail _ (.head _)))))))) : List.Mem _ _))) a40 c40 (padK key 54 ++ b) ⟨Own.rd, hc40.1, hc40.2⟩ (by rw [List.length_append]; omega)) rfl ?_
    conv => whnf
    refine CallOb.fb (rbytes_c _ (shaD (padK key 54 ++ b)) (shaD_len _)) rfl fun a42 c42 hc42 => ?_
    have hdl := shaD_len (padK key 54 ++ b)
    generalize shaD (padK key 54 ++ b) = d at hdl hc42 ⊢
    conv => whnf
    refine CallOb.fb (join_c _ (Own a6 c6 5 1 (u8s (padK key 92))) (Own a42 c42 5 1 (u8s d)) (Ent.all (by first | (simp; done) | (simp [M.props]; done) | (simp [M.props]; first | (left; rfl) | (right; left; rfl) | (right; right; left; rfl) | (right; right; right; left; rfl) | (right; right; right; right; left; rfl)) | exact (.head _ : List.Mem _ _) | exact (.tail _ (.head _) : List.Mem _ _) | exact (.tail _ (.tail _ (.head _)) : List.Mem _ _) | exact (.tail _ (.tail _ (.tail _ (.head _))) : List.Mem _ _) | exact (.tail _ (.tail _ (.tail _ (.tail _ (.head _)))) : List.Mem _ _) | exact (.tail _ (.tail _ (.tail _ (.tail _ (.tail _ (.head _))))) : List.Mem _ _) | exact (.tail _ (.tail _ (.tail _ (.tail _ (.tail _ (.tail _ (.head _)))))) : List.Mem _ _) | exact (.tail _ (.tail _ (.tail _ (.tail _ (.tail _ (.tail _ (.tail _ (.head _))))))) : List.Mem _ _) | exact (.tail _ (.tail _ (.tail _ (.tail _ (.tail _ (.tail _ (.tail _ (.tail _ (.head _)))))))) : List.Mem _ _))) (Ent.all (by first | (simp; done) | (simp [M.props]; done) | (simp [M.props]; first | (left; rfl) | (right; left; rfl) | (right; right; left; rfl) | (right; right; right; left; rfl) | (right; right; right; right; left; rfl)) | exact (.head _ : List.Mem _ _) | exact (.tail _ (.head _) : List.Mem _ _) | exact (.tail _ (.tail _ (.head _)) : List.Mem _ _) | exact (.tail _ (.tail _ (.tail _ (.head _))) : List.Mem _ _) | exact (.tail _ (.tail _ (.tail _ (.tail _ (.head _)))) : List.Mem _ _) | exact (.tail _ (.tail _ (.tail _ (.tail _ (.tail _ (.head _))))) : List.Mem _ _) | exact (.tail _ (.tail _ (.tail _ (.tail _ (.tail _ (.tail _ (.head _)))))) : List.Mem _ _) | exact (.tail _ (.tail _ (.tail _ (.tail _ (.tail _ (.tail _ (.tail _ (.head _))))))) : List.Mem _ _) | exact (.tail _ (.tail _ (.tail _ (.tail _ (.tail _ (.tail _ (.tail _ (.tail _ (.head _)))))))) : List.Mem _ _))) a6 c6 (padK key 92) Own.rd (by omega) a42 c42 d Own.rd (by omega)) rfl fun a43 c43 hc43 => ?_
    conv => whnf
    refine CallOb.pu (rsum_c _ (Own a43 c43 5 1 (u8s (padK key 92 ++ d))) (Ent.all (by first | (simp; done) | (simp [M.props]; done) | (simp [M.props]; first | (left; rfl) | (right; left; rfl) | (right; right; left; rfl) | (right; right; right; left; rfl) | (right; right; right; right; left; rfl)) | exact (.head _ : List.Mem _ _) | exact (.tail _ (.head _) : List.Mem _ _) | exact (.tail _ (.tail _ (.head _)) : List.Mem _ _) | exact (.tail _ (.tail _ (.tail _ (.head _))) : List.Mem _ _) | exact (.tail _ (.tail _ (.tail _ (.tail _ (.head _)))) : List.Mem _ _) | exact (.tail _ (.tail _ (.tail _ (.tail _ (.tail _ (.head _))))) : List.Mem _ _) | exact (.tail _ (.tail _ (.tail _ (.tail _ (.tail _ (.tail _ (.head _)))))) : List.Mem _ _) | exact (.tail _ (.tail _ (.tail _ (.tail _ (.tail _ (.tail _ (.tail _ (.head _))))))) : List.Mem _ _) | exact (.tail _ (.tail _ (.tail _ (.tail _ (.tail _ (.tail _ (.tail _ (.tail _ (.head _)))))))) : List.Mem _ _))) a43 c43 (padK key 92 ++ d) ⟨Own.rd, hc43.1, hc43.2⟩ (by rw [List.length_append]; omega)) rfl ?_
    conv => whnf
    exact Ret.mk' () [] [5] trivial rfl ⟨many_ok (shaD_len _) _, trivial⟩ (by repeat' (first | exact trivial | rfl | apply And.intro)) ⟨rfl, rfl⟩
end Go.Proofs.YtiimeklgjoclpaaDoor
