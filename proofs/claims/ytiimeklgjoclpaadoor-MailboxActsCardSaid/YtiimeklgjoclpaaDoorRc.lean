/- The document's hash: the sum. -/
import Derived.Test.YtiimeklgjoclpaaDoorRb
namespace Go.Proofs.YtiimeklgjoclpaaDoor
open Go.Sx
set_option maxRecDepth 100000
set_option pp.deepTerms false
set_option pp.maxSteps 300
set_option linter.unusedSimpArgs false
set_option linter.unusedVariables false

theorem slice_eq {a a' : Option Addr} {n n' c c' : Nat} (h1 : a = a') (h2 : n = n') (h3 : c = c') : Value.slice a n c = Value.slice a' n' c' := by subst h1 h2 h3; rfl
theorem sumB_get (w : List UInt32) (i : Nat) (h : i < 4 * w.length) : (sumB w)[i]? = some (wg w (i / 4) >>> UInt32.ofNat (24 - 8 * (i % 4))).toUInt8 := by
  obtain ⟨h0, h1, h2, h3⟩ := sumB_at w (i / 4) (by omega)
  have hr : i % 4 < 4 := Nat.mod_lt _ (by decide)
  have hi : i = 4 * (i / 4) + i % 4 := by omega
  generalize i / 4 = k at *
  generalize i % 4 = r at *
  subst hi
  match r, hr with
  | 0, _ => exact h0
  | 1, _ => exact h1
  | 2, _ => exact h2
  | 3, _ => rw [h3]; simp
theorem rsum_c (A R : HProp) (hE : Ent A R) (a : Option Addr) (cap : Nat) (b : List UInt8) (hb : Bts R a cap b) (hn : b.length ≤ 1073741824) :
    Pu Tryd.prog 60 [.c (.rs a b.length cap)] A (.agg [.many 32 (u8s (shaD b))]) := by
  have hz32 := z32_ok
  refine Con.of' tt_ok Tryd.func60 rfl (by decide) [.c (.rs a b.length cap)] [] [] rfl rfl trivial (by repeat' (first | exact trivial | rfl | apply And.intro)) rfl ?_
  conv => whnf
  intro b2
  conv => whnf
  refine CallOb.fb (padded_c _ R ((Ent.all (by first | (simp; done) | (simp [M.props]; done) | (simp [M.props]; first | (left; rfl) | (right; left; rfl) | (right; right; left; rfl) | (right; right; right; left; rfl) | (right; right; right; right; left; rfl)) | exact (.head _ : List.Mem _ _) | exact (.tail _ (.head _) : List.Mem _ _) | exact (.tail _ (.tail _ (.head _)) : List.Mem _ _) | exact (.tail _ (.tail _ (.tail _ (.head _))) : List.Mem _ _) | exact (.tail _ (.tail _ (.tail _ (.tail _ (.head _)))) : List.Mem _ _) | exact (.tail _ (.tail _ (.tail _ (.tail _ (.tail _ (.head _))))) : List.Mem _ _) | exact (.tail _ (.tail _ (.tail _ (.tail _ (.tail _ (.tail _ (.head _)))))) : List.Mem _ _) | exact (.tail _ (.tail _ (.tail _ (.tail _ (.tail _ (.tail _ (.tail _ (.head _))))))) : List.Mem _ _) | exact (.tail _ (.tail _ (.tail _ (.tail _ (.tail _ (.tail _ (.tail _ (.tail _ (.head _)))))))) : List.Mem _ _))).trans hE) a cap b hb hn) rfl fun ap cp hcp => ?_
  conv => whnf
  refine CallOb.fw (first_c _) rfl fun a0 c0 hc0 => ?_
  have hpl := padB_len b.length
  rw [← List.length_append] at hpl
  have hpn : (b ++ padB b.length).length ≤ 1073741824 + 128 := by rw [List.length_append]; simp [padB, be8_len, zer]; omega
  have hD : shaD b = sumB (comp h0W ((b ++ padB b.length).length / 64) (b ++ padB b.length)) := rfl
  have hDl := shaD_len b
  rw [hD] at hDl ⊢
  generalize b ++ padB b.length = m at hcp hpl hpn hDl ⊢
  conv => whnf
  refine LoopOb.mk' (σ := Nat × Option Addr × Nat) (fun s => [(2, .c (.ptr 2 0)), (3, .c (.rs ap m.length cp)), (4, .c (.rs s.2.1 (comp h0W s.1 m).length s.2.2)), (5, .c (.int .i64 ((64 * s.1 : Nat) : Int)))])
    (fun s => ⟨[(2, b2)], [(2, [.many 32 z32], 23)], [RowW s.2.1 s.2.2 (comp h0W s.1 m), Own ap cp 5 1 (u8s m), A]⟩) (fun s => 64 * s.1 ≤ m.length ∧ Fc s.2.1 s.2.2 (comp h0W s.1 m)) (fun s => m.length - 64 * s.1) (0, a0, c0) ⟨Nat.zero_le _, hc0⟩
    (Wk.mk' [2] [0, 0, 0] (by repeat' (first | exact trivial | rfl | apply And.intro)) ⟨⟨trivial, hz32 _, trivial⟩, trivial⟩ ⟨rfl, rfl⟩) ?_
  rintro ⟨j, ah, ch⟩ ⟨hj, hch⟩
  dsimp only at hj hch ⊢
  have hcl := comp_len (s := h0W) rfl j m
  conv => whnf
  refine Cond.dec (fun h => ?_) (fun h => ?_)
  · have hbm : Bts (Own ap cp 5 1 (u8s m)) ap cp m := ⟨Own.rd, hcp.1, hcp.2⟩
    have hcm := hcp.1
    conv => whnf
    refine Ar.i64 (by omega) ?_
    conv => whnf
    refine ⟨by omega, ?_⟩
    refine ⟨by omega, ?_⟩
    conv => whnf
    have hsl : ((m.drop (64 * j)).take 64).length = 64 := by rw [List.length_take, List.length_drop]; omega
    refine CallOb.fw (rblock_c _ (Own ap cp 5 1 (u8s m)) (RowW ah ch (comp h0W j m)) (Ent.all (by first | (simp; done) | (simp [M.props]; done) | (simp [M.props]; first | (left; rfl) | (right; left; rfl) | (right; right; left; rfl) | (right; right; right; left; rfl) | (right; right; right; right; left; rfl)) | exact (.head _ : List.Mem _ _) | exact (.tail _ (.head _) : List.Mem _ _) | exact (.tail _ (.tail _ (.head _)) : List.Mem _ _) | exact (.tail _ (.tail _ (.tail _ (.head _))) : List.Mem _ _) | exact (.tail _ (.tail _ (.tail _ (.tail _ (.head _)))) : List.Mem _ _) | exact (.tail _ (.tail _ (.tail _ (.tail _ (.tail _ (.head _))))) : List.Mem _ _) | exact (.tail _ (.tail _ (.tail _ (.tail _ (.tail _ (.tail _ (.head _)))))) : List.Mem _ _) | exact (.tail _ (.tail _ (.tail _ (.tail _ (.tail _ (.tail _ (.tail _ (.head _))))))) : List.Mem _ _) | exact (.tail _ (.tail _ (.tail _ (.tail _ (.tail _ (.tail _ (.tail _ (.tail _ (.head _)))))))) : List.Mem _ _))) (Ent.all (by first | (simp; done) | (simp [M.props]; done) | (simp [M.props]; first | (left; rfl) | (right; left; rfl) | (right; right; left; rfl) | (right; right; right; left; rfl) | (right; right; right; right; left; rfl)) | exact (.head _ : List.Mem _ _) | exact (.tail _ (.head _) : List.Mem _ _) | exact (.tail _ (.tail _ (.head _)) : List.Mem _ _) | exact (.tail _ (.tail _ (.tail _ (.head _))) : List.Mem _ _) | exact (.tail _ (.tail _ (.tail _ (.tail _ (.head _)))) : List.Mem _ _) | exact (.tail _ (.tail _ (.tail _ (.tail _ (.tail _ (.head _))))) : List.Mem _ _) | exact (.tail _ (.tail _ (.tail _ (.tail _ (.tail _ (.tail _ (.head _)))))) : List.Mem _ _) | exact (.tail _ (.tail _ (.tail _ (.tail _ (.tail _ (.tail _ (.tail _ (.head _))))))) : List.Mem _ _) | exact (.tail _ (.tail _ (.tail _ (.tail _ (.tail _ (.tail _ (.tail _ (.tail _ (.head _)))))))) : List.Mem _ _))) ah ch (comp h0W j m) Own.rd hcl (cutA ap cp (64 * j) 1) (cp - 64 * j) ((m.drop (64 * j)).take 64) (hbm.sub (64 * j) 64 (by omega)) hsl) ?_ fun a1 c1 hc1 => ?_
    · exact List.cons_eq_cons.2 ⟨rfl, List.cons_eq_cons.2 ⟨slice_eq (by rfl) (by rw [hsl]; omega) rfl, rfl⟩⟩
    conv => whnf
    refine Ar.to ((64 * (j + 1) : Nat) : Int) (by omega) (Ar.i64 (by omega) ?_)
    conv => whnf
    rw [← comp_snoc] at hc1 ⊢
    exact ⟨(j + 1, a1, c1), ⟨by dsimp only; omega, hc1⟩, by dsimp only; omega, Wk.mk' [2] [0, 1, 1] (by repeat' (first | exact trivial | rfl | apply And.intro)) ⟨⟨trivial, hz32 _, trivial⟩, trivial⟩ ⟨rfl, rfl⟩⟩
  have hj' : m.length / 64 = j := by omega
  rw [hj'] at hDl ⊢
  generalize comp h0W j m = st at hcl hch hDl ⊢
  conv => whnf
  intro b6
  conv => whnf
  have hf := fun i (hi : i ≤ 32) => fillL_ok (l := sumB st) (n := 32) (i := i) (by omega) hi
  refine LoopOb.mk' (σ := Nat) (fun i => [(2, .c (.ptr 2 0)), (4, .c (.rs ah st.length ch)), (6, .c (.ptr 6 0)), (7, .c (.int .i64 i))])
    (fun i => ⟨[(6, b6), (2, b2)], [(6, [.many 32 (fillL (sumB st) 32 i)], 23), (2, [.many 32 z32], 23)], [RowW ah ch st, A]⟩) (fun i => i ≤ 32) (fun i => 32 - i) 0 (Nat.zero_le _) ?_ ?_
  · rw [fillL_zero]
    exact Wk.mk' [6, 2] [0, 1] (by repeat' (first | exact trivial | rfl | apply And.intro)) ⟨⟨trivial, hz32 _, trivial⟩, ⟨trivial, hz32 _, trivial⟩, trivial⟩ ⟨rfl, rfl⟩
  intro i hi
  conv => whnf
  refine Cond.dec (fun h1 => ?_) (fun h1 => ?_)
  · have hi' : i < 32 := by omega
    have hr : Rd (RowW ah ch st) ah (w32s st) := Own.rd
    conv => whnf
    refine ⟨by decide, ?_⟩
    refine Ar.to ((i / 4 : Nat) : Int) rfl (Ar.i64 (by omega) ?_)
    conv => whnf
    refine idxw (A := RowW ah ch st) (i / 4) (by simp) hr (by omega) rfl fun p hp => ?_
    conv => whnf
    refine ldw (A := RowW ah ch st) (l := st) (i / 4) (by simp) (by rw [← hp]; exact hr) (by omega) rfl rfl (by show _ + ((i / 4 : Nat) : Int).toNat * 1 = _; omega) ?_
    conv => whnf
    refine ⟨by decide, ?_⟩
    refine Ar.to ((8 * (i % 4) : Nat) : Int) rfl (Ar.i64 (by omega) ?_)
    conv => whnf
    refine Ar.to ((24 - 8 * (i % 4) : Nat) : Int) (by omega) (Ar.i64 (by omega) ?_)
    conv => whnf
    refine Ar.u64 (by omega) ?_
    conv => whnf
    refine ⟨by omega, ?_⟩
    have e2 : min ((24 - 8 * (i % 4) : Nat) : Int).toNat IntKind.u32.bits = 24 - 8 * (i % 4) := by simp only [IntKind.bits]; omega
    rw [e2]
    refine Ar.wbyte (Wd.shr (.base (wg st (i / 4))) (24 - 8 * (i % 4)) (by omega)) ?_
    conv => whnf
    refine ⟨by omega, ?_⟩
    conv => whnf
    refine ⟨⟨rfl, by show (i : Int).toNat * 1 + 1 ≤ 32; omega⟩, ?_⟩
    conv => whnf
    refine Ar.i64 (by omega) ?_
    conv => whnf
    refine ⟨i + 1, by omega, by omega, Wk.mk' [6, 2] [0, 0] (by repeat' (first | exact trivial | rfl | apply And.intro)) ⟨⟨trivial, hf (i + 1) (by omega) _, trivial⟩, ⟨trivial, hz32 _, trivial⟩, trivial⟩ ⟨?_, rfl⟩⟩
    have hget := sumB_get st i (by omega)
    rw [List.getElem?_eq_getElem (by omega)] at hget
    have es := fillL_set (l := sumB st) (n := 32) (i := i) (by omega) hi' (u8 ((wg st (i / 4) >>> UInt32.ofNat (24 - 8 * (i % 4))).toUInt8)) (by rw [Option.some.inj hget])
    have ei : (i : Int).toNat * 1 = i := by omega
    show [blk b6 (.cells ((fillL (sumB st) 32 i).take ((i : Int).toNat * 1) ++ ([u8 ((wg st (i / 4) >>> UInt32.ofNat (24 - 8 * (i % 4))).toUInt8)] ++ (fillL (sumB st) 32 i).drop ((i : Int).toNat * 1 + 1)) ++ []).toArray _), _] = _
    rw [ei, es]; rfl
  have hi' : i = 32 := by omega
  subst hi'
  rw [fillL_all hDl]
  conv => whnf
  exact Ret.mk' () [] [1] trivial rfl ⟨many_ok hDl _, trivial⟩ (by repeat' (first | exact trivial | rfl | apply And.intro)) ⟨rfl, rfl⟩
end Go.Proofs.YtiimeklgjoclpaaDoor
